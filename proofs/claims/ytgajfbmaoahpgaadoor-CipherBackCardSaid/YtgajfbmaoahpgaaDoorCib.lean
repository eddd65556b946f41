/- The walk of CipherBack. Condition: the table k reads as the standard's numbers. -/
import Derived.Test.YtgajfbmaoahpgaaDoorCia
namespace Go.Proofs.YtgajfbmaoahpgaaDoor
open Go.RowKit
set_option linter.unusedVariables false
set_option linter.unusedSimpArgs false

theorem conv_32 (W : World) (g : Nat) (ch : List UInt8) (T : TypeId) (hl : ch.length = 32) (h : W.heap[g]? = some (.cells (byc ch).toArray T (0, 0))) :
    (convert 31 9 (.slice (some ⟨g, 0, none⟩) 32 32)).run Tryd.prog W = .ok (str ch) W := by
  rw [← hl]
  refine run_convert_bytes_back (P := Tryd.prog) W 31 9 5 ⟨g, 0, none⟩ ch.length ch Tryd.underlying31 Tryd.underlying5 Tryd.underlying9 (fun j hj => ?_)
  rw [Addr.add_lit, Nat.zero_add, cell_of_row W g j _ _ (0, 0) h]
  simp [byc, hj]

/-- What stays of the call's own memory: the box of the change. -/
structure Bk (w W : World) (ch : List UInt8) : Prop where
  c : (convert 31 9 (.slice (some ⟨w.heap.size, 0, none⟩) 32 32)).run Tryd.prog W = .ok (str ch) W
  r : W.heap[w.heap.size]? = some (.cells (byc ch).toArray 29 (0, 0))
  b : Below w.heap.size w W
theorem Bk.bel {w W W' : World} {ch : List UInt8} (T : Bk w W ch) (hl : ch.length = 32) (h : Below W.heap.size W W') : Bk w W' ch :=
  have hr := (h.block _ (Array.getElem?_eq_some_iff.1 T.r).1).trans T.r
  ⟨conv_32 W' _ ch _ hl hr, hr, below_acc T.b h⟩
theorem Bk.draw {w W : World} {ch : List UInt8} (T : Bk w W ch) (hl : ch.length = 32) : Bk w W.drew ch := ⟨conv_32 _ _ ch _ hl T.r, T.r, T.b.drew⟩

set_option maxRecDepth 100000 in
set_option maxHeartbeats 8000000 in
theorem CipherBack_walk (key nonce s ch : List UInt8) (n : Nat) (hn : n ≤ 255) (hch : ch.length = 32) (w : World) (hK : KT w) (h1 : key.length ≤ 9223372036854775807) (h2 : nonce.length ≤ 9223372036854775807) (h3 : s.length ≤ 9223372036854775807) :
    Calls Tryd.prog 5 #[str key, str nonce, str s, .agg (byc ch).toArray, .int .u8 (n : Int)] w fun e w' => e = .returned (.bool true) ∧ Below w.heap.size w w' := by
  have CL : Hid (∀ W, Calls Tryd.prog 7 #[str key, str nonce, str s] W fun e w' => e = .returned (.bool (lgB key nonce s)) ∧ W = w') := fun W => long_any key nonce s W h1 h2 h3
  have HK := Lib.hid hK
  have HC := Lib.hid hch
  have B0 : Hid (Bk w (w.alloc (.cells (byc ch).toArray 29 (0, 0))) ch) := ⟨conv_32 _ _ ch _ hch (heap_alloc_new w _), heap_alloc_new w _, (Below.refl _ _).alloc (Nat.le_refl _) _⟩
  have hbs : (byc ch).length = 32 := by rw [byc_len, hch]
  generalize (byc ch).toArray = arr at B0 ⊢
  clear hK hch hbs
  cases hlg : lgB key nonce s
  · rw [hlg] at CL
    obtain ⟨l1, l2, l3⟩ := lgB_false hlg
    clear hlg
    by_cases h12 : nonce.length = 12
    · have CS : Hid (∀ W, KT W → Calls Tryd.prog 9 #[str key, str nonce, str s] W fun e w' => e = .returned (.tuple #[str (sealed key nonce s), .int .i64 0]) ∧ Below W.heap.size W w') := fun W hk => Seal_ok key nonce s W hk h12 (by omega) l3
      have ls := sealed_len key nonce s
      have hta := sealed_ok key nonce s
      have hop := sealed_open key nonce s h12
      have CO : Hid (∀ W, KT W → Calls Tryd.prog 11 #[str key, str (sealed key nonce s)] W fun e w' => e = .returned (.tuple #[str s, .int .i64 0]) ∧ Below W.heap.size W w') := fun W hk => by
        have := Open_any key (sealed key nonce s) W hk (by omega) (by omega) (by omega)
        rw [hta, hop] at this
        exact this
      have hsn := sealed_nonce key nonce s h12
      have q0 := run_slice_h (sealed key nonce s) 12 12 rfl (by omega)
      rw [hsn] at q0
      have em : (((sealed key nonce s).length - 32 : Nat) : Int) = ((sealed key nonce s).length : Int) - 32 := by omega
      have q1 := run_slice_h (sealed key nonce s) ((sealed key nonce s).length - 32) (((sealed key nonce s).length : Int) - 32) em.symm (by omega)
      have q2 := run_slice_l (sealed key nonce s) ((sealed key nonce s).length - 32) (((sealed key nonce s).length : Int) - 32) em.symm (by omega)
      rw [sealed_take] at q1
      rw [sealed_drop] at q2
      have hl1 := sealX_len key nonce s
      have hl2 := hm_len (hm key tagT) (sealX key nonce s)
      have CX : Hid (∀ W, Calls Tryd.prog 13 #[str (hm (hm key tagT) (sealX key nonce s)), str ch] W fun e w' => e = .returned (str (xorT (hm (hm key tagT) (sealX key nonce s)) ch)) ∧ Below W.heap.size W w') := fun W => Xor_any _ ch W (by omega) (by have := HC.out; omega)
      have hl3 := xorT_len (hm (hm key tagT) (sealX key nonce s)) ch (by rw [hl2, HC.out])
      have sa := str_add (P := Tryd.prog) (sealX key nonce s) (xorT (hm (hm key tagT) (sealX key nonce s)) ch) (by omega)
      have hsp : sealX key nonce s ++ xorT (hm (hm key tagT) (sealX key nonce s)) ch = spoil key nonce s ch := rfl
      rw [hsp] at sa
      have hpl := spoil_len key nonce s ch HC.out
      have hpt := spoil_tag key nonce s ch HC.out
      have CP : Hid (∀ W, KT W → Calls Tryd.prog 11 #[str key, str (spoil key nonce s ch)] W fun e w' => e = .returned (if (spoil key nonce s ch == sealed key nonce s) = true then .tuple #[str (openT key (spoil key nonce s ch)), .int .i64 0] else .tuple #[str [], .int .i64 40]) ∧ Below W.heap.size W w') := fun W hk => by
        have := Open_any key (spoil key nonce s ch) W hk (by omega) (by omega) (by omega)
        rw [hpt] at this
        exact this
      obtain ⟨m, hm1⟩ : ∃ m, m = n % 44 := ⟨_, rfl⟩
      have hm44 : m < 44 := by omega
      have q3 := run_slice_h (sealed key nonce s) m ((n : Int) % 44) (by omega) (by omega)
      have hml : ((sealed key nonce s).take m).length < 44 := by rw [List.length_take]; omega
      have ls2 : ((sealed key nonce s).length : Int) = (s.length : Int) + 44 := by omega
      have kb : 0 ≤ ((sealed key nonce s).length : Int) - 32 ∧ ((sealed key nonce s).length : Int) - 32 ≤ ((sealed key nonce s).length : Int) ∧ 44 ≤ ((sealed key nonce s).length : Int) ∧ ((sealed key nonce s).length : Int) ≤ 5000 := by omega
      have n0 : 0 ≤ (n : Int) ∧ (n : Int) ≤ 255 := by omega
      generalize openT key (spoil key nonce s ch) = op at CP
      generalize xorT (hm (hm key tagT) (sealX key nonce s)) ch = xr at CX sa
      generalize hm (hm key tagT) (sealX key nonce s) = tg at CX q2
      generalize sealX key nonce s = sx at q1 sa
      generalize spoil key nonce s ch = sp at CP sa
      generalize sealed key nonce s = sd at CS CO q0 q1 q2 q3 CP hml ls2 kb
      have d1 : ((nonce.length : Int) != 12) = false := by simp; omega
      have ne1 : (s != s) = false := by simp
      have ne2 : (nonce != nonce) = false := by simp
      have ne3 : ((sd.length : Int) != (s.length : Int) + 44) = false := by simp; omega
      have HL2 := Lib.hid ls2
      clear h12 ls hta hop hsn em hl1 hl2 hl3 hsp hpl hpt hm1 hm44 ls2
      go_enter Tryd.func5, Tryd.ntmps5
      go_wp2_with fail
      refine (CL.out _).mono ?_
      rintro e w1 ⟨rfl, rfl⟩
      generalize w.alloc (.cells arr 29 (0, 0)) = w0 at B0 ⊢
      go_wp2_with fail
      refine (CS.out w0 (HK.out.below B0.out.b HK.out.lt)).mono ?_
      rintro e w2 ⟨rfl, b2⟩
      have T2 := Lib.hid (B0.out.bel HC.out b2)
      clear b2 CS B0
      go_wp2_with fail
      refine (CO.out w2 (HK.out.below T2.out.b HK.out.lt)).mono ?_
      rintro e w3 ⟨rfl, b3⟩
      have T3 := Lib.hid (T2.out.bel HC.out b3)
      clear b3 CO T2
      have cv := T3.out.c
      go_wp2_with fail
      have wz : IntKind.i64.wrap ((sd.length : Int) - 32) = (sd.length : Int) - 32 := IntWalk.i64_in _ (by omega)
      go_region_held3 (fun w' => (convert 31 9 (.slice (some ⟨w.heap.size, 0, none⟩) 32 32)).run Tryd.prog w' = .ok (str ch) w' ∧ Bk w w' ch)
        (first | assumption | exact ⟨(T3.out.draw HC.out).c, T3.out.draw HC.out⟩ | exact ⟨((by assumption : _ ∧ Bk w _ ch).2.bel HC.out hb).c, (by assumption : _ ∧ Bk w _ ch).2.bel HC.out hb⟩)
        (first
          | (go_at_call 13; (with_reducible refine (CX.out _).mono ?_); rintro e w1 ⟨rfl, hb⟩))
      rename_i hS
      have T4 := Lib.hid hS.2
      clear hS cv T3 CX sa q1 q2 wz
      cases he : (sp == sd)
      all_goals
        rw [he] at CP
        go_wp2_with fail
        refine (CP.out _ (HK.out.below T4.out.b HK.out.lt)).mono ?_
        rintro e w5 ⟨rfl, b5⟩
        have T5 := Lib.hid (T4.out.bel HC.out b5)
        clear b5 CP T4
        go_wp2_with fail
        refine (Open_end key (sd.take m) _ hml).mono ?_
        rintro e w7 ⟨rfl, b7⟩
        have T7 := Lib.hid (T5.out.bel HC.out b7)
        clear b7 T5
        go_wp2_with fail
        refine (alive_on w w7 HK.out T7.out.b).mono ?_
        rintro e w9 ⟨rfl, b9⟩
        have B9 := Lib.hid b9
        clear b9
        go_wp2_with fail
        go_ret
        exact ⟨rfl, B9.out⟩
    · have CS : Hid (∀ W, Calls Tryd.prog 9 #[str key, str nonce, str s] W fun e w' => e = .returned (.tuple #[str [], .int .i64 2]) ∧ Below W.heap.size W w') := fun W => Seal_bad key nonce s W h12
      have d1 : ((nonce.length : Int) != 12) = true := by simp; omega
      clear h12
      go_enter Tryd.func5, Tryd.ntmps5
      go_wp2_with fail
      refine (CL.out _).mono ?_
      rintro e w1 ⟨rfl, rfl⟩
      generalize w.alloc (.cells arr 29 (0, 0)) = w0 at B0 ⊢
      go_wp2_with fail
      refine (CS.out w0).mono ?_
      rintro e w2 ⟨rfl, b2⟩
      have T2 := Lib.hid (B0.out.bel HC.out b2)
      clear b2 CS B0
      go_wp2_with fail
      refine (alive_on w w2 HK.out T2.out.b).mono ?_
      rintro e w9 ⟨rfl, b9⟩
      have B9 := Lib.hid b9
      clear b9
      go_wp2_with fail
      go_ret
      exact ⟨rfl, B9.out⟩
  · rw [hlg] at CL
    clear hlg
    go_enter Tryd.func5, Tryd.ntmps5
    go_wp2_with fail
    refine (CL.out _).mono ?_
    rintro e w1 ⟨rfl, rfl⟩
    generalize w.alloc (.cells arr 29 (0, 0)) = w0 at B0 ⊢
    go_wp2_with fail
    refine (alive_on w w0 HK.out B0.out.b).mono ?_
    rintro e w9 ⟨rfl, b9⟩
    have B9 := Lib.hid b9
    clear b9
    go_wp2_with fail
    go_ret
    exact ⟨rfl, B9.out⟩
end Go.Proofs.YtgajfbmaoahpgaaDoor
