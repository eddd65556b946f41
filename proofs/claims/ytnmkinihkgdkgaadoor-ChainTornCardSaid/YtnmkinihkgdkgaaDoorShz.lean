/- The walk of (*sha.Hash).Sum. Condition: sizes that a machine has. -/
import Derived.Test.YtnmkinihkgdkgaaDoorShy
namespace Go.Proofs.YtnmkinihkgdkgaaDoor
open Go.RowKit
set_option linter.unusedVariables false

theorem below_of_grown {B g : Nat} {w W W' : World} (h : Below B w W) (hg : W.grownBy W' (some g)) (hB : B ≤ g) (hs : B ≤ W.heap.size) : Below B w W' :=
  h.trans ⟨hg.os, hg.tape, hg.output, hg.size, fun k hk => hg.block k (by omega) (fun e => by have := Option.some.inj e; omega)⟩
/-- The memory of a call of Sum: the copy at the first new block. -/
structure Sm (w W : World) (x : List UInt8) : Prop where
  h : HashAt W w.heap.size x
  b : Below w.heap.size w W
  lt : w.heap.size < W.heap.size
theorem Sm.mem {w W W' : World} {x : List UInt8} (T : Sm w W x) (e : W'.heap = W.heap ∧ W'.os = W.os ∧ W'.tape = W.tape ∧ W'.output = W.output) : Sm w W' x := by
  obtain ⟨wait, h1, h2⟩ := T.h
  exact ⟨⟨wait, h1.heap e.1, h2⟩, ⟨e.2.1.trans T.b.os, e.2.2.1.trans T.b.tape, e.2.2.2.trans T.b.output, by rw [e.1]; exact T.b.size, fun k hk => by rw [e.1]; exact T.b.block k hk⟩, by rw [e.1]; exact T.lt⟩
theorem Sm.bel {w W W' : World} {x : List UInt8} (T : Sm w W x) (h : Below W.heap.size W W') : Sm w W' x := by
  obtain ⟨wait, h1, h2⟩ := T.h
  exact ⟨⟨wait, h1.below h T.lt, h2⟩, below_acc T.b h, Nat.lt_of_lt_of_le T.lt h.size⟩
theorem Sm.write {w W : World} {x : List UInt8} (T : Sm w W x) (hK : KT w) (s : List UInt8) (hb : x.length + s.length < 4611686018427387904) :
    Calls Tryd.prog 38 #[.pointer (some ⟨w.heap.size, 0, none⟩), str s] W fun e w' => e = .returned (.tuple #[]) ∧ Sm w w' (x ++ s) :=
  (Write_any w.heap.size x s W T.h (hK.below T.b hK.lt) (Nat.ne_of_lt hK.lt) hb).mono fun e w' ⟨h1, h2, h3⟩ => ⟨h1, h2, below_of_grown T.b h3 (Nat.le_refl _) T.b.size, Nat.lt_of_lt_of_le T.lt h3.size⟩
theorem Sm.num {w W : World} {x : List UInt8} (T : Sm w W x) : W.cell? ⟨w.heap.size, 72, none⟩ = some (.int .i64 (x.length : Int)) := by
  obtain ⟨wait, h1, h2⟩ := T.h
  exact h1.num
def numAt (W : World) (g : Nat) : Nat := match W.cell? ⟨g, 72, none⟩ with
  | some v => (intOf v).toNat
  | none => 0
theorem Sm.numAt {w W : World} {x : List UInt8} (T : Sm w W x) : numAt W w.heap.size = x.length := by
  unfold Go.Proofs.YtnmkinihkgdkgaaDoor.numAt
  rw [T.num]
  simp [intOf]

theorem conv_new (W : World) (x : UInt8) : (convert 44 9 (.slice (some ⟨W.heap.size, 0, none⟩) 1 1)).run Tryd.prog (W.alloc (.cells #[.int .u8 (x.toNat : Int)] 5 (0, 0))) = .ok (str [x]) (W.alloc (.cells #[.int .u8 (x.toNat : Int)] 5 (0, 0))) := by
  refine run_convert_bytes_back (P := Tryd.prog) _ 44 9 5 ⟨W.heap.size, 0, none⟩ 1 [x] Tryd.underlying44 Tryd.underlying5 Tryd.underlying9 (fun j hj => ?_)
  have h0 : j = 0 := by simpa using hj
  subst h0
  exact new_bytes W [x] (0, 0) 0 _ rfl

theorem make32 (W : World) : ∃ W', (Instr.makeSlice 44 (.int .i64 0) (.int .i64 32)).run Tryd.prog W = .ok (.slice (some ⟨W.heap.size, 0, none⟩) 0 32) W' ∧ ByS W' W.heap.size (.slice (some ⟨W.heap.size, 0, none⟩) 0 32) [] ∧ Below W.heap.size W W' := by
  obtain ⟨i0, hi, hz0, hz1, hz2⟩ := info_parts u8_info
  obtain ⟨W', h1, h2, h3⟩ := run_make_own (P := Tryd.prog) W W.heap.size 44 5 i0 _ 1 Tryd.underlying44 hi hz0 hz1 .i64 .i64 32 (by rw [hz2]; omega) (by simp [maxLen]) (Nat.le_refl _)
  exact ⟨W', h1, ByS.of_owns h2, (Below.refl _ W).grown h3 (Nat.le_refl _) (by simp)⟩

set_option maxRecDepth 100000 in
set_option maxHeartbeats 8000000 in
theorem Sum_any (g : Nat) (t : List UInt8) (w : World) (hA : HashAt w g t) (hK : KT w) (ht : t.length ≤ 1099511627776) :
    Calls Tryd.prog 39 #[.pointer (some ⟨g, 0, none⟩)] w fun e w' => e = .returned (str (sum t)) ∧ Below w.heap.size w w' := by
  have CC := Lib.hid (Copy_any g t w hA)
  obtain ⟨wait, hH, hO⟩ := hA
  have hgl := hH.lt
  have n0 := hH.num
  have HK := Lib.hid hK
  clear hH hO hK wait
  go_enter Tryd.func39, Tryd.ntmps39
  go_wp2_with fail
  refine CC.out.mono ?_
  rintro e w1 ⟨rfl, hc1, hb1⟩
  have S1 : Hid (Sm w w1 t) := ⟨hc1, hb1, (by obtain ⟨_, h, _⟩ := hc1; exact h.lt)⟩
  clear CC hc1 hb1
  have CW := Lib.hid (S1.out.write HK.out [128] (by simp; omega))
  go_wp2_with fail
  refine CW.out.mono ?_
  rintro e w2 ⟨rfl, S2⟩
  have HS2 := Lib.hid S2
  clear S2 CW S1
  go_wp2_with fail
  go_loopw [] (fun wr => ∃ k : Nat, k ≤ padz t.length ∧ Hid (Sm w wr (t ++ [128] ++ List.replicate k 0))) (fun wr => t.length + 65 - numAt wr w.heap.size)
  case atStart => exact ⟨0, Nat.zero_le _, by simpa [Hid] using HS2.out⟩
  case round =>
    clear HS2
    obtain ⟨k, hk, hS⟩ := hrel
    have c0 := hS.out.num
    have hpz : padz t.length < 64 := by unfold padz; omega
    have hnl : (t ++ [128] ++ List.replicate k 0).length = t.length + 1 + k := by simp; omega
    rw [hnl] at c0
    generalize hn : t.length + 1 + k = n at c0
    generalize hz : n % 64 = z
    have x1 : (n : Int).tmod 64 = (z : Int) := by rw [Int.tmod_eq_emod_of_nonneg (by omega)]; omega
    have HN := Lib.hid (And.intro hn hz)
    have HL := Lib.hid hnl
    by_cases hk2 : k < padz t.length
    · have d1 : ((z : Int) != 56) = true := by
        unfold padz at hk2
        simp; omega
      clear hn hz hnl
      have CW := Lib.hid (hS.out.write HK.out [0] (by rw [HL.out]; simp; omega))
      go_wp2_with fail
      refine CW.out.mono ?_
      rintro e w3 ⟨rfl, S3⟩
      have HS3 := Lib.hid S3
      clear S3 CW
      go_wp2_with fail
      go_roundw
      case rel => exact ⟨k + 1, by omega, by have := HS3.out; rw [List.append_assoc, ← List.replicate_succ'] at this; exact this⟩
      case measure =>
        rw [hS.out.numAt, HS3.out.numAt, HL.out, List.length_append, HL.out]
        simp; omega
    · have E := Lib.hid (show k = padz t.length by omega)
      obtain rfl : z = 56 := by
        have := E.out
        unfold padz at this
        omega
      have HS := Lib.hid (show Sm w wr (t ++ [128] ++ List.replicate (padz t.length) 0) by rw [← E.out]; exact hS.out)
      clear hn hz hnl hS c0
      have g0 := (HS.out.b.cell (p := ⟨g, 72, none⟩) hgl).trans n0
      have c0 := HS.out.num
      have hnl : (t ++ [128] ++ List.replicate (padz t.length) 0).length = n := by have := HN.out.1; have := E.out; simp; omega
      rw [hnl] at c0
      have w1' : IntKind.u64.wrap (t.length : Int) = (t.length : Int) := IntWalk.u64_in _ (by omega)
      go_wp2_with fail
      clear g0 c0 hnl w1' x1
      have HSP : Hid (Sm w wr (t ++ [128] ++ List.replicate (padz t.length) 0 ++ (be8 (8 * t.length)).take 0)) := by simpa [Hid] using HS.out
      clear HS HN HL E
      go_loopw [5] (fun v wr => ∃ q : Nat, q ≤ 8 ∧ v = .int .i64 (56 - 8 * (q : Int)) ∧ Hid (Sm w wr (t ++ [128] ++ List.replicate (padz t.length) 0 ++ (be8 (8 * t.length)).take q))) (fun v _ => (intOf v + 8).toNat)
      case atStart => exact ⟨0, Nat.zero_le _, rfl, HSP.out⟩
      case round =>
        clear HSP
        obtain ⟨q, hq, rfl, hS⟩ := hrel
        by_cases hq8 : q < 8
        · have z1 : (0 : Int) ≤ 56 - 8 * (q : Int) := by omega
          have z2 : (56 - 8 * (q : Int)).toNat = 8 * (7 - q) := by omega
          have z3 : 56 - 8 * (q : Int) < 64 := by omega
          have x1 := byte_shift (8 * t.length) q hq8
          rw [show ((8 * t.length : Nat) : Int) = (t.length : Int) * 8 by omega] at x1
          have cv := conv_new wr (byt (be8 (8 * t.length)) q)
          go_wp2_with fail
          have hl1 : (t ++ [128] ++ List.replicate (padz t.length) 0 ++ (be8 (8 * t.length)).take q).length ≤ t.length + 73 := by simp [be8_len]; omega
          have CW := Lib.hid ((hS.out.bel ((Below.refl _ wr).alloc (Nat.le_refl _) (.cells #[.int .u8 ((byt (be8 (8 * t.length)) q).toNat : Int)] 5 (0, 0)))).write HK.out [byt (be8 (8 * t.length)) q] (by simp only [List.length_cons, List.length_nil]; omega))
          clear hl1
          go_wp2_with fail
          refine CW.out.mono ?_
          rintro e w4 ⟨rfl, S4⟩
          have HS4 := Lib.hid S4
          clear S4 CW cv x1
          go_wp2_with fail
          go_roundw
          case rel => exact ⟨q + 1, by omega, by congr 1; omega, by have := HS4.out; rw [List.append_assoc, ← be8_take _ _ hq8] at this; exact this⟩
          case measure => simp [intOf]; omega
        · have zz : decide (8 * (q : Int) ≤ 56) = false := by simp; omega
          have hS8 := hS.out
          rw [List.take_of_length_le (by rw [be8_len]; omega), ← padd_eq] at hS8
          have hE : sum t = outl (hs (padd t) ((padd t).length / 64)).list := by rw [sum_eq, out_eq]
          have HE := Lib.hid hE
          clear hE
          obtain ⟨⟨wait, hR, _⟩, hB, hlt⟩ := hS8
          clear hS
          generalize hs (padd t) ((padd t).length / 64) = st at hR HE
          obtain ⟨wm, hm, hmB, hmb⟩ := make32 wr
          obtain ⟨c0, c1, c2, c3, c4, c5, c6, c7⟩ := hst_cells (hR.below hmb hlt)
          clear hR
          have HB := Lib.hid (below_acc hB hmb)
          have HX := Lib.hid (hmB.mono (Nat.le_of_lt hlt))
          clear hB hlt hmb hmB
          have ix : Hid (∀ k : Nat, k < 8 → ∀ W : World, (Instr.index 57 (.agg #[wv st.a, wv st.b, wv st.c, wv st.d, wv st.e, wv st.f, wv st.g, wv st.h]) (.int .i64 (k : Int))).run Tryd.prog W = .ok (wv (wat st.list k)) W) := index8 st
          go_wp2_with fail
          clear c0 c1 c2 c3 c4 c5 c6 c7 hm n0
          go_loopw [6, 46] (fun v i wr => ∃ i' : Nat, i' ≤ 8 ∧ i = .int .i64 (i' : Int) ∧ Hid (ByS wr w.heap.size v (outl (st.list.take i'))) ∧ Hid (Below w.heap.size w wr)) (fun _ i _ => 8 - (intOf i).toNat)
          case atStart => exact ⟨0, by omega, rfl, HX.out, HB.out⟩
          case round =>
            clear HX HB
            obtain ⟨i, hi, rfl, hT, hB⟩ := hrel
            by_cases hi8 : i < 8
            · have hil : i < st.list.length := by show i < 8; omega
              have z1 : (0 : Int) ≤ (i : Int) := by omega
              have z2 : (i : Int) < 8 := by omega
              have HO := Lib.hid (outl_snoc st.list i hil)
              have HQ : Hid ((outl (st.list.take i)).length ≤ 64) := by show _ ≤ _; rw [outl_len, List.length_take]; show 4 * min i 8 ≤ 64; omega
              have ix1 := ix.out i hi8
              generalize wat st.list i = x at HO ix1
              go_wp2_with (refine wpList_append_bys rfl _ _ (by rfl) w.heap.size _ (outl (st.list.take i)) (by rfl) (hT.out.alloc _) (by have := hB.out.size; simp; omega) ⟨wr.heap.size, 0, none⟩ 4 4 (be4 x) (by rfl) rfl (new_bytes wr (be4 x) (0, 0)) (by have := HQ.out; omega) ?_; intro v3 w3 hT3 hb3)
              have HB3 : Hid (Below w.heap.size w w3) := (hB.out.alloc hB.out.size _).trans hb3
              have T3 := Lib.hid hT3
              clear hb3 hT3
              go_wp2_with fail
              go_roundw
              case rel => exact ⟨i + 1, by omega, by go_num, by rw [HO.out]; exact T3.out, HB3.out⟩
              case measure => simp [intOf]; omega
            · obtain rfl : i = 8 := by omega
              have cv := conv_bys hT.out
              have hfull : st.list.take 8 = st.list := rfl
              rw [hfull] at cv
              clear hT hfull ix
              go_wp2_with fail
              go_ret
              exact ⟨by rw [HE.out]; rfl, hB.out⟩
theorem HashAt.lt {W : World} {g : Nat} {t : List UInt8} (h : HashAt W g t) : g < W.heap.size := by obtain ⟨_, h, _⟩ := h; exact h.lt
theorem HashAt.bel {W W' : World} {g : Nat} {t : List UInt8} (h : HashAt W g t) (hb : Below W.heap.size W W') : HashAt W' g t := by
  have hl := h.lt
  obtain ⟨wait, h1, h2⟩ := h
  exact ⟨wait, h1.below hb hl, h2⟩
theorem HashAt.grown {W W' : World} {g c : Nat} {t : List UInt8} (h : HashAt W c t) (hg : W.grownBy W' (some g)) (hne : c ≠ g) : HashAt W' c t := by
  obtain ⟨wait, h1, h2⟩ := h
  exact ⟨wait, ⟨(hg.block c h1.lt (fun e => hne (Option.some.inj e))).trans h1.row, h1.l8, h1.w64⟩, h2⟩
end Go.Proofs.YtnmkinihkgdkgaaDoor
