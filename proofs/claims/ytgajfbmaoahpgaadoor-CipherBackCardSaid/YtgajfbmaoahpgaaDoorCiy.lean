/- The walks of the reference of layer 4: Open, Xor. Condition: at most 4096 bytes; sizes that a machine has. -/
import Derived.Test.YtgajfbmaoahpgaaDoorCix
namespace Go.Proofs.YtgajfbmaoahpgaaDoor
open Go.RowKit
set_option linter.unusedVariables false
set_option linter.unusedSimpArgs false

theorem rOpen_end (key x : List UInt8) (w : World) (hx : x.length < 44) :
    Calls Tryd.prog 12 #[str key, str x] w fun e w' => e = .returned (.tuple #[str [], .int .i64 6]) ∧ Below w.heap.size w w' := by
  have d1 : decide ((x.length : Int) < 44) = true := by simp; omega
  go_enter Tryd.func12, Tryd.ntmps12
  go_wp2_with fail
  go_ret2
  exact ⟨rfl, Below.refl _ _⟩
set_option maxRecDepth 100000 in
set_option maxHeartbeats 8000000 in
theorem rOpen_any (key x : List UInt8) (w : World) (hk : key.length ≤ 1099511627000) (h44 : 44 ≤ x.length) (hx : x.length ≤ 4096) :
    Calls Tryd.prog 12 #[str key, str x] w fun e w' => e = .returned (if tagOk key x = true then .tuple #[str (openT key x), .int .i64 0] else .tuple #[str [], .int .i64 40]) ∧ Below w.heap.size w w' := by
  have d1 : decide ((x.length : Int) < 44) = false := by simp; omega
  have d2 : decide (65580 < (x.length : Int)) = false := by simp; omega
  have HD : Hid ((hm (hm key tagT) (x.take (x.length - 32)) == x.drop (x.length - 32)) = tagOk key x ∧ xst (hm key streamT) (x.take 12) (cut x) (cut x).length = openT key x) := ⟨rfl, rfl⟩
  have em : ((x.length - 32 : Nat) : Int) = (x.length : Int) - 32 := by omega
  have q1 := run_slice_h x (x.length - 32) ((x.length : Int) - 32) em.symm (by omega)
  have q2 := run_slice_l x (x.length - 32) ((x.length : Int) - 32) em.symm (by omega)
  have q3 := run_slice_h x 12 12 rfl (by omega)
  have q4 := run_slice_lh x 12 (x.length - 32) 12 ((x.length : Int) - 32) rfl em.symm (by omega) (by omega)
  have e4 : (x.take (x.length - 32)).drop 12 = cut x := rfl
  rw [e4] at q4
  have l1 : (x.take (x.length - 32)).length ≤ 4096 := by rw [List.length_take]; omega
  have l2 : (x.drop (x.length - 32)).length ≤ 4096 := by rw [List.length_drop]; omega
  have l3 : (x.take 12).length ≤ 4096 := by rw [List.length_take]; omega
  have l4 : (cut x).length ≤ 4096 := by unfold cut; rw [List.length_drop, List.length_take]; omega
  have kb : 0 ≤ (x.length : Int) - 32 ∧ (x.length : Int) - 32 ≤ (x.length : Int) ∧ 12 ≤ (x.length : Int) - 32 := by omega
  generalize x.take (x.length - 32) = xa at HD q1 l1
  generalize x.drop (x.length - 32) = xb at HD q2 l2
  generalize x.take 12 = xn at HD q3 l3
  generalize cut x = xc at HD q4 l4
  have CT : Hid (∀ W, Calls Tryd.prog 18 #[str key, str xa] W fun e w' => e = .returned (str (hm (hm key tagT) xa)) ∧ Below W.heap.size W w') := fun W => Tag_any key _ W hk (by omega)
  have CX : Hid (∀ W, Calls Tryd.prog 17 #[str key, str xn, str xc] W fun e w' => e = .returned (str (xst (hm key streamT) xn xc xc.length)) ∧ Below W.heap.size W w') := fun W => Xored_any key xn xc W hk (by omega) l4
  generalize htv : tagOk key x = tv at HD ⊢
  generalize hov : openT key x = ov at HD ⊢
  generalize hm (hm key tagT) xa = tg at HD CT
  clear em e4 htv hov
  have HV := Lib.hid HD.out.2
  have dt : (tg == xb) = tv := HD.out.1
  have B0 := Below.refl w.heap.size w
  clear HD
  go_enter Tryd.func12, Tryd.ntmps12
  cases tv
  · have dn : (tg != xb) = true := by simp [bne, dt]
    go_wp2_with fail
    go_region_held3 (fun w' => Below w.heap.size w w' ∧ True)
      (first | assumption | exact ⟨B0.drew, trivial⟩ | exact ⟨below_acc (by assumption : Below w.heap.size w _ ∧ True).1 hb, trivial⟩)
      (first
        | (go_at_call 18; (with_reducible refine (CT.out _).mono ?_); rintro e w1 ⟨rfl, hb⟩))
    rename_i hS
    have TB := Lib.hid hS.1
    clear hS
    go_wp2_with fail
    go_ret2
    exact ⟨rfl, TB.out⟩
  · have dn : (tg != xb) = false := by simp [bne, dt]
    go_wp2_with fail
    go_region_held3 (fun w' => Below w.heap.size w w' ∧ True)
      (first | assumption | exact ⟨B0.drew, trivial⟩ | exact ⟨below_acc (by assumption : Below w.heap.size w _ ∧ True).1 hb, trivial⟩)
      (first
        | (go_at_call 18; (with_reducible refine (CT.out _).mono ?_); rintro e w1 ⟨rfl, hb⟩))
    rename_i hS
    have TB := hS.1
    clear hS B0
    go_wp2_with fail
    go_region_held3 (fun w' => Below w.heap.size w w' ∧ True)
      (first | assumption | exact ⟨TB.drew, trivial⟩ | exact ⟨below_acc (by assumption : Below w.heap.size w _ ∧ True).1 hb, trivial⟩)
      (first
        | (go_at_call 17; (with_reducible refine (CX.out _).mono ?_); rintro e w1 ⟨rfl, hb⟩; rw [HV.out]))
    rename_i hS
    have TC := Lib.hid hS.1
    clear hS
    go_wp2_with fail
    go_ret2
    exact ⟨rfl, TC.out⟩

/-- Two texts, byte by byte. -/
def xorT (a b : List UInt8) : List UInt8 := gp (fun j => bx (byt a j) (byt b j)) a (min a.length b.length)
set_option maxRecDepth 100000 in
set_option maxHeartbeats 8000000 in
theorem Xor_any (a b : List UInt8) (w : World) (ha : a.length ≤ 1099511627000) (hb : b.length ≤ 1099511627000) :
    Calls Tryd.prog 13 #[str a, str b] w fun e w' => e = .returned (str (xorT a b)) ∧ Below w.heap.size w w' := by
  have HV : Hid (xorT a b = gp (fun j => bx (byt a j) (byt b j)) a (min a.length b.length)) := rfl
  generalize xorT a b = r at HV ⊢
  have HF : Hid (∀ q, q < a.length → gp (fun j => bx (byt a j) (byt b j)) a (q + 1) = (gp (fun j => bx (byt a j) (byt b j)) a q).set q (bx (byt a q) (byt b q))) := fun q hq => (gp_set _ _ _ hq).symm
  generalize (fun j => bx (byt a j) (byt b j)) = f at HV HF
  go_enter Tryd.func13, Tryd.ntmps13
  go_wp2_with (refine wpList_conv_bytes rfl _ rfl a rfl (by omega) ?_; intro c w2 hy2 hb2 hz2)
  have Y2 : Hid (ByS w2 w.heap.size (.slice (some ⟨w.heap.size, 0, none⟩) a.length c) (gp f a 0) ∧ Below w.heap.size w w2) := by
    show _ ∧ _
    rw [gp_zero]
    exact ⟨hy2, hb2⟩
  generalize hg : w.heap.size = g at Y2 ⊢
  have HGZ := Lib.hid hg
  clear hy2 hb2 hz2 hg
  go_loopw [6] (fun v wr => ∃ q : Nat, v = .int .i64 (q : Int) ∧ q ≤ a.length ∧ q ≤ b.length ∧ Hid (ByS wr g (.slice (some ⟨g, 0, none⟩) a.length c) (gp f a q) ∧ Below g w wr)) (fun v _ => a.length - (intOf v).toNat)
  case atStart => exact ⟨0, rfl, by omega, by omega, Y2⟩
  case round =>
    clear Y2
    obtain ⟨q, rfl, hqa, hqb, T⟩ := hrel
    by_cases h : q < a.length ∧ q < b.length
    · obtain ⟨h1, h2⟩ := h
      have d1 : decide ((q : Int) < (a.length : Int)) = true := by simp; omega
      have d2 : decide ((q : Int) < (b.length : Int)) = true := by simp; omega
      obtain ⟨hz0, hgB, hgl, ho⟩ := T.out.1.opened
      clear hz0
      obtain ⟨c1, f1⟩ := ho q (by rw [gp_len _ _ _ hqa]; exact h1)
      rw [gp_at _ _ _ h1] at c1
      have q0 := run_index_str b q (q : Int) rfl h2
      have kb : 0 ≤ (q : Int) ∧ (q : Int) < (a.length : Int) ∧ (q : Int) < (b.length : Int) := by omega
      have T5 : Hid (ByS (wr.setCell ⟨g, q, none⟩ (bv (bx (byt a q) (byt b q)))).drew g (.slice (some ⟨g, 0, none⟩) a.length c) (gp f a (q + 1)) ∧ Below g w (wr.setCell ⟨g, q, none⟩ (bv (bx (byt a q) (byt b q)))).drew) := by
        show _ ∧ _
        rw [HF.out q h1]
        exact ⟨(T.out.1.put q (by rw [gp_len _ _ _ hqa]; exact h1) _).heap rfl, (T.out.2.setCell (p := ⟨g, q, none⟩) (Nat.le_refl _) _).drew⟩
      clear ho T
      go_wp2_with fail
      go_region
      clear c1 f1 q0
      go_wp2_with fail
      go_roundw
      case rel => exact ⟨q + 1, by go_num, by omega, by omega, T5⟩
      case measure => simp [intOf]; omega
    · have hy := T.out.1
      have hm : q = min a.length b.length := by omega
      rw [hm, ← HV.out] at hy
      have cv := conv_bys hy
      clear hy hm
      by_cases h1 : q < a.length
      · have d1 : decide ((q : Int) < (a.length : Int)) = true := by simp; omega
        have d2 : decide ((q : Int) < (b.length : Int)) = false := by simp; omega
        go_wp2_with fail
        go_ret
        exact ⟨rfl, by have := T.out.2; rw [HGZ.out]; exact this⟩
      · have d1 : decide ((q : Int) < (a.length : Int)) = false := by simp; omega
        go_wp2_with fail
        go_ret
        exact ⟨rfl, by have := T.out.2; rw [HGZ.out]; exact this⟩
end Go.Proofs.YtgajfbmaoahpgaaDoor
