/- The walks of chain's Audit and of ChainScans, ChainBack. Condition: the table k reads as the standard's numbers. -/
import Derived.Test.YtnmkinihkgdkgaaDoorCho
import Derived.Test.YtnmkinihkgdkgaaDoorChx
import Derived.Test.YtnmkinihkgdkgaaDoorApm
import Derived.Test.YtnmkinihkgdkgaaDoorSam
namespace Go.Proofs.YtnmkinihkgdkgaaDoor
open Go.RowKit
set_option linter.unusedVariables false
set_option linter.unusedSimpArgs false

/-- What is scanned of bytes. -/
def sc (s : List UInt8) : List (List UInt8) × List UInt8 × Nat := scan (s.length + 1) z32 s 0 []
theorem sc_is (s : List UInt8) : (sc s).1.length ≤ s.length ∧ (∀ r ∈ (sc s).1, r.length ≤ 8192) ∧ (sc s).2.2 ≤ s.length ∧ frs z32 (sc s).1 = s.take (sc s).2.2 ∧ (sc s).2.1 = hd z32 (sc s).1 ∧ sc (s.take (sc s).2.2) = sc s := by
  obtain ⟨rs, rest, h1, h2, h3, h4, h5⟩ := scan_is (s.length + 1) z32 s 0 [] (by omega)
  have e : sc s = (rs, hd z32 rs, (frs z32 rs).length) := by unfold sc; rw [h5]; simp
  have hl := congrArg List.length h1
  rw [List.length_append] at hl
  have ht : s.take (frs z32 rs).length = frs z32 rs := by rw [h1]; simp
  rw [e]
  refine ⟨h4, h2, by simp only; omega, ht.symm, rfl, ?_⟩
  show sc (s.take (frs z32 rs).length) = _
  rw [ht]
  unfold sc
  have hz : ∀ l : List (List UInt8), ∀ k, l.length ≤ (frs k l).length := by
    intro l
    induction l with
    | nil => intro k; simp
    | cons r l ih => intro k; have := ih (nx k r); have := nx_len k r; simp [frs]; omega
  have := scan_frs rs ((frs z32 rs).length + 1) z32 0 [] [] h2 (gd_nil _) (by have := hz rs z32; omega)
  simpa using this
theorem bigN_ok : ∀ l : List (List UInt8), (∀ r ∈ l, r.length ≤ 8192) → bigN l = 0
  | [], _ => rfl
  | x :: r, h => by
    have := h x (by simp)
    rw [bigN, if_neg (by omega)]
    exact bigN_ok r fun y hy => h y (by simp [hy])

theorem Scan_sc (s : List UInt8) (hs : s.length ≤ 1000000) (w : World) (hK : KT w) :
    Calls Tryd.prog 9 #[str s] w fun e w' => ∃ A c, e = .returned (.tuple #[.slice A (sc s).1.length c, str (sc s).2.1, .int .i64 ((sc s).2.2 : Int)]) ∧ Txt w' w'.heap.size A (sc s).1 ∧ Below w.heap.size w w' := by
  refine (Scan_any s hs w hK).mono ?_
  rintro e w' ⟨v, rfl, h, hb⟩
  obtain ⟨A, c, rfl, hT⟩ := SlS.txt h
  exact ⟨A, c, rfl, hT, hb⟩
theorem refScan_sc (s : List UInt8) (hs : s.length ≤ 1000000) (w : World) :
    Calls Tryd.prog 10 #[str s] w fun e w' => ∃ A c, e = .returned (.tuple #[.slice A (sc s).1.length c, str (sc s).2.1, .int .i64 ((sc s).2.2 : Int)]) ∧ Txt w' w'.heap.size A (sc s).1 ∧ Below w.heap.size w w' := by
  refine (refScan_any s hs w).mono ?_
  rintro e w' ⟨v, rfl, h, hb⟩
  obtain ⟨A, c, rfl, hT⟩ := SlS.txt h
  exact ⟨A, c, rfl, hT, hb⟩

theorem Audit_any (s head : List UInt8) (hs : s.length ≤ 1000000) (w : World) (hK : KT w) :
    Calls Tryd.prog 12 #[str s, str head] w fun e w' => e = .returned (.bool ((((sc s).2.2 : Int) == (s.length : Int)) && ((sc s).2.1 == head))) ∧ Below w.heap.size w w' := by
  have CS := Lib.hid (Scan_sc s hs w hK)
  clear hK
  generalize sc s = R at CS ⊢
  obtain ⟨l, h, n⟩ := R
  simp only at CS ⊢
  by_cases q : n = s.length
  · have d1 : ((n : Int) == (s.length : Int)) = true := by simp; omega
    rw [d1]
    go_enter Tryd.func12, Tryd.ntmps12
    go_wp2_with (go_at_call 9; (with_reducible refine CS.out.mono ?_); rintro e w1 ⟨A, c, rfl, hT, hb⟩; have BB := Lib.hid hb; clear hT hb)
    go_ret
    exact ⟨by simp, BB.out⟩
  · have d1 : ((n : Int) == (s.length : Int)) = false := by simp; omega
    rw [d1]
    go_enter Tryd.func12, Tryd.ntmps12
    go_wp2_with (go_at_call 9; (with_reducible refine CS.out.mono ?_); rintro e w1 ⟨A, c, rfl, hT, hb⟩; have BB := Lib.hid hb; clear hT hb)
    go_ret
    exact ⟨by simp, BB.out⟩

set_option maxRecDepth 100000 in
set_option maxHeartbeats 8000000 in
theorem ChainScans_walk (s head : List UInt8) (w : World) (hK : KT w) (h1 : s.length ≤ 9223372036854775807) (h2 : head.length ≤ 9223372036854775807) :
    Calls Tryd.prog 3 #[str s, str head] w fun e w' => e = .returned (.bool true) ∧ Below w.heap.size w w' := by
  have HK := Lib.hid hK
  have B0 : Below w.heap.size w w := Below.refl _ _
  clear hK
  by_cases q1 : 16384 < s.length
  · have d1 : decide ((16384 : Int) < (s.length : Int)) = true := by simp; omega
    go_enter Tryd.func3, Tryd.ntmps3
    go_wp2_with (go_at_call 8; refine (alive_any _ (HK.out.below B0 HK.out.lt)).mono ?_; rintro e w1 ⟨rfl, hb⟩)
    go_ret
    exact ⟨rfl, hb⟩
  have d1 : decide ((16384 : Int) < (s.length : Int)) = false := by simp; omega
  by_cases q2 : 1024 < head.length
  · have d2 : decide ((1024 : Int) < (head.length : Int)) = true := by simp; omega
    go_enter Tryd.func3, Tryd.ntmps3
    go_wp2_with (go_at_call 8; refine (alive_any _ (HK.out.below B0 HK.out.lt)).mono ?_; rintro e w1 ⟨rfl, hb⟩)
    go_ret
    exact ⟨rfl, hb⟩
  have d2 : decide ((1024 : Int) < (head.length : Int)) = false := by simp; omega
  obtain ⟨s1, -, -, -, -, -⟩ := sc_is s
  have CS := Lib.hid (fun W hk => Scan_sc s (by omega) W hk)
  have CR := Lib.hid (fun W => refScan_sc s (by omega) W)
  have CA1 := fun W hk => Audit_any s head (by omega) W hk
  have CA2 := fun W hk => Audit_any s (sc s).2.1 (by omega) W hk
  generalize sc s = R at CS CR CA1 CA2 s1
  obtain ⟨l, h, n⟩ := R
  simp only at CS CR CA1 CA2 s1
  have CE := Lib.hid (fun A A' c c' W hT hU => Same_any A A' c c' l l (by omega) (by omega) w.heap.size W hT hU)
  have CE2 := Lib.hid (fun (A A' : Option Addr) (c c' : Nat) (W : World) (hT : Txt W W.heap.size A l) (hU : Txt W W.heap.size A' l) => Same_any A A' c c' l l (by omega) (by omega) W.heap.size W hT hU)
  rw [show decide (l = l) = true by simp] at CE2
  rw [show (h == h) = true by simp] at CA2
  cases q3 : (((n : Int) == (s.length : Int)) : Bool) <;> cases q4 : (h == head : Bool)
  all_goals
    have CB1 := Lib.hid CA1
    have CB2 := Lib.hid CA2
    rw [q3, q4] at CB1
    rw [q3] at CB2
    clear CA1 CA2 CE
    simp only [Bool.and_true, Bool.and_false, Bool.true_and, Bool.false_and, Bool.and_self] at CB1 CB2
    go_enter Tryd.func3, Tryd.ntmps3
    go_wp2_with (first
      | (go_at_call 9; (with_reducible refine (CS.out _ (HK.out.below B0 HK.out.lt)).mono ?_); rintro e w1 ⟨A1, c1, rfl, T1, hb⟩; have B0 := below_step B0 hb ⟨rfl, rfl, rfl, rfl⟩; clear hb)
      | (go_at_call 10; (with_reducible refine (CR.out _).mono ?_); rintro e w2 ⟨A2, c2, rfl, T2, hb⟩; have T1 := (T1.below hb (Nat.le_refl _)).more hb.size; have B0 := below_step B0 hb ⟨rfl, rfl, rfl, rfl⟩; clear hb)
      | (go_at_call 11; (with_reducible refine (CE2.out _ _ _ _ _ T1 T2).mono ?_); rintro e w1 ⟨rfl, nS, rfl⟩; have B0 : Below w.heap.size w (w2.drewN nS) := ⟨B0.os, B0.tape, B0.output, B0.size, B0.block⟩; clear T1 T2)
      | (go_at_call 12; (with_reducible refine (CB1.out _ (HK.out.below B0 HK.out.lt)).mono ?_); rintro e w1 ⟨rfl, hb⟩; have B0 := below_step B0 hb ⟨rfl, rfl, rfl, rfl⟩; clear hb)
      | (go_at_call 12; (with_reducible refine (CB2.out _ (HK.out.below B0 HK.out.lt)).mono ?_); rintro e w1 ⟨rfl, hb⟩; have B0 := below_step B0 hb ⟨rfl, rfl, rfl, rfl⟩; clear hb)
      | (go_at_call 8; refine (alive_any _ (HK.out.below B0 HK.out.lt)).mono ?_; rintro e w1 ⟨rfl, hb⟩; have B0 := below_step B0 hb ⟨rfl, rfl, rfl, rfl⟩; clear hb))
    go_ret
    exact ⟨rfl, B0⟩
end Go.Proofs.YtnmkinihkgdkgaaDoor
