/- The walks of the law's alive, ShaSums, ShaExamples. Condition: the table k reads as the standard's numbers. -/
import Derived.Test.YtlkcoljkmocejaaDoorSia
import Derived.Test.YtlkcoljkmocejaaDoorShx
import Derived.Test.YtlkcoljkmocejaaDoorShs
namespace Go.Proofs.YtlkcoljkmocejaaDoor
open Go.RowKit
set_option linter.unusedVariables false

def aliveH : List UInt8 := [98, 97, 55, 56, 49, 54, 98, 102, 56, 102, 48, 49, 99, 102, 101, 97, 52, 49, 52, 49, 52, 48, 100, 101, 53, 100, 97, 101, 50, 50, 50, 51, 98, 48, 48, 51, 54, 49, 97, 51, 57, 54, 49, 55, 55, 97, 57, 99, 98, 52, 49, 48, 102, 102, 54, 49, 102, 50, 48, 48, 49, 53, 97, 100]
theorem hex_abc : hex (sum [97, 98, 99]) = aliveH := by kernel_rfl
theorem KT.drewN {W : World} (h : KT W) (n : Nat) : KT (W.drewN n) := h.heap rfl

set_option maxRecDepth 100000 in
set_option maxHeartbeats 4000000 in
theorem alive_any (w : World) (hK : KT w) : Calls Tryd.prog 7 #[] w fun e w' => e = .returned (.bool true) ∧ Below w.heap.size w w' := by
  have CS := Lib.hid (shaSum_any [97, 98, 99] w hK (by simp))
  go_enter Tryd.func7, Tryd.ntmps7
  go_wp2_with (first
    | (go_at_call 8; refine CS.out.mono ?_; rintro e w1 ⟨rfl, b1⟩; have CX := Lib.hid (Hex_any (sum [97, 98, 99]) (by rw [sum_len]; omega) w1))
    | (go_at_call 14; refine CX.out.mono ?_; rintro e w2 ⟨rfl, b2⟩; rw [hex_abc]))
  have e : (aliveH == aliveH) = true := by simp
  go_ret
  exact ⟨congrArg (fun b => Ending.returned (Value.bool b)) e, below_acc b1 b2⟩

set_option maxRecDepth 100000 in
set_option maxHeartbeats 4000000 in
theorem ShaSums_walk (s : List UInt8) (w : World) (hK : KT w) (hsm : s.length ≤ 9223372036854775807) : Calls Tryd.prog 3 #[str s] w fun e w' => e = .returned (.bool true) ∧ Below w.heap.size w w' := by
  by_cases hs : s.length ≤ 8192
  · have CS := Lib.hid (shaSum_any s w hK (by omega))
    have HK := Lib.hid hK
    clear hK
    have d1 : decide (8192 < (s.length : Int)) = false := by simp; omega
    go_enter Tryd.func3, Tryd.ntmps3
    go_wp2_with (first
      | (go_at_call 8; refine CS.out.mono ?_; rintro e w1 ⟨rfl, b1⟩; have B1 := Lib.hid b1; have CX := Lib.hid (refSum_any s (by omega) w1); clear b1)
      | (go_at_call 9; refine CX.out.mono ?_; rintro e w2 ⟨rfl, b2⟩; have B2 := Lib.hid (below_acc B1.out b2); have CA := Lib.hid (alive_any w2 (HK.out.below B2.out HK.out.lt)); clear b2)
      | (go_at_call 7; refine CA.out.mono ?_; rintro e w3 ⟨rfl, b3⟩; have B3 := Lib.hid (below_acc B2.out b3); clear b3))
    go_ret
    exact ⟨rfl, B3.out⟩
  · have CA := Lib.hid (alive_any w hK)
    have d1 : decide (8192 < (s.length : Int)) = true := by simp; omega
    clear hK
    go_enter Tryd.func3, Tryd.ntmps3
    go_wp2_with (first
      | (go_at_call 7; refine CA.out.mono ?_; rintro e w3 ⟨rfl, b3⟩))
    go_ret
    exact ⟨rfl, b3⟩
end Go.Proofs.YtlkcoljkmocejaaDoor
