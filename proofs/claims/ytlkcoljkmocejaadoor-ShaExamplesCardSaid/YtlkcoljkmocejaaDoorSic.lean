/- The walk of ShaExamples. Condition: the table k reads as the standard's numbers. -/
import Derived.Test.YtlkcoljkmocejaaDoorSib
namespace Go.Proofs.YtlkcoljkmocejaaDoor
open Go.RowKit
set_option linter.unusedVariables false

def exText : List UInt8 := [97, 98, 99, 100, 98, 99, 100, 101, 99, 100, 101, 102, 100, 101, 102, 103, 101, 102, 103, 104, 102, 103, 104, 105, 103, 104, 105, 106, 104, 105, 106, 107, 105, 106, 107, 108, 106, 107, 108, 109, 107, 108, 109, 110, 108, 109, 110, 111, 109, 110, 111, 112, 110, 111, 112, 113]
def exH1 : List UInt8 := [101, 51, 98, 48, 99, 52, 52, 50, 57, 56, 102, 99, 49, 99, 49, 52, 57, 97, 102, 98, 102, 52, 99, 56, 57, 57, 54, 102, 98, 57, 50, 52, 50, 55, 97, 101, 52, 49, 101, 52, 54, 52, 57, 98, 57, 51, 52, 99, 97, 52, 57, 53, 57, 57, 49, 98, 55, 56, 53, 50, 98, 56, 53, 53]
def exH2 : List UInt8 := [50, 52, 56, 100, 54, 97, 54, 49, 100, 50, 48, 54, 51, 56, 98, 56, 101, 53, 99, 48, 50, 54, 57, 51, 48, 99, 51, 101, 54, 48, 51, 57, 97, 51, 51, 99, 101, 52, 53, 57, 54, 52, 102, 102, 50, 49, 54, 55, 102, 54, 101, 99, 101, 100, 100, 52, 49, 57, 100, 98, 48, 54, 99, 49]
theorem hex_none : hex (sum []) = exH1 := by kernel_rfl
theorem hex_ex : hex (sum exText) = exH2 := by kernel_rfl

set_option maxRecDepth 100000 in
set_option maxHeartbeats 4000000 in
theorem ShaExamples_walk (w : World) (hK : KT w) : Calls Tryd.prog 4 #[] w fun e w' => e = .returned (.bool true) ∧ Below w.heap.size w w' := by
  have CS := Lib.hid (shaSum_any [] w hK (by simp))
  have HK := Lib.hid hK
  clear hK
  go_enter Tryd.func4, Tryd.ntmps4
  go_wp2_with (first
    | (go_at_call 10; refine (Write_nil _ [97]).mono ?_; rintro e w1 ⟨rfl, rfl⟩)
    | (go_at_call 11; refine (Sum_nil _).mono ?_; rintro e w1 ⟨rfl, rfl⟩)
    | (go_at_call 12; refine (Len_nil _).mono ?_; rintro e w1 ⟨rfl, rfl⟩)
    | (go_at_call 13; refine (Copy_nil _).mono ?_; rintro e w1 ⟨rfl, rfl⟩)
    | fail)
  refine CS.out.mono ?_
  rintro e w1 ⟨rfl, b1⟩
  have B1 := Lib.hid b1
  clear b1 CS
  go_wp2_with fail
  refine (Hex_any (sum []) (by rw [sum_len]; omega) w1).mono ?_
  rintro e w2 ⟨rfl, b2⟩
  rw [hex_none]
  have B2 := Lib.hid (below_acc B1.out b2)
  clear b2 B1
  have e1 : (exH1 == exH1) = true := by simp
  go_wp2_with fail
  refine (shaSum_any exText w2 (HK.out.below B2.out HK.out.lt) (by simp [exText])).mono ?_
  rintro e w3 ⟨rfl, b3⟩
  have B3 := Lib.hid (below_acc B2.out b3)
  clear b3 B2
  go_wp2_with fail
  refine (Hex_any (sum exText) (by rw [sum_len]; omega) w3).mono ?_
  rintro e w4 ⟨rfl, b4⟩
  rw [hex_ex]
  have B4 := Lib.hid (below_acc B3.out b4)
  clear b4 B3
  have e2 : (exH2 == exH2) = true := by simp
  go_wp2_with fail
  refine (alive_any w4 (HK.out.below B4.out HK.out.lt)).mono ?_
  rintro e w5 ⟨rfl, b5⟩
  have B5 := Lib.hid (below_acc B4.out b5)
  clear b5 B4
  go_wp2_with fail
  go_ret
  exact ⟨rfl, B5.out⟩
end Go.Proofs.YtlkcoljkmocejaaDoor
