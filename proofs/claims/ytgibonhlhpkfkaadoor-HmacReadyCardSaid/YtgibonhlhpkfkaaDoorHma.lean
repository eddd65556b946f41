/- The walks of the law's alive, HmacSums, HmacSame. Condition: the table k reads as the standard's numbers. -/
import Derived.Test.YtgibonhlhpkfkaaDoorHmt
import Derived.Test.YtgibonhlhpkfkaaDoorHmu
import Derived.Test.YtgibonhlhpkfkaaDoorShx
namespace Go.Proofs.YtgibonhlhpkfkaaDoor
open Go.RowKit
set_option linter.unusedVariables false

def jefe : List UInt8 := [74, 101, 102, 101]
def whatDo : List UInt8 := [119, 104, 97, 116, 32, 100, 111, 32, 121, 97, 32, 119, 97, 110, 116, 32, 102, 111, 114, 32, 110, 111, 116, 104, 105, 110, 103, 63]
def jefeH : List UInt8 := [53, 98, 100, 99, 99, 49, 52, 54, 98, 102, 54, 48, 55, 53, 52, 101, 54, 97, 48, 52, 50, 52, 50, 54, 48, 56, 57, 53, 55, 53, 99, 55, 53, 97, 48, 48, 51, 102, 48, 56, 57, 100, 50, 55, 51, 57, 56, 51, 57, 100, 101, 99, 53, 56, 98, 57, 54, 52, 101, 99, 51, 56, 52, 51]
theorem hex_jefe : hex (hm jefe whatDo) = jefeH := by kernel_rfl
set_option maxRecDepth 100000 in
set_option maxHeartbeats 8000000 in
theorem alive_any (w : World) (hK : KT w) : Calls Tryd.prog 8 #[] w fun e w' => e = .returned (.bool true) ∧ Below w.heap.size w w' := by
  have CS := Lib.hid (hSum_any jefe whatDo w hK (by simp [jefe]) (by simp [whatDo]))
  clear hK
  go_enter Tryd.func8, Tryd.ntmps8
  go_wp2_with fail
  refine CS.out.mono ?_
  rintro e w1 ⟨rfl, b1⟩
  have B1 := Lib.hid b1
  clear b1 CS
  go_wp2_with fail
  refine (Hex_any (hm jefe whatDo) (by rw [hm_len]; omega) w1).mono ?_
  rintro e w2 ⟨rfl, b2⟩
  rw [hex_jefe]
  have B2 := Lib.hid (below_acc B1.out b2)
  clear b2 B1
  have e1 : (jefeH == jefeH) = true := by simp
  go_wp2_with fail
  refine (hSame_any [97, 98] [97, 98] w2 (by simp) (by simp)).mono ?_
  rintro e w3 ⟨rfl, b3⟩
  have B3 := Lib.hid (below_acc B2.out b3)
  clear b3 B2
  have e2 : (([97, 98] : List UInt8) == [97, 98]) = true := by decide
  rw [e2]
  go_wp2_with fail
  refine (hSame_any [97, 98] [97, 99] w3 (by simp) (by simp)).mono ?_
  rintro e w4 ⟨rfl, b4⟩
  have B4 := Lib.hid (below_acc B3.out b4)
  clear b4 B3
  have e3 : (([97, 98] : List UInt8) == [97, 99]) = false := by decide
  rw [e3]
  go_wp2_with fail
  go_ret
  exact ⟨rfl, B4.out⟩
theorem alive_on (w W : World) (hK : KT w) (hb : Below w.heap.size w W) : Calls Tryd.prog 8 #[] W fun e w' => e = .returned (.bool true) ∧ Below w.heap.size w w' :=
  (alive_any W (hK.below hb hK.lt)).mono fun e w' ⟨h1, h2⟩ => ⟨h1, below_acc hb h2⟩

set_option maxRecDepth 100000 in
set_option maxHeartbeats 8000000 in
theorem HmacSums_walk (key s : List UInt8) (w : World) (hK : KT w) (hk : key.length ≤ 9223372036854775807) (hs : s.length ≤ 9223372036854775807) :
    Calls Tryd.prog 3 #[str key, str s] w fun e w' => e = .returned (.bool true) ∧ Below w.heap.size w w' := by
  have CA0 := Lib.hid (alive_any w hK)
  by_cases h1 : key.length ≤ 4096
  · have d1 : decide (4096 < (key.length : Int)) = false := by simp; omega
    by_cases h2 : s.length ≤ 8192
    · have d2 : decide (8192 < (s.length : Int)) = false := by simp; omega
      have CS := Lib.hid (hSum_any key s w hK (by omega) (by omega))
      have HK := Lib.hid hK
      clear hK CA0
      go_enter Tryd.func3, Tryd.ntmps3
      go_wp2_with fail
      refine CS.out.mono ?_
      rintro e w1 ⟨rfl, b1⟩
      have B1 := Lib.hid b1
      clear b1 CS
      go_wp2_with fail
      refine (refHm_any key s (by omega) (by omega) w1).mono ?_
      rintro e w2 ⟨rfl, b2⟩
      have B2 := Lib.hid (below_acc B1.out b2)
      clear b2 B1
      generalize hm key s = t
      go_wp2_with fail
      refine (alive_on w w2 HK.out B2.out).mono ?_
      rintro e w3 ⟨rfl, b3⟩
      have B3 := Lib.hid b3
      clear b3 B2
      go_wp2_with fail
      go_ret
      exact ⟨rfl, B3.out⟩
    · have d2 : decide (8192 < (s.length : Int)) = true := by simp; omega
      clear hK
      go_enter Tryd.func3, Tryd.ntmps3
      go_wp2_with (first | (go_at_call 8; refine CA0.out.mono ?_; rintro e w3 ⟨rfl, b3⟩))
      go_ret
      exact ⟨rfl, b3⟩
  · have d1 : decide (4096 < (key.length : Int)) = true := by simp; omega
    clear hK
    go_enter Tryd.func3, Tryd.ntmps3
    go_wp2_with (first | (go_at_call 8; refine CA0.out.mono ?_; rintro e w3 ⟨rfl, b3⟩))
    go_ret
    exact ⟨rfl, b3⟩

set_option maxRecDepth 100000 in
set_option maxHeartbeats 8000000 in
theorem HmacSame_walk (a b : List UInt8) (w : World) (hK : KT w) (ha : a.length ≤ 9223372036854775807) (hb : b.length ≤ 9223372036854775807) :
    Calls Tryd.prog 7 #[str a, str b] w fun e w' => e = .returned (.bool true) ∧ Below w.heap.size w w' := by
  have CA0 := Lib.hid (alive_any w hK)
  by_cases h1 : a.length ≤ 8192
  · have d1 : decide (8192 < (a.length : Int)) = false := by simp; omega
    by_cases h2 : b.length ≤ 8192
    · have d2 : decide (8192 < (b.length : Int)) = false := by simp; omega
      have CS := Lib.hid (hSame_any a b w ha hb)
      have HK := Lib.hid hK
      clear hK CA0
      go_enter Tryd.func7, Tryd.ntmps7
      go_wp2_with fail
      refine CS.out.mono ?_
      rintro e w1 ⟨rfl, b1⟩
      have B1 := Lib.hid b1
      clear b1 CS
      have eq1 : ((a == b) == (a == b)) = true := by simp
      go_wp2_with fail
      refine (hSame_any a a w1 ha ha).mono ?_
      rintro e w2 ⟨rfl, b2⟩
      have B2 := Lib.hid (below_acc B1.out b2)
      clear b2 B1
      have eq2 : (a == a) = true := by simp
      rw [eq2]
      go_wp2_with fail
      refine (alive_on w w2 HK.out B2.out).mono ?_
      rintro e w3 ⟨rfl, b3⟩
      have B3 := Lib.hid b3
      clear b3 B2
      go_wp2_with fail
      go_ret
      exact ⟨rfl, B3.out⟩
    · have d2 : decide (8192 < (b.length : Int)) = true := by simp; omega
      clear hK
      go_enter Tryd.func7, Tryd.ntmps7
      go_wp2_with (first | (go_at_call 8; refine CA0.out.mono ?_; rintro e w3 ⟨rfl, b3⟩))
      go_ret
      exact ⟨rfl, b3⟩
  · have d1 : decide (8192 < (a.length : Int)) = true := by simp; omega
    clear hK
    go_enter Tryd.func7, Tryd.ntmps7
    go_wp2_with (first | (go_at_call 8; refine CA0.out.mono ?_; rintro e w3 ⟨rfl, b3⟩))
    go_ret
    exact ⟨rfl, b3⟩
end Go.Proofs.YtgibonhlhpkfkaaDoor
