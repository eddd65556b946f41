/- The walk of sha.Sum. Condition: sizes that a machine has. -/
import Derived.Test.YtgajfbmaoahpgaaDoorShz
namespace Go.Proofs.YtgajfbmaoahpgaaDoor
open Go.RowKit
set_option linter.unusedVariables false

set_option maxRecDepth 100000 in
set_option maxHeartbeats 4000000 in
theorem shaSum_any (s : List UInt8) (w : World) (hK : KT w) (hs : s.length ≤ 1099511627776) :
    Calls Tryd.prog 25 #[str s] w fun e w' => e = .returned (str (sum s)) ∧ Below w.heap.size w w' := by
  have HK := Lib.hid hK
  clear hK
  go_enter Tryd.func25, Tryd.ntmps25
  go_wp2_with fail
  refine (New_any w).mono ?_
  rintro e w1 ⟨rfl, h1, b1⟩
  have HA := Lib.hid (And.intro h1 b1)
  clear h1 b1
  have CW := Lib.hid (Write_any w.heap.size [] s w1 HA.out.1 (HK.out.below HA.out.2 HK.out.lt) (Nat.ne_of_lt HK.out.lt) (by simp; omega))
  go_wp2_with fail
  refine CW.out.mono ?_
  rintro e w2 ⟨rfl, h2, g2⟩
  rw [List.nil_append] at h2
  have b2 : Below w.heap.size w w2 := below_of_grown HA.out.2 g2 (Nat.le_refl _) HA.out.2.size
  have CS := Lib.hid (Sum_any w.heap.size s w2 h2 (HK.out.below b2 HK.out.lt) hs)
  have B2 := Lib.hid b2
  clear h2 g2 b2 CW HA
  go_wp2_with fail
  refine CS.out.mono ?_
  rintro e w3 ⟨rfl, b3⟩
  have B3 := Lib.hid (below_acc B2.out b3)
  clear b3
  go_wp2_with fail
  go_ret
  exact ⟨rfl, B3.out⟩
end Go.Proofs.YtgajfbmaoahpgaaDoor
