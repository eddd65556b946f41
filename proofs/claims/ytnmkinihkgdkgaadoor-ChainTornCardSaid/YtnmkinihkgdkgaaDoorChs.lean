/- The walk of chain's steps. Condition: none. (The iterator's contract comes next: see NOTES, CHAIN.) -/
import Derived.Test.YtnmkinihkgdkgaaDoorChr
namespace Go.Proofs.YtnmkinihkgdkgaaDoor
open Go.RowKit
set_option linter.unusedVariables false

theorem steps_any (s : List UInt8) (w : World) :
    Calls Tryd.prog 23 #[str s] w fun e w' => e = .returned (.func (.func 33) #[] #[.pointer (some ⟨w.heap.size, 0, none⟩)]) ∧
      w' = w.alloc (.cells #[str s] 9 (0, 0)) := by
  go_enter Tryd.func23, Tryd.ntmps23
  go_wp2_with fail
  go_ret
  exact ⟨rfl, rfl⟩
end Go.Proofs.YtnmkinihkgdkgaaDoor
