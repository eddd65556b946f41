/- What the row's condition on the table sha.k gives: KT; and that the door's own heap meets it. No condition. -/
import Derived.Test.YtnmkinihkgdkgaaDoorRows
import Derived.Test.YtnmkinihkgdkgaaDoorSht
import Derived.ProofKit
import Derived.LaidMore
import Derived.Lib.LaidTab
import Derived.Stop.Joined
namespace Go.Proofs.YtnmkinihkgdkgaaDoor
open Go.ChangeShapes Go.WideShapes Go.ChangeAt Go.RowKit
set_option linter.unusedVariables false

abbrev laidK : List (String × DataW Unit) := [("chirograph/sha.k", Rows.laid_chirograph_sha_k)]
def kInts : List Int := kws.map fun x => (x.toNat : Int)
theorem laidK_eq : laidK = [("chirograph/sha.k", Lib.tabData .u32 kInts)] := by kernel_rfl
set_option maxRecDepth 100000 in
theorem kt_of_laid {W : World} (h : laidMetH Tryd.prog laidK W) : KT W := by
  rw [MakeChecks.laidMetH_plain _ _ _ (by kernel_rfl), laidK_eq] at h
  have ht := Lib.tabIs_of_head (P := Tryd.prog) (t := 68) (n := 64) (g := 0) (by kernel_rfl) (by kernel_rfl) Tryd.underlying68 Tryd.underlying56 (by kernel_rfl) (by kernel_rfl) h
  intro i hi
  have hk : kInts.length = 64 := by kernel_rfl
  have := ht.cell (g := 0) (by kernel_rfl) i (by rw [hk]; exact hi)
  rw [this]
  have hl : kws.length = 64 := by kernel_rfl
  simp [kInts, wv, wat, hl, hi]
set_option maxRecDepth 100000 in
theorem door_met (os : Os) (args : Array Value) : laidMetH Tryd.prog laidK ((World.doorLaid Tryd.prog 400 os).forCall (fun _ _ => 0) ⟨#[], args, []⟩).memory :=
  laidMetH_of_parts3 (fuel := 8) (laidMet_of_run' 8 (by kernel_rfl) (by kernel_rfl)) (by kernel_rfl) (by kernel_rfl)
end Go.Proofs.YtnmkinihkgdkgaaDoor
