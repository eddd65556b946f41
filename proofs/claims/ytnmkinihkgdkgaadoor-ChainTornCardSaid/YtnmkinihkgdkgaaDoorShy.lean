/- The walks of New and Copy of a sha.Hash. Condition: sizes that a machine has. -/
import Derived.Test.YtnmkinihkgdkgaaDoorShv
namespace Go.Proofs.YtnmkinihkgdkgaaDoor
open Go.RowKit
set_option linter.unusedVariables false

def iniC : Array Value := hcells init.list (List.replicate 64 0) 0
theorem hash_new (W : World) : HashAt (W.alloc (.cells iniC 74 (0, 0))) W.heap.size [] := by
  refine ⟨List.replicate 64 0, ⟨?_, rfl, by simp⟩, ?_⟩
  · rw [List.length_nil, Nat.zero_div, hs_zero]
    exact heap_alloc_new W _
  · unfold WaitOk; simp

set_option maxRecDepth 100000 in
set_option maxHeartbeats 4000000 in
theorem New_any (w : World) :
    Calls Tryd.prog 37 #[] w fun e w' => e = .returned (.pointer (some ⟨w.heap.size, 0, none⟩)) ∧ HashAt w' w.heap.size [] ∧ Below w.heap.size w w' := by
  have HF := Lib.hid (hash_new w)
  go_enter Tryd.func37, Tryd.ntmps37
  go_wp2_with (first
    | (refine wpList_build_to rfl 57 _ rfl (init.list.map wv).toArray (by kernel_rfl) ?_)
    | (refine wpList_build_to rfl 74 _ rfl iniC (by kernel_rfl) ?_))
  go_ret
  exact ⟨rfl, HF.out, (Below.refl _ w).alloc (Nat.le_refl _) _⟩
theorem Write_nil (w : World) (s : List UInt8) :
    Calls Tryd.prog 38 #[.pointer none, str s] w fun e w' => e = .returned (.tuple #[]) ∧ w = w' := by
  go_enter Tryd.func38, Tryd.ntmps38
  go_wp2_with fail
  refine bodyPost_ret (results_none rfl _ _ _) rfl ?_
  exact ⟨rfl, rfl⟩
theorem Sum_nil (w : World) :
    Calls Tryd.prog 39 #[.pointer none] w fun e w' => e = .returned (str []) ∧ w = w' := by
  go_enter Tryd.func39, Tryd.ntmps39
  go_wp2_with fail
  go_ret
  exact ⟨rfl, rfl⟩
theorem Copy_nil (w : World) :
    Calls Tryd.prog 47 #[.pointer none] w fun e w' => e = .returned (.pointer none) ∧ w = w' := by
  go_enter Tryd.func47, Tryd.ntmps47
  go_wp2_with fail
  go_ret
  exact ⟨rfl, rfl⟩
theorem size_hash (l : List UInt32) (wait : List UInt8) (n : Nat) (h8 : l.length = 8) (hw : wait.length = 64) : (Tryd.prog.info? 74).map (·.size) = some (hcells l wait n).size := by
  have : (hcells l wait n).size = 73 := by simp [hcells, byc_len, h8, hw]
  rw [this]; show _ = _; kernel_rfl
theorem one_hash (l : List UInt32) (wait : List UInt8) (n : Nat) : (hcells l wait n).all (·.oneCell') = true := by
  rw [Array.all_eq_true_iff_forall_mem]
  intro x hx
  simp only [hcells, List.mem_toArray, List.mem_append, List.mem_map, byc, List.mem_singleton] at hx
  rcases hx with (⟨y, _, rfl⟩ | ⟨y, _, rfl⟩) | rfl <;> rfl
def zerC : Array Value := hcells (List.replicate 8 0) (List.replicate 64 0) 0
set_option maxRecDepth 100000 in
set_option maxHeartbeats 4000000 in
theorem Copy_any (g : Nat) (t : List UInt8) (w : World) (h : HashAt w g t) :
    Calls Tryd.prog 47 #[.pointer (some ⟨g, 0, none⟩)] w fun e w' => e = .returned (.pointer (some ⟨w.heap.size, 0, none⟩)) ∧ HashAt w' w.heap.size t ∧ Below w.heap.size w w' := by
  obtain ⟨wait, hH, hO⟩ := h
  have HH := Lib.hid hH
  have HO := Lib.hid hO
  clear hH hO
  generalize hl : (hs t (t.length / 64)).list = l at HH
  have HL := Lib.hid hl
  clear hl
  go_enter Tryd.func47, Tryd.ntmps47
  have hz : ∀ W, (zeroValue 74).run Tryd.prog W = .ok (.agg zerC) W := fun W => by show _ = _; kernel_rfl
  go_wp2_with (first
    | (refine wpList_load_row rfl 74 _ rfl g (by rfl) 74 _ (0, 0) _ HH.out.row Tryd.underlying74 rfl (size_hash _ _ _ HH.out.l8 HH.out.w64) ?_)
    | (refine wpList_store_put rfl 74 _ _ rfl w.heap.size (hcells l wait t.length) (by rfl) (by rfl) 74 zerC (heap_alloc_new w _) (size_hash _ _ _ HH.out.l8 HH.out.w64) (by simp [zerC, hcells, byc_len, HH.out.l8, HH.out.w64]) (one_hash _ _ _) ?_; intro W2 P2))
  go_ret
  exact ⟨rfl, ⟨wait, by rw [HL.out]; exact ⟨P2.here, HH.out.l8, HH.out.w64⟩, HO.out⟩, P2.below ((Below.refl _ w).alloc (Nat.le_refl _) _) (Nat.le_refl _)⟩
end Go.Proofs.YtnmkinihkgdkgaaDoor
