/- The walks of the laws of layer 14: the chapter's example, and DiskStops. Condition: the numbers fit. -/
import Derived.Test.YtnbdkabffdaikaaDsks
import Derived.Test.YtnbdkabffdaikaaTxt
namespace Go.Proofs.Ytnbdkabffdaikaa
open Go.RowKit
set_option linter.unusedVariables false

theorem below_of_grown {w w1 w2 : World} {g : Nat} (h : Below w.heap.size w w1) (hg : w1.grownBy w2 (some g)) (hb : w.heap.size ≤ g) : Below w.heap.size w w2 :=
  h.grown hg h.size (fun k e => by cases e; exact hb)
theorem new_disk (w : World) (room : Int) : DiskAt (w.alloc (.cells (dcells none 0 0 ⟨[], 0, false, false, 0, room⟩) 53)) w.heap.size ⟨[], 0, false, false, 0, room⟩ :=
  ⟨none, 0, heap_alloc_new w _, by simp, by simp [maxLen], fun i hi => by simp at hi⟩
theorem synced_str (l : List UInt8) : str l = Value.string ⟨l.toArray⟩ := rfl

theorem New_fresh (room : Int) (h0 : 0 ≤ room) (h1 : room ≤ 1048576) (w : World) :
    Calls Try.prog 8 #[.int .i64 room] w fun e w' => e = .returned (.tuple #[.pointer (some ⟨w.heap.size, 0, none⟩), .int .i64 0]) ∧ DiskAt w' w.heap.size ⟨[], 0, false, false, 0, room⟩ ∧ Below w.heap.size w w' :=
  (New_good room h0 h1 w).mono fun e w' ⟨he, hw⟩ => ⟨he, by rw [hw]; exact new_disk w room, by rw [hw]; exact (Below.refl _ _).alloc (Nat.le_refl _) _⟩

set_option maxHeartbeats 2000000 in
theorem alive_any (w : World) : Calls Try.prog 7 #[] w fun e w' => e = .returned (.bool true) ∧ Below w.heap.size w w' := by
  have C0 := fun W => New_fresh 4 (by omega) (by omega) W
  have a1 : appendS ⟨[], 0, false, false, 0, 4⟩ [97, 98, 99] = (⟨[97, 98, 99], 0, false, false, 0, 4⟩, 0) := by simp [appendS]
  have a2 : appendS ⟨[97, 98, 99], 0, false, false, 0, 4⟩ [100, 101] = (⟨[97, 98, 99], 0, false, false, 0, 4⟩, 4) := by simp [appendS]
  have a3 : syncS ⟨[97, 98, 99], 0, false, false, 0, 4⟩ = (⟨[97, 98, 99], 3, false, false, 0, 4⟩, 0) := by simp [syncS]
  have a4 : appendS ⟨[97, 98, 99], 3, false, false, 0, 4⟩ [100] = (⟨[97, 98, 99, 100], 3, false, false, 0, 4⟩, 0) := by simp [appendS]
  have a5 : crashS ⟨[97, 98, 99, 100], 3, false, false, 0, 4⟩ 0 = ⟨[97, 98, 99], 3, false, false, 0, 4⟩ := by simp [crashS, crashN]
  have C1 := fun W g h => Append_any g ⟨[], 0, false, false, 0, 4⟩ [97, 98, 99] W h (by simp) (by simp) (by simp) (by simp)
  have C2 := fun W g h => Append_any g ⟨[97, 98, 99], 0, false, false, 0, 4⟩ [100, 101] W h (by simp) (by simp) (by simp) (by simp)
  have C3 := fun W g h => Sync_any g ⟨[97, 98, 99], 0, false, false, 0, 4⟩ W h (by simp)
  have C4 := fun W g h => Append_any g ⟨[97, 98, 99], 3, false, false, 0, 4⟩ [100] W h (by simp) (by simp) (by simp) (by simp)
  have C5 := fun W g h => Crash_any g ⟨[97, 98, 99, 100], 3, false, false, 0, 4⟩ 0 W h (by simp) (by simp) (by omega)
  have C6 := fun W g h => Bytes_any g ⟨[97, 98, 99], 3, false, false, 0, 4⟩ W h
  have C7 := fun W g h => Room_any g ⟨[97, 98, 99], 3, false, false, 0, 4⟩ W h (by simp) (by simp)
  rw [a1] at C1; rw [a2] at C2; rw [a3] at C3; rw [a4] at C4; rw [a5] at C5
  have H0 := Lib.hid C0; have H1 := Lib.hid C1; have H2 := Lib.hid C2; have H3 := Lib.hid C3; have H4 := Lib.hid C4; have H5 := Lib.hid C5; have H6 := Lib.hid C6; have H7 := Lib.hid C7
  clear a1 a2 a3 a4 a5 C0 C1 C2 C3 C4 C5 C6 C7
  go_enter Try.func7, Try.ntmps7
  go_wp2_with fail
  refine (H0.out _).mono ?_
  rintro e w1 ⟨rfl, D, B⟩
  go_wp2_with fail
  refine (H1.out _ _ D).mono ?_
  rintro e w2 ⟨rfl, D2, G⟩
  have B2 := below_of_grown B G (Nat.le_refl _)
  clear G D B
  go_wp2_with fail
  refine (H2.out _ _ D2).mono ?_
  rintro e w3 ⟨rfl, D3, G⟩
  have B3 := below_of_grown B2 G (Nat.le_refl _)
  clear G D2 B2
  go_wp2_with fail
  refine (H3.out _ _ D3).mono ?_
  rintro e w4 ⟨rfl, D4, G⟩
  have B4 := below_of_grown B3 G (Nat.le_refl _)
  clear G D3 B3
  go_wp2_with fail
  refine (H4.out _ _ D4).mono ?_
  rintro e w5 ⟨rfl, D5, G⟩
  have B5 := below_of_grown B4 G (Nat.le_refl _)
  clear G D4 B4
  go_wp2_with fail
  refine (H5.out _ _ D5).mono ?_
  rintro e w6 ⟨rfl, D6, G⟩
  have B6 := below_of_grown B5 G (Nat.le_refl _)
  clear G D5 B5
  go_wp2_with fail
  refine (H6.out _ _ D6).mono ?_
  rintro e w7 ⟨rfl, rfl⟩
  go_wp2_with fail
  refine (H7.out _ _ D6).mono ?_
  rintro e w8 ⟨rfl, n, rfl⟩
  go_wp2_with fail
  go_ret
  exact ⟨rfl, below_drewN B6 n⟩
end Go.Proofs.Ytnbdkabffdaikaa
