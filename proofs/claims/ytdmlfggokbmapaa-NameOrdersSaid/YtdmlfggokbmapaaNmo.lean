/- The walks of law05's alive, and of NameClash. Condition: none. -/
import Derived.Test.YtdmlfggokbmapaaNmn
namespace Go.Proofs.Ytdmlfggokbmapaa
open Go.RowKit
set_option linter.unusedVariables false
set_option linter.unusedSimpArgs false

abbrev kotT : List UInt8 := [208, 186, 208, 190, 209, 130]
abbrev kotL : List UInt8 := [107, 111, 116]
theorem v1 : (firstP [97, 99, 109, 101]).1 = 1 := by decide +kernel
theorem v2 : ck [206, 177, 99] = 50 := by decide +kernel
theorem v3 : ck [97, 45] = 7 := by decide +kernel
theorem v4 : skel kotT = kotL := by decide +kernel
theorem v5 : ck kotT = 0 := by decide +kernel
theorem v6 : clash kotT kotL = true := by decide +kernel
theorem v7 : clash kotL kotL = false := by decide +kernel
theorem v8 : ck [50, 45, 51] = 0 := by decide +kernel
theorem v9 : (firstP [50, 45, 51]).1 = 0 := by decide +kernel

set_option maxRecDepth 100000 in
set_option maxHeartbeats 4000000 in
theorem alive_any (w : World) : Calls Try.prog 8 #[] w fun e w' => e = .returned (.bool true) ∧ Below w.heap.size w w' := by
  have C1 : Hid (∀ W, Calls Try.prog 9 #[str kotT] W fun e w' => e = .returned (.tuple #[str kotL, .int .i64 0]) ∧ Below W.heap.size W w') := fun W => by
    have := Skeleton_any kotT (by decide) W
    rwa [v4, v5] at this
  have C2 : Hid (∀ W, Calls Try.prog 13 #[str [97, 99, 109, 101]] W fun e w' => e = .returned (.int .u8 1) ∧ Below W.heap.size W w') := fun W => by
    have := Script_any [97, 99, 109, 101] (by decide) W
    rwa [v1] at this
  have C3 : Hid (∀ W, Calls Try.prog 11 #[str [206, 177, 99]] W fun e w' => e = .returned (.int .i64 50) ∧ Below W.heap.size W w') := fun W => by
    have := Check_any [206, 177, 99] (by decide) W
    rwa [v2] at this
  have C4 : Hid (∀ W, Calls Try.prog 11 #[str [97, 45]] W fun e w' => e = .returned (.int .i64 7) ∧ Below W.heap.size W w') := fun W => by
    have := Check_any [97, 45] (by decide) W
    rwa [v3] at this
  have C5 : Hid (∀ W, Calls Try.prog 17 #[str kotT, str kotL] W fun e w' => e = .returned (.bool true) ∧ Below W.heap.size W w') := fun W => by
    have := Clash_any kotT kotL (by decide) (by decide) W
    rwa [v6] at this
  have C6 : Hid (∀ W, Calls Try.prog 17 #[str kotL, str kotL] W fun e w' => e = .returned (.bool false) ∧ Below W.heap.size W w') := fun W => by
    have := Clash_any kotL kotL (by decide) (by decide) W
    rwa [v7] at this
  have C7 : Hid (∀ W, Calls Try.prog 11 #[str [50, 45, 51]] W fun e w' => e = .returned (.int .i64 0) ∧ Below W.heap.size W w') := fun W => by
    have := Check_any [50, 45, 51] (by decide) W
    rwa [v8] at this
  have C8 : Hid (∀ W, Calls Try.prog 13 #[str [50, 45, 51]] W fun e w' => e = .returned (.int .u8 0) ∧ Below W.heap.size W w') := fun W => by
    have := Script_any [50, 45, 51] (by decide) W
    rwa [v9] at this
  have B0 : Below w.heap.size w w := Below.refl _ _
  go_enter Try.func8, Try.ntmps8
  go_wp2_with (first
    | (go_at_call 9; (with_reducible refine (C1.out _).mono ?_); rintro e w1 ⟨rfl, hb⟩; have B0 := below_step B0 hb ⟨rfl, rfl, rfl, rfl⟩; clear hb)
    | (go_at_call 13; (with_reducible refine (C2.out _).mono ?_); rintro e w1 ⟨rfl, hb⟩; have B0 := below_step B0 hb ⟨rfl, rfl, rfl, rfl⟩; clear hb)
    | (go_at_call 13; (with_reducible refine (C8.out _).mono ?_); rintro e w1 ⟨rfl, hb⟩; have B0 := below_step B0 hb ⟨rfl, rfl, rfl, rfl⟩; clear hb)
    | (go_at_call 11; (with_reducible refine (C3.out _).mono ?_); rintro e w1 ⟨rfl, hb⟩; have B0 := below_step B0 hb ⟨rfl, rfl, rfl, rfl⟩; clear hb)
    | (go_at_call 11; (with_reducible refine (C4.out _).mono ?_); rintro e w1 ⟨rfl, hb⟩; have B0 := below_step B0 hb ⟨rfl, rfl, rfl, rfl⟩; clear hb)
    | (go_at_call 11; (with_reducible refine (C7.out _).mono ?_); rintro e w1 ⟨rfl, hb⟩; have B0 := below_step B0 hb ⟨rfl, rfl, rfl, rfl⟩; clear hb)
    | (go_at_call 17; (with_reducible refine (C5.out _).mono ?_); rintro e w1 ⟨rfl, hb⟩; have B0 := below_step B0 hb ⟨rfl, rfl, rfl, rfl⟩; clear hb)
    | (go_at_call 17; (with_reducible refine (C6.out _).mono ?_); rintro e w1 ⟨rfl, hb⟩; have B0 := below_step B0 hb ⟨rfl, rfl, rfl, rfl⟩; clear hb))
  go_ret
  exact ⟨rfl, B0⟩
end Go.Proofs.Ytdmlfggokbmapaa
