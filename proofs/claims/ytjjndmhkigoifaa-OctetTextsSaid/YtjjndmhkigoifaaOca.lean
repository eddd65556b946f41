/- The walk of the law's alive (layer 1). No condition. -/
import Derived.Test.YtjjndmhkigoifaaOcty
import Derived.Test.YtjjndmhkigoifaaOrd
namespace Go.Proofs.Ytjjndmhkigoifaa
open Go.RowKit

theorem num_0 : num (Int.toNat 0) = [0] := by simp [num]
theorem num_247 : num (Int.toNat 247) = [247] := by simp [num]
theorem num_248 : num (Int.toNat 248) = [248, 248] := by
  have : dig 248 = [248] := by rw [dig_pos (by omega), show 248 / 256 = 0 from rfl, dig_zero]; rfl
  simp [num, this]
theorem num_256 : num (Int.toNat 256) = [249, 1, 0] := by
  have : dig 256 = [1, 0] := by rw [dig_pos (by omega), show 256 / 256 = 1 from rfl, dig_pos (by omega), show 1 / 256 = 0 from rfl, dig_zero]; rfl
  simp [num, this]

theorem rt_1 : readText [2, 97, 98, 99] 2 = ([97, 98], 3, 0) := by simp [readText, readNum]; omega
theorem rt_2 : readText [2, 97, 98, 99] 1 = ([], 0, 5) := by simp [readText, readNum]; omega
theorem rt_3 : readText [2, 97] 2 = ([], 0, 6) := by simp [readText, readNum]; omega

set_option maxRecDepth 20000 in
set_option maxHeartbeats 1000000 in
theorem alive_any (w : World) : Calls Try.prog 5 #[] w fun e w' => e = .returned (.bool true) ∧ Below w.heap.size w w' := by
  have c0 := fun W => Num_any 0 W (by omega) (by omega)
  have c1 := fun W => Num_any 247 W (by omega) (by omega)
  have c2 := fun W => Num_any 248 W (by omega) (by omega)
  have c3 := fun W => Num_any 256 W (by omega) (by omega)
  have r0 := fun W => ReadNum_any [249, 1] (by simp) W
  have r1 := fun W => ReadNum_any [249, 0, 9] (by simp) W
  have r2 := fun W => ReadNum_any [248, 7] (by simp) W
  have r3 := fun W => ReadNum_any [9, 8] (by simp) W
  have t0 := fun W => ReadText_any [2, 97, 98, 99] (by simp) 2 (by omega) W
  have t1 := fun W => ReadText_any [2, 97, 98, 99] (by simp) 1 (by omega) W
  have t2 := fun W => ReadText_any [2, 97] (by simp) 2 (by omega) W
  rw [num_0] at c0; rw [num_247] at c1; rw [num_248] at c2; rw [num_256] at c3
  rw [rt_1] at t0; rw [rt_2] at t1; rw [rt_3] at t2
  have e0 : readNum [249, 1] = (0, 0, 6) := by simp [readNum]
  have e1 : readNum [249, 0, 9] = (0, 0, 7) := by simp [readNum]
  have e2 : readNum [248, 7] = (0, 0, 7) := by simp [readNum, val]
  have e3 : readNum [9, 8] = (9, 1, 0) := by simp [readNum]
  rw [e0] at r0; rw [e1] at r1; rw [e2] at r2; rw [e3] at r3
  clear e0 e1 e2 e3
  have C0 := Lib.hid c0; have C1 := Lib.hid c1; have C2 := Lib.hid c2; have C3 := Lib.hid c3
  have R0 := Lib.hid r0; have R1 := Lib.hid r1; have R2 := Lib.hid r2; have R3 := Lib.hid r3
  have T0 := Lib.hid t0; have T1 := Lib.hid t1; have T2 := Lib.hid t2
  clear c0 c1 c2 c3 r0 r1 r2 r3 t0 t1 t2
  go_enter Try.func5, Try.ntmps5
  go_wp2_with (first
    | (go_at_call 15; (with_reducible refine (C0.out _).mono ?_); rintro e w0 ⟨rfl, hb0⟩)
    | (go_at_call 15; (with_reducible refine (C1.out _).mono ?_); rintro e w1 ⟨rfl, hb1⟩)
    | (go_at_call 15; (with_reducible refine (C2.out _).mono ?_); rintro e w2 ⟨rfl, hb2⟩)
    | (go_at_call 15; (with_reducible refine (C3.out _).mono ?_); rintro e w3 ⟨rfl, hb3⟩)
    | (go_at_call 16; (with_reducible refine (R0.out _).mono ?_); rintro e w9 ⟨rfl, rfl⟩)
    | (go_at_call 16; (with_reducible refine (R1.out _).mono ?_); rintro e w9 ⟨rfl, rfl⟩)
    | (go_at_call 16; (with_reducible refine (R2.out _).mono ?_); rintro e w9 ⟨rfl, rfl⟩)
    | (go_at_call 16; (with_reducible refine (R3.out _).mono ?_); rintro e w9 ⟨rfl, rfl⟩)
    | (go_at_call 8; (with_reducible refine (T0.out _).mono ?_); rintro e w9 ⟨rfl, rfl⟩)
    | (go_at_call 8; (with_reducible refine (T1.out _).mono ?_); rintro e w9 ⟨rfl, rfl⟩)
    | (go_at_call 8; (with_reducible refine (T2.out _).mono ?_); rintro e w9 ⟨rfl, rfl⟩))
  go_ret
  exact ⟨rfl, hb0.trans ((hb1.mono hb0.size).trans ((hb2.mono (Nat.le_trans hb0.size hb1.size)).trans (hb3.mono (Nat.le_trans (Nat.le_trans hb0.size hb1.size) hb2.size))))⟩
end Go.Proofs.Ytjjndmhkigoifaa
