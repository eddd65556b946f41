/- The walk of NameTells. Condition: none. -/
import Derived.Test.YtdmlfggokbmapaaNre
import Derived.Test.YtdmlfggokbmapaaNmc
namespace Go.Proofs.Ytdmlfggokbmapaa
open Go.RowKit
set_option linter.unusedVariables false
set_option linter.unusedSimpArgs false

set_option maxRecDepth 100000 in
set_option maxHeartbeats 8000000 in
theorem NameTells_walk (s : List UInt8) (r : Int) (hr : -2147483648 ≤ r ∧ r ≤ 2147483647) (hs : s.length ≤ 9223372036854775807) (w : World) :
    Calls Try.prog 3 #[str s, .int .i32 r] w fun e w' => e = .returned (.bool true) ∧ Below w.heap.size w w' := by
  have B0 : Below w.heap.size w (w.alloc (.cells #[str s] 9 (0, 0))) := (Below.refl _ w).alloc (Nat.le_refl _) _
  have CL : Calls Try.prog 7 #[.slice (some ⟨w.heap.size, 0, none⟩) 1 1] (w.alloc (.cells #[str s] 9 (0, 0))) fun e w' => e = .returned (.bool ([s].any fun x => decide (1024 < x.length))) ∧ w.alloc (.cells #[str s] 9 (0, 0)) = w' :=
    long_any (some ⟨w.heap.size, 0, none⟩) 1 [s] (by simp) (by simp [hs]) (w.heap.size + 1) _ (txt_new w [s])
  have CV := Lib.hid (fun W => alive_any W)
  cases hL : ([s].any fun x => decide (1024 < x.length))
  · rw [hL] at CL
    have HL := Lib.hid CL
    clear CL
    have la : s.length ≤ 100000 := by
      simp only [List.any_cons, List.any_nil, Bool.or_false, Bool.or_eq_false_iff, decide_eq_false_iff_not] at hL
      omega
    clear hL
    have S1 := fun W => Skeleton_any s la W
    have S2 := fun W => refSkeleton_any s la W
    have K1 := fun W => Check_any s (by omega) W
    have K2 := fun W => refCheck_any s la W
    have P1 := fun W => Script_any s (by omega) W
    have P2 := fun W => refScript_any s la W
    have L1 := fun W => Look_any r hr W
    have L2 := fun W => refLook_any r W
    generalize skel s = x at S1 S2
    generalize ck s = n at S1 S2 K1 K2
    generalize (firstP s).1 = p at P1 P2
    generalize lk r = q at L1 L2
    have HS1 := Lib.hid S1
    have HS2 := Lib.hid S2
    have HK1 := Lib.hid K1
    have HK2 := Lib.hid K2
    have HP1 := Lib.hid P1
    have HP2 := Lib.hid P2
    have HL1 := Lib.hid L1
    have HL2 := Lib.hid L2
    clear S1 S2 K1 K2 P1 P2 L1 L2
    go_enter Try.func3, Try.ntmps3
    go_wp2_with (first
      | (go_at_call 7; (with_reducible refine HL.out.mono ?_); rintro e w1 ⟨rfl, rfl⟩)
      | (go_at_call 9; (with_reducible refine (HS1.out _).mono ?_); rintro e w2 ⟨rfl, hb⟩; have B0 := below_step B0 hb ⟨rfl, rfl, rfl, rfl⟩; clear hb)
      | (go_at_call 10; (with_reducible refine (HS2.out _).mono ?_); rintro e w2 ⟨rfl, hb⟩; have B0 := below_step B0 hb ⟨rfl, rfl, rfl, rfl⟩; clear hb)
      | (go_at_call 11; (with_reducible refine (HK1.out _).mono ?_); rintro e w2 ⟨rfl, hb⟩; have B0 := below_step B0 hb ⟨rfl, rfl, rfl, rfl⟩; clear hb)
      | (go_at_call 12; (with_reducible refine (HK2.out _).mono ?_); rintro e w2 ⟨rfl, hb⟩; have B0 := below_step B0 hb ⟨rfl, rfl, rfl, rfl⟩; clear hb)
      | (go_at_call 13; (with_reducible refine (HP1.out _).mono ?_); rintro e w2 ⟨rfl, hb⟩; have B0 := below_step B0 hb ⟨rfl, rfl, rfl, rfl⟩; clear hb)
      | (go_at_call 14; (with_reducible refine (HP2.out _).mono ?_); rintro e w2 ⟨rfl, hb⟩; have B0 := below_step B0 hb ⟨rfl, rfl, rfl, rfl⟩; clear hb)
      | (go_at_call 15; (with_reducible refine (HL1.out _).mono ?_); rintro e w2 ⟨rfl, hb⟩; have B0 := below_step B0 hb ⟨rfl, rfl, rfl, rfl⟩; clear hb)
      | (go_at_call 16; (with_reducible refine (HL2.out _).mono ?_); rintro e w2 ⟨rfl, rfl⟩)
      | (go_at_call 8; (with_reducible refine (CV.out _).mono ?_); rintro e w2 ⟨rfl, hb⟩; have B0 := below_step B0 hb ⟨rfl, rfl, rfl, rfl⟩; clear hb))
    go_ret
    exact ⟨rfl, B0⟩
  · rw [hL] at CL
    have HL := Lib.hid CL
    clear CL hL
    go_enter Try.func3, Try.ntmps3
    go_wp2_with (first
      | (go_at_call 7; refine HL.out.mono ?_; rintro e w1 ⟨rfl, rfl⟩)
      | (go_at_call 8; refine (CV.out _).mono ?_; rintro e w2 ⟨rfl, hb⟩; have B0 := below_step B0 hb ⟨rfl, rfl, rfl, rfl⟩; clear hb))
    go_ret
    exact ⟨rfl, B0⟩
end Go.Proofs.Ytdmlfggokbmapaa
