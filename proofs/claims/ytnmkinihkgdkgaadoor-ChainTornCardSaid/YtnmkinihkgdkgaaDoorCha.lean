/- The walk of the law's alive. Condition: the table k reads as the standard's numbers. -/
import Derived.Test.YtnmkinihkgdkgaaDoorChg
namespace Go.Proofs.YtnmkinihkgdkgaaDoor
open Go.RowKit
set_option linter.unusedVariables false
set_option linter.unusedSimpArgs false

abbrev abcT : List UInt8 := [97, 98, 99]
theorem text_abc : text abcT = [3, 97, 98, 99] := by simp [text, num]

set_option maxRecDepth 100000 in
set_option maxHeartbeats 4000000 in
theorem alive_any (w : World) (hK : KT w) : Calls Tryd.prog 8 #[] w fun e w' => e = .returned (.bool true) ∧ Below w.heap.size w w' := by
  have HK := Lib.hid hK
  have hz := z32_len
  have hn := nx_len z32 abcT
  have C0 : Hid (∀ W, KT W → Calls Tryd.prog 14 #[.slice none 0 0] W fun e w' => e = .returned (.tuple #[str [], str z32, .int .i64 0]) ∧ Below W.heap.size W w') := fun W hk =>
    Frames_ok none 0 [] (by simp) rfl (by simp [frs]) W hk (fun i hi => by simp at hi)
  have C1 : Hid (∀ W, Calls Tryd.prog 21 #[] W fun e w' => e = .returned (str z32) ∧ Below W.heap.size W w') := fun W => First_any W
  have C2 : Hid (∀ W, KT W → Calls Tryd.prog 16 #[str z32, str abcT] W fun e w' => e = .returned (.tuple #[str ([3, 97, 98, 99] ++ nx z32 abcT), str (nx z32 abcT), .int .i64 0]) ∧ Below W.heap.size W w') := fun W hk => by
    have := Frame_any z32 abcT W hk
    rwa [frT_ok hz (by simp), text_abc] at this
  have C3 : Hid (∀ W, Calls Tryd.prog 22 #[str (z32 ++ abcT)] W fun e w' => e = .returned (str (nx z32 abcT)) ∧ Below W.heap.size W w') := fun W => refSum_any (z32 ++ abcT) (by simp [z32]) W
  have mk := zero32
  have cv := fun W => conv_32 (W.alloc (.cells (byc z32).toArray 5 (0, 0))) W.heap.size z32 _ hz (heap_alloc_new W _)
  have s1 := str_add (P := Tryd.prog) z32 abcT (by rw [hz]; decide)
  generalize nx z32 abcT = d at C2 C3 hn
  have s2 := str_add (P := Tryd.prog) [3, 97, 98, 99] d (by rw [hn]; decide)
  simp only [List.cons_append, List.nil_append] at s2 C2
  generalize z32 = z at *
  have B0 : Below w.heap.size w w := Below.refl _ w
  clear hK
  go_enter Tryd.func8, Tryd.ntmps8
  go_wp2_with (first
    | (go_at_call 14; (with_reducible refine (C0.out _ (HK.out.below B0 HK.out.lt)).mono ?_); rintro e w1 ⟨rfl, hb⟩; have B0 := below_step B0 hb ⟨rfl, rfl, rfl, rfl⟩; clear hb)
    | (go_at_call 21; (with_reducible refine (C1.out _).mono ?_); rintro e w1 ⟨rfl, hb⟩; have B0 := below_step B0 hb ⟨rfl, rfl, rfl, rfl⟩; clear hb)
    | (go_at_call 16; refine (C2.out _ (HK.out.below B0 HK.out.lt)).mono ?_; rintro e w1 ⟨rfl, hb⟩; have B0 := below_step B0 hb ⟨rfl, rfl, rfl, rfl⟩; clear hb)
    | (go_at_call 22; refine (C3.out _).mono ?_; rintro e w1 ⟨rfl, hb⟩; have B0 := below_acc (B0.alloc B0.size _) hb; clear hb))
  go_ret
  exact ⟨rfl, B0⟩
end Go.Proofs.YtnmkinihkgdkgaaDoor
