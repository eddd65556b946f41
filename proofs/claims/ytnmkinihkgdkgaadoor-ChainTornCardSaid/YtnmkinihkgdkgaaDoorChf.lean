/- The walks of chain's Frames, the reference's Frames, and of the law's long and alive. Condition: the table k reads as the standard's numbers; sizes that a machine has. -/
import Derived.Test.YtnmkinihkgdkgaaDoorChv
namespace Go.Proofs.YtnmkinihkgdkgaaDoor
open Go.RowKit
set_option linter.unusedVariables false
set_option linter.unusedSimpArgs false

theorem frT_ok {l x : List UInt8} (hl : l.length = 32) (hx : x.length ≤ 8192) : frT l x = (text x ++ nx l x, nx l x, 0) := by
  rw [frT, if_pos (by rw [cE, if_pos hl, bigN, if_neg (by omega)]; rfl)]
theorem frs_take_le (l : List UInt8) (ls : List (List UInt8)) (i : Nat) : (frs l (ls.take i)).length ≤ (frs l ls).length := by
  have : frs l ls = frs l (ls.take i) ++ frs (hd l (ls.take i)) (ls.drop i) := by rw [← frs_app, List.take_append_drop]
  rw [this, List.length_append]; omega
theorem z32_len : z32.length = 32 := by simp [z32]

set_option maxRecDepth 100000 in
set_option maxHeartbeats 4000000 in
theorem Frames_ok (A : Option Addr) (c : Nat) (ls : List (List UInt8)) (hl : ls.length ≤ 9223372036854775807) (hb : bigN ls = 0) (hf : (frs z32 ls).length ≤ 1099511620000) (w : World) (hK : KT w) (hT : Txt w w.heap.size A ls) :
    Calls Tryd.prog 14 #[.slice A ls.length c] w fun e w' => e = .returned (.tuple #[str (frs z32 ls), str (hd z32 ls), .int .i64 0]) ∧ Below w.heap.size w w' := by
  have HK := Lib.hid hK
  have CF := Lib.hid (fun W => First_any W)
  have CC : Hid (∀ W, Txt W w.heap.size A ls → Calls Tryd.prog 26 #[str z32, .slice A ls.length c] W fun e w' => e = .returned (.int .i64 0) ∧ W = w') := fun W h => by
    have := check_any z32 A c ls hl w.heap.size W h
    rwa [cE, if_pos z32_len, hb] at this
  have HB := Lib.hid (bigN_zero hb)
  have HF := Lib.hid hf
  have hz := z32_len
  clear hK hb hf
  go_enter Tryd.func14, Tryd.ntmps14
  go_wp2_with (first
    | (go_at_call 21; (with_reducible refine (CF.out _).mono ?_); rintro e w1 ⟨rfl, b1⟩; have B1 := Lib.hid b1; clear b1)
    | (go_at_call 26; (with_reducible refine (CC.out _ (hT.below B1.out (Nat.le_refl _))).mono ?_); rintro e w2 ⟨rfl, rfl⟩))
  go_loopw [2, 3, 18] (fun f h k wr => ∃ i : Nat, i ≤ ls.length ∧ f = str (frs z32 (ls.take i)) ∧ h = str (hd z32 (ls.take i)) ∧ k = .int .i64 i ∧ Hid (Below w.heap.size w wr)) (fun _ _ k _ => ls.length - (intOf k).toNat)
  case atStart => exact ⟨0, by omega, rfl, rfl, rfl, B1.out⟩
  case round =>
    obtain ⟨i, hi, rfl, rfl, rfl, hB⟩ := hrel
    clear B1 CC CF
    by_cases hk : i < ls.length
    · obtain ⟨b, o, rfl, hbB, hcl⟩ := hT i hk
      have g := (hB.out.cell (p := ⟨b, o + i, none⟩) hbB).trans hcl
      have hx := HB.out _ (List.getElem_mem hk)
      have hh := hd_len (ls.take i) z32 hz
      have e1 := frs_snoc (ls.take i) ls[i] z32
      have e2 := hd_snoc (ls.take i) ls[i] z32
      have hle := frs_take_le z32 ls (i + 1)
      have hF := HF.out
      rw [List.take_succ_eq_append_getElem hk] at hle
      have E1 : Hid (frs z32 (ls.take (i + 1)) = frs z32 (ls.take i) ++ (text ls[i] ++ nx (hd z32 (ls.take i)) ls[i]) ∧ hd z32 (ls.take (i + 1)) = nx (hd z32 (ls.take i)) ls[i]) := by
        rw [List.take_succ_eq_append_getElem hk]; exact ⟨e1, e2⟩
      rw [e1] at hle
      clear e1 e2 hT hcl
      generalize frs z32 (ls.take i) = fr at E1 hle ⊢
      generalize hd z32 (ls.take i) = h at E1 hle hh ⊢
      generalize ls[i] = x at E1 hle g hx
      have CR : Hid (∀ W, KT W → Calls Tryd.prog 16 #[str h, str x] W fun e w' => e = .returned (.tuple #[str (text x ++ nx h x), str (nx h x), .int .i64 0]) ∧ Below W.heap.size W w') := fun W hk => by
        have := Frame_any h x W hk
        rwa [frT_ok hh hx] at this
      have hK2 := Lib.hid (HK.out.below hB.out HK.out.lt)
      have hle2 : fr.length + (text x ++ nx h x).length ≤ 1099511620000 := by rw [List.length_append] at hle; omega
      generalize hfx : text x ++ nx h x = fx at CR E1 hle2
      generalize nx h x = nh at CR E1
      have sa := str_add (P := Tryd.prog) fr fx (by omega)
      clear hfx hle
      go_wp2_with (go_at_call 16; (with_reducible refine (CR.out _ hK2.out).mono ?_); rintro e w1 ⟨rfl, b1⟩; have B1 := Lib.hid (below_acc hB.out b1); clear b1)
      go_roundw
      case rel => exact ⟨i + 1, by omega, by rw [E1.out.1], by rw [E1.out.2], by go_num, B1.out⟩
      case measure => simp [intOf]; omega
    · have he : ls.take i = ls := List.take_of_length_le (by omega)
      rw [he]
      clear hT HB HF
      go_wp2_with fail
      go_ret3
      exact ⟨rfl, hB.out⟩

set_option maxRecDepth 100000 in
set_option maxHeartbeats 4000000 in
theorem Frames_no (A : Option Addr) (c : Nat) (ls : List (List UInt8)) (hl : ls.length ≤ 9223372036854775807) (hb : bigN ls = 5) (w : World) (hT : Txt w w.heap.size A ls) :
    Calls Tryd.prog 14 #[.slice A ls.length c] w fun e w' => e = .returned (.tuple #[str [], str [], .int .i64 5]) ∧ Below w.heap.size w w' := by
  have CF := Lib.hid (fun W => First_any W)
  have CC : Hid (∀ W, Txt W w.heap.size A ls → Calls Tryd.prog 26 #[str z32, .slice A ls.length c] W fun e w' => e = .returned (.int .i64 5) ∧ W = w') := fun W h => by
    have := check_any z32 A c ls hl w.heap.size W h
    rwa [cE, if_pos z32_len, hb] at this
  clear hb
  go_enter Tryd.func14, Tryd.ntmps14
  go_wp2_with (first
    | (go_at_call 21; (with_reducible refine (CF.out _).mono ?_); rintro e w1 ⟨rfl, b1⟩; have B1 := Lib.hid b1; clear b1)
    | (go_at_call 26; (with_reducible refine (CC.out _ (hT.below B1.out (Nat.le_refl _))).mono ?_); rintro e w2 ⟨rfl, rfl⟩))
  go_ret3
  exact ⟨rfl, B1.out⟩

def frsT (ls : List (List UInt8)) : List UInt8 × List UInt8 × Nat := if bigN ls = 0 then (frs z32 ls, hd z32 ls, 0) else ([], [], 5)
theorem Frames_any (A : Option Addr) (c : Nat) (ls : List (List UInt8)) (hl : ls.length ≤ 9223372036854775807) (hf : (frs z32 ls).length ≤ 1099511620000) (w : World) (hK : KT w) (hT : Txt w w.heap.size A ls) :
    Calls Tryd.prog 14 #[.slice A ls.length c] w fun e w' => e = .returned (.tuple #[str (frsT ls).1, str (frsT ls).2.1, .int .i64 ((frsT ls).2.2 : Int)]) ∧ Below w.heap.size w w' := by
  rcases bigN_is ls with h | h
  · rw [frsT, if_pos h]; exact Frames_ok A c ls hl h hf w hK hT
  · rw [frsT, if_neg (by omega)]; exact Frames_no A c ls hl h w hT
end Go.Proofs.YtnmkinihkgdkgaaDoor
