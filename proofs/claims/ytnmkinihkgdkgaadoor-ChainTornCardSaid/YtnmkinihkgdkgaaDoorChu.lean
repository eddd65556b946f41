/- The walk of ChainBack. Condition: the table k reads as the standard's numbers. -/
import Derived.Test.YtnmkinihkgdkgaaDoorCht
namespace Go.Proofs.YtnmkinihkgdkgaaDoor
open Go.RowKit
set_option linter.unusedVariables false
set_option linter.unusedSimpArgs false

theorem run_slice_h (l : List UInt8) (h : Nat) (zh : Int) (eh : zh = (h : Int)) (hl : h ≤ l.length) (W : World) :
    (Instr.sliceAt 9 (str l) none (some (.int .i64 zh)) none).run Tryd.prog W = .ok (str (l.take h)) W := by
  subst eh
  have hs : (ByteArray.mk l.toArray).size = l.length := by simp [ByteArray.size]
  rw [run_sliceAt_string W 9 _ _ _ _ Tryd.underlying9, run_slice_string_h W 9 _ Tryd.underlying9 .i64 (h : Int) (by omega) (by rw [hs]; omega)]
  simp [extract_list]
set_option maxRecDepth 100000 in
set_option maxHeartbeats 8000000 in
theorem ChainBack_walk (s : List UInt8) (w : World) (hK : KT w) (h1 : s.length ≤ 9223372036854775807) :
    Calls Tryd.prog 7 #[str s] w fun e w' => e = .returned (.bool true) ∧ Below w.heap.size w w' := by
  have HK := Lib.hid hK
  have B0 : Below w.heap.size w w := Below.refl _ _
  clear hK
  by_cases q1 : 16384 < s.length
  · have d1 : decide ((16384 : Int) < (s.length : Int)) = true := by simp; omega
    go_enter Tryd.func7, Tryd.ntmps7
    go_wp2_with (go_at_call 8; refine (alive_any _ (HK.out.below B0 HK.out.lt)).mono ?_; rintro e w1 ⟨rfl, hb⟩)
    go_ret
    exact ⟨rfl, hb⟩
  have d1 : decide ((16384 : Int) < (s.length : Int)) = false := by simp; omega
  obtain ⟨s1, s2, s3, s4, s5, s6⟩ := sc_is s
  have CS := Lib.hid (fun W hk => Scan_sc s (by omega) W hk)
  have CR := fun W hk => Scan_sc (s.take (sc s).2.2) (by rw [List.length_take]; omega) W hk
  rw [s6] at CR
  have q := run_slice_h s (sc s).2.2 ((sc s).2.2 : Int) rfl s3
  have b9 := bigN_ok _ s2
  have fl : (frs z32 (sc s).1).length ≤ 1099511620000 := by rw [s4, List.length_take]; omega
  have CF := fun A c W hk hT => Frames_ok A c (sc s).1 (by omega) b9 fl W hk hT
  rw [s4, ← s5] at CF
  clear s2 s4 s5 s6 b9 fl
  have CR0 := Lib.hid CR
  have CF0 := Lib.hid CF
  clear CR CF
  generalize hu : s.take (sc s).2.2 = u at q CR0 CF0
  clear hu
  generalize sc s = R at CS CR0 CF0 q s1 s3
  obtain ⟨l, h, n⟩ := R
  simp only at CS CR0 CF0 q s1 s3
  have kb : 0 ≤ (n : Int) ∧ (n : Int) ≤ (s.length : Int) := by omega
  have d2 : decide ((n : Int) < 0) = false := by simp
  have d3 : decide ((s.length : Int) < (n : Int)) = false := by simp; omega
  have CE2 := Lib.hid (fun (A A' : Option Addr) (c c' : Nat) (W : World) (hT : Txt W W.heap.size A l) (hU : Txt W W.heap.size A' l) => Same_any A A' c c' l l (by omega) (by omega) W.heap.size W hT hU)
  rw [show decide (l = l) = true by simp] at CE2
  go_enter Tryd.func7, Tryd.ntmps7
  go_wp2_with (first
    | (go_at_call 9; (with_reducible refine (CS.out _ (HK.out.below B0 HK.out.lt)).mono ?_); rintro e w1 ⟨A1, c1, rfl, T1, hb⟩; have B0 := below_step B0 hb ⟨rfl, rfl, rfl, rfl⟩; clear hb)
    | (go_at_call 14; (with_reducible refine (CF0.out A1 c1 _ (HK.out.below B0 HK.out.lt) T1).mono ?_); rintro e w2 ⟨rfl, hb⟩; have T1 := (T1.below hb (Nat.le_refl _)).more hb.size; have B0 := below_step B0 hb ⟨rfl, rfl, rfl, rfl⟩; clear hb)
    | (go_at_call 9; (with_reducible refine (CR0.out _ (HK.out.below B0 HK.out.lt)).mono ?_); rintro e w3 ⟨A2, c2, rfl, T2, hb⟩; have T1 := (T1.below hb (Nat.le_refl _)).more hb.size; have B0 := below_step B0 hb ⟨rfl, rfl, rfl, rfl⟩; clear hb)
    | (go_at_call 11; (with_reducible refine (CE2.out _ _ _ _ _ T1 T2).mono ?_); rintro e w4 ⟨rfl, nS, rfl⟩; have B0 : Below w.heap.size w (w3.drewN nS) := ⟨B0.os, B0.tape, B0.output, B0.size, B0.block⟩; clear T1 T2)
    | (go_at_call 8; refine (alive_any _ (HK.out.below B0 HK.out.lt)).mono ?_; rintro e w1 ⟨rfl, hb⟩; have B0 := below_step B0 hb ⟨rfl, rfl, rfl, rfl⟩; clear hb))
  go_ret
  exact ⟨rfl, B0⟩
end Go.Proofs.YtnmkinihkgdkgaaDoor
