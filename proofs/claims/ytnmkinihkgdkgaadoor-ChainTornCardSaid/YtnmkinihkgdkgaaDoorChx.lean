/- The walk of ChainFrames. Condition: the table k reads as the standard's numbers. -/
import Derived.Test.YtnmkinihkgdkgaaDoorCha
namespace Go.Proofs.YtnmkinihkgdkgaaDoor
open Go.RowKit
set_option linter.unusedVariables false
set_option linter.unusedSimpArgs false

theorem frsT_cases (ls : List (List UInt8)) : (∃ F H, frsT ls = (F, H, 0)) ∨ frsT ls = ([], [], 5) := by
  unfold frsT
  split
  · exact .inl ⟨_, _, rfl⟩
  · exact .inr rfl

set_option maxRecDepth 100000 in
set_option maxHeartbeats 8000000 in
theorem ChainFrames_walk (link rec : List UInt8) (A : Option Addr) (c : Nat) (ls : List (List UInt8)) (hl : ls.length ≤ 9223372036854775807) (hx : ∀ x ∈ ls, x.length ≤ 9223372036854775807) (w : World) (hK : KT w)
    (h1 : link.length ≤ 9223372036854775807) (h2 : rec.length ≤ 9223372036854775807) (hT : Txt w w.heap.size A ls) :
    Calls Tryd.prog 6 #[str link, str rec, .slice A ls.length c] w fun e w' => e = .returned (.bool true) ∧ Below w.heap.size w w' := by
  have HK := Lib.hid hK
  have L1 := fun W h => long_any A c ls hl hx w.heap.size W h
  have B0 : Below w.heap.size w w := Below.refl _ _
  clear hK hx
  by_cases q1 : 1024 < link.length
  · have d1 : decide ((1024 : Int) < (link.length : Int)) = true := by simp; omega
    clear L1 hT
    go_enter Tryd.func6, Tryd.ntmps6
    go_wp2_with (go_at_call 8; refine (alive_any _ (HK.out.below B0 HK.out.lt)).mono ?_; rintro e w1 ⟨rfl, hb⟩)
    go_ret
    exact ⟨rfl, hb⟩
  have d1 : decide ((1024 : Int) < (link.length : Int)) = false := by simp; omega
  by_cases q2 : 16384 < rec.length
  · have d2 : decide ((16384 : Int) < (rec.length : Int)) = true := by simp; omega
    clear L1 hT
    go_enter Tryd.func6, Tryd.ntmps6
    go_wp2_with (go_at_call 8; refine (alive_any _ (HK.out.below B0 HK.out.lt)).mono ?_; rintro e w1 ⟨rfl, hb⟩)
    go_ret
    exact ⟨rfl, hb⟩
  have d2 : decide ((16384 : Int) < (rec.length : Int)) = false := by simp; omega
  cases hlg : lgB ls
  · rw [hlg] at L1
    obtain ⟨l1, l2, l3⟩ := lgB_false hlg
    have CL := Lib.hid L1
    have CF := Lib.hid (fun A2 c2 W hk h => Frames_any A2 c2 ls hl (by omega) W hk h)
    have CG := Lib.hid (fun W h => refFrames_any A c ls hl l1 (by omega) W h)
    have CR0 := Lib.hid (fun W hk => Frame_any link rec W hk)
    have CN0 := Lib.hid (fun W hk => Next_any link rec W hk)
    have CX := Lib.hid (fun W => refFrame_any link rec (by omega) (by omega) W)
    have CY := Lib.hid (fun W => refNext_any link rec (by omega) W)
    clear L1 hlg l1 l3
    have three : (link.length ≠ 32 ∧ frT link rec = ([], [], 2)) ∨ (link.length = 32 ∧ 8192 < rec.length ∧ frT link rec = ([], [], 5)) ∨ (link.length = 32 ∧ rec.length ≤ 8192 ∧ frT link rec = (text rec ++ nx link rec, nx link rec, 0)) := by
      by_cases a : link.length = 32
      · by_cases b : 8192 < rec.length
        · have e : cE link [rec] = 5 := by rw [cE, if_pos a, bigN, if_pos b]
          exact .inr (.inl ⟨a, b, by rw [frT, e, if_neg (by omega)]⟩)
        · exact .inr (.inr ⟨a, by omega, frT_ok a (by omega)⟩)
      · have e : cE link [rec] = 2 := by rw [cE, if_neg a]
        exact .inl ⟨a, by rw [frT, e, if_neg (by omega)]⟩
    rcases three with ⟨a1, a2⟩ | ⟨a1, a2, a3⟩ | ⟨a1, a2, a3⟩
    · rw [a2] at CR0 CN0
      have d3 : ((link.length : Int) != 32) = true := by simp; omega
      clear a2 CX CY
      have CR := CR0
      have CN := CN0
      rcases frsT_cases ls with ⟨F, H, e⟩ | e
      all_goals
        rw [e] at CF CG
        clear e CR0 CN0
        simp only at CF CG CR CN
        go_enter Tryd.func6, Tryd.ntmps6
        go_wp2_with (first
          | (go_at_call 13; (with_reducible refine (CL.out _ (hT.below B0 (Nat.le_refl _))).mono ?_); rintro e w1 ⟨rfl, rfl⟩)
          | (go_at_call 16; (with_reducible refine (CR.out _ (HK.out.below B0 HK.out.lt)).mono ?_); rintro e w1 ⟨rfl, hb⟩; have B0 := below_step B0 hb ⟨rfl, rfl, rfl, rfl⟩; clear hb)
          | (go_at_call 17; (with_reducible refine (CN.out _ (HK.out.below B0 HK.out.lt)).mono ?_); rintro e w1 ⟨rfl, hb⟩; have B0 := below_step B0 hb ⟨rfl, rfl, rfl, rfl⟩; clear hb)
          | (go_at_call 18; (with_reducible refine (CX.out _).mono ?_); rintro e w1 ⟨rfl, hb⟩; have B0 := below_step B0 hb ⟨rfl, rfl, rfl, rfl⟩; clear hb)
          | (go_at_call 19; (with_reducible refine (CY.out _).mono ?_); rintro e w1 ⟨rfl, hb⟩; have B0 := below_step B0 hb ⟨rfl, rfl, rfl, rfl⟩; clear hb)
          | (at_builtin; refine wpList_append_copy rfl (.const (.slice none 0 0)) (.tmp 102) rfl rfl A c ls rfl rfl ((hT.below B0 (Nat.le_refl _)).more B0.size) (by omega) ?_; intro A2 c2 w2 T2 hb; have B0 := below_step B0 hb ⟨rfl, rfl, rfl, rfl⟩; clear hb)
          | (go_at_call 14; (with_reducible refine (CF.out A2 c2 _ (HK.out.below B0 HK.out.lt) T2).mono ?_); rintro e w1 ⟨rfl, hb⟩; have B0 := below_step B0 hb ⟨rfl, rfl, rfl, rfl⟩; clear hb)
          | (go_at_call 20; (with_reducible refine (CG.out _ ((hT.below B0 (Nat.le_refl _)).more B0.size)).mono ?_); rintro e w1 ⟨rfl, hb⟩; have B0 := below_step B0 hb ⟨rfl, rfl, rfl, rfl⟩; clear hb)
          | (go_at_call 8; refine (alive_any _ (HK.out.below B0 HK.out.lt)).mono ?_; rintro e w1 ⟨rfl, hb⟩; have B0 := below_step B0 hb ⟨rfl, rfl, rfl, rfl⟩; clear hb))
        go_ret
        exact ⟨rfl, B0⟩
    · rw [a3] at CR0 CN0
      have d3 : ((link.length : Int) != 32) = false := by simp; omega
      have d4 : decide ((8192 : Int) < (rec.length : Int)) = true := by simp; omega
      clear a3 CX CY
      have CR := CR0
      have CN := CN0
      rcases frsT_cases ls with ⟨F, H, e⟩ | e
      all_goals
        rw [e] at CF CG
        clear e CR0 CN0
        simp only at CF CG CR CN
        go_enter Tryd.func6, Tryd.ntmps6
        go_wp2_with (first
          | (go_at_call 13; (with_reducible refine (CL.out _ (hT.below B0 (Nat.le_refl _))).mono ?_); rintro e w1 ⟨rfl, rfl⟩)
          | (go_at_call 16; (with_reducible refine (CR.out _ (HK.out.below B0 HK.out.lt)).mono ?_); rintro e w1 ⟨rfl, hb⟩; have B0 := below_step B0 hb ⟨rfl, rfl, rfl, rfl⟩; clear hb)
          | (go_at_call 17; (with_reducible refine (CN.out _ (HK.out.below B0 HK.out.lt)).mono ?_); rintro e w1 ⟨rfl, hb⟩; have B0 := below_step B0 hb ⟨rfl, rfl, rfl, rfl⟩; clear hb)
          | (go_at_call 18; (with_reducible refine (CX.out _).mono ?_); rintro e w1 ⟨rfl, hb⟩; have B0 := below_step B0 hb ⟨rfl, rfl, rfl, rfl⟩; clear hb)
          | (go_at_call 19; (with_reducible refine (CY.out _).mono ?_); rintro e w1 ⟨rfl, hb⟩; have B0 := below_step B0 hb ⟨rfl, rfl, rfl, rfl⟩; clear hb)
          | (at_builtin; refine wpList_append_copy rfl (.const (.slice none 0 0)) (.tmp 102) rfl rfl A c ls rfl rfl ((hT.below B0 (Nat.le_refl _)).more B0.size) (by omega) ?_; intro A2 c2 w2 T2 hb; have B0 := below_step B0 hb ⟨rfl, rfl, rfl, rfl⟩; clear hb)
          | (go_at_call 14; (with_reducible refine (CF.out A2 c2 _ (HK.out.below B0 HK.out.lt) T2).mono ?_); rintro e w1 ⟨rfl, hb⟩; have B0 := below_step B0 hb ⟨rfl, rfl, rfl, rfl⟩; clear hb)
          | (go_at_call 20; (with_reducible refine (CG.out _ ((hT.below B0 (Nat.le_refl _)).more B0.size)).mono ?_); rintro e w1 ⟨rfl, hb⟩; have B0 := below_step B0 hb ⟨rfl, rfl, rfl, rfl⟩; clear hb)
          | (go_at_call 8; refine (alive_any _ (HK.out.below B0 HK.out.lt)).mono ?_; rintro e w1 ⟨rfl, hb⟩; have B0 := below_step B0 hb ⟨rfl, rfl, rfl, rfl⟩; clear hb))
        go_ret
        exact ⟨rfl, B0⟩
    · rw [a3] at CR0 CN0
      have d3 : ((link.length : Int) != 32) = false := by simp; omega
      have d4 : decide ((8192 : Int) < (rec.length : Int)) = false := by simp; omega
      clear a3
      have CR := CR0
      have CN := CN0
      rcases frsT_cases ls with ⟨F, H, e⟩ | e
      all_goals
        rw [e] at CF CG
        clear e CR0 CN0
        simp only at CF CG CR CN
        generalize text rec ++ nx link rec = fx at CR CX
        generalize nx link rec = nh at CR CN CY
        go_enter Tryd.func6, Tryd.ntmps6
        go_wp2_with (first
          | (go_at_call 13; (with_reducible refine (CL.out _ (hT.below B0 (Nat.le_refl _))).mono ?_); rintro e w1 ⟨rfl, rfl⟩)
          | (go_at_call 16; (with_reducible refine (CR.out _ (HK.out.below B0 HK.out.lt)).mono ?_); rintro e w1 ⟨rfl, hb⟩; have B0 := below_step B0 hb ⟨rfl, rfl, rfl, rfl⟩; clear hb)
          | (go_at_call 17; (with_reducible refine (CN.out _ (HK.out.below B0 HK.out.lt)).mono ?_); rintro e w1 ⟨rfl, hb⟩; have B0 := below_step B0 hb ⟨rfl, rfl, rfl, rfl⟩; clear hb)
          | (go_at_call 18; (with_reducible refine (CX.out _).mono ?_); rintro e w1 ⟨rfl, hb⟩; have B0 := below_step B0 hb ⟨rfl, rfl, rfl, rfl⟩; clear hb)
          | (go_at_call 19; (with_reducible refine (CY.out _).mono ?_); rintro e w1 ⟨rfl, hb⟩; have B0 := below_step B0 hb ⟨rfl, rfl, rfl, rfl⟩; clear hb)
          | (at_builtin; refine wpList_append_copy rfl (.const (.slice none 0 0)) (.tmp 102) rfl rfl A c ls rfl rfl ((hT.below B0 (Nat.le_refl _)).more B0.size) (by omega) ?_; intro A2 c2 w2 T2 hb; have B0 := below_step B0 hb ⟨rfl, rfl, rfl, rfl⟩; clear hb)
          | (go_at_call 14; (with_reducible refine (CF.out A2 c2 _ (HK.out.below B0 HK.out.lt) T2).mono ?_); rintro e w1 ⟨rfl, hb⟩; have B0 := below_step B0 hb ⟨rfl, rfl, rfl, rfl⟩; clear hb)
          | (go_at_call 20; (with_reducible refine (CG.out _ ((hT.below B0 (Nat.le_refl _)).more B0.size)).mono ?_); rintro e w1 ⟨rfl, hb⟩; have B0 := below_step B0 hb ⟨rfl, rfl, rfl, rfl⟩; clear hb)
          | (go_at_call 8; refine (alive_any _ (HK.out.below B0 HK.out.lt)).mono ?_; rintro e w1 ⟨rfl, hb⟩; have B0 := below_step B0 hb ⟨rfl, rfl, rfl, rfl⟩; clear hb))
        go_ret
        exact ⟨rfl, B0⟩
  · rw [hlg] at L1
    have CL := Lib.hid L1
    clear L1 hlg
    go_enter Tryd.func6, Tryd.ntmps6
    go_wp2_with (first
      | (go_at_call 13; (with_reducible refine (CL.out _ (hT.below B0 (Nat.le_refl _))).mono ?_); rintro e w1 ⟨rfl, rfl⟩)
      | (go_at_call 8; refine (alive_any _ (HK.out.below B0 HK.out.lt)).mono ?_; rintro e w1 ⟨rfl, hb⟩))
    go_ret
    exact ⟨rfl, hb⟩
end Go.Proofs.YtnmkinihkgdkgaaDoor
