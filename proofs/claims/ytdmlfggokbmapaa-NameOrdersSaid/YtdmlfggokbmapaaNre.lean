/- The walks of the reference's Script, Skeleton, Clash, Order. Condition: sizes that a machine has. -/
import Derived.Test.YtdmlfggokbmapaaNrd
namespace Go.Proofs.Ytdmlfggokbmapaa
open Go.RowKit
set_option linter.unusedVariables false
set_option linter.unusedSimpArgs false

set_option maxRecDepth 100000 in
set_option maxHeartbeats 4000000 in
theorem refScript_any (l : List UInt8) (hl : l.length ≤ 100000) (w : World) :
    Calls Try.prog 14 #[str l] w fun e w' => e = .returned (.int .u8 ((firstP l).1 : Int)) ∧ Below w.heap.size w w' := by
  have CC := Lib.hid (fun W => refCheck_any l hl W)
  have CR := Runes_any l hl w
  have hrl := rn_len l
  have hs := sp_is l
  generalize rn l = x at CR hrl hs
  have CR2 : Hid (Calls Try.prog 24 #[str l] w fun e w' => ∃ A c, e = .returned (.slice A x.length c) ∧ Rns w' A x ∧ Below w.heap.size w w') := CR.mono (by
    rintro e w' ⟨v, rfl, hR, hb⟩
    obtain ⟨A, c, rfl, hT⟩ := hR.txt
    exact ⟨A, c, rfl, hT, hb⟩)
  clear CR
  generalize (firstP l).1 = p at hs ⊢
  have SC := Lib.hid (fun r W => script_any r W)
  by_cases h0 : ck l = 0
  · rw [if_pos h0] at hs
    rw [h0] at CC
    have HS := Lib.hid hs
    clear hs h0
    go_enter Try.func14, Try.ntmps14
    go_wp2_with (go_at_call 24; refine CR2.out.mono ?_; rintro e w1 ⟨A, c, rfl, hT, hb⟩; have BB := Lib.hid (And.intro hT hb); clear hb hT)
    clear CR2
    go_loopw [4] (fun k wr => ∃ i : Nat, i ≤ x.length ∧ Hid (fst0 x = fst0 (x.drop i) ∧ Below w1.heap.size w1 wr) ∧ k = .int .i64 (i : Int)) (fun k _ => x.length - (intOf k).toNat)
    case atStart => exact ⟨0, by omega, ⟨rfl, Below.refl _ _⟩, rfl⟩
    case round =>
      obtain ⟨i, hi, hI, rfl⟩ := hrel
      by_cases hlt : i < x.length
      · obtain ⟨b, o, hA, hbl, hc⟩ := BB.out.1 i hlt
        subst hA
        have hd := hI.out.1
        rw [List.drop_eq_getElem_cons hlt, fst0] at hd
        have d0 : decide ((i : Int) < (x.length : Int)) = true := by simp; omega
        have kb : 0 ≤ (i : Int) ∧ (i : Int) < (x.length : Int) := by omega
        generalize x[i] = r at hc hd
        have SX := Lib.hid (fun W => SC.out r W)
        generalize kd r = k at SX hd
        by_cases hk : k = 0
        · subst hk
          have HD : Hid (fst0 x = fst0 (x.drop (i + 1))) := by
            show fst0 x = _
            rw [hd]; simp
          clear hd
          go_wp2_with (first
            | (go_at_call 12; (with_reducible refine (CC.out _).mono ?_); rintro e w2 ⟨rfl, hb⟩; have B2 := Lib.hid (below_acc hI.out.2 hb); have c2 := (B2.out.cell (p := ⟨b, o + i, none⟩) hbl).trans hc; clear hb)
            | (go_at_call 25; (with_reducible refine (SX.out _).mono ?_); rintro e w3 ⟨rfl, rfl⟩))
          go_roundw
          case rel => exact ⟨i + 1, by omega, ⟨HD.out, B2.out⟩, by go_num⟩
          case measure => simp [intOf]; omega
        · have HD : Hid (p = k) := by
            show p = k
            rw [HS.out, hd, if_pos hk]
          have d1 : ((k : Int) != 0) = true := by rw [bne_iff_ne]; omega
          clear hd
          go_wp2_with (first
            | (go_at_call 12; (with_reducible refine (CC.out _).mono ?_); rintro e w2 ⟨rfl, hb⟩; have B2 := Lib.hid (below_acc hI.out.2 hb); have c2 := (B2.out.cell (p := ⟨b, o + i, none⟩) hbl).trans hc; clear hb)
            | (go_at_call 25; (with_reducible refine (SX.out _).mono ?_); rintro e w3 ⟨rfl, rfl⟩))
          go_ret
          exact ⟨by rw [HD.out]; rfl, below_acc BB.out.2 B2.out⟩
      · have HD : Hid (p = 0) := by
          show p = 0
          rw [HS.out, hI.out.1, List.drop_of_length_le (by omega)]; rfl
        have d0 : decide ((i : Int) < (x.length : Int)) = false := by simp; omega
        go_wp2_with fail
        go_ret
        exact ⟨by rw [HD.out]; rfl, below_acc BB.out.2 hI.out.2⟩
  · rw [if_neg h0] at hs
    subst hs
    have d1 : ((ck l : Int) == 0) = false := by rw [beq_eq_false_iff_ne]; omega
    generalize ck l = n at CC d1
    clear h0
    go_enter Try.func14, Try.ntmps14
    go_wp2_with (go_at_call 24; refine CR2.out.mono ?_; rintro e w1 ⟨A, c, rfl, hT, hb⟩; have BB := Lib.hid hb; clear hb hT)
    refine wp_loop_rounds 1 ?_
    rw [rounds_succ]
    by_cases hn : 0 < x.length
    · have d0 : decide ((0 : Int) < (x.length : Int)) = true := by simp; omega
      have hne : ¬ x.length = 0 := by omega
      go_wp2_with (go_at_call 12; (with_reducible refine (CC.out _).mono ?_); rintro e w2 ⟨rfl, hb⟩; have B2 := Lib.hid (below_acc BB.out hb); clear hb)
      go_ret
      exact ⟨rfl, B2.out⟩
    · have hx : x = [] := List.eq_nil_of_length_eq_zero (by omega)
      subst hx
      go_wp2_with fail
      go_ret
      exact ⟨rfl, BB.out⟩
theorem refSkeleton_any (l : List UInt8) (hl : l.length ≤ 100000) (w : World) :
    Calls Try.prog 10 #[str l] w fun e w' => e = .returned (.tuple #[str (skel l), .int .i64 (ck l : Int)]) ∧ Below w.heap.size w w' := by
  have CC := Lib.hid (refCheck_any l hl w)
  have CL := Lib.hid (fun W => Looks_any l hl W)
  by_cases h0 : ck l = 0
  · have e1 : skel l = enc (lks l) := by rw [skel, if_pos h0]
    rw [h0] at CC
    rw [e1, h0]
    generalize lks l = x at CL
    clear e1 h0
    go_enter Try.func10, Try.ntmps10
    go_wp2_with (first
      | (go_at_call 12; refine CC.out.mono ?_; rintro e w1 ⟨rfl, hb⟩; have BB := Lib.hid hb; clear hb)
      | (go_at_call 22; refine (CL.out _).mono ?_; rintro e w2 ⟨v, rfl, hR, hb⟩; have cv := conv_runes hR; have B2 := Lib.hid (below_acc BB.out hb); clear hb hR))
    go_ret2
    exact ⟨rfl, B2.out⟩
  · have e1 : skel l = [] := by rw [skel, if_neg h0]
    rw [e1]
    have d1 : ((ck l : Int) != 0) = true := by rw [bne_iff_ne]; omega
    generalize ck l = n at CC d1 h0
    clear e1 CL
    go_enter Try.func10, Try.ntmps10
    go_wp2_with (go_at_call 12; refine CC.out.mono ?_; rintro e w1 ⟨rfl, hb⟩; have BB := Lib.hid hb; clear hb)
    go_ret2
    exact ⟨rfl, BB.out⟩
end Go.Proofs.Ytdmlfggokbmapaa
