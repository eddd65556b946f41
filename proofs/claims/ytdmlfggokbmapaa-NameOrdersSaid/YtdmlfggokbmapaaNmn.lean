/- The walks of name's Check, Script, Skeleton, Clash, and of the laws' long, alive. Condition: sizes that a machine has. -/
import Derived.Test.YtdmlfggokbmapaaNmm
namespace Go.Proofs.Ytdmlfggokbmapaa
open Go.RowKit
set_option linter.unusedVariables false
set_option linter.unusedSimpArgs false

theorem Check_any (l : List UInt8) (hl : l.length ≤ 9223372036854775807) (w : World) :
    Calls Try.prog 11 #[str l] w fun e w' => e = .returned (.int .i64 (ck l : Int)) ∧ Below w.heap.size w w' := by
  have CF := Lib.hid (first_any l hl w)
  show Calls _ _ _ _ fun e w' => e = .returned (.int .i64 ((firstP l).2 : Int)) ∧ _
  generalize firstP l = q at CF ⊢
  go_enter Try.func11, Try.ntmps11
  go_wp2_with (refine CF.out.mono ?_; rintro e w1 ⟨rfl, hb⟩)
  go_ret
  exact ⟨rfl, hb⟩
theorem Script_any (l : List UInt8) (hl : l.length ≤ 9223372036854775807) (w : World) :
    Calls Try.prog 13 #[str l] w fun e w' => e = .returned (.int .u8 ((firstP l).1 : Int)) ∧ Below w.heap.size w w' := by
  have CF := Lib.hid (first_any l hl w)
  generalize firstP l = q at CF ⊢
  go_enter Try.func13, Try.ntmps13
  go_wp2_with (refine CF.out.mono ?_; rintro e w1 ⟨rfl, hb⟩)
  go_ret
  exact ⟨rfl, hb⟩
theorem Skeleton_any (l : List UInt8) (hl : l.length ≤ 100000) (w : World) :
    Calls Try.prog 9 #[str l] w fun e w' => e = .returned (.tuple #[str (skel l), .int .i64 (ck l : Int)]) ∧ Below w.heap.size w w' := by
  have CC := Lib.hid (Check_any l (by omega) w)
  have CL := Lib.hid (fun W => look_any l hl W)
  by_cases h0 : ck l = 0
  · have e1 : skel l = enc (lks l) := by rw [skel, if_pos h0]
    rw [h0] at CC
    rw [e1, h0]
    generalize lks l = x at CL
    clear e1 h0
    go_enter Try.func9, Try.ntmps9
    go_wp2_with (first
      | (go_at_call 11; refine CC.out.mono ?_; rintro e w1 ⟨rfl, hb⟩; have BB := Lib.hid hb; clear hb)
      | (go_at_call 21; refine (CL.out _).mono ?_; rintro e w2 ⟨v, rfl, hR, hb⟩; have cv := conv_runes hR; have B2 := Lib.hid (below_acc BB.out hb); clear hb hR))
    go_ret2
    exact ⟨rfl, B2.out⟩
  · have e1 : skel l = [] := by rw [skel, if_neg h0]
    rw [e1]
    have d1 : ((ck l : Int) != 0) = true := by rw [bne_iff_ne]; omega
    generalize ck l = n at CC d1 h0
    clear e1 CL
    go_enter Try.func9, Try.ntmps9
    go_wp2_with (go_at_call 11; refine CC.out.mono ?_; rintro e w1 ⟨rfl, hb⟩; have BB := Lib.hid hb; clear hb)
    go_ret2
    exact ⟨rfl, BB.out⟩
set_option maxHeartbeats 2000000 in
theorem Clash_any (a b : List UInt8) (ha : a.length ≤ 100000) (hb : b.length ≤ 100000) (w : World) :
    Calls Try.prog 17 #[str a, str b] w fun e w' => e = .returned (.bool (clash a b)) ∧ Below w.heap.size w w' := by
  have CA := Lib.hid (Skeleton_any a ha w)
  have CB := Lib.hid (fun W => Skeleton_any b hb W)
  have hc := clash_is a b
  generalize clash a b = R at hc ⊢
  generalize ck a = m at CA hc
  generalize ck b = n at CB hc
  generalize skel a = x at CA hc
  generalize skel b = y at CB hc
  have arms : True := trivial
  by_cases h1 : m = 0
  · subst h1
    by_cases h2 : n = 0
    · subst h2
      cases h3 : (a == b) <;> cases h4 : (x == y)
      all_goals
        simp only [bne, h3, h4, beq_self_eq_true, Bool.true_and, Bool.not_true, Bool.not_false, Bool.false_and] at hc
        have HR := Lib.hid hc
        clear hc
        go_enter Try.func17, Try.ntmps17
        go_wp2_with (first
          | (go_at_call 9; (with_reducible refine CA.out.mono ?_); rintro e w1 ⟨rfl, hb⟩; have BB := Lib.hid hb; clear hb)
          | (go_at_call 9; (with_reducible refine (CB.out _).mono ?_); rintro e w2 ⟨rfl, hb⟩; have B2 := Lib.hid (below_acc BB.out hb); clear hb))
        go_ret
        exact ⟨by have h := HR.out; subst h; rfl, B2.out⟩
    · have d2 : ((n : Int) == 0) = false := by rw [beq_eq_false_iff_ne]; omega
      have hn0 : (n == 0) = false := by simpa using h2
      simp only [hn0, Bool.false_and, Bool.and_false] at hc
      have HR := Lib.hid hc
      clear hc
      go_enter Try.func17, Try.ntmps17
      go_wp2_with (first
        | (go_at_call 9; (with_reducible refine CA.out.mono ?_); rintro e w1 ⟨rfl, hb⟩; have BB := Lib.hid hb; clear hb)
        | (go_at_call 9; (with_reducible refine (CB.out _).mono ?_); rintro e w2 ⟨rfl, hb⟩; have B2 := Lib.hid (below_acc BB.out hb); clear hb))
      go_ret
      exact ⟨by have h := HR.out; subst h; rfl, B2.out⟩
  · have d2 : ((m : Int) == 0) = false := by rw [beq_eq_false_iff_ne]; omega
    have hn0 : (m == 0) = false := by simpa using h1
    simp only [hn0, Bool.false_and, Bool.and_false] at hc
    have HR := Lib.hid hc
    clear hc
    go_enter Try.func17, Try.ntmps17
    go_wp2_with (first
      | (go_at_call 9; (with_reducible refine CA.out.mono ?_); rintro e w1 ⟨rfl, hb⟩; have BB := Lib.hid hb; clear hb)
      | (go_at_call 9; (with_reducible refine (CB.out _).mono ?_); rintro e w2 ⟨rfl, hb⟩; have B2 := Lib.hid (below_acc BB.out hb); clear hb))
    go_ret
    exact ⟨by have h := HR.out; subst h; rfl, B2.out⟩

set_option maxHeartbeats 1000000 in
theorem long_any (A : Option Addr) (c : Nat) (ls : List (List UInt8)) (hl : ls.length ≤ 10) (hx : ∀ x ∈ ls, x.length ≤ 9223372036854775807) (B : Nat) (w : World) (hT : Txt w B A ls) :
    Calls Try.prog 7 #[.slice A ls.length c] w fun e w' => e = .returned (.bool (ls.any fun x => decide (1024 < x.length))) ∧ w = w' := by
  go_enter Try.func7, Try.ntmps7
  go_wp2_with fail
  go_loop [3] (fun k => ∃ i : Nat, i ≤ ls.length ∧ Hid ((ls.any fun x => decide (1024 < x.length)) = ((ls.drop i).any fun x => decide (1024 < x.length))) ∧ k = .int .i64 i) (fun k => ls.length - (intOf k).toNat)
  case atStart => exact ⟨0, by omega, rfl, rfl⟩
  case round =>
    obtain ⟨i, hi, hA, rfl⟩ := hrel
    by_cases hlt : i < ls.length
    · obtain ⟨b, o, rfl, _, hc⟩ := hT i hlt
      have hd := hA.out
      rw [List.drop_eq_getElem_cons hlt, List.any_cons] at hd
      have hxl := hx _ (List.getElem_mem hlt)
      have kb : 0 ≤ (i : Int) ∧ (i : Int) < (ls.length : Int) := by omega
      generalize ls[i] = y at hc hd hxl
      by_cases hy : 1024 < y.length
      · have d1 : decide ((1024 : Int) < (y.length : Int)) = true := by simp; omega
        have hD : Hid ((ls.any fun x => decide (1024 < x.length)) = true) := by
          show (ls.any fun x => decide (1024 < x.length)) = true
          rw [hd]; simp [hy]
        clear hd hA hT
        go_wp2
        go_ret
        exact ⟨by rw [hD.out]; rfl, rfl⟩
      · have d1 : decide ((1024 : Int) < (y.length : Int)) = false := by simp; omega
        have hD : Hid ((ls.any fun x => decide (1024 < x.length)) = ((ls.drop (i + 1)).any fun x => decide (1024 < x.length))) := by
          show (ls.any fun x => decide (1024 < x.length)) = _
          rw [hd]; simp [hy]
        clear hd hA hT
        go_wp2
        go_round
        case rel => exact ⟨i + 1, by omega, hD, by go_num⟩
        case measure => simp [intOf]; omega
    · have hD : Hid ((ls.any fun x => decide (1024 < x.length)) = false) := by
        show (ls.any fun x => decide (1024 < x.length)) = false
        rw [hA.out, List.drop_of_length_le (by omega)]; rfl
      clear hA hT
      go_wp2
      go_ret
      exact ⟨by rw [hD.out]; rfl, rfl⟩
end Go.Proofs.Ytdmlfggokbmapaa
