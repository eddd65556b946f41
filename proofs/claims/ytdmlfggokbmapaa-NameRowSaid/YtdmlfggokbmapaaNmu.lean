/- The walk of NameRow. Condition: none. -/
import Derived.Test.YtdmlfggokbmapaaNmc
import Derived.Test.YtdmlfggokbmapaaNms
import Derived.Test.YtdmlfggokbmapaaNmt
namespace Go.Proofs.Ytdmlfggokbmapaa
open Go.RowKit
set_option linter.unusedVariables false
set_option linter.unusedSimpArgs false

set_option maxRecDepth 100000 in
set_option maxHeartbeats 8000000 in
theorem NameRow_walk (a b c : List UInt8) (ha : a.length ≤ 9223372036854775807) (hb : b.length ≤ 9223372036854775807) (hc : c.length ≤ 9223372036854775807) (w : World) :
    Calls Try.prog 6 #[str a, str b, str c] w fun e w' => e = .returned (.bool true) ∧ Below w.heap.size w w' := by
  have B0 : Below w.heap.size w (w.alloc (.cells #[str a, str b, str c] 9 (0, 0))) := (Below.refl _ w).alloc (Nat.le_refl _) _
  have CL : Calls Try.prog 7 #[.slice (some ⟨w.heap.size, 0, none⟩) 3 3] (w.alloc (.cells #[str a, str b, str c] 9 (0, 0))) fun e w' => e = .returned (.bool ([a, b, c].any fun x => decide (1024 < x.length))) ∧ w.alloc (.cells #[str a, str b, str c] 9 (0, 0)) = w' :=
    long_any (some ⟨w.heap.size, 0, none⟩) 3 [a, b, c] (by simp) (by simp [ha, hb, hc]) (w.heap.size + 1) _ (txt_new w [a, b, c])
  have CV := Lib.hid (fun W => alive_any W)
  cases hL : ([a, b, c].any fun x => decide (1024 < x.length))
  · rw [hL] at CL
    have HL := Lib.hid CL
    clear CL
    have hla : a.length ≤ 100000 ∧ b.length ≤ 100000 ∧ c.length ≤ 100000 := by
      simp only [List.any_cons, List.any_nil, Bool.or_false, Bool.or_eq_false_iff, decide_eq_false_iff_not] at hL
      omega
    obtain ⟨la, lb, lc⟩ := hla
    clear hL
    have KA := fun W => Check_any a (by omega) W
    have KB := fun W => Check_any b (by omega) W
    have KC := fun W => Check_any c (by omega) W
    have OAB := fun W => Order_any a b la lb W
    by_cases h1 : ck a = 0
    · rw [h1] at KA
      by_cases h2 : ck b = 0
      · rw [h2] at KB
        by_cases h3 : ck c = 0
        · rw [h3] at KC
          have OBC := fun W => Order_any b c lb lc W
          have OAC := fun W => Order_any a c la lc W
          have OBA := fun W => Order_any b a lb la W
          rw [order_neg h1 h2] at OBA
          have CAB := fun W => Clash_any a b la lb W
          have CBC := fun W => Clash_any b c lb lc W
          have CAC := fun W => Clash_any a c la lc W
          have rab := order_range h1 h2
          have rbc := order_range h2 h3
          have rac := order_range h1 h3
          have zab := order_zero h1 h2
          have tr := order_trans h1 h2 h3
          have md := order_mid h1 h2 h3
          generalize order a b = p at OAB OBA rab zab tr md
          generalize order b c = q at OBC rbc tr md
          generalize order a c = s at OAC rac tr
          generalize clash a b = cab at CAB md
          generalize clash b c = cbc at CBC md
          generalize clash a c = cac at CAC md
          have HKA := Lib.hid KA
          have HKB := Lib.hid KB
          have HKC := Lib.hid KC
          have HAB := Lib.hid OAB
          have HBC := Lib.hid OBC
          have HAC := Lib.hid OAC
          have HBA := Lib.hid OBA
          have XAB := Lib.hid CAB
          have XBC := Lib.hid CBC
          have XAC := Lib.hid CAC
          clear KA KB KC OAB OBC OAC OBA CAB CBC CAC h1 h2 h3
          rcases rab with rfl | rfl | rfl
          · have eab : (a == b) = false := by
              rw [beq_eq_false_iff_ne]; intro e; have := zab.2 e; omega
            rcases rbc with rfl | rfl | rfl
            · have hs := (tr (by omega) (by omega)).2 (.inl (by omega))
              obtain rfl : s = -1 := by omega
              have md2 := md (by omega) (by omega)
              clear tr md zab rac
              cases cac
              · clear md2
                go_enter Try.func6, Try.ntmps6
                go_wp2_with (first
                  | (go_at_call 7; (with_reducible refine HL.out.mono ?_); rintro e w1 ⟨rfl, rfl⟩)
                  | (go_at_call 11; (with_reducible refine (HKA.out _).mono ?_); rintro e w2 ⟨rfl, hb⟩; have B0 := below_step B0 hb ⟨rfl, rfl, rfl, rfl⟩; clear hb)
                  | (go_at_call 11; (with_reducible refine (HKB.out _).mono ?_); rintro e w2 ⟨rfl, hb⟩; have B0 := below_step B0 hb ⟨rfl, rfl, rfl, rfl⟩; clear hb)
                  | (go_at_call 11; (with_reducible refine (HKC.out _).mono ?_); rintro e w2 ⟨rfl, hb⟩; have B0 := below_step B0 hb ⟨rfl, rfl, rfl, rfl⟩; clear hb)
                  | (go_at_call 19; (with_reducible refine (HAB.out _).mono ?_); rintro e w2 ⟨rfl, hb⟩; have B0 := below_step B0 hb ⟨rfl, rfl, rfl, rfl⟩; clear hb)
                  | (go_at_call 19; (with_reducible refine (HBC.out _).mono ?_); rintro e w2 ⟨rfl, hb⟩; have B0 := below_step B0 hb ⟨rfl, rfl, rfl, rfl⟩; clear hb)
                  | (go_at_call 19; (with_reducible refine (HAC.out _).mono ?_); rintro e w2 ⟨rfl, hb⟩; have B0 := below_step B0 hb ⟨rfl, rfl, rfl, rfl⟩; clear hb)
                  | (go_at_call 19; (with_reducible refine (HBA.out _).mono ?_); rintro e w2 ⟨rfl, hb⟩; have B0 := below_step B0 hb ⟨rfl, rfl, rfl, rfl⟩; clear hb)
                  | (go_at_call 17; (with_reducible refine (XAB.out _).mono ?_); rintro e w2 ⟨rfl, hb⟩; have B0 := below_step B0 hb ⟨rfl, rfl, rfl, rfl⟩; clear hb)
                  | (go_at_call 17; (with_reducible refine (XBC.out _).mono ?_); rintro e w2 ⟨rfl, hb⟩; have B0 := below_step B0 hb ⟨rfl, rfl, rfl, rfl⟩; clear hb)
                  | (go_at_call 17; (with_reducible refine (XAC.out _).mono ?_); rintro e w2 ⟨rfl, hb⟩; have B0 := below_step B0 hb ⟨rfl, rfl, rfl, rfl⟩; clear hb)
                  | (go_at_call 8; (with_reducible refine (CV.out _).mono ?_); rintro e w2 ⟨rfl, hb⟩; have B0 := below_step B0 hb ⟨rfl, rfl, rfl, rfl⟩; clear hb))
                go_ret
                exact ⟨rfl, B0⟩
              · obtain ⟨rfl, rfl⟩ := md2 rfl
                clear md2
                go_enter Try.func6, Try.ntmps6
                go_wp2_with (first
                  | (go_at_call 7; (with_reducible refine HL.out.mono ?_); rintro e w1 ⟨rfl, rfl⟩)
                  | (go_at_call 11; (with_reducible refine (HKA.out _).mono ?_); rintro e w2 ⟨rfl, hb⟩; have B0 := below_step B0 hb ⟨rfl, rfl, rfl, rfl⟩; clear hb)
                  | (go_at_call 11; (with_reducible refine (HKB.out _).mono ?_); rintro e w2 ⟨rfl, hb⟩; have B0 := below_step B0 hb ⟨rfl, rfl, rfl, rfl⟩; clear hb)
                  | (go_at_call 11; (with_reducible refine (HKC.out _).mono ?_); rintro e w2 ⟨rfl, hb⟩; have B0 := below_step B0 hb ⟨rfl, rfl, rfl, rfl⟩; clear hb)
                  | (go_at_call 19; (with_reducible refine (HAB.out _).mono ?_); rintro e w2 ⟨rfl, hb⟩; have B0 := below_step B0 hb ⟨rfl, rfl, rfl, rfl⟩; clear hb)
                  | (go_at_call 19; (with_reducible refine (HBC.out _).mono ?_); rintro e w2 ⟨rfl, hb⟩; have B0 := below_step B0 hb ⟨rfl, rfl, rfl, rfl⟩; clear hb)
                  | (go_at_call 19; (with_reducible refine (HAC.out _).mono ?_); rintro e w2 ⟨rfl, hb⟩; have B0 := below_step B0 hb ⟨rfl, rfl, rfl, rfl⟩; clear hb)
                  | (go_at_call 19; (with_reducible refine (HBA.out _).mono ?_); rintro e w2 ⟨rfl, hb⟩; have B0 := below_step B0 hb ⟨rfl, rfl, rfl, rfl⟩; clear hb)
                  | (go_at_call 17; (with_reducible refine (XAB.out _).mono ?_); rintro e w2 ⟨rfl, hb⟩; have B0 := below_step B0 hb ⟨rfl, rfl, rfl, rfl⟩; clear hb)
                  | (go_at_call 17; (with_reducible refine (XBC.out _).mono ?_); rintro e w2 ⟨rfl, hb⟩; have B0 := below_step B0 hb ⟨rfl, rfl, rfl, rfl⟩; clear hb)
                  | (go_at_call 17; (with_reducible refine (XAC.out _).mono ?_); rintro e w2 ⟨rfl, hb⟩; have B0 := below_step B0 hb ⟨rfl, rfl, rfl, rfl⟩; clear hb)
                  | (go_at_call 8; (with_reducible refine (CV.out _).mono ?_); rintro e w2 ⟨rfl, hb⟩; have B0 := below_step B0 hb ⟨rfl, rfl, rfl, rfl⟩; clear hb))
                go_ret
                exact ⟨rfl, B0⟩
            · have hs := (tr (by omega) (by omega)).2 (.inl (by omega))
              obtain rfl : s = -1 := by omega
              clear tr md zab rac
              go_enter Try.func6, Try.ntmps6
              go_wp2_with (first
                | (go_at_call 7; (with_reducible refine HL.out.mono ?_); rintro e w1 ⟨rfl, rfl⟩)
                | (go_at_call 11; (with_reducible refine (HKA.out _).mono ?_); rintro e w2 ⟨rfl, hb⟩; have B0 := below_step B0 hb ⟨rfl, rfl, rfl, rfl⟩; clear hb)
                | (go_at_call 11; (with_reducible refine (HKB.out _).mono ?_); rintro e w2 ⟨rfl, hb⟩; have B0 := below_step B0 hb ⟨rfl, rfl, rfl, rfl⟩; clear hb)
                | (go_at_call 11; (with_reducible refine (HKC.out _).mono ?_); rintro e w2 ⟨rfl, hb⟩; have B0 := below_step B0 hb ⟨rfl, rfl, rfl, rfl⟩; clear hb)
                | (go_at_call 19; (with_reducible refine (HAB.out _).mono ?_); rintro e w2 ⟨rfl, hb⟩; have B0 := below_step B0 hb ⟨rfl, rfl, rfl, rfl⟩; clear hb)
                | (go_at_call 19; (with_reducible refine (HBC.out _).mono ?_); rintro e w2 ⟨rfl, hb⟩; have B0 := below_step B0 hb ⟨rfl, rfl, rfl, rfl⟩; clear hb)
                | (go_at_call 19; (with_reducible refine (HAC.out _).mono ?_); rintro e w2 ⟨rfl, hb⟩; have B0 := below_step B0 hb ⟨rfl, rfl, rfl, rfl⟩; clear hb)
                | (go_at_call 19; (with_reducible refine (HBA.out _).mono ?_); rintro e w2 ⟨rfl, hb⟩; have B0 := below_step B0 hb ⟨rfl, rfl, rfl, rfl⟩; clear hb)
                | (go_at_call 17; (with_reducible refine (XAB.out _).mono ?_); rintro e w2 ⟨rfl, hb⟩; have B0 := below_step B0 hb ⟨rfl, rfl, rfl, rfl⟩; clear hb)
                | (go_at_call 17; (with_reducible refine (XBC.out _).mono ?_); rintro e w2 ⟨rfl, hb⟩; have B0 := below_step B0 hb ⟨rfl, rfl, rfl, rfl⟩; clear hb)
                | (go_at_call 17; (with_reducible refine (XAC.out _).mono ?_); rintro e w2 ⟨rfl, hb⟩; have B0 := below_step B0 hb ⟨rfl, rfl, rfl, rfl⟩; clear hb)
                | (go_at_call 8; (with_reducible refine (CV.out _).mono ?_); rintro e w2 ⟨rfl, hb⟩; have B0 := below_step B0 hb ⟨rfl, rfl, rfl, rfl⟩; clear hb))
              go_ret
              exact ⟨rfl, B0⟩
            · clear tr md zab
              rcases rac with rfl | rfl | rfl
              all_goals
                go_enter Try.func6, Try.ntmps6
                go_wp2_with (first
                  | (go_at_call 7; (with_reducible refine HL.out.mono ?_); rintro e w1 ⟨rfl, rfl⟩)
                  | (go_at_call 11; (with_reducible refine (HKA.out _).mono ?_); rintro e w2 ⟨rfl, hb⟩; have B0 := below_step B0 hb ⟨rfl, rfl, rfl, rfl⟩; clear hb)
                  | (go_at_call 11; (with_reducible refine (HKB.out _).mono ?_); rintro e w2 ⟨rfl, hb⟩; have B0 := below_step B0 hb ⟨rfl, rfl, rfl, rfl⟩; clear hb)
                  | (go_at_call 11; (with_reducible refine (HKC.out _).mono ?_); rintro e w2 ⟨rfl, hb⟩; have B0 := below_step B0 hb ⟨rfl, rfl, rfl, rfl⟩; clear hb)
                  | (go_at_call 19; (with_reducible refine (HAB.out _).mono ?_); rintro e w2 ⟨rfl, hb⟩; have B0 := below_step B0 hb ⟨rfl, rfl, rfl, rfl⟩; clear hb)
                  | (go_at_call 19; (with_reducible refine (HBC.out _).mono ?_); rintro e w2 ⟨rfl, hb⟩; have B0 := below_step B0 hb ⟨rfl, rfl, rfl, rfl⟩; clear hb)
                  | (go_at_call 19; (with_reducible refine (HAC.out _).mono ?_); rintro e w2 ⟨rfl, hb⟩; have B0 := below_step B0 hb ⟨rfl, rfl, rfl, rfl⟩; clear hb)
                  | (go_at_call 19; (with_reducible refine (HBA.out _).mono ?_); rintro e w2 ⟨rfl, hb⟩; have B0 := below_step B0 hb ⟨rfl, rfl, rfl, rfl⟩; clear hb)
                  | (go_at_call 17; (with_reducible refine (XAB.out _).mono ?_); rintro e w2 ⟨rfl, hb⟩; have B0 := below_step B0 hb ⟨rfl, rfl, rfl, rfl⟩; clear hb)
                  | (go_at_call 17; (with_reducible refine (XBC.out _).mono ?_); rintro e w2 ⟨rfl, hb⟩; have B0 := below_step B0 hb ⟨rfl, rfl, rfl, rfl⟩; clear hb)
                  | (go_at_call 17; (with_reducible refine (XAC.out _).mono ?_); rintro e w2 ⟨rfl, hb⟩; have B0 := below_step B0 hb ⟨rfl, rfl, rfl, rfl⟩; clear hb)
                  | (go_at_call 8; (with_reducible refine (CV.out _).mono ?_); rintro e w2 ⟨rfl, hb⟩; have B0 := below_step B0 hb ⟨rfl, rfl, rfl, rfl⟩; clear hb))
                go_ret
                exact ⟨rfl, B0⟩
          · have eab : (a == b) = true := by
              rw [beq_iff_eq]; exact zab.1 rfl
            rcases rbc with rfl | rfl | rfl
            · have hs := (tr (by omega) (by omega)).1
              clear md zab tr
              obtain rfl | rfl : s = -1 ∨ s = 0 := by omega
              all_goals
                go_enter Try.func6, Try.ntmps6
                go_wp2_with (first
                  | (go_at_call 7; (with_reducible refine HL.out.mono ?_); rintro e w1 ⟨rfl, rfl⟩)
                  | (go_at_call 11; (with_reducible refine (HKA.out _).mono ?_); rintro e w2 ⟨rfl, hb⟩; have B0 := below_step B0 hb ⟨rfl, rfl, rfl, rfl⟩; clear hb)
                  | (go_at_call 11; (with_reducible refine (HKB.out _).mono ?_); rintro e w2 ⟨rfl, hb⟩; have B0 := below_step B0 hb ⟨rfl, rfl, rfl, rfl⟩; clear hb)
                  | (go_at_call 11; (with_reducible refine (HKC.out _).mono ?_); rintro e w2 ⟨rfl, hb⟩; have B0 := below_step B0 hb ⟨rfl, rfl, rfl, rfl⟩; clear hb)
                  | (go_at_call 19; (with_reducible refine (HAB.out _).mono ?_); rintro e w2 ⟨rfl, hb⟩; have B0 := below_step B0 hb ⟨rfl, rfl, rfl, rfl⟩; clear hb)
                  | (go_at_call 19; (with_reducible refine (HBC.out _).mono ?_); rintro e w2 ⟨rfl, hb⟩; have B0 := below_step B0 hb ⟨rfl, rfl, rfl, rfl⟩; clear hb)
                  | (go_at_call 19; (with_reducible refine (HAC.out _).mono ?_); rintro e w2 ⟨rfl, hb⟩; have B0 := below_step B0 hb ⟨rfl, rfl, rfl, rfl⟩; clear hb)
                  | (go_at_call 19; (with_reducible refine (HBA.out _).mono ?_); rintro e w2 ⟨rfl, hb⟩; have B0 := below_step B0 hb ⟨rfl, rfl, rfl, rfl⟩; clear hb)
                  | (go_at_call 17; (with_reducible refine (XAB.out _).mono ?_); rintro e w2 ⟨rfl, hb⟩; have B0 := below_step B0 hb ⟨rfl, rfl, rfl, rfl⟩; clear hb)
                  | (go_at_call 17; (with_reducible refine (XBC.out _).mono ?_); rintro e w2 ⟨rfl, hb⟩; have B0 := below_step B0 hb ⟨rfl, rfl, rfl, rfl⟩; clear hb)
                  | (go_at_call 17; (with_reducible refine (XAC.out _).mono ?_); rintro e w2 ⟨rfl, hb⟩; have B0 := below_step B0 hb ⟨rfl, rfl, rfl, rfl⟩; clear hb)
                  | (go_at_call 8; (with_reducible refine (CV.out _).mono ?_); rintro e w2 ⟨rfl, hb⟩; have B0 := below_step B0 hb ⟨rfl, rfl, rfl, rfl⟩; clear hb))
                go_ret
                exact ⟨rfl, B0⟩
            · have hs := (tr (by omega) (by omega)).1
              clear md zab tr
              obtain rfl | rfl : s = -1 ∨ s = 0 := by omega
              all_goals
                go_enter Try.func6, Try.ntmps6
                go_wp2_with (first
                  | (go_at_call 7; (with_reducible refine HL.out.mono ?_); rintro e w1 ⟨rfl, rfl⟩)
                  | (go_at_call 11; (with_reducible refine (HKA.out _).mono ?_); rintro e w2 ⟨rfl, hb⟩; have B0 := below_step B0 hb ⟨rfl, rfl, rfl, rfl⟩; clear hb)
                  | (go_at_call 11; (with_reducible refine (HKB.out _).mono ?_); rintro e w2 ⟨rfl, hb⟩; have B0 := below_step B0 hb ⟨rfl, rfl, rfl, rfl⟩; clear hb)
                  | (go_at_call 11; (with_reducible refine (HKC.out _).mono ?_); rintro e w2 ⟨rfl, hb⟩; have B0 := below_step B0 hb ⟨rfl, rfl, rfl, rfl⟩; clear hb)
                  | (go_at_call 19; (with_reducible refine (HAB.out _).mono ?_); rintro e w2 ⟨rfl, hb⟩; have B0 := below_step B0 hb ⟨rfl, rfl, rfl, rfl⟩; clear hb)
                  | (go_at_call 19; (with_reducible refine (HBC.out _).mono ?_); rintro e w2 ⟨rfl, hb⟩; have B0 := below_step B0 hb ⟨rfl, rfl, rfl, rfl⟩; clear hb)
                  | (go_at_call 19; (with_reducible refine (HAC.out _).mono ?_); rintro e w2 ⟨rfl, hb⟩; have B0 := below_step B0 hb ⟨rfl, rfl, rfl, rfl⟩; clear hb)
                  | (go_at_call 19; (with_reducible refine (HBA.out _).mono ?_); rintro e w2 ⟨rfl, hb⟩; have B0 := below_step B0 hb ⟨rfl, rfl, rfl, rfl⟩; clear hb)
                  | (go_at_call 17; (with_reducible refine (XAB.out _).mono ?_); rintro e w2 ⟨rfl, hb⟩; have B0 := below_step B0 hb ⟨rfl, rfl, rfl, rfl⟩; clear hb)
                  | (go_at_call 17; (with_reducible refine (XBC.out _).mono ?_); rintro e w2 ⟨rfl, hb⟩; have B0 := below_step B0 hb ⟨rfl, rfl, rfl, rfl⟩; clear hb)
                  | (go_at_call 17; (with_reducible refine (XAC.out _).mono ?_); rintro e w2 ⟨rfl, hb⟩; have B0 := below_step B0 hb ⟨rfl, rfl, rfl, rfl⟩; clear hb)
                  | (go_at_call 8; (with_reducible refine (CV.out _).mono ?_); rintro e w2 ⟨rfl, hb⟩; have B0 := below_step B0 hb ⟨rfl, rfl, rfl, rfl⟩; clear hb))
                go_ret
                exact ⟨rfl, B0⟩
            · clear md zab tr rac
              go_enter Try.func6, Try.ntmps6
              go_wp2_with (first
                | (go_at_call 7; (with_reducible refine HL.out.mono ?_); rintro e w1 ⟨rfl, rfl⟩)
                | (go_at_call 11; (with_reducible refine (HKA.out _).mono ?_); rintro e w2 ⟨rfl, hb⟩; have B0 := below_step B0 hb ⟨rfl, rfl, rfl, rfl⟩; clear hb)
                | (go_at_call 11; (with_reducible refine (HKB.out _).mono ?_); rintro e w2 ⟨rfl, hb⟩; have B0 := below_step B0 hb ⟨rfl, rfl, rfl, rfl⟩; clear hb)
                | (go_at_call 11; (with_reducible refine (HKC.out _).mono ?_); rintro e w2 ⟨rfl, hb⟩; have B0 := below_step B0 hb ⟨rfl, rfl, rfl, rfl⟩; clear hb)
                | (go_at_call 19; (with_reducible refine (HAB.out _).mono ?_); rintro e w2 ⟨rfl, hb⟩; have B0 := below_step B0 hb ⟨rfl, rfl, rfl, rfl⟩; clear hb)
                | (go_at_call 19; (with_reducible refine (HBC.out _).mono ?_); rintro e w2 ⟨rfl, hb⟩; have B0 := below_step B0 hb ⟨rfl, rfl, rfl, rfl⟩; clear hb)
                | (go_at_call 19; (with_reducible refine (HAC.out _).mono ?_); rintro e w2 ⟨rfl, hb⟩; have B0 := below_step B0 hb ⟨rfl, rfl, rfl, rfl⟩; clear hb)
                | (go_at_call 19; (with_reducible refine (HBA.out _).mono ?_); rintro e w2 ⟨rfl, hb⟩; have B0 := below_step B0 hb ⟨rfl, rfl, rfl, rfl⟩; clear hb)
                | (go_at_call 17; (with_reducible refine (XAB.out _).mono ?_); rintro e w2 ⟨rfl, hb⟩; have B0 := below_step B0 hb ⟨rfl, rfl, rfl, rfl⟩; clear hb)
                | (go_at_call 17; (with_reducible refine (XBC.out _).mono ?_); rintro e w2 ⟨rfl, hb⟩; have B0 := below_step B0 hb ⟨rfl, rfl, rfl, rfl⟩; clear hb)
                | (go_at_call 17; (with_reducible refine (XAC.out _).mono ?_); rintro e w2 ⟨rfl, hb⟩; have B0 := below_step B0 hb ⟨rfl, rfl, rfl, rfl⟩; clear hb)
                | (go_at_call 8; (with_reducible refine (CV.out _).mono ?_); rintro e w2 ⟨rfl, hb⟩; have B0 := below_step B0 hb ⟨rfl, rfl, rfl, rfl⟩; clear hb))
              go_ret
              exact ⟨rfl, B0⟩
          · have eab : (a == b) = false := by
              rw [beq_eq_false_iff_ne]; intro e; have := zab.2 e; omega
            clear md zab tr rac rbc
            go_enter Try.func6, Try.ntmps6
            go_wp2_with (first
              | (go_at_call 7; (with_reducible refine HL.out.mono ?_); rintro e w1 ⟨rfl, rfl⟩)
              | (go_at_call 11; (with_reducible refine (HKA.out _).mono ?_); rintro e w2 ⟨rfl, hb⟩; have B0 := below_step B0 hb ⟨rfl, rfl, rfl, rfl⟩; clear hb)
              | (go_at_call 11; (with_reducible refine (HKB.out _).mono ?_); rintro e w2 ⟨rfl, hb⟩; have B0 := below_step B0 hb ⟨rfl, rfl, rfl, rfl⟩; clear hb)
              | (go_at_call 11; (with_reducible refine (HKC.out _).mono ?_); rintro e w2 ⟨rfl, hb⟩; have B0 := below_step B0 hb ⟨rfl, rfl, rfl, rfl⟩; clear hb)
              | (go_at_call 19; (with_reducible refine (HAB.out _).mono ?_); rintro e w2 ⟨rfl, hb⟩; have B0 := below_step B0 hb ⟨rfl, rfl, rfl, rfl⟩; clear hb)
              | (go_at_call 19; (with_reducible refine (HBC.out _).mono ?_); rintro e w2 ⟨rfl, hb⟩; have B0 := below_step B0 hb ⟨rfl, rfl, rfl, rfl⟩; clear hb)
              | (go_at_call 19; (with_reducible refine (HAC.out _).mono ?_); rintro e w2 ⟨rfl, hb⟩; have B0 := below_step B0 hb ⟨rfl, rfl, rfl, rfl⟩; clear hb)
              | (go_at_call 19; (with_reducible refine (HBA.out _).mono ?_); rintro e w2 ⟨rfl, hb⟩; have B0 := below_step B0 hb ⟨rfl, rfl, rfl, rfl⟩; clear hb)
              | (go_at_call 17; (with_reducible refine (XAB.out _).mono ?_); rintro e w2 ⟨rfl, hb⟩; have B0 := below_step B0 hb ⟨rfl, rfl, rfl, rfl⟩; clear hb)
              | (go_at_call 17; (with_reducible refine (XBC.out _).mono ?_); rintro e w2 ⟨rfl, hb⟩; have B0 := below_step B0 hb ⟨rfl, rfl, rfl, rfl⟩; clear hb)
              | (go_at_call 17; (with_reducible refine (XAC.out _).mono ?_); rintro e w2 ⟨rfl, hb⟩; have B0 := below_step B0 hb ⟨rfl, rfl, rfl, rfl⟩; clear hb)
              | (go_at_call 8; (with_reducible refine (CV.out _).mono ?_); rintro e w2 ⟨rfl, hb⟩; have B0 := below_step B0 hb ⟨rfl, rfl, rfl, rfl⟩; clear hb))
            go_ret
            exact ⟨rfl, B0⟩
        · have d1 : ((ck c : Int) != 0) = true := by rw [bne_iff_ne]; omega
          generalize ck c = n at KC d1
          have HKA := Lib.hid KA
          have HKB := Lib.hid KB
          have HKC := Lib.hid KC
          clear KA KB KC OAB h1 h2 h3
          go_enter Try.func6, Try.ntmps6
          go_wp2_with (first
            | (go_at_call 7; (with_reducible refine HL.out.mono ?_); rintro e w1 ⟨rfl, rfl⟩)
            | (go_at_call 11; (with_reducible refine (HKA.out _).mono ?_); rintro e w2 ⟨rfl, hb⟩; have B0 := below_step B0 hb ⟨rfl, rfl, rfl, rfl⟩; clear hb)
            | (go_at_call 11; (with_reducible refine (HKB.out _).mono ?_); rintro e w2 ⟨rfl, hb⟩; have B0 := below_step B0 hb ⟨rfl, rfl, rfl, rfl⟩; clear hb)
            | (go_at_call 11; (with_reducible refine (HKC.out _).mono ?_); rintro e w2 ⟨rfl, hb⟩; have B0 := below_step B0 hb ⟨rfl, rfl, rfl, rfl⟩; clear hb)
            | (go_at_call 8; (with_reducible refine (CV.out _).mono ?_); rintro e w2 ⟨rfl, hb⟩; have B0 := below_step B0 hb ⟨rfl, rfl, rfl, rfl⟩; clear hb))
          go_ret
          exact ⟨rfl, B0⟩
      · have d1 : ((ck b : Int) != 0) = true := by rw [bne_iff_ne]; omega
        generalize ck b = n at KB d1
        have HKA := Lib.hid KA
        have HKB := Lib.hid KB
        have HKC := Lib.hid KC
        clear KA KB KC OAB h1 h2
        go_enter Try.func6, Try.ntmps6
        go_wp2_with (first
          | (go_at_call 7; (with_reducible refine HL.out.mono ?_); rintro e w1 ⟨rfl, rfl⟩)
          | (go_at_call 11; (with_reducible refine (HKA.out _).mono ?_); rintro e w2 ⟨rfl, hb⟩; have B0 := below_step B0 hb ⟨rfl, rfl, rfl, rfl⟩; clear hb)
          | (go_at_call 11; (with_reducible refine (HKB.out _).mono ?_); rintro e w2 ⟨rfl, hb⟩; have B0 := below_step B0 hb ⟨rfl, rfl, rfl, rfl⟩; clear hb)
          | (go_at_call 11; (with_reducible refine (HKC.out _).mono ?_); rintro e w2 ⟨rfl, hb⟩; have B0 := below_step B0 hb ⟨rfl, rfl, rfl, rfl⟩; clear hb)
          | (go_at_call 8; (with_reducible refine (CV.out _).mono ?_); rintro e w2 ⟨rfl, hb⟩; have B0 := below_step B0 hb ⟨rfl, rfl, rfl, rfl⟩; clear hb))
        go_ret
        exact ⟨rfl, B0⟩
    · have d1 : ((ck a : Int) != 0) = true := by rw [bne_iff_ne]; omega
      have d2 : ((ck a : Int) == 0) = false := by rw [beq_eq_false_iff_ne]; omega
      have e : order a b = 0 := by rw [order, if_pos (.inl h1)]
      rw [e] at OAB
      generalize ck a = n at KA d1 d2 h1
      have HKA := Lib.hid KA
      have HKB := Lib.hid KB
      have HKC := Lib.hid KC
      have HAB := Lib.hid OAB
      clear KA KB KC OAB e
      go_enter Try.func6, Try.ntmps6
      go_wp2_with (first
        | (go_at_call 7; (with_reducible refine HL.out.mono ?_); rintro e w1 ⟨rfl, rfl⟩)
        | (go_at_call 11; (with_reducible refine (HKA.out _).mono ?_); rintro e w2 ⟨rfl, hb⟩; have B0 := below_step B0 hb ⟨rfl, rfl, rfl, rfl⟩; clear hb)
        | (go_at_call 11; (with_reducible refine (HKB.out _).mono ?_); rintro e w2 ⟨rfl, hb⟩; have B0 := below_step B0 hb ⟨rfl, rfl, rfl, rfl⟩; clear hb)
        | (go_at_call 11; (with_reducible refine (HKC.out _).mono ?_); rintro e w2 ⟨rfl, hb⟩; have B0 := below_step B0 hb ⟨rfl, rfl, rfl, rfl⟩; clear hb)
        | (go_at_call 19; (with_reducible refine (HAB.out _).mono ?_); rintro e w2 ⟨rfl, hb⟩; have B0 := below_step B0 hb ⟨rfl, rfl, rfl, rfl⟩; clear hb)
        | (go_at_call 8; (with_reducible refine (CV.out _).mono ?_); rintro e w2 ⟨rfl, hb⟩; have B0 := below_step B0 hb ⟨rfl, rfl, rfl, rfl⟩; clear hb))
      go_ret
      exact ⟨rfl, B0⟩
  · rw [hL] at CL
    have HL := Lib.hid CL
    clear CL hL
    go_enter Try.func6, Try.ntmps6
    go_wp2_with (first
      | (go_at_call 7; refine HL.out.mono ?_; rintro e w1 ⟨rfl, rfl⟩)
      | (go_at_call 8; refine (CV.out _).mono ?_; rintro e w2 ⟨rfl, hb⟩; have B0 := below_step B0 hb ⟨rfl, rfl, rfl, rfl⟩; clear hb))
    go_ret
    exact ⟨rfl, B0⟩
end Go.Proofs.Ytdmlfggokbmapaa
