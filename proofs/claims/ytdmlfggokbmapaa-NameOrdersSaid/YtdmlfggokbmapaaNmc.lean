/- The walk of NameClash. Condition: none. -/
import Derived.Test.YtdmlfggokbmapaaNmo
namespace Go.Proofs.Ytdmlfggokbmapaa
open Go.RowKit
set_option linter.unusedVariables false
set_option linter.unusedSimpArgs false

theorem lk_range (r : Int) (hr : -2147483648 ≤ r ∧ r ≤ 2147483647) : -2147483648 ≤ lk r ∧ lk r ≤ 2147483647 := by
  obtain ⟨l1, l2⟩ := look_is r
  cases hs : (lastOf r pairs none).isSome
  · rw [l2 hs]; exact hr
  · have h : ∀ p ∈ pairs, p.1 = r → lk r = p.2 ∨ True := fun _ _ _ => .inr trivial
    unfold lk
    cases hf : pairs.find? (fun p => p.1 == r) with
    | none => exact hr
    | some p =>
      have hp := List.mem_of_find?_eq_some hf
      have : ∀ p ∈ pairs, -2147483648 ≤ p.2 ∧ p.2 ≤ 2147483647 := by decide +kernel
      exact this p hp
theorem txt_new (w : World) (ls : List (List UInt8)) : Txt (w.alloc (.cells (ls.map str).toArray 9 (0, 0))) (w.heap.size + 1) (some ⟨w.heap.size, 0, none⟩) ls := fun i hi => by
  refine ⟨w.heap.size, 0, rfl, by omega, ?_⟩
  rw [Nat.zero_add, cell_of_row _ _ i _ _ (0, 0) (heap_alloc_new w _)]
  simp [hi]

set_option maxRecDepth 100000 in
set_option maxHeartbeats 8000000 in
theorem NameClash_walk (a b c : List UInt8) (r : Int) (hr : -2147483648 ≤ r ∧ r ≤ 2147483647) (ha : a.length ≤ 9223372036854775807) (hb : b.length ≤ 9223372036854775807) (hc : c.length ≤ 9223372036854775807) (w : World) :
    Calls Try.prog 4 #[str a, str b, str c, .int .i32 r] w fun e w' => e = .returned (.bool true) ∧ Below w.heap.size w w' := by
  have B0 : Below w.heap.size w (w.alloc (.cells #[str a, str b, str c] 9 (0, 0))) := (Below.refl _ w).alloc (Nat.le_refl _) _
  have CL : Calls Try.prog 7 #[.slice (some ⟨w.heap.size, 0, none⟩) 3 3] (w.alloc (.cells #[str a, str b, str c] 9 (0, 0))) fun e w' => e = .returned (.bool ([a, b, c].any fun x => decide (1024 < x.length))) ∧ w.alloc (.cells #[str a, str b, str c] 9 (0, 0)) = w' :=
    long_any (some ⟨w.heap.size, 0, none⟩) 3 [a, b, c] (by simp) (by simp [ha, hb, hc]) (w.heap.size + 1) _ (txt_new w [a, b, c])
  have CV := Lib.hid (fun W => alive_any W)
  cases hL : ([a, b, c].any fun x => decide (1024 < x.length))
  · rw [hL] at CL
    have HL := Lib.hid CL
    clear CL
    have hla : a.length ≤ 100000 ∧ b.length ≤ 100000 ∧ c.length ≤ 100000 := by
      simp only [List.any_cons, List.any_nil, Bool.or_false, Bool.or_eq_false_iff, decide_eq_false_iff_not] at hL
      omega
    obtain ⟨la, lb, lc⟩ := hla
    clear hL
    have K1 := Lib.hid (fun W => Look_any r hr W)
    have K2 : Hid (∀ W, Calls Try.prog 15 #[.int .i32 (lk r)] W fun e w' => e = .returned (.int .i32 (lk r)) ∧ Below W.heap.size W w') := fun W => by
      have := Look_any (lk r) (lk_range r hr) W
      rwa [lk_lk] at this
    generalize lk r = rr at K1 K2
    have CAB := fun W => Clash_any a b la lb W
    have CBA := fun W => Clash_any b a lb la W
    have CAA := fun W => Clash_any a a la la W
    have CBC := fun W => Clash_any b c lb lc W
    have CAC := fun W => Clash_any a c la lc W
    rw [clash_symm b a] at CBA
    rw [clash_self a] at CAA
    have SA := fun W => Skeleton_any a la W
    have SB := fun W => Skeleton_any b lb W
    have tr := clash_trans a b c
    have ci := clash_is a b
    have hAA := Lib.hid CAA
    clear CAA
    generalize clash a b = p1 at CAB CBA tr ci
    generalize clash b c = p2 at CBC tr
    generalize clash a c = p3 at CAC tr
    generalize ck a = m at SA ci
    generalize ck b = n at SB ci
    generalize skel a = x at SA ci
    generalize skel b = y at SB ci
    have HS : (p1 = true ∧ m = 0 ∧ n = 0 ∧ (a == b) = false ∧ (x == y) = true ∧ (p2 = false ∨ (p2 = true ∧ (a == c) = true) ∨ (p2 = true ∧ (a == c) = false ∧ p3 = true))) ∨
        (p1 = false ∧ ((¬ m = 0) ∨ (m = 0 ∧ ¬ n = 0) ∨ (m = 0 ∧ n = 0 ∧ (a == b) = true) ∨ (m = 0 ∧ n = 0 ∧ (a == b) = false ∧ (x == y) = false))) := by
      cases p1
      · refine .inr ⟨rfl, ?_⟩
        by_cases h1 : m = 0
        · by_cases h2 : n = 0
          · subst h1 h2
            cases h3 : (a == b)
            · refine .inr (.inr (.inr ⟨rfl, rfl, rfl, ?_⟩))
              cases h4 : (x == y)
              · rfl
              · rw [bne, h3, h4] at ci; simp at ci
            · exact .inr (.inr (.inl ⟨rfl, rfl, rfl⟩))
          · exact .inr (.inl ⟨h1, h2⟩)
        · exact .inl h1
      · refine .inl ⟨rfl, ?_⟩
        have ci' := ci.symm
        simp only [Bool.and_eq_true, beq_iff_eq, bne_iff_ne] at ci'
        obtain ⟨h1, h2, h3, h4⟩ := ci'
        refine ⟨h1, h2, by simpa using h3, by simpa using h4, ?_⟩
        cases p2
        · exact .inl rfl
        · cases h5 : (a == c)
          · exact .inr (.inr ⟨rfl, rfl, tr rfl rfl (by simpa using h5)⟩)
          · exact .inr (.inl ⟨rfl, rfl⟩)
    clear tr ci
    have fin : True := trivial
    rcases HS with ⟨rfl, rfl, rfl, d1, d2, h⟩ | ⟨rfl, h⟩
    · rcases h with rfl | ⟨rfl, d3⟩ | ⟨rfl, d3, rfl⟩
      all_goals
        have HAB := Lib.hid CAB
        have HBA := Lib.hid CBA
        have HBC := Lib.hid CBC
        have HAC := Lib.hid CAC
        have HSA := Lib.hid SA
        have HSB := Lib.hid SB
        clear CAB CBA CBC CAC SA SB
        go_enter Try.func4, Try.ntmps4
        go_wp2_with (first
          | (go_at_call 7; (with_reducible refine HL.out.mono ?_); rintro e w1 ⟨rfl, rfl⟩)
          | (go_at_call 15; (with_reducible refine (K1.out _).mono ?_); rintro e w2 ⟨rfl, hb⟩; have B0 := below_step B0 hb ⟨rfl, rfl, rfl, rfl⟩; clear hb)
          | (go_at_call 15; (with_reducible refine (K2.out _).mono ?_); rintro e w2 ⟨rfl, hb⟩; have B0 := below_step B0 hb ⟨rfl, rfl, rfl, rfl⟩; clear hb)
          | (go_at_call 17; (with_reducible refine (HAB.out _).mono ?_); rintro e w2 ⟨rfl, hb⟩; have B0 := below_step B0 hb ⟨rfl, rfl, rfl, rfl⟩; clear hb)
          | (go_at_call 17; (with_reducible refine (HBA.out _).mono ?_); rintro e w2 ⟨rfl, hb⟩; have B0 := below_step B0 hb ⟨rfl, rfl, rfl, rfl⟩; clear hb)
          | (go_at_call 17; (with_reducible refine (hAA.out _).mono ?_); rintro e w2 ⟨rfl, hb⟩; have B0 := below_step B0 hb ⟨rfl, rfl, rfl, rfl⟩; clear hb)
          | (go_at_call 17; (with_reducible refine (HBC.out _).mono ?_); rintro e w2 ⟨rfl, hb⟩; have B0 := below_step B0 hb ⟨rfl, rfl, rfl, rfl⟩; clear hb)
          | (go_at_call 17; (with_reducible refine (HAC.out _).mono ?_); rintro e w2 ⟨rfl, hb⟩; have B0 := below_step B0 hb ⟨rfl, rfl, rfl, rfl⟩; clear hb)
          | (go_at_call 9; (with_reducible refine (HSA.out _).mono ?_); rintro e w2 ⟨rfl, hb⟩; have B0 := below_step B0 hb ⟨rfl, rfl, rfl, rfl⟩; clear hb)
          | (go_at_call 9; (with_reducible refine (HSB.out _).mono ?_); rintro e w2 ⟨rfl, hb⟩; have B0 := below_step B0 hb ⟨rfl, rfl, rfl, rfl⟩; clear hb)
          | (go_at_call 8; (with_reducible refine (CV.out _).mono ?_); rintro e w2 ⟨rfl, hb⟩; have B0 := below_step B0 hb ⟨rfl, rfl, rfl, rfl⟩; clear hb))
        go_ret
        exact ⟨rfl, B0⟩
    · rcases h with h1 | ⟨rfl, h1⟩ | ⟨rfl, rfl, d1⟩ | ⟨rfl, rfl, d1, d2⟩
      · have d4 : ((m : Int) == 0) = false := by rw [beq_eq_false_iff_ne]; omega
        have HAB := Lib.hid CAB
        have HBA := Lib.hid CBA
        have HBC := Lib.hid CBC
        have HAC := Lib.hid CAC
        have HSA := Lib.hid SA
        have HSB := Lib.hid SB
        clear CAB CBA CBC CAC SA SB
        go_enter Try.func4, Try.ntmps4
        go_wp2_with (first
          | (go_at_call 7; (with_reducible refine HL.out.mono ?_); rintro e w1 ⟨rfl, rfl⟩)
          | (go_at_call 15; (with_reducible refine (K1.out _).mono ?_); rintro e w2 ⟨rfl, hb⟩; have B0 := below_step B0 hb ⟨rfl, rfl, rfl, rfl⟩; clear hb)
          | (go_at_call 15; (with_reducible refine (K2.out _).mono ?_); rintro e w2 ⟨rfl, hb⟩; have B0 := below_step B0 hb ⟨rfl, rfl, rfl, rfl⟩; clear hb)
          | (go_at_call 17; (with_reducible refine (HAB.out _).mono ?_); rintro e w2 ⟨rfl, hb⟩; have B0 := below_step B0 hb ⟨rfl, rfl, rfl, rfl⟩; clear hb)
          | (go_at_call 17; (with_reducible refine (HBA.out _).mono ?_); rintro e w2 ⟨rfl, hb⟩; have B0 := below_step B0 hb ⟨rfl, rfl, rfl, rfl⟩; clear hb)
          | (go_at_call 17; (with_reducible refine (hAA.out _).mono ?_); rintro e w2 ⟨rfl, hb⟩; have B0 := below_step B0 hb ⟨rfl, rfl, rfl, rfl⟩; clear hb)
          | (go_at_call 17; (with_reducible refine (HBC.out _).mono ?_); rintro e w2 ⟨rfl, hb⟩; have B0 := below_step B0 hb ⟨rfl, rfl, rfl, rfl⟩; clear hb)
          | (go_at_call 17; (with_reducible refine (HAC.out _).mono ?_); rintro e w2 ⟨rfl, hb⟩; have B0 := below_step B0 hb ⟨rfl, rfl, rfl, rfl⟩; clear hb)
          | (go_at_call 9; (with_reducible refine (HSA.out _).mono ?_); rintro e w2 ⟨rfl, hb⟩; have B0 := below_step B0 hb ⟨rfl, rfl, rfl, rfl⟩; clear hb)
          | (go_at_call 9; (with_reducible refine (HSB.out _).mono ?_); rintro e w2 ⟨rfl, hb⟩; have B0 := below_step B0 hb ⟨rfl, rfl, rfl, rfl⟩; clear hb)
          | (go_at_call 8; (with_reducible refine (CV.out _).mono ?_); rintro e w2 ⟨rfl, hb⟩; have B0 := below_step B0 hb ⟨rfl, rfl, rfl, rfl⟩; clear hb))
        go_ret
        exact ⟨rfl, B0⟩
      · have d4 : ((n : Int) == 0) = false := by rw [beq_eq_false_iff_ne]; omega
        have HAB := Lib.hid CAB
        have HBA := Lib.hid CBA
        have HBC := Lib.hid CBC
        have HAC := Lib.hid CAC
        have HSA := Lib.hid SA
        have HSB := Lib.hid SB
        clear CAB CBA CBC CAC SA SB
        go_enter Try.func4, Try.ntmps4
        go_wp2_with (first
          | (go_at_call 7; (with_reducible refine HL.out.mono ?_); rintro e w1 ⟨rfl, rfl⟩)
          | (go_at_call 15; (with_reducible refine (K1.out _).mono ?_); rintro e w2 ⟨rfl, hb⟩; have B0 := below_step B0 hb ⟨rfl, rfl, rfl, rfl⟩; clear hb)
          | (go_at_call 15; (with_reducible refine (K2.out _).mono ?_); rintro e w2 ⟨rfl, hb⟩; have B0 := below_step B0 hb ⟨rfl, rfl, rfl, rfl⟩; clear hb)
          | (go_at_call 17; (with_reducible refine (HAB.out _).mono ?_); rintro e w2 ⟨rfl, hb⟩; have B0 := below_step B0 hb ⟨rfl, rfl, rfl, rfl⟩; clear hb)
          | (go_at_call 17; (with_reducible refine (HBA.out _).mono ?_); rintro e w2 ⟨rfl, hb⟩; have B0 := below_step B0 hb ⟨rfl, rfl, rfl, rfl⟩; clear hb)
          | (go_at_call 17; (with_reducible refine (hAA.out _).mono ?_); rintro e w2 ⟨rfl, hb⟩; have B0 := below_step B0 hb ⟨rfl, rfl, rfl, rfl⟩; clear hb)
          | (go_at_call 17; (with_reducible refine (HBC.out _).mono ?_); rintro e w2 ⟨rfl, hb⟩; have B0 := below_step B0 hb ⟨rfl, rfl, rfl, rfl⟩; clear hb)
          | (go_at_call 17; (with_reducible refine (HAC.out _).mono ?_); rintro e w2 ⟨rfl, hb⟩; have B0 := below_step B0 hb ⟨rfl, rfl, rfl, rfl⟩; clear hb)
          | (go_at_call 9; (with_reducible refine (HSA.out _).mono ?_); rintro e w2 ⟨rfl, hb⟩; have B0 := below_step B0 hb ⟨rfl, rfl, rfl, rfl⟩; clear hb)
          | (go_at_call 9; (with_reducible refine (HSB.out _).mono ?_); rintro e w2 ⟨rfl, hb⟩; have B0 := below_step B0 hb ⟨rfl, rfl, rfl, rfl⟩; clear hb)
          | (go_at_call 8; (with_reducible refine (CV.out _).mono ?_); rintro e w2 ⟨rfl, hb⟩; have B0 := below_step B0 hb ⟨rfl, rfl, rfl, rfl⟩; clear hb))
        go_ret
        exact ⟨rfl, B0⟩
      all_goals
        have HAB := Lib.hid CAB
        have HBA := Lib.hid CBA
        have HBC := Lib.hid CBC
        have HAC := Lib.hid CAC
        have HSA := Lib.hid SA
        have HSB := Lib.hid SB
        clear CAB CBA CBC CAC SA SB
        go_enter Try.func4, Try.ntmps4
        go_wp2_with (first
          | (go_at_call 7; (with_reducible refine HL.out.mono ?_); rintro e w1 ⟨rfl, rfl⟩)
          | (go_at_call 15; (with_reducible refine (K1.out _).mono ?_); rintro e w2 ⟨rfl, hb⟩; have B0 := below_step B0 hb ⟨rfl, rfl, rfl, rfl⟩; clear hb)
          | (go_at_call 15; (with_reducible refine (K2.out _).mono ?_); rintro e w2 ⟨rfl, hb⟩; have B0 := below_step B0 hb ⟨rfl, rfl, rfl, rfl⟩; clear hb)
          | (go_at_call 17; (with_reducible refine (HAB.out _).mono ?_); rintro e w2 ⟨rfl, hb⟩; have B0 := below_step B0 hb ⟨rfl, rfl, rfl, rfl⟩; clear hb)
          | (go_at_call 17; (with_reducible refine (HBA.out _).mono ?_); rintro e w2 ⟨rfl, hb⟩; have B0 := below_step B0 hb ⟨rfl, rfl, rfl, rfl⟩; clear hb)
          | (go_at_call 17; (with_reducible refine (hAA.out _).mono ?_); rintro e w2 ⟨rfl, hb⟩; have B0 := below_step B0 hb ⟨rfl, rfl, rfl, rfl⟩; clear hb)
          | (go_at_call 17; (with_reducible refine (HBC.out _).mono ?_); rintro e w2 ⟨rfl, hb⟩; have B0 := below_step B0 hb ⟨rfl, rfl, rfl, rfl⟩; clear hb)
          | (go_at_call 17; (with_reducible refine (HAC.out _).mono ?_); rintro e w2 ⟨rfl, hb⟩; have B0 := below_step B0 hb ⟨rfl, rfl, rfl, rfl⟩; clear hb)
          | (go_at_call 9; (with_reducible refine (HSA.out _).mono ?_); rintro e w2 ⟨rfl, hb⟩; have B0 := below_step B0 hb ⟨rfl, rfl, rfl, rfl⟩; clear hb)
          | (go_at_call 9; (with_reducible refine (HSB.out _).mono ?_); rintro e w2 ⟨rfl, hb⟩; have B0 := below_step B0 hb ⟨rfl, rfl, rfl, rfl⟩; clear hb)
          | (go_at_call 8; (with_reducible refine (CV.out _).mono ?_); rintro e w2 ⟨rfl, hb⟩; have B0 := below_step B0 hb ⟨rfl, rfl, rfl, rfl⟩; clear hb))
        go_ret
        exact ⟨rfl, B0⟩
  · rw [hL] at CL
    have HL := Lib.hid CL
    clear CL hL
    go_enter Try.func4, Try.ntmps4
    go_wp2_with (first
      | (go_at_call 7; refine HL.out.mono ?_; rintro e w1 ⟨rfl, rfl⟩)
      | (go_at_call 8; refine (CV.out _).mono ?_; rintro e w2 ⟨rfl, hb⟩; have B0 := below_step B0 hb ⟨rfl, rfl, rfl, rfl⟩; clear hb))
    go_ret
    exact ⟨rfl, B0⟩
end Go.Proofs.Ytdmlfggokbmapaa
