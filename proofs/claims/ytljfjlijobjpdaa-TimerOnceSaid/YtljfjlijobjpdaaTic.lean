/- The walks of the timers' ahead and of the heap's push. Condition: the timers lie at the pointer. -/
import Derived.Test.YtljfjlijobjpdaaTib
import Derived.BigRegion
namespace Go.Proofs.Ytljfjlijobjpdaa
open Go.RowKit
set_option linter.unusedVariables false
set_option linter.unusedSimpArgs false

theorem ahead_any (a b : On1) (w : World) : Calls Try.prog 12 #[.agg a.cells.toArray, .agg b.cells.toArray] w fun e w' => e = .returned (.bool (ltB a b)) ∧ Below w.heap.size w w' := by
  obtain ⟨ka, aa, na⟩ := a
  obtain ⟨kb, ab, nb⟩ := b
  have B2 := Lib.hid (((Below.refl w.heap.size w).alloc (Nat.le_refl _) (.cells #[str ka, .int .i64 aa, .int .i64 (na : Int)] 48 (0, 0))).alloc (by simp) (.cells #[str kb, .int .i64 ab, .int .i64 (nb : Int)] 48 (0, 0)))
  unfold ltB
  simp only [On1.cells]
  by_cases h1 : aa < ab
  · have d1 : decide (aa < ab) = true := by simpa using h1
    rw [d1]
    clear h1
    go_enter Try.func12, Try.ntmps12
    go_wp2_with fail
    go_ret
    exact ⟨rfl, B2.out⟩
  have d1 : decide (aa < ab) = false := by simpa using h1
  rw [d1]
  by_cases h2 : aa = ab
  · subst h2
    have e2 : (aa == aa) = true := by simp
    rw [decide_eq_true rfl]
    clear h1
    cases d3 : decide (na < nb)
    all_goals
      go_enter Try.func12, Try.ntmps12
      go_wp2_with fail
      go_ret
      exact ⟨rfl, B2.out⟩
  have e2 : (aa == ab) = false := by simpa using h2
  rw [decide_eq_false h2]
  clear h1 h2
  go_enter Try.func12, Try.ntmps12
  go_wp2_with fail
  go_ret
  exact ⟨rfl, B2.out⟩
end Go.Proofs.Ytljfjlijobjpdaa
