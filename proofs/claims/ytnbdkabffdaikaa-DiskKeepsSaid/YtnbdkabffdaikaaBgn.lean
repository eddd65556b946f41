/- Begins: does a text begin with another. Condition: the numbers fit. -/
import Derived.Test.YtnbdkabffdaikaaStr
namespace Go.Proofs.Ytnbdkabffdaikaa
open Go.RowKit
set_option linter.unusedVariables false

/-! ### Begins -/
def begins (s t : List UInt8) : Bool := decide (t.length ≤ s.length) && (s.take t.length == t)

set_option maxHeartbeats 400000 in
theorem Begins_any (s t : List UInt8) (hs : s.length ≤ 9223372036854775807) (ht : t.length ≤ 9223372036854775807) (w : World) :
    Calls Try.prog 19 #[str s, str t] w fun e w' => e = .returned (.bool (begins s t)) ∧ w = w' := by
  by_cases h : t.length ≤ s.length
  · have hb : begins s t = (s.take t.length == t) := by simp [begins, h]
    rw [hb]
    go_enter Try.func19, Try.ntmps19
    go_wp2_with fail
    go_ret
    exact ⟨rfl, rfl⟩
  · have hb : begins s t = false := by simp [begins, h]
    rw [hb]
    go_enter Try.func19, Try.ntmps19
    go_wp2_with fail
    go_ret
    exact ⟨rfl, rfl⟩

theorem begins_iff (s t : List UInt8) : begins s t = true ↔ ∃ r, s = t ++ r := by
  unfold begins
  constructor
  · intro h
    simp only [Bool.and_eq_true, decide_eq_true_eq, beq_iff_eq] at h
    exact ⟨s.drop t.length, by rw [← h.2, List.length_take, Nat.min_eq_left h.1, List.take_append_drop]⟩
  · rintro ⟨r, rfl⟩
    simp
end Go.Proofs.Ytnbdkabffdaikaa
