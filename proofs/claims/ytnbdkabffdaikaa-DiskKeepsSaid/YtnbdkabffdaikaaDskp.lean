/- What a step of a script, which is no cut, leaves of a disk: what is synced stays. No condition but that the disk is one that New made. -/
import Derived.Test.YtnbdkabffdaikaaDske
import Derived.Test.YtnbdkabffdaikaaBgn
namespace Go.Proofs.Ytnbdkabffdaikaa
open Go.RowKit
set_option linter.unusedVariables false

theorem begins_take (l : List UInt8) (n : Nat) : begins l (l.take n) = true := (begins_iff _ _).2 ⟨l.drop n, (List.take_append_drop n l).symm⟩
theorem begins_app (a b : List UInt8) : begins (a ++ b) a = true := (begins_iff _ _).2 ⟨b, rfl⟩
theorem begins_refl (a : List UInt8) : begins a a = true := (begins_iff _ _).2 ⟨[], by simp⟩
theorem begins_trans {a b c : List UInt8} (h : begins a b = true) (h2 : begins b c = true) : begins a c = true := by
  obtain ⟨r, rfl⟩ := (begins_iff _ _).1 h
  obtain ⟨q, rfl⟩ := (begins_iff _ _).1 h2
  exact (begins_iff _ _).2 ⟨q ++ r, by simp⟩

/-- What the law asks of a step. -/
structure Keep (s t : DS) (act : Int) : Prop where
  front : begins t.bytes (s.bytes.take s.synced.toNat) = true
  syn : s.synced ≤ t.synced
  crash : act = 4 → begins s.bytes t.bytes = true ∧ t.synced = t.bytes.length
  other : act ≠ 4 → begins t.bytes s.bytes = true

theorem keep_more {s t : DS} {act : Int} (ha : act ≠ 4) (h : begins t.bytes s.bytes = true) (hs : s.synced ≤ t.synced) : Keep s t act :=
  ⟨begins_trans h (begins_take _ _), hs, fun e => absurd e ha, fun _ => h⟩

theorem keep_step {s : DS} (G : Good s) (x : Stp) (h2 : x.act ≠ 2) : Keep s (stepS s x).1 x.act := by
  obtain ⟨r0, r1, hl, l0, l1, y0, y1⟩ := G
  unfold stepS
  by_cases a0 : x.act = 0
  · rw [if_pos a0]
    refine keep_more (by omega) ?_ ?_
    · unfold appendS; split
      · exact begins_refl _
      · split
        · exact begins_refl _
        · exact begins_app _ _
    · unfold appendS; split
      · exact Int.le_refl _
      · split <;> exact Int.le_refl _
  rw [if_neg a0]
  by_cases a1 : x.act = 1
  · rw [if_pos a1]
    refine keep_more (by omega) ?_ ?_
    · unfold syncS; split <;> exact begins_refl _
    · unfold syncS; split
      · exact Int.le_refl _
      · exact y1
  rw [if_neg a1, if_neg h2]
  by_cases a3 : x.act = 3
  · rw [if_pos a3]
    exact keep_more (by omega) (begins_refl _) (Int.le_refl _)
  rw [if_neg a3]
  by_cases a4 : x.act = 4
  · rw [if_pos a4]
    have hc : s.synced ≤ crashN s x.n ∧ crashN s x.n ≤ s.bytes.length := by unfold crashN; split <;> omega
    refine ⟨?_, hc.1, fun _ => ⟨begins_take _ _, ?_⟩, fun e => absurd a4 e⟩
    · show begins (s.bytes.take (crashN s x.n)) (s.bytes.take s.synced.toNat) = true
      have : s.bytes.take s.synced.toNat = (s.bytes.take (crashN s x.n)).take s.synced.toNat := by
        rw [List.take_take, Nat.min_eq_left (by omega)]
      rw [this]; exact begins_take _ _
    · show ((crashN s x.n : Nat) : Int) = ((s.bytes.take (crashN s x.n)).length : Int)
      rw [List.length_take, Nat.min_eq_left hc.2]
  rw [if_neg a4]
  exact keep_more a4 (begins_refl _) (Int.le_refl _)
end Go.Proofs.Ytnbdkabffdaikaa
