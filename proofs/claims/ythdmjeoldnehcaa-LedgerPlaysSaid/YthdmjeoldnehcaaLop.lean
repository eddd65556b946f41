/- What LedgerOne asks, plainly: what was said stays said; rows say what they may; of each transaction one decision. No program in it. No condition. -/
import Derived.Test.YthdmjeoldnehcaaLsp
namespace Go.Proofs.Ythdmjeoldnehcaa
open Go.RowKit
set_option linter.unusedVariables false
set_option linter.unusedSimpArgs false

theorem an_zero {a b : Nat} (ha : a < 256) (h : sub a b) : an a b = 0 := by
  apply Nat.eq_of_testBit_eq
  intro k
  rw [Nat.zero_testBit]
  by_cases hk : k < 8
  · rw [an_bit a b k hk]
    cases hb : a.testBit k
    · rfl
    · rw [h k hb]; rfl
  · exact Nat.testBit_lt_two_pow (Nat.lt_of_lt_of_le (an_lt a b) (Nat.pow_le_pow_right (n := 2) (by omega) (show 8 ≤ k by omega)))
theorem sub_refl (a : Nat) : sub a a := fun _ h => h
theorem sub_or (a : Nat) (k : Int) : sub a (a ||| bitO k) := fun j h => by rw [testBit_or_bit, h]; rfl
/-- Is all that was said of a row said yet? -/
def moreB (a b : Rw) : Bool := decide (a.tx = b.tx) && (!a.begun || (b.begun && decide (a.orgs = b.orgs))) && decide (an a.voted b.voted = 0) && decide (a.yes = b.yes &&& a.voted) && (!a.dec || (b.dec && (a.com == b.com))) && decide (an a.learnt b.learnt = 0)
/-- Does a row say what it may? -/
def soundB (bad : Nat) (r : Rw) : Bool := decide (an r.yes r.voted = 0) && decide (an r.voted r.orgs = 0) && (decide (r.learnt = 0) || r.dec) && (!r.com || r.dec) && (!r.com || (r.begun && decide (an (an r.orgs bad) r.yes = 0) && decide (an r.learnt r.yes = 0)))
theorem and_sub {a b : Nat} (h : sub a b) : a &&& b = a := by
  apply Nat.eq_of_testBit_eq
  intro k
  rw [Nat.testBit_and]
  cases hb : a.testBit k
  · rfl
  · rw [h k hb]; rfl
theorem more_refl {bad : Nat} {r : Rw} (h : Sound bad r) : moreB r r = true := by
  unfold moreB
  simp [an_zero h.lo.2.1 (sub_refl _), an_zero h.lo.2.2.2 (sub_refl _), and_sub h.y]
theorem more_do {bad : Nat} {r : Rw} {a : Ac} (h : Sound bad r) (hc : canDo bad r a = true) : moreB r (doIt r a) = true := by
  have z1 := an_zero h.lo.2.1 (sub_refl r.voted)
  have z2 := an_zero h.lo.2.2.2 (sub_refl r.learnt)
  have z3 := an_zero h.lo.2.1 (sub_or r.voted a.org)
  have z4 := an_zero h.lo.2.2.2 (sub_or r.learnt a.org)
  have z5 := and_sub h.y
  unfold canDo at hc
  unfold moreB doIt
  by_cases e1 : a.kind = 1
  · rw [if_pos e1] at hc ⊢
    simp only [Bool.and_eq_true, Bool.not_eq_true'] at hc
    simp [z1, z2, z5, hc.1, hc.2]
  · rw [if_neg e1] at hc ⊢
    by_cases e2 : a.kind = 2
    · rw [if_pos e2] at hc ⊢
      simp only [Bool.and_eq_true, Bool.not_eq_true', Bool.or_eq_false_iff] at hc
      obtain ⟨⟨h1, h2⟩, h3, h4⟩ := hc
      have hy : r.yes = (if a.yes = true then r.yes ||| bitO a.org else r.yes) &&& r.voted := by
        cases hay : a.yes
        · simp [z5]
        · simp only [if_true]
          apply Nat.eq_of_testBit_eq
          intro k
          rw [Nat.testBit_and, testBit_or_bit]
          cases hb : r.yes.testBit k
          · rw [Bool.false_or]
            by_cases hk : a.org.toNat = k
            · have hv : r.voted.testBit k = false := by
                unfold inS at h2 h3
                simp only [Bool.and_eq_true, decide_eq_true_eq] at h2
                rw [decide_eq_true h2.1, Bool.true_and, hk] at h3
                exact h3
              rw [hv, Bool.and_false]
            · rw [decide_eq_false hk]; rfl
          · rw [h.y k hb]; rfl
      simp only [z3, z2, ← hy, h1]
      simp
    · rw [if_neg e2] at hc ⊢
      by_cases e3 : a.kind = 3
      · rw [if_pos e3] at hc ⊢
        simp only [Bool.and_eq_true, Bool.not_eq_true'] at hc
        simp [z1, z2, z5, hc.1]
      · rw [if_neg e3] at hc ⊢
        simp [z1, z4, z5]
theorem more_step {bad : Nat} {rows : List Rw} (hs : ∀ r ∈ rows, Sound bad r) (a : Ac) : rows.length ≤ (step bad rows a).length ∧ ∀ k (h : k < rows.length) (h2 : k < (step bad rows a).length), moreB rows[k] (step bad rows a)[k] = true := by
  by_cases he : errOf bad rows a = 0
  rotate_left
  · have e := step_off he
    refine ⟨by rw [e]; exact Nat.le_refl _, fun k h h2 => ?_⟩
    have : (step bad rows a)[k] = rows[k] := by congr 1
    rw [this]
    exact more_refl (hs _ (List.getElem_mem h))
  obtain ⟨hm, hc⟩ := err_zero he
  have ht : (doIt (rowOf rows a.tx) a).tx = a.tx := (doIt_tx _ _).trans (rowOf_tx _ _)
  cases hi : idx rows a.tx with
  | some j =>
    have e : step bad rows a = rows.set j (doIt (rowOf rows a.tx) a) := by rw [step_on he, putRow_some (ht.symm ▸ hi)]
    refine ⟨by rw [e]; simp, fun k h h2 => ?_⟩
    have e2 : (step bad rows a)[k] = if j = k then doIt (rowOf rows a.tx) a else rows[k] := by
      have : (step bad rows a)[k] = (rows.set j (doIt (rowOf rows a.tx) a))[k]'(by simpa using h) := by congr 1
      rw [this, List.getElem_set]
    rw [e2]
    by_cases hjk : j = k
    · subst hjk
      rw [if_pos rfl]
      have := rowOf_some hi
      rw [← this]
      exact more_do (sound_rowOf hs _) hc
    · rw [if_neg hjk]
      exact more_refl (hs _ (List.getElem_mem h))
  | none =>
    have e : step bad rows a = rows ++ [doIt (rowOf rows a.tx) a] := by rw [step_on he, putRow_none (ht.symm ▸ hi)]
    refine ⟨by rw [e]; simp, fun k h h2 => ?_⟩
    have e2 : (step bad rows a)[k] = rows[k] := by
      have : (step bad rows a)[k] = (rows ++ [doIt (rowOf rows a.tx) a])[k]'(by simp; omega) := by congr 1
      rw [this, List.getElem_append_left]
    rw [e2]
    exact more_refl (hs _ (List.getElem_mem h))
theorem sound_put {bad : Nat} {rows : List Rw} {r : Rw} (hs : ∀ r ∈ rows, Sound bad r) (hr : Sound bad r) : ∀ q ∈ putRow rows r, Sound bad q := by
  intro q hq
  unfold putRow at hq
  split at hq
  · rcases List.mem_or_eq_of_mem_set hq with h1 | rfl
    · exact hs q h1
    · exact hr
  · rcases List.mem_append.1 hq with h1 | h1
    · exact hs q h1
    · rw [List.mem_singleton.1 h1]; exact hr
theorem sound_step {bad : Nat} {rows : List Rw} (hs : ∀ r ∈ rows, Sound bad r) {a : Ac} (ha : a.orgs < 256) : ∀ q ∈ step bad rows a, Sound bad q := by
  by_cases he : errOf bad rows a = 0
  · obtain ⟨hm, hc⟩ := err_zero he
    rw [step_on he]
    exact sound_put hs (sound_do (sound_rowOf hs _) hm hc ha)
  · rw [step_off he]; exact hs
theorem sound_is {bad : Nat} {r : Rw} (h : Sound bad r) : soundB bad r = true := by
  have z1 := an_zero h.lo.2.2.1 h.y
  have z2 := an_zero h.lo.2.1 h.v
  unfold soundB
  rw [z1, z2]
  have h3 : (decide (r.learnt = 0) || r.dec) = true := by
    by_cases hl : r.learnt = 0
    · simp [hl]
    · rw [h.l hl]; simp
  have h4 : (!r.com || r.dec) = true := by
    cases hc : r.com
    · rfl
    · rw [h.c hc]; rfl
  have h5 : (!r.com || (r.begun && decide (an (an r.orgs bad) r.yes = 0) && decide (an r.learnt r.yes = 0))) = true := by
    cases hc : r.com
    · rfl
    · obtain ⟨b1, b2, b3⟩ := h.b hc
      have y1 : an (an r.orgs bad) r.yes = 0 := an_zero (an_lt _ _) fun k hk => by
        by_cases hk8 : k < 8
        · rw [an_bit _ _ _ hk8, Bool.and_eq_true, Bool.not_eq_true'] at hk
          exact b2 k hk.1 hk.2
        · have : (an r.orgs bad).testBit k = false := Nat.testBit_lt_two_pow (Nat.lt_of_lt_of_le (an_lt _ _) (Nat.pow_le_pow_right (n := 2) (by omega) (show 8 ≤ k by omega)))
          rw [this] at hk; cases hk
      rw [b1, y1, an_zero h.lo.2.2.2 b3]; rfl
  rw [h3, h4, h5]
  rfl
/-- Does an action tell a decision? -/
def deci (a : Ac) : Bool := decide (a.kind = 3) || decide (a.kind = 4)
def Dc (rows : List Rw) (d : List Ac) : Prop := ∀ x ∈ d, deci x = true → (rowOf rows x.tx).dec = true ∧ (rowOf rows x.tx).com = x.yes
theorem dc_step {bad : Nat} {rows : List Rw} {d : List Ac} (h : Dc rows d) {a : Ac} (he : errOf bad rows a = 0) : Dc (step bad rows a) (d ++ [a]) ∧ ∀ x ∈ d, deci a = true → deci x = true → x.tx = a.tx → x.yes = a.yes := by
  obtain ⟨hm, hc⟩ := err_zero he
  obtain ⟨hk, _⟩ := may_kind hm
  have hn := (step_same bad rows a).1
  have hn2 : nrow bad rows a = doIt (rowOf rows a.tx) a := by unfold nrow; rw [if_pos he]
  rw [hn2] at hn
  unfold canDo at hc
  refine ⟨fun x hx hd => ?_, fun x hx ha hd ht => ?_⟩
  · rcases List.mem_append.1 hx with hx | hx
    · by_cases ht : a.tx = x.tx
      · have := h x hx hd
        rw [← ht] at this ⊢
        rw [hn]
        unfold doIt
        rcases hk with e | e | e | e
        · rw [if_pos e] at hc
          rw [this.1] at hc; simp at hc
        · rw [if_neg (by omega), if_pos e]; exact this
        · rw [if_neg (by omega), if_neg (by omega), if_pos e] at hc
          rw [this.1] at hc; simp at hc
        · rw [if_neg (by omega), if_neg (by omega), if_neg (by omega)]; exact this
      · rw [(step_other bad rows a x.tx ht).1]
        exact h x hx hd
    · rw [List.mem_singleton.1 hx] at hd ⊢
      rw [hn]
      unfold deci at hd
      simp only [Bool.or_eq_true, decide_eq_true_eq] at hd
      unfold doIt
      rcases hd with e | e
      · rw [if_neg (by omega), if_neg (by omega), if_pos e]
        exact ⟨rfl, rfl⟩
      · rw [if_neg (by omega), if_neg (by omega), if_neg (by omega)] at hc ⊢
        simp only [Bool.and_eq_true, beq_iff_eq] at hc
        exact ⟨hc.1.1.1.1, hc.1.1.1.2⟩
  · have := h x hx hd
    rw [ht] at this
    unfold deci at ha
    simp only [Bool.or_eq_true, decide_eq_true_eq] at ha
    rcases ha with e | e
    · rw [if_neg (by omega), if_neg (by omega), if_pos e] at hc
      rw [this.1] at hc; simp at hc
    · rw [if_neg (by omega), if_neg (by omega), if_neg (by omega)] at hc
      simp only [Bool.and_eq_true, beq_iff_eq] at hc
      rw [← this.2, hc.1.1.1.2]
end Go.Proofs.Ythdmjeoldnehcaa
