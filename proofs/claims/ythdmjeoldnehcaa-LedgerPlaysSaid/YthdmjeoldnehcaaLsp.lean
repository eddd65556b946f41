/- Two actions of unlike transactions come to the same in either order, plainly. No program in it. No condition. -/
import Derived.Test.YthdmjeoldnehcaaLrc
namespace Go.Proofs.Ythdmjeoldnehcaa
open Go.RowKit
set_option linter.unusedVariables false

/-- No transaction has two rows. -/
def Dis (rows : List Rw) : Prop := (rows.map Rw.tx).Nodup
theorem idx_map (rows : List Rw) (t : Tx) : idx rows t = (rows.map Rw.tx).findIdx? fun u => decide (u = t) := by
  unfold idx
  rw [List.findIdx?_map]
  rfl
theorem map_set (rows : List Rw) (k : Nat) (r : Rw) (hk : k < rows.length) (h : (rows[k]).tx = r.tx) : (rows.set k r).map Rw.tx = rows.map Rw.tx := by
  rw [List.map_set, ← h]
  apply List.ext_getElem?
  intro i
  rw [List.getElem?_set]
  by_cases e : k = i
  · subst e; simp [hk]
  · simp [e]
theorem idx_set (rows : List Rw) (k : Nat) (r : Rw) (hk : k < rows.length) (h : (rows[k]).tx = r.tx) (t : Tx) : idx (rows.set k r) t = idx rows t := by
  rw [idx_map, map_set rows k r hk h, ← idx_map]
theorem idx_app (rows : List Rw) (r : Rw) (t : Tx) : idx (rows ++ [r]) t = match idx rows t with | some k => some k | none => if r.tx = t then some rows.length else none := by
  unfold idx
  rw [List.findIdx?_append]
  cases h : List.findIdx? (fun r => decide (r.tx = t)) rows with
  | some k => rfl
  | none =>
    by_cases e : r.tx = t <;> simp [e, List.findIdx?_cons]
theorem put_other (rows : List Rw) (r : Rw) (t : Tx) (h : r.tx ≠ t) : rowOf (putRow rows r) t = rowOf rows t ∧ idx (putRow rows r) t = idx rows t := by
  cases hi : idx rows r.tx with
  | some k =>
    obtain ⟨hk, e⟩ := idx_some hi
    rw [putRow_some hi]
    have e2 := idx_set rows k r hk e t
    refine ⟨?_, e2⟩
    cases hj : idx rows t with
    | none => rw [rowOf_none hj, rowOf_none (e2.trans hj)]
    | some j =>
      rw [rowOf_some hj, rowOf_some (e2.trans hj)]
      obtain ⟨hjl, ej⟩ := idx_some hj
      rw [List.getElem_set]
      rw [if_neg]
      intro q
      subst q
      exact h (e.symm.trans ej)
  | none =>
    rw [putRow_none hi]
    have e2 : idx (rows ++ [r]) t = idx rows t := by
      rw [idx_app]
      cases idx rows t with
      | some k => rfl
      | none => simp [h]
    refine ⟨?_, e2⟩
    cases hj : idx rows t with
    | none => rw [rowOf_none hj, rowOf_none (e2.trans hj)]
    | some j =>
      rw [rowOf_some hj, rowOf_some (e2.trans hj)]
      rw [List.getElem_append_left]
theorem put_same (rows : List Rw) (r : Rw) : rowOf (putRow rows r) r.tx = r ∧ (idx (putRow rows r) r.tx).isSome = true ∧ (putRow rows r).length = rows.length + if (idx rows r.tx).isSome then 0 else 1 := by
  cases hi : idx rows r.tx with
  | some k =>
    obtain ⟨hk, e⟩ := idx_some hi
    rw [putRow_some hi]
    have e2 := (idx_set rows k r hk e r.tx).trans hi
    refine ⟨?_, by rw [e2]; rfl, by simp⟩
    rw [rowOf_some e2]
    simp
  | none =>
    rw [putRow_none hi]
    have e2 : idx (rows ++ [r]) r.tx = some rows.length := by
      rw [idx_app, hi]
      simp
    refine ⟨?_, by rw [e2]; rfl, by simp⟩
    rw [rowOf_some e2]
    simp
theorem idx_none_mem {rows : List Rw} {t : Tx} (h : idx rows t = none) : t ∉ rows.map Rw.tx := by
  intro hm
  rw [List.mem_map] at hm
  obtain ⟨r, hr, rfl⟩ := hm
  unfold idx at h
  rw [List.findIdx?_eq_none_iff] at h
  have := h r hr
  simp at this
theorem dis_put {rows : List Rw} (h : Dis rows) (r : Rw) : Dis (putRow rows r) := by
  cases hi : idx rows r.tx with
  | some k =>
    obtain ⟨hk, e⟩ := idx_some hi
    rw [putRow_some hi]
    unfold Dis
    rw [map_set rows k r hk e]
    exact h
  | none =>
    rw [putRow_none hi]
    unfold Dis
    rw [List.map_append, List.nodup_append]
    refine ⟨h, by simp, ?_⟩
    intro a ha b hb q
    simp at hb
    subst q hb
    exact idx_none_mem hi ha
theorem dis_step {bad : Nat} {rows : List Rw} (h : Dis rows) (a : Ac) : Dis (step bad rows a) := by
  unfold step
  split
  · exact dis_put h _
  · exact h
theorem dis_stp (bad : Nat) (ls : List Ac) : ∀ k, k ≤ ls.length → Dis (stp bad ls k)
  | 0, _ => by rw [stp_zero]; exact List.nodup_nil
  | k + 1, h => by rw [stp_succ bad ls k h]; exact dis_step (dis_stp bad ls k (by omega)) _
theorem dis_idx {rows : List Rw} (h : Dis rows) (i : Nat) (hi : i < rows.length) : idx rows (rows[i]).tx = some i := by
  cases hj : idx rows (rows[i]).tx with
  | none => exact absurd (List.mem_map.2 ⟨_, List.getElem_mem hi, rfl⟩) (idx_none_mem hj)
  | some j =>
    obtain ⟨hjl, e⟩ := idx_some hj
    have hp := List.pairwise_iff_getElem.1 h
    congr 1
    rcases Nat.lt_trichotomy j i with hlt | heq | hlt
    · exact absurd (by rw [List.getElem_map, List.getElem_map]; exact e) (hp j i (by simpa using hjl) (by simpa using hi) hlt)
    · exact heq
    · exact absurd (by rw [List.getElem_map, List.getElem_map]; exact e.symm) (hp i j (by simpa using hi) (by simpa using hjl) hlt)
/-- The row behind an action. -/
def nrow (bad : Nat) (rows : List Rw) (a : Ac) : Rw := if errOf bad rows a = 0 then doIt (rowOf rows a.tx) a else rowOf rows a.tx
theorem step_other (bad : Nat) (rows : List Rw) (a : Ac) (t : Tx) (h : a.tx ≠ t) : rowOf (step bad rows a) t = rowOf rows t ∧ idx (step bad rows a) t = idx rows t := by
  unfold step
  split
  · exact put_other rows _ t (by rw [doIt_tx, rowOf_tx]; exact h)
  · exact ⟨rfl, rfl⟩
theorem step_same (bad : Nat) (rows : List Rw) (a : Ac) : rowOf (step bad rows a) a.tx = nrow bad rows a ∧ (idx (step bad rows a) a.tx).isSome = ((idx rows a.tx).isSome || decide (errOf bad rows a = 0)) ∧ (step bad rows a).length = rows.length + if (idx rows a.tx).isSome || !decide (errOf bad rows a = 0) then 0 else 1 := by
  have ht : (doIt (rowOf rows a.tx) a).tx = a.tx := (doIt_tx _ _).trans (rowOf_tx _ _)
  unfold step nrow
  by_cases h : errOf bad rows a = 0
  · rw [if_pos h, if_pos h]
    have := put_same rows (doIt (rowOf rows a.tx) a)
    rw [ht] at this
    refine ⟨this.1, ?_, ?_⟩
    · rw [this.2.1]; simp [h]
    · rw [this.2.2]; simp [h]
  · rw [if_neg h, if_neg h]
    exact ⟨rfl, by simp [h], by simp [h]⟩
theorem err_other (bad : Nat) (rows : List Rw) (a b : Ac) (h : a.tx ≠ b.tx) : errOf bad (step bad rows b) a = errOf bad rows a := by
  unfold errOf
  rw [(step_other bad rows b a.tx (fun q => h q.symm)).1]
theorem swap_rows (bad : Nat) (rows : List Rw) (a b : Ac) (h : a.tx ≠ b.tx) (hd : Dis rows) :
    (step bad (step bad rows a) b).length = (step bad (step bad rows b) a).length ∧ ∀ i (hi : i < (step bad (step bad rows a) b).length), rowV (step bad (step bad rows b) a) ((step bad (step bad rows a) b)[i]).tx = .tuple #[.agg ((step bad (step bad rows a) b)[i]).cells.toArray, .bool true] := by
  have ha := step_same bad rows a
  have hb := step_same bad rows b
  have hab := step_same bad (step bad rows a) b
  have hba := step_same bad (step bad rows b) a
  have ea := err_other bad rows a b h
  have eb := err_other bad rows b a (fun q => h q.symm)
  have ia := (step_other bad rows b a.tx (fun q => h q.symm))
  have ib := (step_other bad rows a b.tx h)
  have na : nrow bad (step bad rows b) a = nrow bad rows a := by unfold nrow; rw [ea, ia.1]
  have nb : nrow bad (step bad rows a) b = nrow bad rows b := by unfold nrow; rw [eb, ib.1]
  have hl : (step bad (step bad rows a) b).length = (step bad (step bad rows b) a).length := by
    rw [hab.2.2, hba.2.2, ha.2.2, hb.2.2, ea, eb, ia.2, ib.2]
    omega
  have same : ∀ t, rowOf (step bad (step bad rows a) b) t = rowOf (step bad (step bad rows b) a) t ∧ (idx (step bad (step bad rows a) b) t).isSome = (idx (step bad (step bad rows b) a) t).isSome := by
    intro t
    by_cases h1 : a.tx = t
    · subst h1
      have o1 := step_other bad (step bad rows a) b a.tx (fun q => h q.symm)
      rw [o1.1, o1.2, ha.1, hba.1, na, ha.2.1, hba.2.1, ia.2, ea]
      exact ⟨rfl, rfl⟩
    · by_cases h2 : b.tx = t
      · subst h2
        have o1 := step_other bad (step bad rows b) a b.tx h
        rw [o1.1, o1.2, hb.1, hab.1, nb, hb.2.1, hab.2.1, ib.2, eb]
        exact ⟨rfl, rfl⟩
      · have o1 := step_other bad (step bad rows a) b t h2
        have o2 := step_other bad rows a t h1
        have o3 := step_other bad (step bad rows b) a t h1
        have o4 := step_other bad rows b t h2
        rw [o1.1, o1.2, o2.1, o2.2, o3.1, o3.2, o4.1, o4.2]
        exact ⟨rfl, rfl⟩
  refine ⟨hl, fun i hi => ?_⟩
  have hd2 : Dis (step bad (step bad rows a) b) := dis_step (dis_step hd a) b
  have h1 := dis_idx hd2 i hi
  obtain ⟨s1, s2⟩ := same ((step bad (step bad rows a) b)[i]).tx
  rw [rowOf_some h1] at s1
  rw [h1] at s2
  cases hk : idx (step bad (step bad rows b) a) ((step bad (step bad rows a) b)[i]).tx with
  | none => rw [hk] at s2; cases s2
  | some k =>
    rw [rowV_some hk]
    rw [rowOf_some hk] at s1
    exact congrArg (fun r : Rw => Value.tuple #[.agg r.cells.toArray, .bool true]) s1.symm
end Go.Proofs.Ythdmjeoldnehcaa
