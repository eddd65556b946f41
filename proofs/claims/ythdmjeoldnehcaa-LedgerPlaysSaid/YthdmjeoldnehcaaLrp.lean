/- The reference plainly: what an action may be, which rows the actions that were done come to; it answers as the ledger does. No program in it. No condition. -/
import Derived.Test.YthdmjeoldnehcaaLre
import Derived.Test.YthdmjeoldnehcaaLsp
namespace Go.Proofs.Ythdmjeoldnehcaa
open Go.RowKit
set_option linter.unusedVariables false
set_option linter.unusedSimpArgs false

/-- What the reference's mayBe asks last. -/
def lastB (bad : Nat) (a : Ac) : Bool := if a.kind = 1 then decide (1 ≤ ones a.orgs) && decide (ones a.orgs ≤ 6) && !inS a.orgs a.tx.c else decide (a.kind = 3) || (orgB a.org && !inS bad a.org && decide (a.org ≠ a.tx.c))
def mayR (bad : Nat) (a : Ac) : Bool := decide (1 ≤ a.kind) && decide (a.kind ≤ 4) && decide (a = bareA a) && mayTx a.tx && !inS bad a.tx.c && lastB bad a
theorem ones_zero {n : Nat} (h : n < 256) : ones n = 0 ↔ n = 0 := by
  have hh : ∀ n : Fin 256, ones n.val = 0 ↔ n.val = 0 := by decide +kernel
  exact hh ⟨n, h⟩
theorem mayR_is {bad : Nat} {a : Ac} (h : a.orgs < 256) : mayR bad a = mayBe bad a := by
  obtain ⟨kind, tx, org, yes, orgs⟩ := a
  have hz := ones_zero h
  have o0 : ones 0 = 0 := by decide +kernel
  unfold mayR mayBe lastB bareA
  simp only
  by_cases e1 : kind = 1
  · subst e1
    simp only [if_true, Ac.mk.injEq, true_and, and_true]
    generalize mayTx tx = m
    generalize inS bad tx.c = i
    generalize inS orgs tx.c = j
    by_cases h1 : org = 0 <;> cases yes <;> cases m <;> cases i <;> cases j <;> simp [h1]
  by_cases e3 : kind = 3
  · subst e3
    simp only [Ac.mk.injEq, true_and, and_true]
    generalize mayTx tx = m
    generalize inS bad tx.c = i
    by_cases h1 : org = 0 <;> by_cases h2 : orgs = 0 <;> cases m <;> cases i <;> simp [h1, h2, hz, o0]
  by_cases e2 : kind = 2
  · subst e2
    simp only [Ac.mk.injEq, true_and, and_true]
    generalize mayTx tx = m
    generalize inS bad tx.c = i
    generalize inS bad org = j
    generalize orgB org = k
    by_cases h1 : org = tx.c <;> by_cases h2 : orgs = 0 <;> cases m <;> cases i <;> cases j <;> cases k <;> simp [h1, h2, hz, o0]
  by_cases e4 : kind = 4
  · subst e4
    simp only [Ac.mk.injEq, true_and, and_true]
    generalize mayTx tx = m
    generalize inS bad tx.c = i
    generalize inS bad org = j
    generalize orgB org = k
    by_cases h1 : org = tx.c <;> by_cases h2 : orgs = 0 <;> cases m <;> cases i <;> cases j <;> cases k <;> simp [h1, h2, hz, o0]
  have hk : (decide (1 ≤ kind) && decide (kind ≤ 4)) = false := by
    by_cases q : 1 ≤ kind
    · have : ¬ kind ≤ 4 := by omega
      simp [this]
    · simp [q]
  rw [hk]
  simp

/-- What the actions that were done say of a transaction; is anything said of it? -/
def fR (L : List Ac) (t : Tx) : Rw := L.foldl (fun r a => if a.tx = t then doIt r a else r) (row0 t)
def isR (L : List Ac) (t : Tx) : Bool := L.any fun a => decide (a.tx = t)
theorem fR_snoc (L : List Ac) (a : Ac) (t : Tx) : fR (L ++ [a]) t = if a.tx = t then doIt (fR L t) a else fR L t := by
  unfold fR
  rw [List.foldl_append]
  rfl
theorem isR_snoc (L : List Ac) (a : Ac) (t : Tx) : isR (L ++ [a]) t = (isR L t || decide (a.tx = t)) := by
  unfold isR
  rw [List.any_append]
  simp
theorem fR_tx (t : Tx) : ∀ L : List Ac, (fR L t).tx = t := by
  have h : ∀ (L : List Ac) (r : Rw), (L.foldl (fun r a => if a.tx = t then doIt r a else r) r).tx = r.tx := by
    intro L
    induction L with
    | nil => intro r; rfl
    | cons a L ih =>
      intro r
      rw [List.foldl_cons, ih]
      split
      · exact doIt_tx r a
      · rfl
  intro L
  exact h L (row0 t)
/-- The transactions of the first n actions, each once, as they come. -/
def txTo (L : List Ac) : Nat → List Tx
  | 0 => []
  | n + 1 => if h : n < L.length then txTo L n ++ (if isR (L.take n) (L[n]).tx then [] else [(L[n]).tx]) else txTo L n
theorem txTo_succ (L : List Ac) (n : Nat) (h : n < L.length) : txTo L (n + 1) = txTo L n ++ (if isR (L.take n) (L[n]).tx then [] else [(L[n]).tx]) := by
  rw [txTo, dif_pos h]
theorem txTo_app (L : List Ac) (a : Ac) : ∀ n, n ≤ L.length → txTo (L ++ [a]) n = txTo L n
  | 0, _ => rfl
  | n + 1, h => by
    rw [txTo_succ _ n (by simp; omega), txTo_succ L n (by omega), txTo_app L a n (by omega)]
    have e1 : (L ++ [a]).take n = L.take n := by rw [List.take_append_of_le_length (by omega)]
    have e2 : (L ++ [a])[n]'(by simp; omega) = L[n]'(by omega) := List.getElem_append_left (by omega)
    rw [e1, e2]
theorem txTo_snoc (L : List Ac) (a : Ac) : txTo (L ++ [a]) (L ++ [a]).length = txTo L L.length ++ if isR L a.tx then [] else [a.tx] := by
  rw [List.length_append, List.length_singleton, txTo_succ _ _ (by simp), txTo_app L a _ (Nat.le_refl _)]
  have e1 : (L ++ [a]).take L.length = L := by simp
  have e2 : (L ++ [a])[L.length]'(by simp) = a := by simp
  rw [e1, e2]
theorem txTo_len (L : List Ac) : ∀ n, (txTo L n).length ≤ n
  | 0 => by simp [txTo]
  | n + 1 => by
    rw [txTo]
    have := txTo_len L n
    split
    · rw [List.length_append]
      split <;> simp <;> omega
    · omega
/-- The reference's rows. -/
def rowsR (L : List Ac) : List Rw := (txTo L L.length).map (fR L)
/-- What the ledger does, of the actions that were done. -/
inductive Bt (bad : Nat) : List Ac → List Rw → Prop
  | nil : Bt bad [] []
  | snoc {L : List Ac} {rows : List Rw} {a : Ac} (h : Bt bad L rows) (he : errOf bad rows a = 0) (ho : a.orgs < 256) : Bt bad (L ++ [a]) (step bad rows a)
theorem Bt.dis {bad : Nat} {L : List Ac} {rows : List Rw} (h : Bt bad L rows) : Dis rows := by
  induction h with
  | nil => exact List.nodup_nil
  | snoc h he ho ih => exact dis_step ih _
theorem Bt.row {bad : Nat} {L : List Ac} {rows : List Rw} (h : Bt bad L rows) : ∀ t, rowOf rows t = fR L t ∧ (idx rows t).isSome = isR L t := by
  induction h with
  | nil => exact fun t => ⟨rfl, rfl⟩
  | @snoc L rows a h he ho ih =>
    intro t
    rw [fR_snoc, isR_snoc]
    by_cases ht : a.tx = t
    · subst ht
      have hs := step_same bad rows a
      rw [if_pos rfl]
      refine ⟨?_, ?_⟩
      · rw [hs.1]
        unfold nrow
        rw [if_pos he, (ih a.tx).1]
      · rw [hs.2.1]
        simp [he]
    · rw [if_neg ht]
      have hs := step_other bad rows a t ht
      rw [hs.1, hs.2, (ih t).1, (ih t).2]
      simp [ht]
theorem Bt.tx {bad : Nat} {L : List Ac} {rows : List Rw} (h : Bt bad L rows) : rows.map Rw.tx = txTo L L.length := by
  induction h with
  | nil => rfl
  | @snoc L rows a h he ho ih =>
    rw [txTo_snoc, ← ih]
    have ht : (doIt (rowOf rows a.tx) a).tx = a.tx := (doIt_tx _ _).trans (rowOf_tx _ _)
    have hi := (h.row a.tx).2
    rw [step_on he]
    cases hk : idx rows a.tx with
    | some k =>
      rw [hk] at hi
      obtain ⟨hkl, e⟩ := idx_some hk
      rw [putRow_some (ht.symm ▸ hk), map_set rows k _ hkl (e.trans ht.symm), ← hi]
      simp
    | none =>
      rw [hk] at hi
      rw [putRow_none (ht.symm ▸ hk), List.map_append, ← hi]
      simp [ht]
theorem Bt.rows {bad : Nat} {L : List Ac} {rows : List Rw} (h : Bt bad L rows) : rows = rowsR L := by
  unfold rowsR
  rw [← h.tx, List.map_map]
  apply List.ext_getElem
  · simp
  · intro i h1 h2
    rw [List.getElem_map]
    have hd := dis_idx h.dis i h1
    have := rowOf_some hd
    rw [(h.row _).1] at this
    exact this.symm
/-- Of whatever anything is said, it is begun or decided. -/
theorem Bt.said {bad : Nat} {L : List Ac} {rows : List Rw} (h : Bt bad L rows) : ∀ t, isR L t = true → (fR L t).begun = true ∨ (fR L t).dec = true := by
  induction h with
  | nil => intro t ht; cases ht
  | @snoc L rows a h he ho ih =>
    intro t ht
    rw [fR_snoc]
    by_cases e : a.tx = t
    · subst e
      rw [if_pos rfl]
      obtain ⟨hm, hc⟩ := err_zero he
      rw [(h.row a.tx).1] at hc
      unfold canDo at hc
      unfold doIt
      by_cases k1 : a.kind = 1
      · rw [if_pos k1]; exact .inl rfl
      rw [if_neg k1] at hc ⊢
      by_cases k2 : a.kind = 2
      · rw [if_pos k2] at hc ⊢
        simp only [Bool.and_eq_true] at hc
        exact .inl hc.1.1
      rw [if_neg k2] at hc ⊢
      by_cases k3 : a.kind = 3
      · rw [if_pos k3]; exact .inr rfl
      rw [if_neg k3] at hc ⊢
      simp only [Bool.and_eq_true] at hc
      exact .inr hc.1.1.1.1
    · rw [if_neg e]
      rw [isR_snoc, decide_eq_false e, Bool.or_false] at ht
      exact ih t ht
theorem Bt.not {bad : Nat} {L : List Ac} {rows : List Rw} (h : Bt bad L rows) : ∀ t, isR L t = false → fR L t = row0 t := by
  intro t ht
  rw [← (h.row t).1]
  have := (h.row t).2
  rw [ht] at this
  exact rowOf_none (by simpa using this)
/-- Can an action be done, by the reference? -/
def canF (bad : Nat) (r : Rw) (is : Bool) (a : Ac) : Bool :=
  if a.kind = 1 then !is
  else if a.kind = 2 then r.begun && inS r.orgs a.org && !inS r.voted a.org && !inS r.learnt a.org
  else if a.kind = 3 then !r.dec && (!a.yes || (r.begun && (List.range 8).all fun k => !r.orgs.testBit k || bad.testBit k || r.yes.testBit k))
  else r.dec && (r.com == a.yes) && !inS r.learnt a.org && (!r.begun || inS r.orgs a.org) && (!a.yes || inS r.yes a.org)
/-- What the reference's Row answers. -/
def rvR (L : List Ac) (t : Tx) : Rw := if isR L t then fR L t else row0 ⟨0, 0, 0⟩
def errR (bad : Nat) (L : List Ac) (a : Ac) : Nat := if mayR bad a = false then 2 else if canF bad (rvR L a.tx) (isR L a.tx) a = false then 290 else 0
theorem canF_is {bad : Nat} {L : List Ac} {rows : List Rw} (h : Bt bad L rows) (a : Ac) : canF bad (rvR L a.tx) (isR L a.tx) a = canDo bad (rowOf rows a.tx) a := by
  rw [(h.row a.tx).1]
  unfold canF canDo rvR
  have hall : ∀ r : Rw, ((List.range 8).all fun k => !r.orgs.testBit k || bad.testBit k || r.yes.testBit k) = ((List.range 8).all fun k => !(r.orgs.testBit k && !bad.testBit k) || r.yes.testBit k) := fun r => by
    congr 1
    funext k
    cases r.orgs.testBit k <;> cases bad.testBit k <;> rfl
  cases hi : isR L a.tx
  · rw [h.not a.tx hi]
    simp only [Bool.false_eq_true, if_false, row0]
    simp
  · have hs := h.said a.tx hi
    simp only [if_true]
    generalize fR L a.tx = r at hs
    rw [hall r]
    by_cases k1 : a.kind = 1
    · rw [if_pos k1, if_pos k1]
      rcases hs with e | e <;> simp [e]
    · rw [if_neg k1, if_neg k1, Bool.not_or, Bool.and_assoc]
theorem errR_is {bad : Nat} {L : List Ac} {rows : List Rw} (h : Bt bad L rows) {a : Ac} (ho : a.orgs < 256) : errR bad L a = errOf bad rows a := by
  unfold errR errOf
  rw [mayR_is ho, canF_is h a]
theorem rv_is {bad : Nat} {L : List Ac} {rows : List Rw} (h : Bt bad L rows) (t : Tx) : rowV rows t = .tuple #[.agg (rvR L t).cells.toArray, .bool (isR L t)] := by
  have h1 := h.row t
  unfold rvR
  cases hi : idx rows t with
  | none =>
    rw [rowV_none hi]
    rw [hi] at h1
    rw [← h1.2]
    rfl
  | some k =>
    rw [rowV_some hi]
    rw [rowOf_some hi, hi] at h1
    rw [← h1.2, ← h1.1]
    rfl
/-- What the actions that were done are like. -/
structure Okd (bad : Nat) (a : Ac) : Prop where
  k : a.kind = 1 ∨ a.kind = 2 ∨ a.kind = 3 ∨ a.kind = 4
  o : a.kind = 2 ∨ a.kind = 4 → 0 ≤ a.org ∧ a.org < 8
  g : a.orgs < 256
theorem Bt.ok {bad : Nat} {L : List Ac} {rows : List Rw} (h : Bt bad L rows) : ∀ a ∈ L, Okd bad a := by
  induction h with
  | nil => intro a ha; cases ha
  | @snoc L rows a h he ho ih =>
    intro x hx
    rcases List.mem_append.1 hx with hx | hx
    · exact ih x hx
    · rw [List.mem_singleton.1 hx]
      have := may_kind (err_zero he).1
      exact ⟨this.1, this.2, ho⟩
def Lo (r : Rw) : Prop := r.orgs < 256 ∧ r.voted < 256 ∧ r.yes < 256 ∧ r.learnt < 256
theorem lo_do {bad : Nat} {r : Rw} {a : Ac} (h : Lo r) (ha : Okd bad a) : Lo (doIt r a) := by
  obtain ⟨h1, h2, h3, h4⟩ := h
  obtain ⟨k, o, g⟩ := ha
  unfold doIt
  rcases k with e | e | e | e
  · rw [if_pos e]; exact ⟨g, h2, h3, h4⟩
  · rw [if_neg (by omega), if_pos e]
    have ho := o (.inl e)
    have hb := bitO_lt ho.1 ho.2
    refine ⟨h1, or_lt h2 hb, ?_, h4⟩
    simp only
    split
    · exact or_lt h3 hb
    · exact h3
  · rw [if_neg (by omega), if_neg (by omega), if_pos e]; exact ⟨h1, h2, h3, h4⟩
  · rw [if_neg (by omega), if_neg (by omega), if_neg (by omega)]
    have ho := o (.inr e)
    exact ⟨h1, h2, h3, or_lt h4 (bitO_lt ho.1 ho.2)⟩
theorem lo_fR {bad : Nat} {L : List Ac} (h : ∀ a ∈ L, Okd bad a) (t : Tx) : Lo (fR L t) := by
  have hh : ∀ (L : List Ac), (∀ a ∈ L, Okd bad a) → ∀ (r : Rw), Lo r → Lo (L.foldl (fun r a => if a.tx = t then doIt r a else r) r) := by
    intro L
    induction L with
    | nil => intro _ r hr; exact hr
    | cons a L ih =>
      intro hL r hr
      rw [List.foldl_cons]
      refine ih (fun x hx => hL x (List.mem_cons_of_mem _ hx)) _ ?_
      split
      · exact lo_do hr (hL a List.mem_cons_self)
      · exact hr
  exact hh L h _ (by simp [Lo, row0])
theorem lo_rv {bad : Nat} {L : List Ac} (h : ∀ a ∈ L, Okd bad a) (t : Tx) : Lo (rvR L t) := by
  unfold rvR
  split
  · exact lo_fR h t
  · simp [Lo, row0]
/-- The actions that were done of the first k of a row. -/
def acc (bad : Nat) (ls : List Ac) : Nat → List Ac
  | 0 => []
  | k + 1 => if h : k < ls.length then (if errOf bad (stp bad ls k) ls[k] = 0 then acc bad ls k ++ [ls[k]] else acc bad ls k) else acc bad ls k
theorem acc_len (bad : Nat) (ls : List Ac) : ∀ k, (acc bad ls k).length ≤ k
  | 0 => by simp [acc]
  | k + 1 => by
    have := acc_len bad ls k
    rw [acc]
    split
    · split
      · rw [List.length_append]; simp; omega
      · omega
    · omega
theorem acc_bt (bad : Nat) (ls : List Ac) (ho : ∀ a ∈ ls, a.orgs < 256) : ∀ k, k ≤ ls.length → Bt bad (acc bad ls k) (stp bad ls k)
  | 0, _ => by rw [stp_zero]; exact .nil
  | k + 1, h => by
    have ih := acc_bt bad ls ho k (by omega)
    rw [stp_succ bad ls k h, acc, dif_pos (show k < ls.length from h)]
    by_cases he : errOf bad (stp bad ls k) ls[k] = 0
    · rw [if_pos he]
      exact ih.snoc he (ho _ (List.getElem_mem h))
    · rw [if_neg he, step_off he]
      exact ih
end Go.Proofs.Ythdmjeoldnehcaa
