/- The timers plainly: a heap in a list, what a push and a pop turn; the row of what holds of each key; what is due. No program in it. No condition. -/
import Derived.Test.YtljfjlijobjpdaaStr
namespace Go.Proofs.Ytljfjlijobjpdaa
open Go.RowKit
set_option linter.unusedVariables false
set_option linter.unusedSimpArgs false

/-- A key that was set. -/
structure On1 where
  key : List UInt8
  at_ : Int
  no : Nat
deriving DecidableEq
def On1.cells (x : On1) : List Value := [str x.key, .int .i64 x.at_, .int .i64 (x.no : Int)]
def ltB (a b : On1) : Bool := decide (a.at_ < b.at_) || (decide (a.at_ = b.at_) && decide (a.no < b.no))
def le (a b : On1) : Prop := a.at_ < b.at_ ∨ (a.at_ = b.at_ ∧ a.no ≤ b.no)
theorem lt_iff {a b : On1} : ltB a b = true ↔ (a.at_ < b.at_ ∨ (a.at_ = b.at_ ∧ a.no < b.no)) := by simp [ltB]
theorem le_of_not {a b : On1} (h : ltB a b = false) : le b a := by
  have h' : ¬ (a.at_ < b.at_ ∨ (a.at_ = b.at_ ∧ a.no < b.no)) := fun q => by rw [lt_iff.2 q] at h; cases h
  unfold le
  omega
theorem le_of_lt {a b : On1} (h : ltB a b = true) : le a b := by
  have := lt_iff.1 h
  unfold le
  omega
theorem le_refl (a : On1) : le a a := .inr ⟨rfl, Nat.le_refl _⟩
theorem le_trans {a b c : On1} (h : le a b) (k : le b c) : le a c := by
  unfold le at *
  omega
/-- The j-th. -/
def g (l : List On1) (j : Nat) : On1 := l.getD j ⟨[], 0, 0⟩
theorem g_at {l : List On1} {j : Nat} (h : j < l.length) : g l j = l[j] := by simp [g, h]
theorem g_set (l : List On1) (i : Nat) (x : On1) (j : Nat) (hi : i < l.length) : g (l.set i x) j = if i = j then x else g l j := by
  unfold g
  rw [List.getD_eq_getElem?_getD, List.getElem?_set]
  by_cases e : i = j
  · subst e; simp [hi]
  · simp [e]
def Heap (l : List On1) : Prop := ∀ j, 0 < j → j < l.length → le (g l ((j - 1) / 2)) (g l j)
def UpInv (l : List On1) (k : Nat) : Prop := (∀ j, 0 < j → j < l.length → j ≠ k → le (g l ((j - 1) / 2)) (g l j)) ∧ ∀ j, 0 < j → j < l.length → (j - 1) / 2 = k → 0 < k → le (g l ((k - 1) / 2)) (g l j)
def DownInv (l : List On1) (k : Nat) : Prop := (∀ j, 0 < j → j < l.length → (j - 1) / 2 ≠ k → le (g l ((j - 1) / 2)) (g l j)) ∧ ∀ j, 0 < j → j < l.length → (j - 1) / 2 = k → 0 < k → le (g l ((k - 1) / 2)) (g l j)
def swp (l : List On1) (i j : Nat) : List On1 := (l.set i (g l j)).set j (g l i)
theorem swp_len (l : List On1) (i j : Nat) : (swp l i j).length = l.length := by simp [swp]
theorem g_swp (l : List On1) (i j k : Nat) (hi : i < l.length) (hj : j < l.length) : g (swp l i j) k = if j = k then g l i else if i = k then g l j else g l k := by
  unfold swp
  rw [g_set _ _ _ _ (by simpa using hj), g_set _ _ _ _ hi]
theorem swp_perm (l : List On1) (i j : Nat) (hi : i < l.length) (hj : j < l.length) : (swp l i j).Perm l := by
  have := List.set_set_perm hi hj
  unfold swp
  rw [g_at hi, g_at hj]
  exact this
theorem up_start {l : List On1} (h : Heap l) (x : On1) : UpInv (l ++ [x]) l.length := by
  have e : ∀ j, j < l.length → g (l ++ [x]) j = g l j := fun j hj => by
    rw [g_at hj, g_at (by simp; omega), List.getElem_append_left]
  refine ⟨fun j h0 hj hne => ?_, fun j h0 hj hp hk => ?_⟩
  · simp only [List.length_append, List.length_singleton] at hj
    rw [e j (by omega), e _ (by omega)]
    exact h j h0 (by omega)
  · simp only [List.length_append, List.length_singleton] at hj
    omega
theorem up_stop {l : List On1} {k : Nat} (h : UpInv l k) (hk : k = 0 ∨ ltB (g l k) (g l ((k - 1) / 2)) = false) : Heap l := by
  intro j h0 hj
  by_cases e : j = k
  · subst e
    rcases hk with hk | hk
    · omega
    · exact le_of_not hk
  · exact h.1 j h0 hj e
theorem up_step {l : List On1} {k : Nat} (h : UpInv l k) (h0 : 0 < k) (hk : k < l.length) (hlt : ltB (g l k) (g l ((k - 1) / 2)) = true) : UpInv (swp l k ((k - 1) / 2)) ((k - 1) / 2) := by
  obtain ⟨h1, h2⟩ := h
  have hp : (k - 1) / 2 < k := by omega
  generalize hpe : (k - 1) / 2 = p at *
  have G : ∀ j, g (swp l k p) j = if p = j then g l k else if k = j then g l p else g l j := fun j => g_swp l k p j hk (by omega)
  have hle := le_of_lt hlt
  refine ⟨fun j j0 hj hne => ?_, fun j j0 hj hpj hp0 => ?_⟩
  · rw [swp_len] at hj
    rw [G j, if_neg (by omega), G ((j - 1) / 2)]
    by_cases e : k = j
    · subst e
      rw [if_pos rfl, if_pos hpe.symm]
      exact hle
    · rw [if_neg e]
      by_cases e1 : p = (j - 1) / 2
      · rw [if_pos e1]
        have := h1 j j0 hj (fun q => e q.symm)
        rw [← e1] at this
        exact le_trans hle this
      · rw [if_neg e1]
        by_cases e2 : k = (j - 1) / 2
        · rw [if_pos e2]
          exact h2 j j0 hj e2.symm h0
        · rw [if_neg e2]
          exact h1 j j0 hj (fun q => e q.symm)
  · rw [swp_len] at hj
    rw [G j, if_neg (by omega), G ((p - 1) / 2), if_neg (by omega), if_neg (by omega)]
    have hpp := h1 p hp0 (by omega) (by omega)
    by_cases e : k = j
    · rw [if_pos e]
      exact hpp
    · rw [if_neg e]
      have := h1 j j0 hj (fun q => e q.symm)
      rw [hpj] at this
      exact le_trans hpp this
theorem down_stop {l : List On1} {k : Nat} (h : DownInv l k) (hk : ∀ j, 0 < j → j < l.length → (j - 1) / 2 = k → le (g l k) (g l j)) : Heap l := by
  intro j h0 hj
  by_cases e : (j - 1) / 2 = k
  · rw [e]; exact hk j h0 hj e
  · exact h.1 j h0 hj e
theorem down_step {l : List On1} {k m : Nat} (h : DownInv l k) (h0 : 0 < m) (hm : m < l.length) (hp : (m - 1) / 2 = k) (hle : le (g l m) (g l k)) (hc : ∀ j, 0 < j → j < l.length → (j - 1) / 2 = k → le (g l m) (g l j)) : DownInv (swp l k m) m := by
  obtain ⟨h1, h2⟩ := h
  have hkm : k < m := by omega
  have G : ∀ j, g (swp l k m) j = if m = j then g l k else if k = j then g l m else g l j := fun j => g_swp l k m j (by omega) hm
  refine ⟨fun j j0 hj hne => ?_, fun j j0 hj hpj _ => ?_⟩
  · rw [swp_len] at hj
    rw [G ((j - 1) / 2), if_neg (fun q => hne q.symm), G j]
    by_cases e : k = (j - 1) / 2
    · rw [if_pos e]
      by_cases e1 : m = j
      · rw [if_pos e1]; exact hle
      · rw [if_neg e1, if_neg (by omega)]
        exact hc j j0 hj e.symm
    · rw [if_neg e, if_neg (by omega)]
      by_cases e1 : k = j
      · rw [if_pos e1]
        subst e1
        exact h2 m h0 hm hp j0
      · rw [if_neg e1]
        exact h1 j j0 hj (fun q => e q.symm)
  · rw [swp_len] at hj
    rw [G j, if_neg (by omega), if_neg (by omega), G ((m - 1) / 2), hp, if_neg (by omega), if_pos rfl]
    have := h1 j j0 hj (by omega)
    rw [hpj] at this
    exact this
theorem heap_min {l : List On1} (h : Heap l) : ∀ n j, j < n → j < l.length → le (g l 0) (g l j)
  | 0, j, hn, _ => by omega
  | n + 1, j, hn, hj => by
    by_cases e : j = 0
    · subst e; exact le_refl _
    · exact le_trans (heap_min h n ((j - 1) / 2) (by omega) (by omega)) (h j (by omega) hj)
theorem heap_min' {l : List On1} (h : Heap l) {y : On1} (hy : y ∈ l) : le (g l 0) y := by
  obtain ⟨j, hj, rfl⟩ := List.getElem_of_mem hy
  have := heap_min h (j + 1) j (by omega) hj
  rwa [g_at hj] at this
/-- The first one taken out, the last one in its place. -/
def cutL (l : List On1) : List On1 := (l.set 0 (g l (l.length - 1))).take (l.length - 1)
theorem cutL_len (l : List On1) : (cutL l).length = l.length - 1 := by simp [cutL]
theorem cutL_perm {l : List On1} (h : 0 < l.length) : (g l 0 :: cutL l).Perm l := by
  cases l with
  | nil => simp at h
  | cons x m =>
    by_cases hm : m = []
    · subst hm; simp [cutL, g]
    · have hl : 0 < m.length := List.length_pos_iff.2 hm
      have e1 : g (x :: m) 0 = x := rfl
      have e2 : g (x :: m) ((x :: m).length - 1) = m.getLast hm := by
        rw [g_at (by simp)]
        simp only [List.length_cons, Nat.add_sub_cancel]
        rw [List.getElem_cons]
        rw [dif_neg (by omega), List.getLast_eq_getElem]
      have e3 : cutL (x :: m) = m.getLast hm :: m.dropLast := by
        unfold cutL
        rw [e2]
        simp only [List.set_cons_zero, List.length_cons, Nat.add_sub_cancel]
        obtain ⟨n, hn⟩ : ∃ n, m.length = n + 1 := ⟨m.length - 1, by omega⟩
        rw [hn, List.take_succ_cons, List.dropLast_eq_take, hn, Nat.add_sub_cancel]
      rw [e1, e3]
      refine List.Perm.cons x ?_
      have := List.dropLast_concat_getLast hm
      conv => rhs; rw [← this]
      exact (List.perm_append_singleton _ _).symm
theorem cutL_down {l : List On1} (h : Heap l) : DownInv (cutL l) 0 := by
  have e : ∀ j, 0 < j → j < l.length - 1 → g (cutL l) j = g l j := fun j h0 hj => by
    unfold cutL g
    simp only [List.getD_eq_getElem?_getD]
    rw [List.getElem?_take_of_lt hj, List.getElem?_set_ne (by omega)]
  refine ⟨fun j h0 hj hp => ?_, fun j h0 hj hp hk => by omega⟩
  rw [cutL_len] at hj
  rw [e j h0 hj, e _ (by omega) (by omega)]
  exact h j h0 (by omega)

/-! ### What holds of each key -/
abbrev Mp := List (List UInt8 × Int × Nat)
def lookM (k : List UInt8) : Mp → Option (Int × Nat)
  | [] => none
  | e :: M => if e.1 = k then some e.2 else lookM k M
def putM (k : List UInt8) (a : Int) (n : Nat) : Mp → Mp
  | [] => [(k, a, n)]
  | e :: M => if e.1 = k then (k, a, n) :: M else e :: putM k a n M
def delM (k : List UInt8) : Mp → Mp
  | [] => []
  | e :: M => if e.1 = k then M else e :: delM k M
def Nd (M : Mp) : Prop := (M.map (·.1)).Nodup
def off (k : List UInt8) (M : Mp) : Mp := M.filter fun e => decide (e.1 ≠ k)
theorem off_self {k : List UInt8} {M : Mp} (h : k ∉ M.map (·.1)) : off k M = M := by
  unfold off
  rw [List.filter_eq_self]
  intro e he
  simp only [decide_eq_true_eq]
  exact fun q => h (q ▸ List.mem_map_of_mem he)
theorem putM_perm {k : List UInt8} {a : Int} {n : Nat} : ∀ {M : Mp}, Nd M → (putM k a n M).Perm (off k M ++ [(k, a, n)])
  | [], _ => by simp [putM, off]
  | e :: M, h => by
    unfold Nd at h
    rw [List.map_cons, List.nodup_cons] at h
    rw [putM]
    by_cases q : e.1 = k
    · rw [if_pos q]
      have : off k (e :: M) = M := by
        have := off_self (q ▸ h.1)
        unfold off at this ⊢
        rw [List.filter_cons_of_neg (by simpa using q)]
        exact this
      rw [this]
      exact (List.perm_append_singleton _ _).symm
    · rw [if_neg q]
      have : off k (e :: M) = e :: off k M := by
        unfold off
        rw [List.filter_cons_of_pos (by simpa using q)]
      rw [this]
      exact (putM_perm h.2).cons e
theorem delM_is {k : List UInt8} : ∀ {M : Mp}, Nd M → delM k M = off k M
  | [], _ => rfl
  | e :: M, h => by
    unfold Nd at h
    rw [List.map_cons, List.nodup_cons] at h
    rw [delM]
    by_cases q : e.1 = k
    · rw [if_pos q]
      have := off_self (q ▸ h.1)
      unfold off at this ⊢
      rw [List.filter_cons_of_neg (by simpa using q)]
      exact this.symm
    · rw [if_neg q]
      unfold off
      rw [List.filter_cons_of_pos (by simpa using q), delM_is h.2]
      rfl
theorem look_some {k : List UInt8} {v : Int × Nat} : ∀ {M : Mp}, lookM k M = some v → (k, v) ∈ M
  | [], h => by cases h
  | e :: M, h => by
    rw [lookM] at h
    by_cases q : e.1 = k
    · rw [if_pos q] at h
      cases h
      subst q
      exact List.mem_cons_self
    · rw [if_neg q] at h
      exact List.mem_cons_of_mem _ (look_some h)
theorem look_none {k : List UInt8} : ∀ {M : Mp}, lookM k M = none → k ∉ M.map (·.1)
  | [], _ => by simp
  | e :: M, h => by
    rw [lookM] at h
    by_cases q : e.1 = k
    · rw [if_pos q] at h; cases h
    · rw [if_neg q] at h
      rw [List.map_cons, List.mem_cons, not_or]
      exact ⟨fun r => q r.symm, look_none h⟩
theorem look_mem {k : List UInt8} {v : Int × Nat} {M : Mp} (h : Nd M) (hm : (k, v) ∈ M) : lookM k M = some v := by
  induction M with
  | nil => cases hm
  | cons e M ih =>
    unfold Nd at h
    rw [List.map_cons, List.nodup_cons] at h
    rw [lookM]
    rcases List.mem_cons.1 hm with q | q
    · rw [← q]; simp
    · by_cases r : e.1 = k
      · exact absurd (List.mem_map_of_mem (f := (·.1)) q) (by simpa [r] using h.1)
      · rw [if_neg r]
        exact ih h.2 q
theorem nd_off {k : List UInt8} {M : Mp} (h : Nd M) : Nd (off k M) := by
  unfold Nd off
  exact List.Nodup.sublist (List.Sublist.map _ List.filter_sublist) h
theorem nd_put {k : List UInt8} {a : Int} {n : Nat} {M : Mp} (h : Nd M) : Nd (putM k a n M) := by
  unfold Nd
  rw [(putM_perm h).map (·.1) |>.nodup_iff, List.map_append, List.nodup_append]
  refine ⟨nd_off h, by simp, ?_⟩
  intro x hx y hy q
  simp only [List.map_cons, List.map_nil, List.mem_singleton] at hy
  subst hy q
  rw [List.mem_map] at hx
  obtain ⟨e, he, rfl⟩ := hx
  unfold off at he
  simp at he
theorem nd_del {k : List UInt8} {M : Mp} (h : Nd M) : Nd (delM k M) := by rw [delM_is h]; exact nd_off h
theorem putM_len {k : List UInt8} {a : Int} {n : Nat} : ∀ M : Mp, (putM k a n M).length ≤ M.length + 1
  | [] => by simp [putM]
  | e :: M => by
    rw [putM]
    split
    · simp
    · have := putM_len (k := k) (a := a) (n := n) M
      simp only [List.length_cons]
      omega
theorem delM_len {k : List UInt8} : ∀ M : Mp, (delM k M).length ≤ M.length
  | [] => by simp [delM]
  | e :: M => by
    rw [delM]
    split
    · simp
    · have := delM_len (k := k) M
      simp only [List.length_cons]
      omega
def tup (x : On1) : List UInt8 × Int × Nat := (x.key, x.at_, x.no)
/-- What holds of timers. -/
structure Inv (l : List On1) (M : Mp) : Prop where
  h : Heap l
  nd : Nd M
  mem : ∀ e ∈ M, (⟨e.1, e.2.1, e.2.2⟩ : On1) ∈ l
theorem inv_nil : Inv [] [] := ⟨fun j _ hj => by simp at hj, List.nodup_nil, fun e he => by cases he⟩
theorem inv_set {l l' : List On1} {M : Mp} (h : Inv l M) {k : List UInt8} {a : Int} {n : Nat} (hp : l'.Perm (l ++ [⟨k, a, n⟩])) (hh : Heap l') : Inv l' (putM k a n M) := by
  refine ⟨hh, nd_put h.nd, fun e he => hp.mem_iff.2 ?_⟩
  rw [(putM_perm h.nd).mem_iff, List.mem_append] at he
  rcases he with he | he
  · exact List.mem_append_left _ (h.mem e (List.mem_filter.1 he).1)
  · rw [List.mem_singleton.1 he]; simp
theorem inv_drop {l : List On1} {M : Mp} (h : Inv l M) (k : List UInt8) : Inv l (delM k M) := by
  refine ⟨h.h, nd_del h.nd, fun e he => ?_⟩
  rw [delM_is h.nd] at he
  exact h.mem e (List.mem_filter.1 he).1
theorem inv_stale {l l' : List On1} {M : Mp} {x : On1} (h : Inv l M) (hp : (x :: l').Perm l) (hh : Heap l') (hs : lookM x.key M ≠ some (x.at_, x.no)) : Inv l' M := by
  refine ⟨hh, h.nd, fun e he => ?_⟩
  rcases List.mem_cons.1 (hp.mem_iff.2 (h.mem e he)) with q | q
  · exact absurd (look_mem h.nd (k := x.key) (v := (x.at_, x.no)) (by rw [← q]; exact he)) hs
  · exact q
theorem inv_fresh {l l' : List On1} {M : Mp} {x : On1} (h : Inv l M) (hp : (x :: l').Perm l) (hh : Heap l') : Inv l' (delM x.key M) := by
  refine ⟨hh, nd_del h.nd, fun e he => ?_⟩
  rw [delM_is h.nd] at he
  obtain ⟨h1, h2⟩ := List.mem_filter.1 he
  rcases List.mem_cons.1 (hp.mem_iff.2 (h.mem e h1)) with q | q
  · rw [← q] at h2; simp at h2
  · exact q
/-- While 'Due' is under way: what was handed over. -/
structure DInv (M0 : Mp) (t : Int) (l : List On1) (M : Mp) (del : List On1) : Prop where
  inv : Inv l M
  pm : M0.Perm (del.map tup ++ M)
  le : ∀ d ∈ del, d.at_ ≤ t
  so : del.Pairwise Go.Proofs.Ytljfjlijobjpdaa.le
  be : ∀ d ∈ del, ∀ y ∈ l, Go.Proofs.Ytljfjlijobjpdaa.le d y
theorem dinv_start {l : List On1} {M : Mp} (h : Inv l M) (t : Int) : DInv M t l M [] := ⟨h, by simp, fun d hd => (by cases hd), List.Pairwise.nil, fun d hd => (by cases hd)⟩
theorem dinv_stale {M0 : Mp} {t : Int} {l l' : List On1} {M : Mp} {del : List On1} (h : DInv M0 t l M del) {x : On1} (hp : (x :: l').Perm l) (hh : Heap l') (hs : lookM x.key M ≠ some (x.at_, x.no)) : DInv M0 t l' M del :=
  ⟨inv_stale h.inv hp hh hs, h.pm, h.le, h.so, fun d hd y hy => h.be d hd y (hp.mem_iff.1 (List.mem_cons_of_mem _ hy))⟩
theorem dinv_fresh {M0 : Mp} {t : Int} {l l' : List On1} {M : Mp} {del : List On1} (h : DInv M0 t l M del) {x : On1} (hp : (x :: l').Perm l) (hh : Heap l') (hx : x = g l 0) (ht : x.at_ ≤ t) (hs : lookM x.key M = some (x.at_, x.no)) : DInv M0 t l' (delM x.key M) (del ++ [x]) := by
  have hm := look_some hs
  have e1 : M.Perm ((x.key, x.at_, x.no) :: off x.key M) := by
    have := putM_perm (k := x.key) (a := x.at_) (n := x.no) h.inv.nd
    have e2 : ∀ {M : Mp}, lookM x.key M = some (x.at_, x.no) → putM x.key x.at_ x.no M = M := by
      intro M
      induction M with
      | nil => intro q; cases q
      | cons e M ih =>
        intro q
        rw [lookM] at q
        rw [putM]
        by_cases r : e.1 = x.key
        · rw [if_pos r] at q ⊢
          have : e.2 = (x.at_, x.no) := Option.some.inj q
          rw [← r, ← show e.2.1 = x.at_ by rw [this], ← show e.2.2 = x.no by rw [this]]
        · rw [if_neg r] at q ⊢
          rw [ih q]
    rw [e2 hs] at this
    exact this.trans (List.perm_append_singleton _ _)
  refine ⟨inv_fresh h.inv hp hh, ?_, fun d hd => ?_, ?_, fun d hd y hy => ?_⟩
  · rw [delM_is h.inv.nd, List.map_append, List.append_assoc]
    refine h.pm.trans (List.Perm.append_left _ ?_)
    exact e1
  · rcases List.mem_append.1 hd with q | q
    · exact h.le d q
    · rw [List.mem_singleton.1 q]; exact ht
  · rw [List.pairwise_append]
    refine ⟨h.so, by simp, fun d hd y hy => ?_⟩
    rw [List.mem_singleton.1 hy]
    exact h.be d hd x (hp.mem_iff.1 List.mem_cons_self)
  · have hyl := hp.mem_iff.1 (List.mem_cons_of_mem _ hy)
    rcases List.mem_append.1 hd with q | q
    · exact h.be d q y hyl
    · rw [List.mem_singleton.1 q, hx]
      exact heap_min' h.inv.h hyl
/-- What was due; what is left. -/
theorem dinv_end {M0 : Mp} {t : Int} {l : List On1} {M : Mp} {del : List On1} (h : DInv M0 t l M del) (he : ∀ y ∈ l, t < y.at_) :
    (del.map tup).Perm (M0.filter fun e => decide (e.2.1 ≤ t)) ∧ M.Perm (M0.filter fun e => decide (t < e.2.1)) := by
  have a1 : (del.map tup).filter (fun e => decide (e.2.1 ≤ t)) = del.map tup := by
    rw [List.filter_eq_self]
    intro e he
    obtain ⟨d, hd, rfl⟩ := List.mem_map.1 he
    exact decide_eq_true (h.le d hd)
  have a2 : M.filter (fun e => decide (e.2.1 ≤ t)) = [] := by
    rw [List.filter_eq_nil_iff]
    intro e hm
    have := he _ (h.inv.mem e hm)
    simp only at this
    simp; omega
  have b1 : (del.map tup).filter (fun e => decide (t < e.2.1)) = [] := by
    rw [List.filter_eq_nil_iff]
    intro e he
    obtain ⟨d, hd, rfl⟩ := List.mem_map.1 he
    have h3 : d.at_ ≤ t := h.le d hd
    intro q
    have q2 : t < d.at_ := of_decide_eq_true q
    omega
  have b2 : M.filter (fun e => decide (t < e.2.1)) = M := by
    rw [List.filter_eq_self]
    intro e hm
    have := he _ (h.inv.mem e hm)
    simpa using this
  constructor
  · have := h.pm.filter (fun e => decide (e.2.1 ≤ t))
    rw [List.filter_append, a1, a2, List.append_nil] at this
    exact this.symm
  · have := h.pm.filter (fun e => decide (t < e.2.1))
    rw [List.filter_append, b1, b2, List.nil_append] at this
    exact this.symm
end Go.Proofs.Ytljfjlijobjpdaa
