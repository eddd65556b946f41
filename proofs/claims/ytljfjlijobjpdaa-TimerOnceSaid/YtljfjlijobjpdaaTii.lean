/- TimerOnce plainly: which keys should be there. No program in it. No condition. -/
import Derived.Test.YtljfjlijobjpdaaTih
namespace Go.Proofs.Ytljfjlijobjpdaa
open Go.RowKit
set_option linter.unusedVariables false
set_option linter.unusedSimpArgs false

def ka (s : Sp) : List UInt8 × Int := (s.key, s.at_)
def km (e : List UInt8 × Int × Nat) : List UInt8 × Int := (e.1, e.2.1)
/-- The keys that should be there are those that are. -/
def Cor (want : List Sp) (M : Mp) : Prop := (want.map ka).Perm (M.map km)
theorem cor_len {want : List Sp} {M : Mp} (h : Cor want M) : want.length = M.length := by
  have := h.length_eq
  simpa using this
theorem cor_nil : Cor [] [] := List.Perm.refl _
/-- All but a key's. -/
def rest (k : List UInt8) (want : List Sp) : List Sp := want.filter fun s => decide (s.key ≠ k)
theorem rest_map (k : List UInt8) (want : List Sp) : (rest k want).map ka = (want.map ka).filter fun p => decide (p.1 ≠ k) := by
  unfold rest
  rw [List.filter_map]
  rfl
theorem off_map (k : List UInt8) (M : Mp) : (off k M).map km = (M.map km).filter fun p => decide (p.1 ≠ k) := by
  unfold off
  rw [List.filter_map]
  rfl
theorem cor_rest {want : List Sp} {M : Mp} (h : Cor want M) (k : List UInt8) : ((rest k want).map ka).Perm ((off k M).map km) := by
  rw [rest_map, off_map]
  exact h.filter _
theorem cor_set {want : List Sp} {M : Mp} (h : Cor want M) (nd : Nd M) (s : Sp) (n : Nat) : Cor (rest s.key want ++ [s]) (putM s.key s.at_ n M) := by
  unfold Cor
  refine List.Perm.trans ?_ ((putM_perm nd).map km).symm
  rw [List.map_append, List.map_append]
  exact (cor_rest h s.key).append (List.Perm.refl _)
theorem cor_drop {want : List Sp} {M : Mp} (h : Cor want M) (nd : Nd M) (k : List UInt8) : Cor (rest k want) (delM k M) := by
  unfold Cor
  rw [delM_is nd]
  exact cor_rest h k
theorem delM_len_some {k : List UInt8} : ∀ {M : Mp}, (lookM k M).isSome = true → (delM k M).length + 1 = M.length
  | [], h => by cases h
  | e :: M, h => by
    rw [lookM] at h
    rw [delM]
    by_cases q : e.1 = k
    · rw [if_pos q]; rfl
    · rw [if_neg q] at h ⊢
      rw [List.length_cons, List.length_cons, delM_len_some h]
theorem rest_len {want : List Sp} {M : Mp} (h : Cor want M) (nd : Nd M) {k : List UInt8} (hk : (lookM k M).isSome = true) : (rest k want).length + 1 = want.length := by
  have h1 := cor_len (cor_drop h nd k)
  have h2 := cor_len h
  have h3 := delM_len_some hk
  omega
/-- What is told of a step, and what is left, of what was due. -/
theorem due_count {want : List Sp} {M M' : Mp} {del : List On1} {t : Int} (h : Cor want M) (nd : Nd M) (hd : (del.map tup).Perm (M.filter fun e => decide (e.2.1 ≤ t))) (s : Sp) (hs : s ∈ want) :
    (del.map On1.key).count s.key = if t < s.at_ then 0 else 1 := by
  have hp : (del.map On1.key).Perm ((M.filter fun e => decide (e.2.1 ≤ t)).map (·.1)) := by
    have := hd.map (·.1)
    rw [List.map_map] at this
    exact this
  rw [hp.count_eq]
  have hm : ka s ∈ M.map km := h.mem_iff.1 (List.mem_map_of_mem hs)
  obtain ⟨e, he, hek⟩ := List.mem_map.1 hm
  have e1 : e.1 = s.key := congrArg Prod.fst hek
  have e2 : e.2.1 = s.at_ := congrArg Prod.snd hek
  have hnd : ((M.filter fun e => decide (e.2.1 ≤ t)).map (·.1)).Nodup := List.Nodup.sublist (List.Sublist.map _ List.filter_sublist) nd
  by_cases ht : t < s.at_
  · rw [if_pos ht, List.count_eq_zero]
    intro q
    obtain ⟨e', he', hk'⟩ := List.mem_map.1 q
    obtain ⟨h1, h2⟩ := List.mem_filter.1 he'
    have l1 := look_mem nd (k := e.1) (v := e.2) he
    have l2 := look_mem nd (k := e'.1) (v := e'.2) h1
    rw [hk', ← e1, l1] at l2
    have : e.2 = e'.2 := Option.some.inj l2
    have h3 : e'.2.1 ≤ t := of_decide_eq_true h2
    rw [← this, e2] at h3
    omega
  · rw [if_neg ht]
    have hin : s.key ∈ (M.filter fun e => decide (e.2.1 ≤ t)).map (·.1) := by
      rw [← e1]
      refine List.mem_map_of_mem (List.mem_filter.2 ⟨he, ?_⟩)
      rw [e2]
      exact decide_eq_true (by omega)
    have h1 := List.nodup_iff_count.1 hnd s.key
    have h2 := List.count_pos_iff.2 hin
    omega
def late (t : Int) (want : List Sp) : List Sp := want.filter fun s => decide (t < s.at_)
def dueN (t : Int) (want : List Sp) : Nat := (want.filter fun s => decide (s.at_ ≤ t)).length
theorem cor_late {want : List Sp} {M M' : Mp} {t : Int} (h : Cor want M) (hm : M'.Perm (M.filter fun e => decide (t < e.2.1))) : Cor (late t want) M' := by
  unfold Cor
  refine List.Perm.trans ?_ (hm.map km).symm
  have e1 : (late t want).map ka = (want.map ka).filter fun p => decide (t < p.2) := by
    unfold late
    rw [List.filter_map]
    rfl
  have e2 : (M.filter fun e => decide (t < e.2.1)).map km = (M.map km).filter fun p => decide (t < p.2) := by
    rw [List.filter_map]
    rfl
  rw [e1, e2]
  exact h.filter _
theorem due_len {want : List Sp} {M : Mp} {del : List On1} {t : Int} (h : Cor want M) (hd : (del.map tup).Perm (M.filter fun e => decide (e.2.1 ≤ t))) : (del.map On1.key).length = dueN t want := by
  have h1 := hd.length_eq
  have e1 : ((want.map ka).filter fun p => decide (p.2 ≤ t)).length = ((M.map km).filter fun p => decide (p.2 ≤ t)).length := (h.filter _).length_eq
  have e2 : ((want.map ka).filter fun p => decide (p.2 ≤ t)).length = dueN t want := by
    unfold dueN
    rw [List.filter_map, List.length_map]
    rfl
  have e3 : ((M.map km).filter fun p => decide (p.2 ≤ t)).length = (M.filter fun e => decide (e.2.1 ≤ t)).length := by
    rw [List.filter_map, List.length_map]
    rfl
  rw [List.length_map] at h1 ⊢
  omega
theorem rest_take (k : List UInt8) (want : List Sp) (i : Nat) (h : i < want.length) : rest k (want.take (i + 1)) = rest k (want.take i) ++ if want[i].key = k then [] else [want[i]] := by
  unfold rest
  rw [List.take_succ_eq_append_getElem h, List.filter_append]
  congr 1
  by_cases q : want[i].key = k <;> simp [q]
theorem late_take (t : Int) (want : List Sp) (i : Nat) (h : i < want.length) : late t (want.take (i + 1)) = late t (want.take i) ++ if t < want[i].at_ then [want[i]] else [] := by
  unfold late
  rw [List.take_succ_eq_append_getElem h, List.filter_append]
  congr 1
  by_cases q : t < want[i].at_ <;> simp [q]
theorem dueN_take (t : Int) (want : List Sp) (i : Nat) (h : i < want.length) : dueN t (want.take (i + 1)) = dueN t (want.take i) + if t < want[i].at_ then 0 else 1 := by
  unfold dueN
  rw [List.take_succ_eq_append_getElem h, List.filter_append, List.length_append]
  congr 1
  by_cases q : t < want[i].at_
  · have : ¬ want[i].at_ ≤ t := by omega
    simp [q, this]
  · have : want[i].at_ ≤ t := by omega
    simp [q, this]
theorem rest_le (k : List UInt8) (want : List Sp) : (rest k want).length ≤ want.length := List.length_filter_le _ _
theorem late_le (t : Int) (want : List Sp) : (late t want).length ≤ want.length := List.length_filter_le _ _
theorem dueN_le (t : Int) (want : List Sp) : dueN t want ≤ want.length := List.length_filter_le _ _
end Go.Proofs.Ytljfjlijobjpdaa
