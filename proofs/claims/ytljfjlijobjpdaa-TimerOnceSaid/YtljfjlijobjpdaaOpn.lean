/- An argument that is a slice of structs, opened element by element: the cells of each, and that each reads as its type says. No condition. -/
import Derived.Test.YtljfjlijobjpdaaStr
import Derived.ProofKit
import Derived.OpenShut
import Derived.Deep.Slices
import Derived.Deep.Fields
namespace Go.Proofs.Ytljfjlijobjpdaa
open Go.RowKit Go.ChangeShapes Go.WideShapes

theorem list_of {α : Type} {n : Nat} {R : Nat → α → Prop} (h : ∀ i, i < n → ∃ x, R i x) : ∃ ls : List α, ls.length = n ∧ ∀ i (hi : i < ls.length), R i ls[i] := by
  induction n with
  | zero => exact ⟨[], rfl, fun i hi => by simp at hi⟩
  | succ n ih =>
    obtain ⟨ls, hl, hr⟩ := ih fun i hi => h i (by omega)
    obtain ⟨x, hx⟩ := h n (by omega)
    refine ⟨ls ++ [x], by simp [hl], fun i hi => ?_⟩
    by_cases e : i < ls.length
    · rw [List.getElem_append_left e]; exact hr i e
    · have : i = n := by simp at hi; omega
      subst this
      rw [List.getElem_append_right (by omega)]
      simpa using hx

theorem elems_arg {H : Type} {enc : TypeId × Value → H} {P : Program} {W : World} {t e : TypeId} {k : Nat} {a : Option Addr} {len cap : Nat} {d : DataW H} {p : List MemPlace}
    (ht : P.underlying t = some (.slice e)) (hC : P.cellsOf e = k) (hk : 0 < k) (h : DataW.Trod enc P W 0 (fun _ => true) true t (.slice a len cap) d p) :
    len ≤ 9223372036854775807 ∧ ∀ i, i < len → ∃ (b o n : Nat) (cs : List Value) (y : DataW H × List MemPlace), a = some ⟨b, o, none⟩ ∧ b < W.heap.size ∧ cs.length = k ∧
      (∀ j (hj : j < cs.length), W.cell? ⟨b, o + i * k + j, none⟩ = some cs[j]) ∧ DataW.trod enc P W 0 (fun _ => true) true n e cs = some y := by
  obtain ⟨fuel, hf⟩ := h
  rcases Go.Deep.open_slice ht hf with ⟨hcs, _⟩ | ⟨x, l, c, m, n, D, Pl, hcs, _, hl, hm, hmm, _, hi⟩
  · simp [Value.cells] at hcs
    obtain ⟨rfl, rfl, rfl⟩ := hcs
    exact ⟨by omega, fun i hi => by omega⟩
  · simp [Value.cells] at hcs
    obtain ⟨rfl, rfl, rfl⟩ := hcs
    simp only [if_true] at hmm
    subst hmm
    unfold maxLen at hm
    refine ⟨by omega, fun i him => ?_⟩
    obtain ⟨cs', hc, htr⟩ := hi i (by omega)
    rw [hC] at hc
    obtain ⟨_, hcl, hat⟩ := World.cells?_some hc
    obtain ⟨cz, hcz, _⟩ := hi 0 (by omega)
    rw [hC] at hcz
    obtain ⟨_, _, hat0⟩ := World.cells?_some hcz
    have h0 := hat0 0 hk
    rw [List.getElem?_eq_getElem (by have := (World.cells?_some hcz).2.1; omega)] at h0
    obtain ⟨b, o, sp⟩ := x
    have hz : ((⟨b, o, sp⟩ : Addr).add (0 * k)).add 0 = ⟨b, o, sp⟩ := by unfold Addr.add; simp
    rw [hz] at h0
    have hs : sp = none := World.cell?_spot h0
    subst hs
    have he : ∀ q, (⟨b, o, none⟩ : Addr).add q = ⟨b, o + q, none⟩ := by
      intro q; unfold Addr.add; split <;> simp_all
    refine ⟨b, o, n, cs', _, rfl, block_lt_of_cell h0, hcl, fun j hj => ?_, htr⟩
    have h1 := hat j (by omega)
    rw [Go.Deep.add_add, he, List.getElem?_eq_getElem hj] at h1
    rw [← h1, Nat.add_assoc]
end Go.Proofs.Ytljfjlijobjpdaa
