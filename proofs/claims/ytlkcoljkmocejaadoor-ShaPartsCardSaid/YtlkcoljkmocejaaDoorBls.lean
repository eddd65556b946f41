/- An argument that is a slice of bools, opened. No condition. -/
import Derived.Test.YtlkcoljkmocejaaDoorOpn
namespace Go.Proofs.YtlkcoljkmocejaaDoor
open Go.RowKit Go.ChangeShapes Go.WideShapes

/-- A slice (its address A) holds the bools bs, all of them below block B. -/
def Bls (w : World) (B : Nat) (A : Option Addr) (bs : List Bool) : Prop :=
  ∀ (i : Nat) (h : i < bs.length), ∃ b o, A = some ⟨b, o, none⟩ ∧ b < B ∧ w.cell? ⟨b, o + i, none⟩ = some (.bool bs[i])
theorem bools_arg {H : Type} {enc : TypeId × Value → H} {W : World} {a : Option Addr} {len cap : Nat} {d : DataW H} {p : List MemPlace}
    (h : DataW.Trod enc Tryd.prog W 0 (fun _ => true) true 31 (.slice a len cap) d p) :
    ∃ bs : List Bool, bs.length = len ∧ len ≤ 9223372036854775807 ∧ Bls W W.heap.size a bs := by
  obtain ⟨hl, hi⟩ := elems_arg Tryd.underlying31 (k := 1) (by kernel_rfl) (by omega) h
  have each : ∀ i, i < len → ∃ x : Bool, ∃ b o, a = some ⟨b, o, none⟩ ∧ b < W.heap.size ∧ W.cell? ⟨b, o + i, none⟩ = some (.bool x) := by
    intro i him
    obtain ⟨b, o, n, cs, y, ha, hb, hcl, hat, ht⟩ := hi i him
    match cs, hcl with
    | [c0], _ =>
      have h0 := hat 0 (by simp)
      obtain ⟨v0, e0, _⟩ := DataW.trod_bool Tryd.underlying4 ht
      simp only [List.cons.injEq, and_true] at e0
      subst e0
      exact ⟨v0, b, o, ha, hb, by simpa using h0⟩
  obtain ⟨bs, hbl, hbs⟩ := list_of each
  exact ⟨bs, hbl, hl, fun i h => hbs i h⟩
end Go.Proofs.YtlkcoljkmocejaaDoor
