/- Rows of texts: what a slice of strings reads as. No condition. -/
import Derived.Test.YtljfjlijobjpdaaStr
namespace Go.Proofs.Ytljfjlijobjpdaa
open Go.RowKit

/-- A slice (its address A) holds the texts ls, all of them below block B. -/
def Txt (w : World) (B : Nat) (A : Option Addr) (ls : List (List UInt8)) : Prop :=
  ∀ (i : Nat) (h : i < ls.length), ∃ b o, A = some ⟨b, o, none⟩ ∧ b < B ∧ w.cell? ⟨b, o + i, none⟩ = some (str ls[i])
theorem Txt.below {w w' : World} {B B' : Nat} {A : Option Addr} {ls : List (List UInt8)} (h : Txt w B A ls) (hb : Below B' w w') (hB : B ≤ B') : Txt w' B A ls := fun i hi => by
  obtain ⟨b, o, e, hl, hc⟩ := h i hi
  exact ⟨b, o, e, hl, (hb.cell (p := ⟨b, o + i, none⟩) (Nat.lt_of_lt_of_le hl hB)).trans hc⟩
theorem Txt.more {w : World} {B B' : Nat} {A : Option Addr} {ls : List (List UInt8)} (h : Txt w B A ls) (hB : B ≤ B') : Txt w B' A ls := fun i hi => by
  obtain ⟨b, o, e, hl, hc⟩ := h i hi
  exact ⟨b, o, e, by omega, hc⟩

end Go.Proofs.Ytljfjlijobjpdaa
