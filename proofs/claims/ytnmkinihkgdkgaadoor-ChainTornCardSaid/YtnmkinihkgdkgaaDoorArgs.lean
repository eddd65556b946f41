/- An argument that is a slice of strings, opened: the texts that it holds. No condition. -/
import Derived.Test.YtnmkinihkgdkgaaDoorTxt
import Derived.ProofKit
import Derived.OpenShut
import Derived.SliceStrings
namespace Go.Proofs.YtnmkinihkgdkgaaDoor
open Go.RowKit Go.ChangeShapes Go.WideShapes

theorem ba_len (s : ByteArray) : s.data.toList.length = s.size := by cases s; simp [ByteArray.size]

theorem strs_arg {H : Type} {enc : TypeId × Value → H} {W : World} {a : Option Addr} {len cap : Nat} {d : DataW H} {p : List MemPlace}
    (h : DataW.Trod enc Tryd.prog W 0 (fun _ => true) true 23 (.slice a len cap) d p) :
    ∃ ls : List (List UInt8), ls.length = len ∧ len ≤ 9223372036854775807 ∧ Txt W W.heap.size a ls ∧ ∀ x ∈ ls, x.length ≤ 9223372036854775807 := by
  obtain ⟨fuel, hf⟩ := h
  rcases open_strings Tryd.underlying23 Tryd.underlying9 (by kernel_rfl) hf with ⟨hcs, _⟩ | ⟨x, l, c, ss, hcs, _, hl, hm, hz, _, hcell, hws⟩
  · simp [Value.cells] at hcs
    obtain ⟨rfl, rfl, rfl⟩ := hcs
    exact ⟨[], rfl, by omega, fun i hi => by simp at hi, by simp⟩
  · simp [Value.cells] at hcs
    obtain ⟨rfl, rfl, rfl⟩ := hcs
    simp only [if_true] at hz
    unfold maxLen at hm hws
    refine ⟨(ss.take len).map (fun s => s.data.toList), by simp; omega, by omega, fun i hi => ?_, ?_⟩
    · simp only [List.length_map, List.length_take] at hi
      have hc := hcell i (by omega)
      have hs := World.cell?_spot (hcell 0 (by omega))
      obtain ⟨b, o, sp⟩ := x
      simp only [Addr.add, if_true] at hs
      subst hs
      have he : (⟨b, o, none⟩ : Addr).add i = ⟨b, o + i, none⟩ := by unfold Addr.add; split <;> simp_all
      rw [he] at hc
      refine ⟨b, o, rfl, block_lt_of_cell hc, ?_⟩
      rw [hc]
      have hii : i < ss.length := by omega
      simp only [List.getD_eq_getElem?_getD, List.getElem?_eq_getElem hii, Option.getD_some, List.getElem_map, List.getElem_take]
    · intro y hy
      simp only [List.mem_map] at hy
      obtain ⟨s, hs, rfl⟩ := hy
      have := hws s (List.mem_of_mem_take hs)
      rw [ba_len]; exact this
theorem strs_cap {H : Type} {enc : TypeId × Value → H} {W : World} {a : Option Addr} {len cap : Nat} {d : DataW H} {p : List MemPlace}
    (h : DataW.Trod enc Tryd.prog W 0 (fun _ => true) true 23 (.slice a len cap) d p) : len ≤ cap := by
  obtain ⟨fuel, hf⟩ := h
  rcases open_strings Tryd.underlying23 Tryd.underlying9 (by kernel_rfl) hf with ⟨hcs, _⟩ | ⟨x, l, c, ss, hcs, _, hl, _⟩
  · simp [Value.cells] at hcs
    obtain ⟨rfl, rfl, rfl⟩ := hcs
    exact Nat.le_refl _
  · simp [Value.cells] at hcs
    obtain ⟨rfl, rfl, rfl⟩ := hcs
    exact hl
end Go.Proofs.YtnmkinihkgdkgaaDoor
