/- Arguments opened: an action, a slice of actions. No condition. -/
import Derived.Test.YthdmjeoldnehcaaOpn
import Derived.Test.YthdmjeoldnehcaaLrb
namespace Go.Proofs.Ythdmjeoldnehcaa
open Go.RowKit Go.ChangeShapes Go.WideShapes
set_option linter.unusedVariables false

theorem act_cells {H : Type} {enc : TypeId × Value → H} {W : World} {n : Nat} {cs : List Value} {y : DataW H × List MemPlace} (hcl : cs.length = 7) (ht : DataW.trod enc Try.prog W 0 (fun _ => true) true n 35 cs = some y) :
    ∃ a : Ac, cs = a.cells ∧ a.kind < 256 ∧ a.orgs < 256 := by
  obtain ⟨xs, n', _, _, _, hxl, hf⟩ := DataW.trod_struct Try.underlying35 ht
  match cs, hcl with
  | [c0, c1, c2, c3, c4, c5, c6], _ =>
    match xs, hxl with
    | [y0, y1, y2, y3, y4], _ =>
      have f0 := hf 0 _ rfl
      have f1 := hf 1 _ rfl
      have f2 := hf 2 _ rfl
      have f3 := hf 3 _ rfl
      have f4 := hf 4 _ rfl
      have k0 : Try.prog.cellsOf 5 = 1 := by kernel_rfl
      have k1 : Try.prog.cellsOf 33 = 3 := by kernel_rfl
      have k2 : Try.prog.cellsOf 3 = 1 := by kernel_rfl
      have k3 : Try.prog.cellsOf 4 = 1 := by kernel_rfl
      simp [k0] at f0; simp [k1] at f1; simp [k2] at f2; simp [k3] at f3; simp [k0] at f4
      obtain ⟨v0, e0, _, w0⟩ := DataW.trod_int Try.underlying5 f0
      obtain ⟨v2, e2, _, w2⟩ := DataW.trod_int Try.underlying3 f2
      obtain ⟨v4, e4, _, w4⟩ := DataW.trod_int Try.underlying5 f4
      obtain ⟨v3, e3, _⟩ := DataW.trod_bool Try.underlying4 f3
      obtain ⟨zs, n2, _, _, _, hzl, hg⟩ := DataW.trod_struct Try.underlying33 f1
      match zs, hzl with
      | [z0, z1, z2], _ =>
        have g0 := hg 0 _ rfl
        have g1 := hg 1 _ rfl
        have g2 := hg 2 _ rfl
        simp [k2] at g0; simp [k2] at g1; simp [k2] at g2
        obtain ⟨u0, h0, _, _⟩ := DataW.trod_int Try.underlying3 g0
        obtain ⟨u1, h1, _, _⟩ := DataW.trod_int Try.underlying3 g1
        obtain ⟨u2, h2, _, _⟩ := DataW.trod_int Try.underlying3 g2
        simp only [List.cons.injEq, and_true] at e0 e2 e3 e4 h0 h1 h2
        subst e0 e2 e3 e4 h0 h1 h2
        have q0 : 0 ≤ v0 ∧ v0 ≤ 255 := by simpa [Lit.wf, IntKind.min, IntKind.max, IntKind.signed, IntKind.bits] using w0
        have q4 : 0 ≤ v4 ∧ v4 ≤ 255 := by simpa [Lit.wf, IntKind.min, IntKind.max, IntKind.signed, IntKind.bits] using w4
        obtain ⟨m0, rfl⟩ : ∃ m : Nat, v0 = (m : Int) := ⟨v0.toNat, by omega⟩
        obtain ⟨m4, rfl⟩ : ∃ m : Nat, v4 = (m : Int) := ⟨v4.toNat, by omega⟩
        exact ⟨⟨m0, ⟨u0, u1, u2⟩, v2, v3, m4⟩, rfl, by show m0 < 256; omega, by show m4 < 256; omega⟩
theorem act_arg {H : Type} {enc : TypeId × Value → H} {W : World} {v : Value} {base : Nat} {d : DataW H} {p : List MemPlace} (ho : Value.okWide Try.prog W .any base 35 v)
    (h : DataW.Trod enc Try.prog W 0 (fun _ => true) true 35 v d p) : ∃ a : Ac, v = .agg a.cells.toArray ∧ a.kind < 256 ∧ a.orgs < 256 := by
  obtain ⟨cs, rfl, hs⟩ := okWide_struct Try.underlying35 ho
  have hs7 : cs.size = 7 := hs.trans (by kernel_rfl)
  obtain ⟨n, hn⟩ := h
  obtain ⟨a, ha, h1, h2⟩ := act_cells (cs := cs.toList) (by simpa using hs7) hn
  exact ⟨a, by rw [← ha], h1, h2⟩
theorem acts_arg {H : Type} {enc : TypeId × Value → H} {W : World} {a : Option Addr} {len cap : Nat} {d : DataW H} {p : List MemPlace}
    (h : DataW.Trod enc Try.prog W 0 (fun _ => true) true 22 (.slice a len cap) d p) :
    ∃ ls : List Ac, ls.length = len ∧ len ≤ 9223372036854775807 ∧ Acts W W.heap.size a ls ∧ ∀ x ∈ ls, x.kind < 256 ∧ x.orgs < 256 := by
  obtain ⟨hl, hi⟩ := elems_arg Try.underlying22 (k := 7) (by kernel_rfl) (by omega) h
  have each : ∀ i, i < len → ∃ x : Ac, (∃ b o, a = some ⟨b, o, none⟩ ∧ b < W.heap.size ∧ W.rangeAt b (o + i * 7) x.cells) ∧ x.kind < 256 ∧ x.orgs < 256 := by
    intro i him
    obtain ⟨b, o, n, cs, y, ha, hb, hcl, hat, ht⟩ := hi i him
    obtain ⟨x, hx, h1, h2⟩ := act_cells hcl ht
    refine ⟨x, ⟨b, o, ha, hb, fun j v hv => ?_⟩, h1, h2⟩
    rw [← hx] at hv
    obtain ⟨hj, e⟩ := List.getElem?_eq_some_iff.1 hv
    rw [hat j hj, e]
  obtain ⟨ls, hll, hls⟩ := list_of each
  refine ⟨ls, hll, hl, fun i h => (hls i h).1, fun x hx => ?_⟩
  obtain ⟨i, h, rfl⟩ := List.getElem_of_mem hx
  exact (hls i h).2
end Go.Proofs.Ythdmjeoldnehcaa
