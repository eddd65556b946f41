/- An argument that is a slice of the steps of layer 14, opened. No condition. -/
import Derived.Test.YtnbdkabffdaikaaOpn
import Derived.Test.YtnbdkabffdaikaaStp
namespace Go.Proofs.Ytnbdkabffdaikaa
open Go.RowKit Go.ChangeShapes Go.WideShapes

theorem steps_arg {H : Type} {enc : TypeId × Value → H} {W : World} {a : Option Addr} {len cap : Nat} {d : DataW H} {p : List MemPlace}
    (h : DataW.Trod enc Try.prog W 0 (fun _ => true) true 34 (.slice a len cap) d p) :
    ∃ ls : List Stp, ls.length = len ∧ len ≤ 9223372036854775807 ∧ Steps W W.heap.size a ls ∧ (∀ x ∈ ls, x.s.length ≤ 9223372036854775807) ∧ ∀ x ∈ ls, 0 ≤ x.act ∧ x.act ≤ 255 ∧ x.n ≤ 9223372036854775807 := by
  obtain ⟨hl, hi⟩ := elems_arg Try.underlying34 (k := 3) (by kernel_rfl) (by omega) h
  have each : ∀ i, i < len → ∃ x : Stp, (∃ b o, a = some ⟨b, o, none⟩ ∧ b < W.heap.size ∧ W.cell? ⟨b, o + i * 3, none⟩ = some (.int .u8 x.act) ∧ W.cell? ⟨b, o + i * 3 + 1, none⟩ = some (.int .i64 x.n) ∧ W.cell? ⟨b, o + i * 3 + 2, none⟩ = some (str x.s)) ∧
      x.s.length ≤ 9223372036854775807 ∧ 0 ≤ x.act ∧ x.act ≤ 255 ∧ x.n ≤ 9223372036854775807 := by
    intro i him
    obtain ⟨b, o, n, cs, y, ha, hb, hcl, hat, ht⟩ := hi i him
    obtain ⟨xs, n', _, _, _, hxl, hf⟩ := DataW.trod_struct Try.underlying37 ht
    match cs, hcl with
    | [c0, c1, c2], _ =>
      have h0 := hat 0 (by simp)
      have h1 := hat 1 (by simp)
      have h2 := hat 2 (by simp)
      match xs, hxl with
      | [y0, y1, y2], _ =>
        have f0 := hf 0 _ rfl
        have f1 := hf 1 _ rfl
        have f2 := hf 2 _ rfl
        have k0 : Try.prog.cellsOf 5 = 1 := by kernel_rfl
        have k1 : Try.prog.cellsOf 3 = 1 := by kernel_rfl
        have k2 : Try.prog.cellsOf 9 = 1 := by kernel_rfl
        simp [k0] at f0; simp [k1] at f1; simp [k2] at f2
        obtain ⟨v0, e0, _, w0⟩ := DataW.trod_int Try.underlying5 f0
        obtain ⟨v1, e1, _, w1⟩ := DataW.trod_int Try.underlying3 f1
        obtain ⟨v2, e2, _, w2⟩ := DataW.trod_string Try.underlying9 f2
        simp only [List.cons.injEq, and_true] at e0 e1 e2
        subst e0 e1 e2
        obtain ⟨l2, rfl⟩ := ba_list v2
        have q0 : 0 ≤ v0 ∧ v0 ≤ 255 := by simpa [Lit.wf, IntKind.min, IntKind.max, IntKind.signed, IntKind.bits] using w0
        have q1 : -9223372036854775808 ≤ v1 ∧ v1 ≤ 9223372036854775807 := by simpa [Lit.wf, IntKind.min, IntKind.max, IntKind.signed, IntKind.bits] using w1
        refine ⟨⟨v0, v1, l2⟩, ⟨b, o, ha, hb, h0, h1, h2⟩, ?_, q0.1, q0.2, q1.2⟩
        simpa [ByteArray.size, maxLen] using w2
  obtain ⟨ls, hll, hls⟩ := list_of each
  refine ⟨ls, hll, hl, fun i h => ?_, fun x hx => ?_, fun x hx => ?_⟩
  · exact (hls i h).1
  · obtain ⟨i, h, rfl⟩ := List.getElem_of_mem hx
    exact (hls i h).2.1
  · obtain ⟨i, h, rfl⟩ := List.getElem_of_mem hx
    exact (hls i h).2.2
end Go.Proofs.Ytnbdkabffdaikaa
