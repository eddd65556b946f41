/- An argument that is an array of 32 bytes, opened. No condition. -/
import Derived.Test.YtgajfbmaoahpgaaDoorByt
import Derived.ProofKit
import Derived.OpenShut
namespace Go.Proofs.YtgajfbmaoahpgaaDoor
open Go.RowKit Go.ChangeShapes Go.WideShapes

theorem arr32_arg {H : Type} {enc : TypeId × Value → H} {W : World} {r : Reach} {b0 : Nat} {v : Value} {d : DataW H} {p : List MemPlace}
    (hv : Value.okWide Tryd.prog W r b0 29 v) (h : DataW.Trod enc Tryd.prog W 0 (fun _ => true) true 29 v d p) :
    ∃ ch : List UInt8, ch.length = 32 ∧ v = .agg (byc ch).toArray := by
  have hC : Tryd.prog.cellsOf 29 = 32 := by kernel_rfl
  have hE : Tryd.prog.cellsOf 5 = 1 := by kernel_rfl
  obtain ⟨cs, rfl, hsz⟩ : ∃ cs, v = .agg cs ∧ cs.size = Tryd.prog.cellsOf 29 := by
    simp only [Value.okWide, Tryd.underlying29] at hv
    obtain ⟨cs, h1, h2, _⟩ := hv
    exact ⟨cs, h1, h2⟩
  rw [hC] at hsz
  obtain ⟨fuel, hf⟩ := h
  obtain ⟨xs, m, _, _, _, hxl, hi⟩ := DataW.trod_array Tryd.underlying29 hf
  have each : ∀ i, i < 32 → ∃ x : UInt8, cs[i]? = some (.int .u8 (x.toNat : Int)) := by
    intro i h32
    have h1 := hi i h32
    rw [hE, Nat.mul_one, List.getElem?_eq_getElem (by omega)] at h1
    obtain ⟨z, hz, _, hwf⟩ := DataW.trod_int Tryd.underlying5 h1
    have hcl : ((Value.agg cs).cells.toList.drop i).take 1 = [cs[i]'(by omega)] := by
      have : (Value.agg cs).cells.toList = cs.toList := rfl
      rw [this, List.drop_eq_getElem_cons (by simpa using (by omega : i < cs.size))]
      simp
    rw [hcl] at hz
    have hz2 : cs[i]'(by omega) = .int .u8 z := by simpa using hz
    have hb : 0 ≤ z ∧ z ≤ 255 := by simpa [Lit.wf, IntKind.min, IntKind.max, IntKind.signed, IntKind.bits] using hwf
    refine ⟨UInt8.ofNat z.toNat, ?_⟩
    rw [Array.getElem?_eq_getElem (by omega), hz2]
    congr 2
    simp
    omega
  obtain ⟨ch, hl, hch⟩ : ∃ ch : List UInt8, ch.length = 32 ∧ ∀ i (hi : i < ch.length), cs[i]? = some (.int .u8 (ch[i].toNat : Int)) := by
    have go : ∀ n, n ≤ 32 → ∃ ch : List UInt8, ch.length = n ∧ ∀ i (hi : i < ch.length), cs[i]? = some (.int .u8 (ch[i].toNat : Int)) := by
      intro n
      induction n with
      | zero => exact fun _ => ⟨[], rfl, fun i hi => by simp at hi⟩
      | succ n ih =>
        intro hn
        obtain ⟨ch, hl, hr⟩ := ih (by omega)
        obtain ⟨x, hx⟩ := each n (by omega)
        refine ⟨ch ++ [x], by simp [hl], fun i hi => ?_⟩
        by_cases e : i < ch.length
        · rw [List.getElem_append_left e]; exact hr i e
        · have : i = n := by simp at hi; omega
          subst this
          rw [List.getElem_append_right (by omega)]
          simpa using hx
    exact go 32 (by omega)
  refine ⟨ch, hl, ?_⟩
  congr 1
  apply Array.ext
  · simp [byc, hsz, hl]
  · intro i h1 h2
    have e := hch i (by omega)
    rw [Array.getElem?_eq_getElem h1] at e
    simp [byc, Option.some.inj e]
end Go.Proofs.YtgajfbmaoahpgaaDoor
