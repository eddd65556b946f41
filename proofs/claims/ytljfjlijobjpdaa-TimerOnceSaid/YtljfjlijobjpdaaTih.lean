/- Scripts of steps of layer 25: what a slice of steps reads as, opened as an argument; heavy. No condition. -/
import Derived.Test.YtljfjlijobjpdaaOpn
import Derived.Test.YtljfjlijobjpdaaTib
namespace Go.Proofs.Ytljfjlijobjpdaa
open Go.RowKit Go.ChangeShapes Go.WideShapes
set_option linter.unusedVariables false

structure Sp where
  do_ : Nat
  key : List UInt8
  at_ : Int
deriving DecidableEq
def Sp.cells (x : Sp) : List Value := [.int .u8 (x.do_ : Int), str x.key, .int .i64 x.at_]
/-- A slice (its address A) holds the steps ls, all of them below block B. -/
def StepsT (w : World) (B : Nat) (A : Option Addr) (ls : List Sp) : Prop := ∀ (i : Nat) (h : i < ls.length), ∃ b o, A = some ⟨b, o, none⟩ ∧ b < B ∧ w.rangeAt b (o + i * 3) (ls[i]).cells
theorem StepsT.below {w w' : World} {B B' : Nat} {A : Option Addr} {ls : List Sp} (h : StepsT w B A ls) (hb : Below B' w w') (hB : B ≤ B') : StepsT w' B A ls := fun i hi => by
  obtain ⟨b, o, e, hl, h1⟩ := h i hi
  exact ⟨b, o, e, hl, fun j v hv => (hb.cell (p := ⟨b, _, none⟩) (Nat.lt_of_lt_of_le hl hB)).trans (h1 j v hv)⟩
def heavyT (ls : List Sp) : Bool := decide (150 < ls.length) || ls.any (fun x => decide (1024 < x.key.length))
set_option maxHeartbeats 400000 in
theorem heavy_any (A : Option Addr) (c : Nat) (ls : List Sp) (hl : ls.length ≤ 9223372036854775807) (hx : ∀ x ∈ ls, x.key.length ≤ 9223372036854775807) (B : Nat) (w : World) (hT : StepsT w B A ls) :
    Calls Try.prog 4 #[.slice A ls.length c] w fun e w' => e = .returned (.bool (heavyT ls)) ∧ w = w' := by
  by_cases h150 : 150 < ls.length
  · have hh : heavyT ls = true := by simp [heavyT, h150]
    rw [hh]
    clear hx hT hh
    go_enter Try.func4, Try.ntmps4
    go_wp2_with fail
    go_ret
    exact ⟨rfl, rfl⟩
  · go_enter Try.func4, Try.ntmps4
    go_wp2_with fail
    go_loop [3] (fun k => ∃ i : Nat, i ≤ ls.length ∧ k = .int .i64 i ∧ Hid ((ls.take i).any (fun x => decide (1024 < x.key.length)) = false)) (fun k => ls.length - (intOf k).toNat)
    case atStart => exact ⟨0, by omega, rfl, rfl⟩
    case round =>
      obtain ⟨i, hi, rfl, hsh⟩ := hrel
      by_cases hki : i < ls.length
      · obtain ⟨b, o, rfl, hbB, hr⟩ := hT i hki
        have c1 := hr 1 _ rfl
        have hxi := hx ls[i] (List.getElem_mem hki)
        have hs : ls.take (i + 1) = ls.take i ++ [ls[i]] := List.take_succ_eq_append_getElem hki
        have hmem : ls[i] ∈ ls := List.getElem_mem hki
        have Hs := Lib.hid (And.intro hs hmem)
        clear hs hT hx hmem hr
        generalize ls[i] = x at c1 hxi Hs
        by_cases h1024 : 1024 < x.key.length
        · go_wp2_with fail
          go_ret
          refine ⟨ret_bool ?_, rfl⟩
          have : ls.any (fun x => decide (1024 < x.key.length)) = true := List.any_eq_true.2 ⟨x, Hs.out.2, by simpa using h1024⟩
          simp [heavyT, this]
        · go_wp2_with fail
          go_round
          case rel => exact ⟨i + 1, by omega, by go_num, by show _ = _; rw [Hs.out.1, List.any_append, hsh.out]; simpa using h1024⟩
          case measure => simp [intOf]; omega
      · clear hT hx
        go_wp2_with fail
        go_ret
        refine ⟨ret_bool ?_, rfl⟩
        have h := hsh.out
        rw [List.take_of_length_le (by omega)] at h
        simp only [heavyT, h]; simp; omega
theorem tsteps_arg {H : Type} {enc : TypeId × Value → H} {W : World} {a : Option Addr} {len cap : Nat} {d : DataW H} {p : List MemPlace}
    (h : DataW.Trod enc Try.prog W 0 (fun _ => true) true 22 (.slice a len cap) d p) :
    ∃ ls : List Sp, ls.length = len ∧ len ≤ 9223372036854775807 ∧ StepsT W W.heap.size a ls ∧ ∀ x ∈ ls, x.key.length ≤ 9223372036854775807 ∧ x.do_ < 256 := by
  obtain ⟨hl, hi⟩ := elems_arg Try.underlying22 (k := 3) (by kernel_rfl) (by omega) h
  have each : ∀ i, i < len → ∃ x : Sp, (∃ b o, a = some ⟨b, o, none⟩ ∧ b < W.heap.size ∧ W.rangeAt b (o + i * 3) x.cells) ∧ x.key.length ≤ 9223372036854775807 ∧ x.do_ < 256 := by
    intro i him
    obtain ⟨b, o, n, cs, y, ha, hb, hcl, hat, ht⟩ := hi i him
    obtain ⟨xs, n', _, _, _, hxl, hf⟩ := DataW.trod_struct Try.underlying28 ht
    match cs, hcl with
    | [c0, c1, c2], _ =>
      match xs, hxl with
      | [y0, y1, y2], _ =>
        have f0 := hf 0 _ rfl
        have f1 := hf 1 _ rfl
        have f2 := hf 2 _ rfl
        have k0 : Try.prog.cellsOf 5 = 1 := by kernel_rfl
        have k1 : Try.prog.cellsOf 9 = 1 := by kernel_rfl
        have k2 : Try.prog.cellsOf 2 = 1 := by kernel_rfl
        simp [k0] at f0; simp [k1] at f1; simp [k2] at f2
        obtain ⟨v0, e0, _, w0⟩ := DataW.trod_int Try.underlying5 f0
        obtain ⟨v1, e1, _, w1⟩ := DataW.trod_string Try.underlying9 f1
        obtain ⟨v2, e2, _, w2⟩ := DataW.trod_int Try.underlying2 f2
        simp only [List.cons.injEq, and_true] at e0 e1 e2
        subst e0 e1 e2
        obtain ⟨l1, rfl⟩ := ba_list v1
        have q0 : 0 ≤ v0 ∧ v0 ≤ 255 := by simpa [Lit.wf, IntKind.min, IntKind.max, IntKind.signed, IntKind.bits] using w0
        obtain ⟨m0, rfl⟩ : ∃ m : Nat, v0 = (m : Int) := ⟨v0.toNat, by omega⟩
        refine ⟨⟨m0, l1, v2⟩, ⟨b, o, ha, hb, fun j v hv => ?_⟩, ?_, by show m0 < 256; omega⟩
        · have hv' : ([.int .u8 (m0 : Int), str l1, .int .i64 v2] : List Value)[j]? = some v := hv
          obtain ⟨hj, e⟩ := List.getElem?_eq_some_iff.1 hv'
          rw [hat j hj, ← e]
        · simpa [ByteArray.size, maxLen] using w1
  obtain ⟨ls, hll, hls⟩ := list_of each
  refine ⟨ls, hll, hl, fun i h => (hls i h).1, fun x hx => ?_⟩
  obtain ⟨i, h, rfl⟩ := List.getElem_of_mem hx
  exact (hls i h).2
end Go.Proofs.Ytljfjlijobjpdaa
