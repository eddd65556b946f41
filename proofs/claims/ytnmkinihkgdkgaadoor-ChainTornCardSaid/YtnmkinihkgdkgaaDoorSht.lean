/- The memory of a sha.Hash, and the walk of take. Condition: the table k reads as the standard's numbers. -/
import Derived.Test.YtnmkinihkgdkgaaDoorShk
import Derived.Test.YtnmkinihkgdkgaaDoorByt
namespace Go.Proofs.YtnmkinihkgdkgaaDoor
open Go.RowKit
set_option linter.unusedVariables false

/-! ### A word out of four bytes, byte by byte -/
def wacc (b : List UInt8) (t : Nat) : Nat → UInt32
  | 0 => 0
  | j + 1 => oo (sl (wacc b t j) 8) (bw (byt b (4 * t + j)))
theorem sl_oo (x y : UInt32) (n : Nat) (h : n < 32) : sl (oo x y) n = oo (sl x n) (sl y n) := by
  have hs : ∀ z : UInt32, (sl z n).toNat = z.toNat * 2 ^ n % 4294967296 := by
    intro z
    unfold sl
    rw [UInt32.toNat_shiftLeft, UInt32.toNat_ofNat', Nat.mod_eq_of_lt (by omega : n < 2 ^ 32), Nat.mod_eq_of_lt h, Nat.shiftLeft_eq]
  apply UInt32.toNat_inj.1
  have ho : ∀ a b : UInt32, (oo a b).toNat = a.toNat ||| b.toNat := fun a b => UInt32.toNat_or a b
  rw [hs, ho, ho, hs, hs, ← Nat.shiftLeft_eq, ← Nat.shiftLeft_eq, ← Nat.shiftLeft_eq, Nat.shiftLeft_or_distrib]
  exact Nat.or_mod_two_pow (n := 32)
theorem sl_sl (x : UInt32) (m n : Nat) (h : m + n < 32) : sl (sl x m) n = sl x (m + n) := by
  have hs : ∀ (z : UInt32) (k : Nat), k < 32 → (sl z k).toNat = z.toNat * 2 ^ k % 4294967296 := by
    intro z k hk
    unfold sl
    rw [UInt32.toNat_shiftLeft, UInt32.toNat_ofNat', Nat.mod_eq_of_lt (by omega : k < 2 ^ 32), Nat.mod_eq_of_lt hk, Nat.shiftLeft_eq]
  apply UInt32.toNat_inj.1
  rw [hs _ n (by omega), hs _ m (by omega), hs _ (m + n) h, Nat.pow_add, ← Nat.mul_assoc, Nat.mod_mul_mod]
theorem wacc_four (b : List UInt8) (t : Nat) : wacc b t 4 = wrd b t := by
  have h0 : sl 0 8 = 0 := by decide
  have ho : ∀ x : UInt32, oo 0 x = x := fun x => UInt32.zero_or
  simp only [wacc, wrd, word4, h0, ho, Nat.add_zero]
  rw [sl_oo _ _ 8 (by omega), sl_oo _ _ 8 (by omega), sl_oo _ _ 8 (by omega), sl_sl _ 8 8 (by omega), sl_sl _ 8 8 (by omega), sl_sl _ 8 (8 + 8) (by omega)]

theorem wat_zero (n m : Nat) : wat (List.replicate n 0) m = 0 := by
  rw [wat, List.getD_eq_getElem?_getD, List.getElem?_replicate]
  split <;> rfl
theorem set_wat (l : List UInt32) (k : Nat) (h : k < l.length) : l.set k (wat l k) = l := by
  rw [← wat_getElem l k h]; exact List.set_getElem_self h
theorem set_set (l : List UInt32) (k : Nat) (v u : UInt32) : (l.set k v).set k u = l.set k u := List.set_set ..
theorem wacc_succ (b : List UInt8) (t j : Nat) : wacc b t (j + 1) = oo (sl (wacc b t j) 8) (bw (byt b (4 * t + j))) := rfl

/-! ### The memory of a Hash -/
def hcells (l : List UInt32) (wait : List UInt8) (n : Nat) : Array Value := (l.map wv ++ byc wait ++ [Value.int .i64 (n : Int)]).toArray
structure HRow (W : World) (g : Nat) (l : List UInt32) (wait : List UInt8) (n : Nat) : Prop where
  row : W.heap[g]? = some (.cells (hcells l wait n) 74 (0, 0))
  l8 : l.length = 8
  w64 : wait.length = 64
theorem HRow.lt {W : World} {g : Nat} {l : List UInt32} {wait : List UInt8} {n : Nat} (h : HRow W g l wait n) : g < W.heap.size := (Array.getElem?_eq_some_iff.1 h.row).1
theorem HRow.frozen {W : World} {g : Nat} {l : List UInt32} {wait : List UInt8} {n : Nat} (h : HRow W g l wait n) (k : Nat) : W.frozen? ⟨g, k, none⟩ = false := frozen_of_row W g k _ _ h.row
theorem HRow.state {W : World} {g : Nat} {l : List UInt32} {wait : List UInt8} {n : Nat} (h : HRow W g l wait n) (k : Nat) (hk : k < 8) : W.cell? ⟨g, k, none⟩ = some (wv (wat l k)) := by
  have := h.l8
  rw [cell_of_row W g k _ _ (0, 0) h.row]
  simp [hcells, List.getElem?_append_left, hk, this, wat]
theorem HRow.waits {W : World} {g : Nat} {l : List UInt32} {wait : List UInt8} {n : Nat} (h : HRow W g l wait n) (k : Nat) (hk : k < 64) : W.cell? ⟨g, 8 + k, none⟩ = some (bv (byt wait k)) := by
  have h8 := h.l8
  have h64 := h.w64
  rw [cell_of_row W g (8 + k) _ _ (0, 0) h.row]
  have e : (hcells l wait n)[8 + k]? = (byc wait)[k]? := by
    simp only [hcells, List.getElem?_toArray]
    rw [List.getElem?_append_left (by simp [byc_len]; omega), List.getElem?_append_right (by simp; omega)]
    simp [h8]
  rw [e]
  simp [byc, byt, h64, hk]
theorem HRow.num {W : World} {g : Nat} {l : List UInt32} {wait : List UInt8} {n : Nat} (h : HRow W g l wait n) : W.cell? ⟨g, 72, none⟩ = some (.int .i64 (n : Int)) := by
  have h8 := h.l8
  have h64 := h.w64
  rw [cell_of_row W g 72 _ _ (0, 0) h.row]
  simp only [hcells, List.getElem?_toArray]
  rw [List.getElem?_append_right (by simp [byc_len]; omega)]
  simp [byc_len, h8, h64]
theorem HRow.heap {W W' : World} {g : Nat} {l : List UInt32} {wait : List UInt8} {n : Nat} (h : HRow W g l wait n) (e : W'.heap = W.heap) : HRow W' g l wait n := ⟨by rw [e]; exact h.row, h.l8, h.w64⟩
theorem HRow.below {B : Nat} {W W' : World} {g : Nat} {l : List UInt32} {wait : List UInt8} {n : Nat} (h : HRow W g l wait n) (hb : Below B W W') (hg : g < B) : HRow W' g l wait n := ⟨(hb.block g hg).trans h.row, h.l8, h.w64⟩
theorem HRow.other {W : World} {g : Nat} {l : List UInt32} {wait : List UInt8} {n : Nat} (h : HRow W g l wait n) (a : Addr) (v : Value) (hne : g ≠ a.block) : HRow (W.setCell a v) g l wait n :=
  ⟨by rw [heap_setCell_other W a g v hne]; exact h.row, h.l8, h.w64⟩
theorem HRow.setState {W : World} {g : Nat} {l : List UInt32} {wait : List UInt8} {n : Nat} (h : HRow W g l wait n) (k : Nat) (hk : k < 8) (v : UInt32) : HRow (W.setCell ⟨g, k, none⟩ (wv v)) g (l.set k v) wait n := by
  refine ⟨?_, by simp [h.l8], h.w64⟩
  rw [heap_setCell_same W g k _ _ (wv v) h.row]
  congr 2
  have := h.l8
  simp only [hcells, List.setIfInBounds_toArray]
  congr 1
  rw [List.append_assoc, List.append_assoc, List.set_append_left _ _ (by simp; omega), List.map_set]
theorem HRow.setNum {W : World} {g : Nat} {l : List UInt32} {wait : List UInt8} {n : Nat} (h : HRow W g l wait n) (m : Nat) : HRow (W.setCell ⟨g, 72, none⟩ (.int .i64 (m : Int))) g l wait m := by
  refine ⟨?_, h.l8, h.w64⟩
  rw [heap_setCell_same W g 72 _ _ _ h.row]
  congr 2
  have h8 := h.l8
  have h64 := h.w64
  simp only [hcells, List.setIfInBounds_toArray]
  congr 1
  rw [List.set_append_right _ _ (by simp [byc_len]; omega)]
  simp [byc_len, h8, h64]

/-- The table of the rounds' numbers, where the program's text lays it. -/
def KT (W : World) : Prop := ∀ i, i < 64 → W.cell? ⟨0, i, none⟩ = some (wv (wat kws i))
theorem KT.lt {W : World} (h : KT W) : 0 < W.heap.size := block_lt_of_cell (h 0 (by omega))
theorem KT.heap {W W' : World} (h : KT W) (e : W'.heap = W.heap) : KT W' := fun i hi => by
  have := h i hi
  simp only [World.cell?, e] at this ⊢
  exact this
theorem KT.below {B : Nat} {W W' : World} (h : KT W) (hb : Below B W W') (hB : 0 < B) : KT W' := fun i hi => (hb.cell (p := ⟨_, i, none⟩) hB).trans (h i hi)
theorem KT.grown {W W' : World} {g : Nat} (h : KT W) (hg : W.grownBy W' (some g)) (hne : 0 ≠ g) : KT W' := fun i hi =>
  (World.cell?_of_block (hg.block _ h.lt (fun e => hne (Option.some.inj e)))).trans (h i hi)

theorem hst_cells {W : World} {g : Nat} {s : St8} {wait : List UInt8} {n : Nat} (h : HRow W g s.list wait n) :
    W.cell? ⟨g, 0, none⟩ = some (wv s.a) ∧ W.cell? ⟨g, 1, none⟩ = some (wv s.b) ∧ W.cell? ⟨g, 2, none⟩ = some (wv s.c) ∧ W.cell? ⟨g, 3, none⟩ = some (wv s.d) ∧ W.cell? ⟨g, 4, none⟩ = some (wv s.e) ∧ W.cell? ⟨g, 5, none⟩ = some (wv s.f) ∧ W.cell? ⟨g, 6, none⟩ = some (wv s.g) ∧ W.cell? ⟨g, 7, none⟩ = some (wv s.h) :=
  ⟨h.state 0 (by omega), h.state 1 (by omega), h.state 2 (by omega), h.state 3 (by omega), h.state 4 (by omega), h.state 5 (by omega), h.state 6 (by omega), h.state 7 (by omega)⟩

/-- 'h.wait[lo:hi]', 'h.wait[lo:]' -/
theorem run_wait_lh (g l h : Nat) (h1 : l ≤ h) (h2 : h ≤ 64) (h3 : l < 64) (zl zh : Int) (el : zl = (l : Int)) (eh : zh = (h : Int)) (W : World) :
    (Instr.sliceAt 72 (.pointer (some ⟨g, 8, none⟩)) (some (.int .i64 zl)) (some (.int .i64 zh)) none).run Tryd.prog W = .ok (.slice (some ⟨g, 8 + l, none⟩) (h - l) (64 - l)) W := by
  subst el eh
  have e64 : Tryd.prog.arrayLen 72 = 64 := by kernel_rfl
  have hz : (sizeOf (Tryd.prog.elem 72)).run Tryd.prog W = .ok 1 W := by kernel_rfl
  rw [run_sliceAt_array_lh (P := Tryd.prog) W 72 ⟨g, 8, none⟩ Tryd.underlying72 .i64 .i64 (l : Int) (h : Int) (by omega) (by omega) (by rw [e64]; omega), hz]
  simp only [Result.andThen_ok, slicedAt, e64, Int.toNat_natCast, Nat.mul_one]
  rw [if_neg (by omega), Addr.add_lit]
theorem run_wait_l (g l : Nat) (h3 : l < 64) (zl : Int) (el : zl = (l : Int)) (W : World) :
    (Instr.sliceAt 72 (.pointer (some ⟨g, 8, none⟩)) (some (.int .i64 zl)) none none).run Tryd.prog W = .ok (.slice (some ⟨g, 8 + l, none⟩) (64 - l) (64 - l)) W := by
  subst el
  have e64 : Tryd.prog.arrayLen 72 = 64 := by kernel_rfl
  have hz : (sizeOf (Tryd.prog.elem 72)).run Tryd.prog W = .ok 1 W := by kernel_rfl
  rw [run_sliceAt_array_l (P := Tryd.prog) W 72 ⟨g, 8, none⟩ Tryd.underlying72 .i64 (l : Int) (by omega) (by rw [e64]; omega), hz]
  simp only [Result.andThen_ok, slicedAt, e64, Int.toNat_natCast, Nat.mul_one]
  rw [if_neg (by omega), Addr.add_lit]
end Go.Proofs.YtnmkinihkgdkgaaDoor
