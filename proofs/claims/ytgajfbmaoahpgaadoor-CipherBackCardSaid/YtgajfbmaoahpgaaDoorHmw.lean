/- The walks of hmac's with and New: a key made ready. Condition: the table k reads as the standard's numbers; sizes that a machine has. -/
import Derived.Test.YtgajfbmaoahpgaaDoorHmx
import Derived.Test.YtgajfbmaoahpgaaDoorSia
import Derived.Lib.BufferWrite
namespace Go.Proofs.YtgajfbmaoahpgaaDoor
open Go.RowKit
set_option linter.unusedVariables false

abbrev byV (b : Nat) : Value := .func (.func 27) #[] #[.pointer (some ⟨b, 0, none⟩)]
theorem tw_any (c n : UInt8) (b : Nat) (w : World) (h : w.cell? ⟨b, 0, none⟩ = some (bv n)) :
    Calls Tryd.prog 27 #[bv c, .pointer (some ⟨b, 0, none⟩)] w fun e w' => e = .returned (bv (bx c n)) ∧ w = w' := by
  go_enter Tryd.func27, Tryd.ntmps27
  go_wp2_with fail
  go_ret
  exact ⟨rfl, rfl⟩
theorem by_any (n : UInt8) (z : Int) (hz : z = (n.toNat : Int)) (w : World) :
    Calls Tryd.prog 26 #[.int .u8 z] w fun e w' => e = .returned (byV w.heap.size) ∧ w'.cell? ⟨w.heap.size, 0, none⟩ = some (bv n) ∧ w.heap.size < w'.heap.size ∧ Below w.heap.size w w' := by
  subst hz
  go_enter Tryd.func26, Tryd.ntmps26
  go_wp2_with fail
  go_ret
  exact ⟨rfl, by rw [cell_of_row _ _ 0 _ _ (0, 0) (heap_alloc_new w _)]; rfl, by simp, (Below.refl _ w).alloc (Nat.le_refl _) _⟩

theorem ByS.of_row {W : World} {B g : Nat} {l : List UInt8} (h : W.heap[g]? = some (.cells (byc l).toArray 5 (0, 0))) (hB : B ≤ g) (hl : l.length ≤ maxLen) : ByS W B (.slice (some ⟨g, 0, none⟩) l.length l.length) l := by
  refine .inr ⟨g, l.length, rfl, hB, (Array.getElem?_eq_some_iff.1 h).1, Nat.le_refl _, hl, fun j hj => ?_, fun j hj => ?_⟩
  · refine ⟨?_, frozen_of_row W g j _ _ h⟩
    rw [cell_of_row W g j _ _ (0, 0) h]; simp [byc, hj]
  · rw [cell_of_row W g j _ _ (0, 0) h]; simp [byc, hj]
def zer64 : List UInt8 := List.replicate 64 0
theorem make64 (W : World) : (Instr.makeSlice 31 (.int .i64 64) (.int .i64 64)).run Tryd.prog W = .ok (.slice (some ⟨W.heap.size, 0, none⟩) 64 64) (W.alloc (.cells (byc zer64).toArray 5 (0, 0))) := by
  obtain ⟨i0, hi, hz0, hz1, hz2⟩ := info_parts u8_info
  have h := run_make (P := Tryd.prog) W 31 5 i0 _ Tryd.underlying31 hi hz0 .i64 .i64 64 64 (by omega) (by omega) (by rw [hz2]; omega) (by omega)
  rw [h, hz1]
  congr 3
  have e : (madeCells (Value.int .u8 0).cells ((64 : Int).toNat * 1)) = (byc zer64).toArray := by
    apply Array.toList_inj.1
    have : (Value.int .u8 0).cells = #[Value.int .u8 0] := rfl
    rw [this, toList_madeCells_one]; simp [byc, zer64]
  rw [e]
theorem copy64 (W : World) (g : Nat) (key : List UInt8) (ty : TypeId) (h : W.heap[g]? = some (.cells (byc zer64).toArray 5 (0, 0))) (hk : key.length ≤ 64) :
    (Builtin.copy_ #[31, 9] ty #[.slice (some ⟨g, 0, none⟩) 64 64, str key]).run Tryd.prog W = .ok (.int .i64 key.length) (W.setRow g (byc (bk key)).toArray) := by
  have hs : (ByteArray.mk key.toArray).size = key.length := by simp [ByteArray.size]
  rw [Lib.run_copy_row_string W 31 9 ty 5 g 0 64 64 ⟨key.toArray⟩ _ 5 Tryd.underlying31 (by kernel_rfl) h (by rw [hs]; exact hk) (by rw [hs]; simp [byc, zer64]; omega), hs]
  congr 1
  congr 1
  have e : (byc zer64).drop key.length = byc (List.replicate (64 - key.length) 0) := by rw [zer64, byc, List.map_replicate, List.drop_replicate, byc, List.map_replicate]
  simp only [List.take_zero, List.nil_append, Nat.zero_add, e]
  simp only [Lib.byteCells, byc, bk, List.map_append]

/-- The memory of with, behind k rounds. -/
structure Wh (w W : World) (key : List UInt8) (n : UInt8) (k : Nat) : Prop where
  y : ByS W (w.heap.size + 1) (.slice (some ⟨w.heap.size + 1, 0, none⟩) 64 64) (xk (bk key) n k)
  r : W.heap[w.heap.size]? = some (.cells #[.pointer none] 45 (0, 0))
  b : Below w.heap.size w W
theorem Wh.put {w W : World} {key : List UInt8} {n : UInt8} {k : Nat} (T : Wh w W key n k) (hk : key.length ≤ 64) (h : k < 64) : Wh w (W.setCell ⟨w.heap.size + 1, k, none⟩ (bv (bx (byt (bk key) k) n))) key n (k + 1) := by
  have hb := bk_len key hk
  refine ⟨?_, by rw [heap_setCell_other _ _ _ _ (by simp)]; exact T.r, T.b.setCell (p := ⟨w.heap.size + 1, k, none⟩) (by simp) _⟩
  rw [← xk_set _ n k (by omega)]
  exact T.y.put k (by rw [xk_len]; omega) _

set_option maxRecDepth 100000 in
set_option maxHeartbeats 4000000 in
theorem with_any (key : List UInt8) (n : UInt8) (b : Nat) (w : World) (hK : KT w) (hk : key.length ≤ 64) (hb : b < w.heap.size) (hc : w.cell? ⟨b, 0, none⟩ = some (bv n)) :
    Calls Tryd.prog 28 #[str key, byV b] w fun e w' => ∃ g, e = .returned (.agg #[.pointer (some ⟨g, 0, none⟩)]) ∧ w.heap.size ≤ g ∧ HashAt w' g (xrs (bk key) n) ∧ Below w.heap.size w w' := by
  have HK := Lib.hid hK
  have HC := Lib.hid hc
  have mk := make64
  have cp := fun ty => copy64 ((w.alloc (.cells #[.pointer none] 45 (0, 0))).alloc (.cells (byc zer64).toArray 5 (0, 0))) (w.heap.size + 1) key ty (heap_alloc2_new w _ _) hk
  clear hK hc
  go_enter Tryd.func28, Tryd.ntmps28
  go_wp2_with fail
  have T0 : Hid (Wh w (((w.alloc (.cells #[.pointer none] 45 (0, 0))).alloc (.cells (byc zer64).toArray 5 (0, 0))).setRow (w.heap.size + 1) (byc (bk key)).toArray) key n 0) := by
    have hl := bk_len key hk
    have hrow := setRow_heap _ _ _ (byc (bk key)).toArray _ _ (heap_alloc2_new w (.cells #[.pointer none] 45 (0, 0)) (.cells (byc zer64).toArray 5 (0, 0)))
    have hy := ByS.of_row hrow (Nat.le_refl _) (by rw [hl]; unfold maxLen; omega)
    rw [hl] at hy
    exact ⟨by rw [xk_zero]; exact hy, (setRow_other _ _ _ _ (by omega)).trans (heap_alloc2_old w _ _), below_setRow (((Below.refl _ w).alloc (Nat.le_refl _) _).alloc (by simp) _) (by omega) _⟩
  clear cp mk
  generalize ((w.alloc (.cells #[.pointer none] 45 (0, 0))).alloc (.cells (byc zer64).toArray 5 (0, 0))).setRow (w.heap.size + 1) (byc (bk key)).toArray = w0 at T0 ⊢
  go_loopw [14] (fun k wr => ∃ i : Nat, i ≤ 64 ∧ k = .int .i64 i ∧ Hid (Wh w wr key n i)) (fun k _ => 64 - (intOf k).toNat)
  case atStart => exact ⟨0, by omega, rfl, T0⟩
  case round =>
    obtain ⟨i, hi, rfl, T⟩ := hrel
    clear T0
    by_cases h : i < 64
    · obtain ⟨hq, _, hlt, ho⟩ := T.out.y.opened
      clear hq
      have hl := bk_len key hk
      obtain ⟨c1, f1⟩ := ho i (by rw [xk_len]; omega)
      rw [xk_at _ n i (by omega)] at c1
      have kb : 0 ≤ (i : Int) ∧ (i : Int) < 64 := by omega
      have ct := (T.out.b.cell (p := ⟨b, 0, none⟩) hb).trans HC.out
      have CT := Lib.hid (tw_any (byt (bk key) i) n b wr ct)
      clear ho ct hl
      go_wp2_with (go_at_call 27; refine CT.out.mono ?_; rintro e w2 ⟨rfl, rfl⟩)
      go_roundw
      case rel => exact ⟨i + 1, by omega, by go_num, T.out.put hk h⟩
      case measure => simp [intOf]; omega
    · obtain rfl : i = 64 := by omega
      have CN := Lib.hid (New_any wr)
      have TB := Lib.hid T.out
      clear T
      go_wp2_with fail
      refine CN.out.mono ?_
      rintro e w2 ⟨rfl, n2, b2⟩
      have hy := TB.out.y.below b2
      rw [xk_all _ n 64 (by rw [bk_len key hk]; omega)] at hy
      have cv := conv_bys hy
      have HN := Lib.hid (And.intro n2 b2)
      have CW := Lib.hid (Write_any wr.heap.size [] (xrs (bk key) n) w2 n2 (HK.out.below (below_acc TB.out.b b2) HK.out.lt) (Nat.ne_of_lt (Nat.lt_of_lt_of_le HK.out.lt TB.out.b.size)) (by rw [xrs_len, bk_len key hk]; simp))
      clear n2 b2 hy CN
      go_wp2_with fail
      refine CW.out.mono ?_
      rintro e w3 ⟨rfl, n3, g3⟩
      rw [List.nil_append] at n3
      have hr2 : w3.heap[w.heap.size]? = some (.cells #[.pointer none] 45 (0, 0)) := by
        have h1 := (HN.out.2.block _ (Array.getElem?_eq_some_iff.1 TB.out.r).1).trans TB.out.r
        exact (g3.block _ (Array.getElem?_eq_some_iff.1 h1).1 (fun e => by have := Option.some.inj e; have := (Array.getElem?_eq_some_iff.1 TB.out.r).1; omega)).trans h1
      have B3 := below_of_grown (below_acc TB.out.b HN.out.2) g3 TB.out.b.size (Nat.le_trans TB.out.b.size HN.out.2.size)
      have c1 := cell_of_row _ _ 0 _ _ (0, 0) hr2
      have f1 := frozen_of_row _ _ 0 _ _ hr2
      have HF := Lib.hid (And.intro n3 B3)
      have HS := Lib.hid hr2
      have hgg : w.heap.size ≤ wr.heap.size := TB.out.b.size
      have hne : w.heap.size ≠ wr.heap.size := Nat.ne_of_lt (Array.getElem?_eq_some_iff.1 TB.out.r).1
      clear n3 B3 hr2 CW g3 cv
      go_wp2_with fail
      have hrow := heap_setCell_same w3 w.heap.size 0 _ _ (.pointer (some ⟨wr.heap.size, 0, none⟩)) HS.out
      refine bodyPost_ret (results_cell_row rfl _ _ w.heap.size 45 #[.pointer (some ⟨wr.heap.size, 0, none⟩)] (0, 0) _ rfl hrow Tryd.underlying45 rfl (by kernel_rfl)) rfl ⟨wr.heap.size, rfl, hgg, ?_, HF.out.2.setCell (p := ⟨w.heap.size, 0, none⟩) (Nat.le_refl _) _⟩
      obtain ⟨wt, h1, h2⟩ := HF.out.1
      exact ⟨wt, h1.other _ _ (Ne.symm hne), h2⟩
end Go.Proofs.YtgajfbmaoahpgaaDoor
