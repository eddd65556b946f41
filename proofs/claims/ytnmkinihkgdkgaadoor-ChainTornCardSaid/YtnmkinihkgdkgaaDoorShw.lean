/- The walks of the reference's words, consts, took. Condition: a block of 64 bytes. -/
import Derived.Test.YtnmkinihkgdkgaaDoorShr
import Derived.BigRegion
import Derived.Laws.Rows
import Derived.Laws.CopyOwn
namespace Go.Proofs.YtnmkinihkgdkgaaDoor
open Go.RowKit
set_option linter.unusedVariables false

/-- A block of words. -/
def Arr (W : World) (g : Nat) (T : TypeId) (l : List UInt32) : Prop := W.heap[g]? = some (.cells (l.map wv).toArray T (0, 0))
theorem Arr.cell {W : World} {g : Nat} {T : TypeId} {l : List UInt32} (h : Arr W g T l) (k : Nat) (hk : k < l.length) : W.cell? ⟨g, k, none⟩ = some (wv (wat l k)) := by
  rw [cell_of_row W g k _ T (0, 0) h]
  simp [wat, List.getD_eq_getElem?_getD, List.getElem?_eq_getElem hk]
theorem Arr.frozen {W : World} {g : Nat} {T : TypeId} {l : List UInt32} (h : Arr W g T l) (k : Nat) : W.frozen? ⟨g, k, none⟩ = false := frozen_of_row W g k _ T h
theorem Arr.lt {W : World} {g : Nat} {T : TypeId} {l : List UInt32} (h : Arr W g T l) : g < W.heap.size := (Array.getElem?_eq_some_iff.1 h).1
theorem Arr.set {W : World} {g : Nat} {T : TypeId} {l : List UInt32} (h : Arr W g T l) (k : Nat) (v : UInt32) : Arr (W.setCell ⟨g, k, none⟩ (wv v)) g T (l.set k v) := by
  unfold Arr
  rw [heap_setCell_same W g k _ T (wv v) h]
  congr 2
  simp [List.map_set]
theorem Arr.heap {W W' : World} {g : Nat} {T : TypeId} {l : List UInt32} (h : Arr W g T l) (e : W'.heap = W.heap) : Arr W' g T l := by unfold Arr; rw [e]; exact h
theorem Arr.other {W : World} {g : Nat} {T : TypeId} {l : List UInt32} (h : Arr W g T l) {a : Addr} (v : Value) (hne : g ≠ a.block) : Arr (W.setCell a v) g T l := by
  unfold Arr; rw [heap_setCell_other W a g v hne]; exact h
theorem Arr.below {B : Nat} {W W' : World} {g : Nat} {T : TypeId} {l : List UInt32} (h : Arr W g T l) (hb : Below B W W') (hg : g < B) : Arr W' g T l := (hb.block g hg).trans h
theorem cell_set_ne (W : World) (g k m : Nat) (v : Value) (h : k ≠ m) : (W.setCell ⟨g, k, none⟩ v).cell? ⟨g, m, none⟩ = W.cell? ⟨g, m, none⟩ :=
  World.cell?_setCell_other W _ _ v (by intro e; injection e with _ e2 _; exact h e2)

theorem run_index_str (l : List UInt8) (k : Nat) (z : Int) (hz : z = (k : Int)) (h : k < l.length) (W : World) :
    (Instr.index 9 (str l) (.int .i64 z)).run Tryd.prog W = .ok (bv (byt l k)) W := by
  subst hz
  rw [run_index_string W 9 _ _ _ Tryd.underlying9, dif_pos ⟨by omega, by simpa [ByteArray.size] using h⟩]
  rw [← byt_getElem l k h]
  rfl

set_option maxRecDepth 100000 in
set_option maxHeartbeats 4000000 in
theorem words_any (b : List UInt8) (hb : b.length = 64) (w : World) :
    Calls Tryd.prog 41 #[str b] w fun e w' => e = .returned (.agg ((wds b).map wv).toArray) ∧ Below w.heap.size w w' := by
  have HB := Lib.hid hb
  clear hb
  go_enter Tryd.func41, Tryd.ntmps41
  go_wp2_with fail
  have A0 : Hid (Arr ((w.alloc (.cells ((List.replicate 64 (0 : UInt32)).map wv).toArray 68)).alloc (.cells ((List.replicate 64 (0 : UInt32)).map wv).toArray 68)) (w.heap.size + 1) 68 (List.replicate 64 0) ∧ Arr ((w.alloc (.cells ((List.replicate 64 (0 : UInt32)).map wv).toArray 68)).alloc (.cells ((List.replicate 64 (0 : UInt32)).map wv).toArray 68)) w.heap.size 68 (List.replicate 64 0) ∧ Below w.heap.size w ((w.alloc (.cells ((List.replicate 64 (0 : UInt32)).map wv).toArray 68)).alloc (.cells ((List.replicate 64 (0 : UInt32)).map wv).toArray 68))) :=
    ⟨heap_alloc2_new w _ _, heap_alloc2_old w _ _, ((Below.refl _ w).alloc (Nat.le_refl _) _).alloc (by simp) _⟩
  go_loopw [4] (fun k wr => ∃ (i : Nat) (l : List UInt32), i ≤ 16 ∧ k = .int .i64 i ∧ l.length = 64 ∧ Hid (∀ m, m < i → wat l m = wrd b m) ∧ Arr wr (w.heap.size + 1) 68 l ∧ Arr wr w.heap.size 68 (List.replicate 64 0) ∧ Below w.heap.size w wr) (fun k _ => 16 - (intOf k).toNat)
  case atStart => exact ⟨0, List.replicate 64 0, by omega, rfl, by simp, (fun m hm => by omega), A0.out⟩
  case round =>
    obtain ⟨i, l, hi, rfl, hl, hm, hA, hR, hB⟩ := hrel
    by_cases hi2 : i < 16
    · have hbl := HB.out
      have c1 := hA.cell i (by omega)
      have c2 := hA.frozen i
      have kb : 0 ≤ 4 * (i : Int) ∧ 4 * (i : Int) + 3 < 64 := by omega
      have kl : 4 * (i : Int) < (b.length : Int) ∧ 4 * (i : Int) + 1 < (b.length : Int) ∧ 4 * (i : Int) + 2 < (b.length : Int) ∧ 4 * (i : Int) + 3 < (b.length : Int) := by omega
      have hl2 : i < l.length := by omega
      have q0 := run_index_str b (4 * i) (4 * (i : Int)) (by omega) (by omega)
      have q1 := run_index_str b (4 * i + 1) (4 * (i : Int) + 1) (by omega) (by omega)
      have q2 := run_index_str b (4 * i + 2) (4 * (i : Int) + 2) (by omega) (by omega)
      have q3 := run_index_str b (4 * i + 3) (4 * (i : Int) + 3) (by omega) (by omega)
      have HL := Lib.hid hl
      have HA := Lib.hid (And.intro hA hR)
      clear hl hA hR A0
      go_wp2_with fail
      go_region
      go_wp2_with fail
      go_roundw
      case rel =>
        refine ⟨i + 1, l.set i (wrd b i), by omega, by go_num, by simp [HL.out], ?_, (HA.out.1.set i (wrd b i)).heap rfl, (HA.out.2.other _ (by simp)).heap rfl, (hB.setCell (p := ⟨w.heap.size + 1, i, none⟩) (by simp) _).drew⟩
        intro m hmi
        rw [wat_set l i m _ hl2]
        split
        · rename_i e; subst e; rfl
        · exact hm.out m (by omega)
      case measure => simp [intOf]; omega
    · have E16 : Hid (i = 16) := by show i = 16; omega
      have HA := Lib.hid (And.intro hA (And.intro hR hB))
      have HL := Lib.hid hl
      clear hA hR hB hl A0
      go_wp2_with fail
      go_loopw [5] (fun k wr => ∃ (t : Nat) (l : List UInt32), 16 ≤ t ∧ t ≤ 64 ∧ k = .int .i64 t ∧ l.length = 64 ∧ Hid (∀ m, m < t → wat l m = wat (wds b) m) ∧ Arr wr (w.heap.size + 1) 68 l ∧ Arr wr w.heap.size 68 (List.replicate 64 0) ∧ Below w.heap.size w wr) (fun k _ => 64 - (intOf k).toNat)
      case atStart => exact ⟨16, l, by omega, by omega, rfl, HL.out, (fun m hm16 => by rw [hm.out m (by rw [E16.out]; exact hm16), wds_low b m hm16]), HA.out⟩
      case round =>
        clear HA HL hm
        obtain ⟨t, l, ht, ht2, rfl, hl, hm, hA, hR, hB⟩ := hrel
        by_cases hi2 : t < 64
        · have c1 := hA.cell t (by omega)
          have c2 := hA.frozen t
          have c3 := hA.cell (t - 15) (by omega)
          have c4 := hA.cell (t - 2) (by omega)
          have c5 := hA.cell (t - 16) (by omega)
          have c6 := hA.cell (t - 7) (by omega)
          have kb : 0 ≤ (t : Int) - 15 ∧ 0 ≤ (t : Int) - 16 ∧ 0 ≤ (t : Int) - 2 ∧ 0 ≤ (t : Int) - 7 ∧ (t : Int) < 64 := by omega
          have HL := Lib.hid hl
          have HA := Lib.hid (And.intro hA hR)
          have HM := Lib.hid (And.intro (hm.out (t - 15) (by omega)) (And.intro (hm.out (t - 2) (by omega)) (And.intro (hm.out (t - 16) (by omega)) (hm.out (t - 7) (by omega)))))
          clear hl hA hR
          go_wp2_with fail
          go_quiet (fail)
          have RT7 : Hid (∀ (x : UInt32) (W : World), Calls Tryd.prog 43 #[wv x, .int .u64 7] W fun e w' => e = .returned (wv (rot x 7)) ∧ W = w') := fun x W => turn_any x 7 (by omega) (by omega) W
          have RT18 : Hid (∀ (x : UInt32) (W : World), Calls Tryd.prog 43 #[wv x, .int .u64 18] W fun e w' => e = .returned (wv (rot x 18)) ∧ W = w') := fun x W => turn_any x 18 (by omega) (by omega) W
          have RT17 : Hid (∀ (x : UInt32) (W : World), Calls Tryd.prog 43 #[wv x, .int .u64 17] W fun e w' => e = .returned (wv (rot x 17)) ∧ W = w') := fun x W => turn_any x 17 (by omega) (by omega) W
          have RT19 : Hid (∀ (x : UInt32) (W : World), Calls Tryd.prog 43 #[wv x, .int .u64 19] W fun e w' => e = .returned (wv (rot x 19)) ∧ W = w') := fun x W => turn_any x 19 (by omega) (by omega) W
          have HA5 : Hid (Arr (wr.drewN nq) (w.heap.size + 1) 68 l ∧ Arr (wr.drewN nq) w.heap.size 68 (List.replicate 64 0) ∧ Below w.heap.size w (wr.drewN nq)) := ⟨HA.out.1.heap rfl, HA.out.2.heap rfl, below_drewN hB _⟩
          clear c1 c2 c3 c4 c5 c6 hB HA
          generalize wr.drewN nq = w5 at HA5 ⊢
          have hlen : t < l.length := by have := HL.out; omega
          have f1 := HA5.out.1.cell t hlen
          have f2 := HA5.out.1.frozen t
          have f5 := HA5.out.1.cell (t - 16) (by omega)
          have f6 := HA5.out.1.cell (t - 7) (by omega)
          have z1 : (0 : Int) ≤ (t : Int) - 16 := by omega
          have z2 : (t : Int) - 16 < 64 := by omega
          have z3 : (0 : Int) ≤ (t : Int) - 7 := by omega
          have z4 : (t : Int) - 7 < 64 := by omega
          have z5 : (0 : Int) ≤ (t : Int) := by omega
          have z7 : (16 : Int) ≤ (t : Int) := by omega
          have z8 : (7 : Int) ≤ (t : Int) := by omega
          have z6 : (t : Int) < 64 := by omega
          have y1 : ((t : Int) - 16).toNat = t - 16 := by omega
          have y2 : ((t : Int) - 7).toNat = t - 7 := by omega
          have x1 : IntKind.i64.wrap ((t : Int) - 16) = (t : Int) - 16 := IntWalk.i64_in _ (by omega)
          have x2 : IntKind.i64.wrap ((t : Int) - 7) = (t : Int) - 7 := IntWalk.i64_in _ (by omega)
          go_wp2_with fail
          go_region_held3 (fun w' => w'.cell? ⟨w.heap.size + 1, t - 16, none⟩ = some (wv (wat l (t - 16))) ∧ w'.cell? ⟨w.heap.size + 1, t - 7, none⟩ = some (wv (wat l (t - 7)))) (first | exact ⟨f5, f6⟩ | assumption | exact ⟨(cell_set_ne _ _ _ _ _ (by omega)).trans f5, (cell_set_ne _ _ _ _ _ (by omega)).trans f6⟩)
            (first
              | (go_at_call 43; (with_reducible refine (RT7.out _ _).mono ?_); rintro e w1 ⟨rfl, rfl⟩)
              | (go_at_call 43; (with_reducible refine (RT18.out _ _).mono ?_); rintro e w1 ⟨rfl, rfl⟩)
              | (go_at_call 43; (with_reducible refine (RT17.out _ _).mono ?_); rintro e w1 ⟨rfl, rfl⟩)
              | (go_at_call 43; (with_reducible refine (RT19.out _ _).mono ?_); rintro e w1 ⟨rfl, rfl⟩))
          rename_i hHeld
          clear hHeld x1 x2 y1 y2 z1 z2 z3 z4 z5 z6 z7 z8 f1 f2 f5 f6 RT7 RT18 RT17 RT19
          go_wp2_with fail
          go_roundw
          case rel =>
            refine ⟨t + 1, l.set t _, by omega, by omega, by go_num, by simp [HL.out], ?_, (HA5.out.1.set t _).heap rfl, (HA5.out.2.1.other _ (by simp)).heap rfl, (HA5.out.2.2.setCell (p := ⟨w.heap.size + 1, t, none⟩) (by simp) _).drew⟩
            intro m hmi
            rw [wat_set l t m _ hlen]
            split
            · rename_i e; subst e
              rw [wds_high b t (by omega) (by omega), ← HM.out.1, ← HM.out.2.1, ← HM.out.2.2.1, ← HM.out.2.2.2]
              rfl
            · exact hm.out m (by omega)
          case measure => simp [intOf]; omega
        · obtain rfl : t = 64 := by omega
          have HA := Lib.hid (And.intro hA (And.intro hR hB))
          have HL := Lib.hid hl
          clear hA hR hB hl
          obtain rfl := wds_ext l b HL.out hm.out
          have hsz : Hid ((Tryd.prog.info? 68).map (·.size) = some ((wds b).map wv).toArray.size) := by
            have : ((wds b).map wv).toArray.size = 64 := by simp [wds_len]
            rw [this]; show _ = _; kernel_rfl
          go_wp2_with (refine wpList_load_row rfl 68 _ rfl (w.heap.size + 1) rfl 68 _ (0, 0) _ HA.out.1 Tryd.underlying68 rfl hsz.out (wpList_store_row rfl 68 _ _ rfl w.heap.size ((wds b).map wv).toArray rfl rfl 68 ((List.replicate 64 (0 : UInt32)).map wv).toArray HA.out.2.1 hsz.out (by simp [wds_len]) (by simp [Value.oneCell']) ?_))
          refine bodyPost_ret (results_cell_row rfl _ _ w.heap.size 68 ((wds b).map wv).toArray (0, 0) _ rfl (setRow_heap _ _ _ _ _ _ HA.out.2.1) Tryd.underlying68 rfl hsz.out) rfl ⟨rfl, below_setRow HA.out.2.2 (Nat.le_refl _) _⟩
end Go.Proofs.YtnmkinihkgdkgaaDoor
