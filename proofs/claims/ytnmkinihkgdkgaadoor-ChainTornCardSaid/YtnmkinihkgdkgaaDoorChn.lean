/- The memory of a call of chain's Scan. Condition: none. -/
import Derived.Test.YtnmkinihkgdkgaaDoorChm
import Derived.Test.YtnmkinihkgdkgaaDoorStl
import Derived.OwnWalk
import Derived.Laws.OwnMore
import Derived.Shelf.Abstract
namespace Go.Proofs.YtnmkinihkgdkgaaDoor
open Go.RowKit Go.Shelf
set_option linter.unusedVariables false
set_option linter.unusedSimpArgs false

/-- The cells of a step. -/
structure Cst (cs : Array Value) (t nk : List UInt8) (a : Int) (is : Bool) : Prop where
  size : cs.size = 35
  one : cs.all (·.oneCell') = true
  c0 : cs[0]? = some (str t)
  cb : ∀ j (hj : j < nk.length), cs[1 + j]? = some (.int .u8 (nk[j].toNat : Int))
  len : nk.length = 32
  c33 : cs[33]? = some (.int .i64 a)
  c34 : cs[34]? = some (.bool is)
theorem cst_step (t nk : List UInt8) (hn : nk.length = 32) (a : Int) (is : Bool) : Cst (#[str t] ++ (byc nk).toArray ++ #[.int .i64 a, .bool is]) t nk a is := by
  have hb : (byc nk).length = 32 := by simp [byc, hn]
  refine ⟨by simp [hb], by simp [byc, Value.oneCell'], by simp, fun j hj => ?_, hn, ?_, ?_⟩
  · rw [← Array.getElem?_toList]
    simp [Nat.add_comm 1 j]
    rw [List.getElem?_append_left (by omega)]
    simp [byc, hj]
  · rw [← Array.getElem?_toList]
    simp
    rw [List.getElem?_append_right (by omega), hb]
    rfl
  · rw [← Array.getElem?_toList]
    simp
    rw [List.getElem?_append_right (by omega), hb]
    rfl
theorem zero35_eq : zero35 = .agg (#[str []] ++ (byc z32).toArray ++ #[.int .i64 0, .bool false]) := rfl

/-- The memory of a call of Scan, behind the texts acc. -/
structure Scm (w : World) (C : Nat) (s : List UInt8) (v : Value) (acc : List (List UInt8)) (hd : List UInt8) (gn : Nat) (W : World) : Prop where
  b0 : W.heap[w.heap.size]? = some (.cells #[v] 23 (0, 0))
  b1 : W.heap[w.heap.size + 1]? = some (.cells #[str hd] 9 (0, 0))
  b2 : W.heap[w.heap.size + 2]? = some (.cells #[.int .i64 (gn : Int)] 3 (0, 0))
  bx : W.heap[C]? = some (.cells #[str s] 9 (0, 0))
  bd : W.heap[C + 1]? = some (.deferred (some []))
  hC : w.heap.size + 3 ≤ C
  sl : SlS W (C + 4) v acc
  b : Below w.heap.size w W
theorem SlS.ownlt {W : World} {B : Nat} {v : Value} {ls : List (List UInt8)} (h : SlS W B v ls) {r : Nat} (hr : v.ownBlock = some r) : r < W.heap.size := by
  rcases h.2 with ⟨rfl, _⟩ | ⟨g, cap, cur, rfl, hB, hg, _⟩
  · cases hr
  · cases hr; exact (Array.getElem?_eq_some_iff.1 hg).1
theorem sls_other {W W' : World} {v : Value} {acc : List (List UInt8)} {B k : Nat} (h : SlS W B v acc) (hk : k < B) (hh : ∀ j, B ≤ j → W'.heap[j]? = W.heap[j]?) : SlS W' B v acc := by
  refine ⟨h.1, ?_⟩
  rcases h.2 with hn | ⟨g, cap, cur, hv, hB, hg, rest⟩
  · exact .inl hn
  · exact .inr ⟨g, cap, cur, hv, hB, (hh g hB).trans hg, rest⟩
variable {w W W' : World} {C gn : Nat} {s hd : List UInt8} {v : Value} {acc : List (List UInt8)}
theorem Scm.lt (T : Scm w C s v acc hd gn W) : C + 1 < W.heap.size := (Array.getElem?_eq_some_iff.1 T.bd).1
theorem Scm.same (T : Scm w C s v acc hd gn W) (hs : SlS W' (C + 4) v acc) (hb : Below w.heap.size w W') (h : ∀ k, k < C + 2 → W'.heap[k]? = W.heap[k]?) : Scm w C s v acc hd gn W' :=
  have hC := T.hC
  ⟨(h _ (by omega)).trans T.b0, (h _ (by omega)).trans T.b1, (h _ (by omega)).trans T.b2, (h _ (by omega)).trans T.bx, (h _ (by omega)).trans T.bd, hC, hs, hb⟩
theorem Scm.bel (T : Scm w C s v acc hd gn W) (h : Below W.heap.size W W') : Scm w C s v acc hd gn W' :=
  T.same (T.sl.bel h) (below_acc T.b h) fun k hk => h.block _ (by have := T.lt; omega)
theorem Scm.draw (T : Scm w C s v acc hd gn W) : Scm w C s v acc hd gn W.drew := T.same (T.sl.heap rfl) T.b.drew fun k hk => rfl
theorem Scm.loop (T : Scm w C s v acc hd gn W) (o : Obj) : Scm w C s v acc hd gn (W.putObj (C + 2) o) :=
  T.same (sls_other (k := 0) T.sl (by omega) fun j hj => World.putObj_heap_other (by omega)) (below_putObj T.b (by have := T.hC; omega)) fun i hi => World.putObj_heap_other (by omega)
/-- The iterator's own block. -/
theorem Scm.put (T : Scm w C s v acc hd gn W) (h : Below (C + 3) W W') (hz : W'.heap.size = W.heap.size) (hh : ∀ j, j ≠ C + 3 → W'.heap[j]? = W.heap[j]?) : Scm w C s v acc hd gn W' :=
  T.same (sls_other (k := 0) T.sl (by omega) fun j hj => hh j (by omega)) ⟨h.os.trans T.b.os, h.tape.trans T.b.tape, h.output.trans T.b.output, Nat.le_trans T.b.size h.size, fun k hk => (h.block k (by have := T.hC; omega)).trans (T.b.block k hk)⟩ fun k hk => hh k (by omega)
theorem Scm.setH (T : Scm w C s v acc hd gn W) (h' : List UInt8) : Scm w C s v acc h' gn (W.setCell ⟨w.heap.size + 1, 0, none⟩ (str h')) :=
  have hC := T.hC
  ⟨(heap_setCell_other _ _ _ _ (by simp)).trans T.b0, heap_setCell_same _ _ 0 _ _ _ T.b1, (heap_setCell_other _ _ _ _ (by simp)).trans T.b2, (heap_setCell_other _ _ _ _ (by simp; omega)).trans T.bx, (heap_setCell_other _ _ _ _ (by simp; omega)).trans T.bd, hC,
    sls_other (k := 0) T.sl (by omega) fun j hj => heap_setCell_other _ _ _ _ (by simp; omega), T.b.setCell (by simp) _⟩
theorem Scm.setG (T : Scm w C s v acc hd gn W) (g' : Nat) : Scm w C s v acc hd g' (W.setCell ⟨w.heap.size + 2, 0, none⟩ (.int .i64 (g' : Int))) :=
  have hC := T.hC
  ⟨(heap_setCell_other _ _ _ _ (by simp)).trans T.b0, (heap_setCell_other _ _ _ _ (by simp)).trans T.b1, heap_setCell_same _ _ 0 _ _ _ T.b2, (heap_setCell_other _ _ _ _ (by simp; omega)).trans T.bx, (heap_setCell_other _ _ _ _ (by simp; omega)).trans T.bd, hC,
    sls_other (k := 0) T.sl (by omega) fun j hj => heap_setCell_other _ _ _ _ (by simp; omega), T.b.setCell (by simp) _⟩
theorem Scm.setV {v' : Value} {acc' : List (List UInt8)} (T : Scm w C s v acc hd gn W) (h : SlS (W.setCell ⟨w.heap.size, 0, none⟩ v') (C + 4) v' acc') : Scm w C s v' acc' hd gn (W.setCell ⟨w.heap.size, 0, none⟩ v') :=
  have hC := T.hC
  ⟨heap_setCell_same _ _ 0 _ _ _ T.b0, (heap_setCell_other _ _ _ _ (by simp)).trans T.b1, (heap_setCell_other _ _ _ _ (by simp)).trans T.b2, (heap_setCell_other _ _ _ _ (by simp; omega)).trans T.bx, (heap_setCell_other _ _ _ _ (by simp; omega)).trans T.bd, hC, h, T.b.setCell (by simp) _⟩
/-- One text more: what the append leaves, and the store behind it. -/
theorem Scm.more {W1 A : World} {v' : Value} {acc' : List (List UInt8)} (T : Scm w C s v acc hd gn W) (hA : Below W.heap.size W A) (h1 : SlS W1 (C + 4) v' acc') (h2 : A.grownBy W1 v.ownBlock) :
    Scm w C s v' acc' hd gn (W1.setCell ⟨w.heap.size, 0, none⟩ v') ∧ (∀ k, C + 2 ≤ k → k < C + 4 → k < W.heap.size → (W1.setCell ⟨w.heap.size, 0, none⟩ v').heap[k]? = W.heap[k]?) := by
  have T' := T.bel hA
  have hl := T'.lt
  have hC := T.hC
  have go : ∀ k, k ≠ w.heap.size → k < C + 4 → k < A.heap.size → (W1.setCell ⟨w.heap.size, 0, none⟩ v').heap[k]? = A.heap[k]? := fun k h3 h4 h5 =>
    (heap_setCell_other _ _ _ _ h3).trans (h2.block k h5 (fun e => by have := T.sl.own e.symm; omega))
  refine ⟨⟨?_, (go _ (by omega) (by omega) (by omega)).trans T'.b1, (go _ (by omega) (by omega) (by omega)).trans T'.b2, (go _ (by omega) (by omega) (by omega)).trans T'.bx, (go _ (by omega) (by omega) (by omega)).trans T'.bd, hC, ?_, ?_⟩, fun k h3 h4 h5 => (go k (by omega) (by omega) (by have := hA.size; omega)).trans (hA.block k h5)⟩
  · exact heap_setCell_same _ _ 0 _ _ _ ((h2.block _ (by omega) (fun e => by have := T.sl.own e.symm; omega)).trans T'.b0)
  · exact sls_other (k := 0) h1 (by omega) fun j hj => heap_setCell_other _ _ _ _ (by simp; omega)
  · exact (T'.b.grown h2 (by omega) (by intro k e; have := T.sl.own e; omega)).setCell (by simp) _
theorem Scm.start {w2 : World} {x : List UInt8} (h0 : w2.heap[w.heap.size]? = some (.cells #[.slice none 0 0] 23 (0, 0))) (h1 : w2.heap[w.heap.size + 1]? = some (.cells #[str x] 9 (0, 0))) (h2 : w2.heap[w.heap.size + 2]? = some (.cells #[.int .i64 0] 3 (0, 0)))
    (hz : w.heap.size + 3 ≤ w2.heap.size) (hb : Below w.heap.size w w2) (L : Obj) :
    Scm w w2.heap.size s (.slice none 0 0) [] hd 0 ((((w2.setCell ⟨w.heap.size + 1, 0, none⟩ (str hd)).alloc (.cells #[str s] 9 (0, 0))).alloc (.deferred (some []))).alloc L) ∧
    ((((w2.setCell ⟨w.heap.size + 1, 0, none⟩ (str hd)).alloc (.cells #[str s] 9 (0, 0))).alloc (.deferred (some []))).alloc L).heap[w2.heap.size + 2]? = some L ∧
    ((((w2.setCell ⟨w.heap.size + 1, 0, none⟩ (str hd)).alloc (.cells #[str s] 9 (0, 0))).alloc (.deferred (some []))).alloc L).heap.size = w2.heap.size + 3 := by
  have b1 : Below w.heap.size w (w2.setCell ⟨w.heap.size + 1, 0, none⟩ (str hd)) := hb.setCell (by simp) _
  have z1 : (w2.setCell ⟨w.heap.size + 1, 0, none⟩ (str hd)).heap.size = w2.heap.size := by simp [World.setCell]
  have k0 : (w2.setCell ⟨w.heap.size + 1, 0, none⟩ (str hd)).heap[w.heap.size]? = some (.cells #[.slice none 0 0] 23 (0, 0)) := (heap_setCell_other _ _ _ _ (by simp)).trans h0
  have k1 : (w2.setCell ⟨w.heap.size + 1, 0, none⟩ (str hd)).heap[w.heap.size + 1]? = some (.cells #[str hd] 9 (0, 0)) := heap_setCell_same _ _ 0 _ _ _ h1
  have k2 : (w2.setCell ⟨w.heap.size + 1, 0, none⟩ (str hd)).heap[w.heap.size + 2]? = some (.cells #[.int .i64 0] 3 (0, 0)) := (heap_setCell_other _ _ _ _ (by simp)).trans h2
  generalize w2.setCell ⟨w.heap.size + 1, 0, none⟩ (str hd) = w3 at b1 z1 k0 k1 k2 ⊢
  rw [← z1] at hz ⊢
  have up : ∀ k, k < w3.heap.size → (((w3.alloc (.cells #[str s] 9 (0, 0))).alloc (.deferred (some []))).alloc L).heap[k]? = w3.heap[k]? := fun k hk =>
    (Below.heap_alloc _ _ _ (by simp; omega)).trans ((Below.heap_alloc _ _ _ (by simp; omega)).trans (Below.heap_alloc _ _ _ hk))
  have n2 := World.alloc_heap_new ((w3.alloc (.cells #[str s] 9 (0, 0))).alloc (.deferred (some []))) L
  have n1 := World.alloc_heap_new (w3.alloc (.cells #[str s] 9 (0, 0))) (.deferred (some []))
  have n0 := World.alloc_heap_new w3 (.cells #[str s] 9 (0, 0))
  simp only [World.size_alloc] at n1 n2
  refine ⟨⟨(up _ (by omega)).trans k0, (up _ (by omega)).trans k1, (up _ (by omega)).trans k2, ?_, ?_, hz, SlS.nil _ _, ?_⟩, n2, by simp⟩
  · exact (Below.heap_alloc _ _ _ (by simp; omega)).trans ((Below.heap_alloc _ _ _ (by simp)).trans n0)
  · exact (Below.heap_alloc _ _ _ (by simp)).trans n1
  · exact ((b1.alloc b1.size _).alloc (by simp; omega) _).alloc (by simp; omega) _
theorem scan_first {w2 : World} (hb2 : Below (((w.alloc (.cells #[.slice none 0 0] 23 (0, 0))).alloc (.cells #[str []] 9 (0, 0))).alloc (.cells #[.int .i64 0] 3 (0, 0))).heap.size (((w.alloc (.cells #[.slice none 0 0] 23 (0, 0))).alloc (.cells #[str []] 9 (0, 0))).alloc (.cells #[.int .i64 0] 3 (0, 0))) w2) :
    w2.heap[w.heap.size]? = some (.cells #[.slice none 0 0] 23 (0, 0)) ∧ w2.heap[w.heap.size + 1]? = some (.cells #[str []] 9 (0, 0)) ∧ w2.heap[w.heap.size + 2]? = some (.cells #[.int .i64 0] 3 (0, 0)) ∧ w.heap.size + 3 ≤ w2.heap.size ∧ Below w.heap.size w w2 := by
  have n2 := World.alloc_heap_new ((w.alloc (.cells #[.slice none 0 0] 23 (0, 0))).alloc (.cells #[str []] 9 (0, 0))) (.cells #[.int .i64 0] 3 (0, 0))
  have n1 := World.alloc_heap_new (w.alloc (.cells #[.slice none 0 0] 23 (0, 0))) (.cells #[str []] 9 (0, 0))
  have n0 := World.alloc_heap_new w (.cells #[.slice none 0 0] 23 (0, 0))
  simp only [World.size_alloc] at n1 n2
  have hz := hb2.size
  simp only [World.size_alloc] at hz
  refine ⟨(hb2.block _ (by simp; omega)).trans ((Below.heap_alloc _ _ _ (by simp; omega)).trans ((Below.heap_alloc _ _ _ (by simp)).trans n0)), (hb2.block _ (by simp)).trans ((Below.heap_alloc _ _ _ (by simp)).trans n1), (hb2.block _ (by simp)).trans n2, by omega, ?_⟩
  exact below_acc ((((Below.refl _ w).alloc (Nat.le_refl _) _).alloc (by simp) _).alloc (by simp; omega) _) hb2
/-- A round's box, and the record that is busy. -/
theorem Scm.box (T : Scm w C s v acc hd gn W) {L0 : Obj} (hl : W.heap[C + 2]? = some L0) (z cs : Array Value) (L : Obj) :
    ((W.alloc (.cells z 51 (0, 0))).setRow W.heap.size cs).heap[C + 2]? = some L0 ∧
    Scm w C s v acc hd gn (((W.alloc (.cells z 51 (0, 0))).setRow W.heap.size cs).putObj (C + 2) L) ∧
    (((W.alloc (.cells z 51 (0, 0))).setRow W.heap.size cs).putObj (C + 2) L).heap[C + 2]? = some L ∧
    (((W.alloc (.cells z 51 (0, 0))).setRow W.heap.size cs).putObj (C + 2) L).heap[W.heap.size]? = some (.cells cs 51 (0, 0)) ∧
    (C + 3 < W.heap.size → (((W.alloc (.cells z 51 (0, 0))).setRow W.heap.size cs).putObj (C + 2) L).heap[C + 3]? = W.heap[C + 3]?) := by
  have hlt := (Array.getElem?_eq_some_iff.1 hl).1
  have n0 := World.alloc_heap_new W (.cells z 51 (0, 0))
  have z1 : (W.alloc (.cells z 51 (0, 0))).heap.size = W.heap.size + 1 := by simp
  have z2 : ((W.alloc (.cells z 51 (0, 0))).setRow W.heap.size cs).heap.size = W.heap.size + 1 := by simp [World.setRow]
  have up : ∀ k, k < W.heap.size → ((W.alloc (.cells z 51 (0, 0))).setRow W.heap.size cs).heap[k]? = W.heap[k]? := fun k hk => (setRow_other _ _ _ _ (by omega)).trans (Below.heap_alloc _ _ _ hk)
  have bl : Below W.heap.size W ((W.alloc (.cells z 51 (0, 0))).setRow W.heap.size cs) := below_setRow ((Below.refl _ W).alloc (Nat.le_refl _) _) (Nat.le_refl _) _
  have nb := setRow_heap _ _ _ cs _ _ n0
  generalize (W.alloc (.cells z 51 (0, 0))).setRow W.heap.size cs = W1 at z2 up bl nb ⊢
  refine ⟨(up _ hlt).trans hl, (T.bel bl).loop _, World.putObj_heap_same (by omega), (World.putObj_heap_other (by omega)).trans nb, fun h2 => (World.putObj_heap_other (by omega)).trans (up _ h2)⟩
theorem size_step {cs : Array Value} (h : cs.size = 35) : (Tryd.prog.info? 51).map (·.size) = some cs.size := by rw [h]; show _ = _; kernel_rfl
/-- What the stores behind the append meet. -/
theorem Scm.app {W1 A : World} (T : Scm w C s v acc hd gn W) (hA : Below W.heap.size W A) (h2 : A.grownBy W1 v.ownBlock) :
    W1.cell? ⟨w.heap.size, 0, none⟩ = some v ∧ W1.frozen? ⟨w.heap.size, 0, none⟩ = false ∧ W1.cell? ⟨w.heap.size + 1, 0, none⟩ = some (str hd) ∧ W1.frozen? ⟨w.heap.size + 1, 0, none⟩ = false ∧ W1.cell? ⟨w.heap.size + 2, 0, none⟩ = some (.int .i64 (gn : Int)) ∧ W1.frozen? ⟨w.heap.size + 2, 0, none⟩ = false := by
  have T' := T.bel hA
  have hl := T'.lt
  have hC := T.hC
  have go : ∀ k, k < C + 2 → W1.heap[k]? = A.heap[k]? := fun k h4 => h2.block k (by omega) (fun e => by have := T.sl.own e.symm; omega)
  have e0 := (go _ (by omega)).trans T'.b0
  have e1 := (go _ (by omega)).trans T'.b1
  have e2 := (go _ (by omega)).trans T'.b2
  exact ⟨cell_of_row _ _ 0 _ _ (0, 0) e0, frozen_of_row _ _ 0 _ _ e0, cell_of_row _ _ 0 _ _ (0, 0) e1, frozen_of_row _ _ 0 _ _ e1, cell_of_row _ _ 0 _ _ (0, 0) e2, frozen_of_row _ _ 0 _ _ e2⟩
/-- The step's bytes as a string. -/
theorem conv_step {cs : Array Value} {t nk : List UInt8} {a : Int} {is : Bool} {g : Nat} (h : Cst cs t nk a is) (hg : W.heap[g]? = some (.cells cs 51 (0, 0))) :
    (convert 44 9 (.slice (some ⟨g, 1, none⟩) 32 32)).run Tryd.prog W = .ok (str nk) W := by
  rw [← h.len]
  refine run_convert_bytes_back (P := Tryd.prog) W 44 9 5 ⟨g, 1, none⟩ nk.length nk Tryd.underlying44 Tryd.underlying5 Tryd.underlying9 (fun j hj => ?_)
  rw [Addr.add_lit, cell_of_row W g (1 + j) _ _ (0, 0) hg]
  exact h.cb j hj
theorem results_scan {tmps : Array Value} {b1 b2 b3 : Nat} {v1 v2 v3 : Value} (p1 : tmps.getD 2 undef = .pointer (some ⟨b1, 0, none⟩)) (p2 : tmps.getD 3 undef = .pointer (some ⟨b2, 0, none⟩)) (p3 : tmps.getD 4 undef = .pointer (some ⟨b3, 0, none⟩))
    (c1 : W.cell? ⟨b1, 0, none⟩ = some v1) (c2 : W.cell? ⟨b2, 0, none⟩ = some v2) (c3 : W.cell? ⟨b3, 0, none⟩ = some v3) :
    (results Tryd.f9 tmps).run Tryd.prog W = .ok (.tuple #[v1, v2, v3]) W := by
  have h : (Tryd.f9).results = #[.cell 2 23, .cell 3 9, .cell 4 3] := rfl
  have q1 : tmps[2]?.getD undef = .pointer (some ⟨b1, 0, none⟩) := by simpa using p1
  have q2 : tmps[3]?.getD undef = .pointer (some ⟨b2, 0, none⟩) := by simpa using p2
  have q3 : tmps[4]?.getD undef = .pointer (some ⟨b3, 0, none⟩) := by simpa using p3
  simp [results, h, q1, q2, q3, asAddr, loadVar, Tryd.isAgg23, Tryd.isAgg3, Tryd.isAgg9, c1, c2, c3, Result.andThen]
theorem Scm.leave {R : List (List UInt8) × List UInt8 × Nat} {tmps : Array Value} (T : Scm w C s v acc hd gn W) (hR : R = (acc, hd, gn)) (p1 : tmps.getD 2 undef = .pointer (some ⟨w.heap.size, 0, none⟩)) (p2 : tmps.getD 3 undef = .pointer (some ⟨w.heap.size + 1, 0, none⟩)) (p3 : tmps.getD 4 undef = .pointer (some ⟨w.heap.size + 2, 0, none⟩)) :
    bodyPostM Fence.wide 0 Tryd.prog Tryd.f9 (fun e w' => ∃ v, e = .returned (.tuple #[v, str R.2.1, .int .i64 (R.2.2 : Int)]) ∧ SlS w' w.heap.size v R.1 ∧ Below w.heap.size w w') .ret
      { tmps := tmps, defers := [{ target := .collected (C + 1), args := #[] }] } W := by
  subst hR
  have hC := T.hC
  have go : ∀ k, k ≠ C + 1 → (W.putObj (C + 1) (.deferred none)).heap[k]? = W.heap[k]? := fun k hk => World.putObj_heap_other hk
  refine leave_marked T.bd (results_scan p1 p2 p3 (cell_of_row _ _ 0 _ _ (0, 0) ((go _ (by omega)).trans T.b0)) (cell_of_row _ _ 0 _ _ (0, 0) ((go _ (by omega)).trans T.b1)) (cell_of_row _ _ 0 _ _ (0, 0) ((go _ (by omega)).trans T.b2))) ⟨_, rfl, ?_, below_putObj T.b (by omega)⟩
  exact (sls_other (k := 0) T.sl (by omega) fun j hj => go j (by omega)).mono (by omega)
end Go.Proofs.YtnmkinihkgdkgaaDoor
