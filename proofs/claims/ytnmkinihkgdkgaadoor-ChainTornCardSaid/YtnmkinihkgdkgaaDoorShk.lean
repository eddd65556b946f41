/- The walks of the reference's consts and took. Condition: a block of 64 bytes. -/
import Derived.Test.YtnmkinihkgdkgaaDoorShw
namespace Go.Proofs.YtnmkinihkgdkgaaDoor
open Go.RowKit
set_option linter.unusedVariables false

theorem wpList_build_to {P : Program} {ops : Array Oper} {rest : List Oper} {o : Oper} {a : Act} {w : World} {Q : Exit → Act → World → Prop} (hg : o.guard = none) (t : TypeId) (parts : Array (Nat × Operand)) (ho : o.op = .build t parts)
    (cells : Array Value) (hf : P.built t (parts.map fun (i, x) => (i, a.eval x)).toList = some cells) (h : wpList P ops Q rest (a.put o.dst (.agg cells)) w) : wpList P ops Q (o :: rest) a w := by
  refine wpList_build hg t parts ho (by rw [hf]; rfl) ?_
  rw [hf]; exact h

theorem size43 (l : List UInt32) (h : l.length = 64) : (Tryd.prog.info? 68).map (·.size) = some (l.map wv).toArray.size := by
  have : (l.map wv).toArray.size = 64 := by simp [h]
  rw [this]; show _ = _; kernel_rfl
theorem kws_len : kws.length = 64 := by kernel_rfl
theorem one_wv (l : List UInt32) : (l.map wv).toArray.all (·.oneCell') = true := by simp [Value.oneCell']

set_option maxRecDepth 100000 in
set_option maxHeartbeats 4000000 in
theorem consts_any (w : World) :
    Calls Tryd.prog 42 #[] w fun e w' => e = .returned (.agg (kws.map wv).toArray) ∧ Below w.heap.size w w' := by
  have A0 : Hid (Arr (w.alloc (.cells ((List.replicate 64 (0 : UInt32)).map wv).toArray 68)) w.heap.size 68 (List.replicate 64 0) ∧ Below w.heap.size w (w.alloc (.cells ((List.replicate 64 (0 : UInt32)).map wv).toArray 68))) :=
    ⟨heap_alloc_new w _, (Below.refl _ w).alloc (Nat.le_refl _) _⟩
  go_enter Tryd.func42, Tryd.ntmps42
  go_wp2_with (refine wpList_build_to rfl 68 _ rfl (kws.map wv).toArray (by kernel_rfl) (wpList_store_row rfl 68 _ _ rfl w.heap.size (kws.map wv).toArray rfl rfl 68 ((List.replicate 64 (0 : UInt32)).map wv).toArray A0.out.1 (size43 _ kws_len) (by simp [kws_len]) (one_wv _) ?_))
  refine bodyPost_ret (results_cell_row rfl _ _ w.heap.size 68 (kws.map wv).toArray (0, 0) _ rfl (setRow_heap _ _ _ _ _ _ A0.out.1) Tryd.underlying68 rfl (size43 _ kws_len)) rfl ⟨rfl, below_setRow A0.out.2 (Nat.le_refl _) _⟩

/-- What a store of a whole array leaves: the block holds the cells, all else is as it was. -/
structure Put (w W : World) (g : Nat) (cs : Array Value) (t : TypeId) : Prop where
  os : W.os = w.os
  tape : W.tape = w.tape
  output : W.output = w.output
  size : W.heap.size = w.heap.size
  block : ∀ k, k ≠ g → W.heap[k]? = w.heap[k]?
  here : W.heap[g]? = some (.cells cs t (0, 0))
theorem wpList_store_put {P : Program} {ops : Array Oper} {rest : List Oper} {o : Oper} {a : Act} {w : World} {Q : Exit → Act → World → Prop} (hgd : o.guard = none) (ty : TypeId) (x y : Operand) (ho : o.op = .store ty x y)
    (g : Nat) (cells : Array Value) (hx : a.eval x = .pointer (some ⟨g, 0, none⟩)) (hy : a.eval y = .agg cells)
    (t : TypeId) (old : Array Value) (hg : w.heap[g]? = some (.cells old t (0, 0))) (hi : (P.info? ty).map (·.size) = some cells.size)
    (hold : old.size = cells.size) (h1 : cells.all (·.oneCell') = true)
    (h : ∀ W, Put w W g cells t → wpList P ops Q rest (a.put o.dst undef) W) : wpList P ops Q (o :: rest) a w :=
  wpList_store_row hgd ty x y ho g cells hx hy t old hg hi hold h1
    (h _ ⟨rfl, rfl, rfl, by simp, fun k hk => setRow_other w g k cells hk, setRow_heap w g old cells t (0, 0) hg⟩)
theorem Put.below {w w1 W : World} {g : Nat} {cs : Array Value} {t : TypeId} (h : Put w1 W g cs t) {B : Nat} (hb : Below B w w1) (hg : B ≤ g) : Below B w W :=
  ⟨h.os.trans hb.os, h.tape.trans hb.tape, h.output.trans hb.output, by rw [h.size]; exact hb.size, fun k hk => (h.block k (by omega)).trans (hb.block k hk)⟩
theorem Put.arr {w W : World} {g : Nat} {cs : Array Value} {t : TypeId} (h : Put w W g cs t) {g' : Nat} {T : TypeId} {l : List UInt32} (ha : Arr w g' T l) (hne : g' ≠ g) : Arr W g' T l := (h.block g' hne).trans ha
theorem Put.new {w W : World} {g : Nat} {l : List UInt32} {t : TypeId} (h : Put w W g (l.map wv).toArray t) : Arr W g t l := h.here
theorem Arr.alloc {W : World} {g : Nat} {T : TypeId} {l : List UInt32} (h : Arr W g T l) (o : Obj) : Arr (W.alloc o) g T l := by
  have := h.lt
  unfold Arr at *
  rw [← h]
  exact Below.heap_alloc W o g this

abbrev stv (s : St8) : Value := .agg (s.list.map wv).toArray
theorem size35 (l : List UInt32) (h : l.length = 8) : (Tryd.prog.info? 57).map (·.size) = some (l.map wv).toArray.size := by
  have : (l.map wv).toArray.size = 8 := by simp [h]
  rw [this]; show _ = _; kernel_rfl
theorem st_cells {W : World} {g : Nat} {T : TypeId} {n : St8} (h : Arr W g T n.list) :
    W.cell? ⟨g, 0, none⟩ = some (wv n.a) ∧ W.cell? ⟨g, 1, none⟩ = some (wv n.b) ∧ W.cell? ⟨g, 2, none⟩ = some (wv n.c) ∧ W.cell? ⟨g, 3, none⟩ = some (wv n.d) ∧ W.cell? ⟨g, 4, none⟩ = some (wv n.e) ∧ W.cell? ⟨g, 5, none⟩ = some (wv n.f) ∧ W.cell? ⟨g, 6, none⟩ = some (wv n.g) ∧ W.cell? ⟨g, 7, none⟩ = some (wv n.h) :=
  ⟨h.cell 0 (by simp [St8.list]), h.cell 1 (by simp [St8.list]), h.cell 2 (by simp [St8.list]), h.cell 3 (by simp [St8.list]), h.cell 4 (by simp [St8.list]), h.cell 5 (by simp [St8.list]), h.cell 6 (by simp [St8.list]), h.cell 7 (by simp [St8.list])⟩

theorem turn_q6 (w : World) (x : UInt32) (n : Nat) : Calls Tryd.prog 43 #[wv x, .int .u64 6] (w.drewN n) fun e w' => e = .returned (wv (rot x 6)) ∧ ∃ m, w' = w.drewN m := calls_quiet (turn_any x 6 (by omega) (by omega) _) ⟨n, rfl⟩
theorem turn_q11 (w : World) (x : UInt32) (n : Nat) : Calls Tryd.prog 43 #[wv x, .int .u64 11] (w.drewN n) fun e w' => e = .returned (wv (rot x 11)) ∧ ∃ m, w' = w.drewN m := calls_quiet (turn_any x 11 (by omega) (by omega) _) ⟨n, rfl⟩
theorem turn_q25 (w : World) (x : UInt32) (n : Nat) : Calls Tryd.prog 43 #[wv x, .int .u64 25] (w.drewN n) fun e w' => e = .returned (wv (rot x 25)) ∧ ∃ m, w' = w.drewN m := calls_quiet (turn_any x 25 (by omega) (by omega) _) ⟨n, rfl⟩
theorem turn_q2 (w : World) (x : UInt32) (n : Nat) : Calls Tryd.prog 43 #[wv x, .int .u64 2] (w.drewN n) fun e w' => e = .returned (wv (rot x 2)) ∧ ∃ m, w' = w.drewN m := calls_quiet (turn_any x 2 (by omega) (by omega) _) ⟨n, rfl⟩
theorem turn_q13 (w : World) (x : UInt32) (n : Nat) : Calls Tryd.prog 43 #[wv x, .int .u64 13] (w.drewN n) fun e w' => e = .returned (wv (rot x 13)) ∧ ∃ m, w' = w.drewN m := calls_quiet (turn_any x 13 (by omega) (by omega) _) ⟨n, rfl⟩
theorem turn_q22 (w : World) (x : UInt32) (n : Nat) : Calls Tryd.prog 43 #[wv x, .int .u64 22] (w.drewN n) fun e w' => e = .returned (wv (rot x 22)) ∧ ∃ m, w' = w.drewN m := calls_quiet (turn_any x 22 (by omega) (by omega) _) ⟨n, rfl⟩

/-- The memory of a call of took: its parameter, its result, the block's words, the constants, the state. -/
structure Tk (w W : World) (B C N : Nat) (b : List UInt8) (s : St8) (l : List UInt32) : Prop where
  s : Arr W w.heap.size 57 s.list
  r : Arr W (w.heap.size + 1) 57 (List.replicate 8 0)
  ws : Arr W B 68 (wds b)
  ks : Arr W C 68 kws
  n : Arr W N 57 l
  bel : Below w.heap.size w W
  hB : w.heap.size + 1 < B
  hC : B < C
  hN : C < N

theorem tk_heap {w W : World} {B C N : Nat} {b : List UInt8} {s : St8} {l : List UInt32} (h : Tk w W B C N b s l) (n : Nat) : Tk w (W.drewN n) B C N b s l :=
  ⟨h.s.heap rfl, h.r.heap rfl, h.ws.heap rfl, h.ks.heap rfl, h.n.heap rfl, below_drewN h.bel n, h.hB, h.hC, h.hN⟩
theorem tk_put {w W W' : World} {B C N : Nat} {b : List UInt8} {s : St8} {l l' : List UInt32} (h : Tk w W B C N b s l) (p : Put W W' N (l'.map wv).toArray 57) : Tk w W' B C N b s l' := by
  obtain ⟨h1, h2, h3, h4, h5, h6, h7, h8, h9⟩ := h
  exact ⟨p.arr h1 (by omega), p.arr h2 (by omega), p.arr h3 (by omega), p.arr h4 (by omega), p.new, p.below h6 (by omega), h7, h8, h9⟩
theorem tk_set {w W : World} {B C N : Nat} {b : List UInt8} {s : St8} {l : List UInt32} (h : Tk w W B C N b s l) (k : Nat) (v : UInt32) : Tk w (W.setCell ⟨N, k, none⟩ (wv v)).drew B C N b s (l.set k v) := by
  obtain ⟨h1, h2, h3, h4, h5, h6, h7, h8, h9⟩ := h
  exact ⟨(h1.other _ (by simp; omega)).heap rfl, (h2.other _ (by simp; omega)).heap rfl, (h3.other _ (by simp; omega)).heap rfl, (h4.other _ (by simp; omega)).heap rfl, (h5.set k v).heap rfl, (h6.setCell (p := ⟨N, k, none⟩) (by simp; omega) _).drew, h7, h8, h9⟩
theorem tk_two {w w2 W3 W4 : World} {b : List UInt8} {s : St8} {Z1 Z2 : Obj}
    (A2 : Arr w2 w.heap.size 57 s.list ∧ Arr w2 (w.heap.size + 1) 57 (List.replicate 8 0) ∧ Below w.heap.size w w2 ∧ w.heap.size + 1 < w2.heap.size)
    (P3 : Put ((w2.alloc Z1).alloc Z2) W3 w2.heap.size ((wds b).map wv).toArray 68) (P4 : Put W3 W4 (w2.heap.size + 1) (kws.map wv).toArray 68) :
    Arr W4 w.heap.size 57 s.list ∧ Arr W4 (w.heap.size + 1) 57 (List.replicate 8 0) ∧ Arr W4 w2.heap.size 68 (wds b) ∧ Arr W4 (w2.heap.size + 1) 68 kws ∧ Below w.heap.size w W4 ∧ w.heap.size + 1 < w2.heap.size ∧ W4.heap.size = w2.heap.size + 2 := by
  obtain ⟨a1, a2, a3, a4⟩ := A2
  refine ⟨P4.arr (P3.arr ((a1.alloc Z1).alloc Z2) (by omega)) (by omega), P4.arr (P3.arr ((a2.alloc Z1).alloc Z2) (by omega)) (by omega), P4.arr P3.new (by omega), P4.new, ?_, a4, ?_⟩
  · exact P4.below (P3.below ((a3.alloc (by omega) Z1).alloc (by simp; omega) Z2) (by omega)) (by omega)
  · rw [P4.size, P3.size]; simp
theorem tk_three {w W4 W5 : World} {B : Nat} {b : List UInt8} {s : St8} {Z : Obj}
    (T4 : Arr W4 w.heap.size 57 s.list ∧ Arr W4 (w.heap.size + 1) 57 (List.replicate 8 0) ∧ Arr W4 B 68 (wds b) ∧ Arr W4 (B + 1) 68 kws ∧ Below w.heap.size w W4 ∧ w.heap.size + 1 < B ∧ W4.heap.size = B + 2)
    (P5 : Put (W4.alloc Z) W5 W4.heap.size (s.list.map wv).toArray 57) : Tk w W5 B (B + 1) W4.heap.size b s s.list := by
  obtain ⟨a1, a2, a3, a4, a5, a6, a7⟩ := T4
  refine ⟨P5.arr (a1.alloc Z) (by omega), P5.arr (a2.alloc Z) (by omega), P5.arr (a3.alloc Z) (by omega), P5.arr (a4.alloc Z) (by omega), P5.new, P5.below (a5.alloc (by omega) Z) (by omega), a6, by omega, by omega⟩

set_option maxRecDepth 100000 in
set_option maxHeartbeats 4000000 in
theorem took_any (s : St8) (b : List UInt8) (hb : b.length = 64) (w : World) :
    Calls Tryd.prog 32 #[stv s, str b] w fun e w' => e = .returned (stv (tk s b)) ∧ Below w.heap.size w w' := by
  have CW := fun W => Lib.hid (words_any b hb W)
  have CC := fun W => Lib.hid (consts_any W)
  have HC := Lib.hid (And.intro CW CC)
  have A0 : Hid (Arr ((w.alloc (.cells (s.list.map wv).toArray 57)).alloc (.cells ((List.replicate 8 (0 : UInt32)).map wv).toArray 57)) w.heap.size 57 s.list ∧ Arr ((w.alloc (.cells (s.list.map wv).toArray 57)).alloc (.cells ((List.replicate 8 (0 : UInt32)).map wv).toArray 57)) (w.heap.size + 1) 57 (List.replicate 8 0) ∧ Below w.heap.size w ((w.alloc (.cells (s.list.map wv).toArray 57)).alloc (.cells ((List.replicate 8 (0 : UInt32)).map wv).toArray 57)) ∧ ((w.alloc (.cells (s.list.map wv).toArray 57)).alloc (.cells ((List.replicate 8 (0 : UInt32)).map wv).toArray 57)).heap.size = w.heap.size + 2) :=
    ⟨heap_alloc2_old w _ _, heap_alloc2_new w _ _, ((Below.refl _ w).alloc (Nat.le_refl _) _).alloc (by simp) _, by simp⟩
  clear CW CC hb
  go_enter Tryd.func32, Tryd.ntmps32
  go_wp2_with fail
  refine (HC.out.1 _).out.mono ?_
  rintro e w1 ⟨rfl, b1⟩
  go_wp2_with fail
  refine (HC.out.2 _).out.mono ?_
  rintro e w2 ⟨rfl, b2⟩
  have A2 : Hid (Arr w2 w.heap.size 57 s.list ∧ Arr w2 (w.heap.size + 1) 57 (List.replicate 8 0) ∧ Below w.heap.size w w2 ∧ w.heap.size + 1 < w2.heap.size) := by
    have h1 : Below (w.heap.size + 2) _ w1 := b1.mono (by simp)
    have h2 : Below (w.heap.size + 2) w1 w2 := b2.mono (by have := h1.size; have := A0.out.2.2.2; have := b1.size; simp at this; omega)
    have h3 := h1.trans h2
    refine ⟨A0.out.1.below h3 (by omega), A0.out.2.1.below h3 (by omega), A0.out.2.2.1.trans (h3.mono (by omega)), ?_⟩
    have q1 := b1.size
    have q2 := b2.size
    simp at q1
    omega
  clear b1 b2 A0 HC
  go_wp2_with (first
    | (refine wpList_store_put rfl 68 _ _ rfl w2.heap.size ((wds b).map wv).toArray rfl rfl 68 ((List.replicate 64 (0 : UInt32)).map wv).toArray (heap_alloc2_old w2 _ _) (size43 _ (wds_len b)) (by simp [wds_len]) (one_wv _) ?_; intro W3 P3)
    | (refine wpList_store_put rfl 68 _ _ rfl (w2.heap.size + 1) (kws.map wv).toArray rfl rfl 68 ((List.replicate 64 (0 : UInt32)).map wv).toArray ((P3.block _ (by omega)).trans (heap_alloc2_new w2 _ _)) (size43 _ kws_len) (by simp [kws_len]) (one_wv _) ?_; intro W4 P4; have T4 := Lib.hid (tk_two A2.out P3 P4); clear A2 P3 P4)
    | (refine wpList_load_row rfl 57 _ rfl w.heap.size rfl 57 _ (0, 0) _ T4.out.1 Tryd.underlying57 rfl (size35 _ rfl) ?_)
    | (refine wpList_store_put rfl 57 _ _ rfl W4.heap.size (s.list.map wv).toArray rfl rfl 57 ((List.replicate 8 (0 : UInt32)).map wv).toArray (heap_alloc_new W4 _) (size35 _ rfl) (by simp [St8.list]) (one_wv _) ?_; intro W5 P5; have T5 := Lib.hid (tk_three T4.out P5); clear T4 P5))
  have T0 : Hid (Tk w W5 w2.heap.size (w2.heap.size + 1) W4.heap.size b s (rnds b s 0).list) := by rw [rnds_zero]; exact T5.out
  clear T5
  go_loopw [8] (fun k wr => ∃ t : Nat, t ≤ 64 ∧ k = .int .i64 t ∧ Tk w wr w2.heap.size (w2.heap.size + 1) W4.heap.size b s (rnds b s t).list) (fun k _ => 64 - (intOf k).toNat)
  case atStart => exact ⟨0, by omega, rfl, T0.out⟩
  case round =>
    clear T0
    obtain ⟨t, ht, rfl, hT⟩ := hrel
    by_cases hi2 : t < 64
    · have hk := hT.ks.cell t (by rw [kws_len]; exact hi2)
      have hw := hT.ws.cell t (by rw [wds_len]; exact hi2)
      have HS := Lib.hid (rnds_succ b s t)
      have HT := Lib.hid hT
      have hn := hT.n
      clear hT
      generalize rnds b s t = n at hn HT HS
      obtain ⟨c0, c1, c2, c3, c4, c5, c6, c7⟩ := st_cells hn
      have kb : 0 ≤ (t : Int) ∧ (t : Int) < 64 := by omega
      clear hn
      go_wp2_with fail
      go_quiet (fail)
      have HT5 : Hid (Tk w (wr.drewN nq) w2.heap.size (w2.heap.size + 1) W4.heap.size b s n.list) := tk_heap HT.out nq
      clear HT c0 c1 c2 c3 c4 c5 c6 c7 hk hw
      generalize wr.drewN nq = w5 at HT5 ⊢
      have hk := HT5.out.ks.cell t (by rw [kws_len]; exact hi2)
      have hw := HT5.out.ws.cell t (by rw [wds_len]; exact hi2)
      obtain ⟨c0, c1, c2, c3, c4, c5, c6, c7⟩ := st_cells HT5.out.n
      go_wp2_with fail
      go_quiet ((first
        | (go_at_call 43; with_reducible exact turn_q6 _ _ _)
        | (go_at_call 43; with_reducible exact turn_q11 _ _ _)
        | (go_at_call 43; with_reducible exact turn_q25 _ _ _)))
      have HT6 : Hid (Tk w (w5.drewN nq) w2.heap.size (w2.heap.size + 1) W4.heap.size b s n.list) := tk_heap HT5.out nq
      clear HT5 c0 c1 c2 c3 c4 c5 c6 c7 hk hw
      generalize w5.drewN nq = w6 at HT6 ⊢
      obtain ⟨c0, c1, c2, c3, c4, c5, c6, c7⟩ := st_cells HT6.out.n
      go_wp2_with fail
      go_quiet ((first
        | (go_at_call 43; with_reducible exact turn_q2 _ _ _)
        | (go_at_call 43; with_reducible exact turn_q13 _ _ _)
        | (go_at_call 43; with_reducible exact turn_q22 _ _ _)))
      have HT7 : Hid (Tk w (w6.drewN nq) w2.heap.size (w2.heap.size + 1) W4.heap.size b s n.list) := tk_heap HT6.out nq
      clear HT6 c0 c1 c2 c3 c4 c5 c6 c7
      generalize w6.drewN nq = w7 at HT7 ⊢
      obtain ⟨c0, c1, c2, c3, c4, c5, c6, c7⟩ := st_cells HT7.out.n
      go_wp2_with (refine wpList_store_put rfl 57 _ _ (by rfl) W4.heap.size ((rnd n (wat kws t) (wat (wds b) t)).list.map wv).toArray (by rfl) (by rfl) 57 (n.list.map wv).toArray HT7.out.n (size35 _ rfl) (by simp [St8.list]) (one_wv _) ?_; intro W8 P8)
      exact ⟨⟨t + 1, by omega, by go_num, by rw [HS.out]; exact tk_put HT7.out P8⟩, by simp [intOf]; omega⟩
    · have E64 : Hid (t = 64) := by show t = 64; omega
      have HT := Lib.hid hT
      clear hT
      go_wp2_with fail
      go_loopw [13] (fun k wr => ∃ (i : Nat) (l : List UInt32), i ≤ 8 ∧ k = .int .i64 i ∧ l.length = 8 ∧ Hid (∀ m, m < 8 → wat l m = if m < i then ad (wat (rnds b s t).list m) (wat s.list m) else wat (rnds b s t).list m) ∧ Tk w wr w2.heap.size (w2.heap.size + 1) W4.heap.size b s l) (fun k _ => 8 - (intOf k).toNat)
      case atStart => exact ⟨0, (rnds b s t).list, by omega, rfl, rfl, (fun m hm => by simp), HT.out⟩
      case round =>
        clear HT
        obtain ⟨i, l, hi, rfl, hl, hm, hT⟩ := hrel
        by_cases hi8 : i < 8
        · have c1 := hT.n.cell i (by omega)
          have c2 := hT.n.frozen i
          have c3 := hT.s.cell i (by simp [St8.list]; omega)
          have kb : 0 ≤ (i : Int) ∧ (i : Int) < 8 := by omega
          have hli : i < l.length := by omega
          have HT := Lib.hid hT
          have HL := Lib.hid hl
          clear hT hl
          go_wp2_with fail
          go_region
          go_wp2_with fail
          refine ⟨⟨i + 1, l.set i _, by omega, by go_num, by simp [HL.out], ?_, tk_set HT.out i _⟩, by simp [intOf]; omega⟩
          intro m h8
          rw [wat_set l i m _ hli]
          have h1 := hm.out m h8
          split
          · rename_i e; subst e
            rw [if_neg (by omega)] at h1
            rw [if_pos (by omega), h1]
          · rw [h1]
            by_cases h2 : m < i
            · rw [if_pos h2, if_pos (by omega)]
            · rw [if_neg h2, if_neg (by omega)]
        · have HT := Lib.hid hT
          have HL := Lib.hid hl
          clear hT hl
          have hfin : l = (tk s b).list := by
            rw [tk_def]
            refine row_ext l _ (by rw [HL.out]; rfl) (fun m hmm => ?_)
            have h1 := hm.out m (by have := HL.out; omega)
            rw [if_pos (by have := HL.out; omega), E64.out] at h1
            rw [h1]
            have h2 : m < 8 := by have := HL.out; omega
            have : m = 0 ∨ m = 1 ∨ m = 2 ∨ m = 3 ∨ m = 4 ∨ m = 5 ∨ m = 6 ∨ m = 7 := by omega
            rcases this with rfl | rfl | rfl | rfl | rfl | rfl | rfl | rfl <;> rfl
          subst hfin
          go_wp2_with (first
            | (refine wpList_load_row rfl 57 _ (by rfl) W4.heap.size (by rfl) 57 _ (0, 0) _ HT.out.n Tryd.underlying57 rfl (size35 _ rfl) ?_)
            | (refine wpList_store_put rfl 57 _ _ (by rfl) (w.heap.size + 1) ((tk s b).list.map wv).toArray (by rfl) (by rfl) 57 ((List.replicate 8 (0 : UInt32)).map wv).toArray HT.out.r (size35 _ rfl) (by simp [St8.list]) (one_wv _) ?_; intro W9 P9))
          refine bodyPost_ret (results_cell_row rfl _ _ (w.heap.size + 1) 57 ((tk s b).list.map wv).toArray (0, 0) _ rfl P9.here Tryd.underlying57 rfl (size35 _ rfl)) rfl ⟨rfl, P9.below HT.out.bel (by omega)⟩
end Go.Proofs.YtnmkinihkgdkgaaDoor
