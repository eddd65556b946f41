/- The walk of octet's each and ReadRow. Condition: sizes that a machine has. -/
import Derived.Test.YtjjndmhkigoifaaOce
import Derived.Maps.OwnIn
import Derived.WalkMore
import Derived.OwnWalk
import Derived.Laws.OwnMore
import Derived.Shelf.Abstract
namespace Go.Proofs.Ytjjndmhkigoifaa
open Go.RowKit Go.Shelf
set_option linter.unusedVariables false
set_option linter.unusedSimpArgs false
attribute [local go_sem] Oper.semAt_some

theorem wpListIn_append_str {F : Fence} {nF : Nat} {ops : Array Oper} {rest : List Oper} {o : Oper} {a : Act} {Q : Exit → Act → World → Prop} {W : World} (hgd : o.guard = none) (s x : Operand)
    (ho : o.op = .call { callee := .builtin .append, args := #[s, x], argTypes := #[22, 22] }) (B : Nat) (v : Value) (ls : List (List UInt8)) (y : List UInt8) (g : Nat) (hg : g = W.heap.size) (hs : a.eval s = v) (h : SlS W B v ls) (hB : B ≤ W.heap.size)
    (hx : a.eval x = .slice (some ⟨g, 0, none⟩) 1 1) (hl : ls.length ≤ 1000000)
    (hK : ∀ v' w', SlS w' B v' (ls ++ [y]) → (W.alloc (.cells #[str y] 9 (0, 0))).grownBy w' v.ownBlock → (∃ A c, v' = .slice A (ls.length + 1) c) → wpListIn F nF Try.prog ops Q rest (a.put o.dst v') w') :
    wpListIn F nF Try.prog ops Q (o :: rest) a (W.alloc (.cells #[str y] 9 (0, 0))) := by
  subst hg
  obtain ⟨i0, hi, hz0, hz1, hz2⟩ := info_parts str_inf
  have h2 : SlS (W.alloc (.cells #[str y] 9 (0, 0))) B v ls := h.bel ((Below.refl _ _).alloc (Nat.le_refl _) _)
  refine wpListIn_append_own_at _ hgd s x 22 ho B 9 i0 _ 1 16 Try.underlying22 hi hz0 hz1 hz2 rfl (by decide) v ls.length _ hs h2 ⟨W.heap.size, 0, none⟩ 1 1 [str y] hx rfl (cell_new_str W y (0, 0)) (by simp [Value.oneCell']) (by unfold maxLen; omega) (by omega) (by simp; omega) ?_
  intro v' w' q1 q2 q3 q4
  have e : SlS w' B v' (ls ++ [y]) := by
    show w'.ownsRow _ _ _ _ _ _
    simpa using q1
  refine hK v' w' e q2 ?_
  obtain ⟨A, c, e2, _⟩ := e.txt
  exact ⟨A, c, by rw [e2]; simp⟩

theorem each_any (s : List UInt8) (most : Int) (w : World) :
    Calls Try.prog 19 #[str s, .int .i64 most] w fun e w' => e = .returned (.func (.func 21) #[] #[.pointer (some ⟨w.heap.size, 0, none⟩), .pointer (some ⟨w.heap.size + 1, 0, none⟩)]) ∧
      w' = (w.alloc (.cells #[str s] 9 (0, 0))).alloc (.cells #[.int .i64 most] 3 (0, 0)) := by
  go_enter Try.func19, Try.ntmps19
  go_wp2_with fail
  go_ret
  exact ⟨rfl, rfl⟩

/-- The memory of a call of ReadRow, behind the texts acc. -/
structure Orw (w : World) (count : Int) (s : List UInt8) (most : Int) (v : Value) (acc : List (List UInt8)) (p e : Int) (W : World) : Prop where
  b0 : W.heap[w.heap.size]? = some (.cells #[.int .i64 count] 3 (0, 0))
  b1 : W.heap[w.heap.size + 1]? = some (.cells #[v] 22 (0, 0))
  b2 : W.heap[w.heap.size + 2]? = some (.cells #[.int .i64 p] 3 (0, 0))
  b3 : W.heap[w.heap.size + 3]? = some (.cells #[.int .i64 e] 26 (0, 0))
  b4 : W.heap[w.heap.size + 4]? = some (.cells #[str s] 9 (0, 0))
  b5 : W.heap[w.heap.size + 5]? = some (.cells #[.int .i64 most] 3 (0, 0))
  b6 : W.heap[w.heap.size + 6]? = some (.deferred (some []))
  sl : SlS W (w.heap.size + 8) v acc
  b : Below w.heap.size w W
theorem SlS.ownlt {W : World} {B : Nat} {v : Value} {ls : List (List UInt8)} (h : SlS W B v ls) {r : Nat} (hr : v.ownBlock = some r) : r < W.heap.size := by
  rcases h.2 with ⟨rfl, _⟩ | ⟨g, cap, cur, rfl, hB, hg, _⟩
  · cases hr
  · cases hr; exact (Array.getElem?_eq_some_iff.1 hg).1
variable {w W W' : World} {count most p e : Int} {s : List UInt8} {v : Value} {acc : List (List UInt8)}
theorem Orw.lt (T : Orw w count s most v acc p e W) : w.heap.size + 6 < W.heap.size := (Array.getElem?_eq_some_iff.1 T.b6).1
theorem Orw.same (T : Orw w count s most v acc p e W) (hs : SlS W' (w.heap.size + 8) v acc) (hb : Below w.heap.size w W') (h : ∀ k, k < 7 → W'.heap[w.heap.size + k]? = W.heap[w.heap.size + k]?) : Orw w count s most v acc p e W' :=
  ⟨(h 0 (by omega)).trans T.b0, (h 1 (by omega)).trans T.b1, (h 2 (by omega)).trans T.b2, (h 3 (by omega)).trans T.b3, (h 4 (by omega)).trans T.b4, (h 5 (by omega)).trans T.b5, (h 6 (by omega)).trans T.b6, hs, hb⟩
theorem Orw.bel (T : Orw w count s most v acc p e W) (h : Below W.heap.size W W') : Orw w count s most v acc p e W' :=
  T.same (T.sl.bel h) (below_acc T.b h) fun k hk => h.block _ (by have := T.lt; omega)
theorem sls_other {B k : Nat} (h : SlS W B v acc) (hk : k < B) (hh : ∀ j, B ≤ j → W'.heap[j]? = W.heap[j]?) : SlS W' B v acc := by
  refine ⟨h.1, ?_⟩
  rcases h.2 with hn | ⟨g, cap, cur, hv, hB, hg, rest⟩
  · exact .inl hn
  · exact .inr ⟨g, cap, cur, hv, hB, (hh g hB).trans hg, rest⟩
theorem Orw.loop (T : Orw w count s most v acc p e W) (o : Obj) : Orw w count s most v acc p e (W.putObj (w.heap.size + 7) o) :=
  T.same (sls_other (k := 0) T.sl (by omega) fun j hj => World.putObj_heap_other (by omega)) (below_putObj T.b (by omega)) fun i hi => World.putObj_heap_other (by omega)
theorem Orw.setP (T : Orw w count s most v acc p e W) (p' : Int) : Orw w count s most v acc p' e (W.setCell ⟨w.heap.size + 2, 0, none⟩ (.int .i64 p')) :=
  ⟨(heap_setCell_other _ _ _ _ (by simp)).trans T.b0, (heap_setCell_other _ _ _ _ (by simp)).trans T.b1, heap_setCell_same _ _ 0 _ _ _ T.b2, (heap_setCell_other _ _ _ _ (by simp)).trans T.b3, (heap_setCell_other _ _ _ _ (by simp)).trans T.b4, (heap_setCell_other _ _ _ _ (by simp)).trans T.b5, (heap_setCell_other _ _ _ _ (by simp)).trans T.b6,
    sls_other (k := 0) T.sl (by omega) fun j hj => heap_setCell_other _ _ _ _ (by simp; omega), T.b.setCell (by simp) _⟩
theorem Orw.setE (T : Orw w count s most v acc p e W) (p' : Int) : Orw w count s most v acc p p' (W.setCell ⟨w.heap.size + 3, 0, none⟩ (.int .i64 p')) :=
  ⟨(heap_setCell_other _ _ _ _ (by simp)).trans T.b0, (heap_setCell_other _ _ _ _ (by simp)).trans T.b1, (heap_setCell_other _ _ _ _ (by simp)).trans T.b2, heap_setCell_same _ _ 0 _ _ _ T.b3, (heap_setCell_other _ _ _ _ (by simp)).trans T.b4, (heap_setCell_other _ _ _ _ (by simp)).trans T.b5, (heap_setCell_other _ _ _ _ (by simp)).trans T.b6,
    sls_other (k := 0) T.sl (by omega) fun j hj => heap_setCell_other _ _ _ _ (by simp; omega), T.b.setCell (by simp) _⟩
/-- One text more. -/
theorem Orw.more {W1 A : World} {v' : Value} {acc' : List (List UInt8)} (T : Orw w count s most v acc p e W) (hA : Below W.heap.size W A) (h1 : SlS W1 (w.heap.size + 8) v' acc') (h2 : A.grownBy W1 v.ownBlock) :
    Orw w count s most v' acc' p e (W1.setCell ⟨w.heap.size + 1, 0, none⟩ v') ∧ ∀ k, w.heap.size + 7 = k → k < W.heap.size → (W1.setCell ⟨w.heap.size + 1, 0, none⟩ v').heap[k]? = W.heap[k]? := by
  have T' := T.bel hA
  have hl := T'.lt
  have go : ∀ k, k ≠ w.heap.size + 1 → k < w.heap.size + 8 → k < A.heap.size → (W1.setCell ⟨w.heap.size + 1, 0, none⟩ v').heap[k]? = A.heap[k]? := fun k h3 h4 h5 =>
    (heap_setCell_other _ _ _ _ h3).trans (h2.block k h5 (fun e => by have := T.sl.own e.symm; omega))
  refine ⟨⟨(go _ (by omega) (by omega) (by omega)).trans T'.b0, ?_, (go _ (by omega) (by omega) (by omega)).trans T'.b2, (go _ (by omega) (by omega) (by omega)).trans T'.b3, (go _ (by omega) (by omega) (by omega)).trans T'.b4, (go _ (by omega) (by omega) (by omega)).trans T'.b5, (go _ (by omega) (by omega) (by omega)).trans T'.b6, ?_, ?_⟩, fun k h3 h4 => (go k (by omega) (by omega) (by have := hA.size; omega)).trans (hA.block k h4)⟩
  · exact heap_setCell_same _ _ 0 _ _ _ ((h2.block _ (by omega) (fun e => by have := T.sl.own e.symm; omega)).trans T'.b1)
  · exact sls_other (k := 0) h1 (by omega) fun j hj => heap_setCell_other _ _ _ _ (by simp; omega)
  · exact (T'.b.grown h2 (by omega) (by intro k e; have := T.sl.own e; omega)).setCell (by simp) _

theorem Orw.app {W1 A : World} (T : Orw w count s most v acc p e W) (hA : Below W.heap.size W A) (h2 : A.grownBy W1 v.ownBlock) :
    W1.cell? ⟨w.heap.size + 1, 0, none⟩ = some v ∧ W1.frozen? ⟨w.heap.size + 1, 0, none⟩ = false ∧ W1.cell? ⟨w.heap.size, 0, none⟩ = some (.int .i64 count) ∧ W1.cell? ⟨w.heap.size + 2, 0, none⟩ = some (.int .i64 p) ∧ W1.frozen? ⟨w.heap.size + 2, 0, none⟩ = false := by
  have T' := T.bel hA
  have hl := T'.lt
  have go : ∀ k, k < w.heap.size + 7 → W1.heap[k]? = A.heap[k]? := fun k h4 => h2.block k (by omega) (fun e => by have := T.sl.own e.symm; omega)
  have e1 := (go _ (by omega)).trans T'.b1
  have e2 := (go _ (by omega)).trans T'.b2
  exact ⟨cell_of_row _ _ 0 _ _ (0, 0) e1, frozen_of_row _ _ 0 _ _ e1, cell_of_row _ _ 0 _ _ (0, 0) ((go _ (by omega)).trans T'.b0), cell_of_row _ _ 0 _ _ (0, 0) e2, frozen_of_row _ _ 0 _ _ e2⟩
theorem results_rr {tmps : Array Value} {W : World} {b1 b2 b3 : Nat} {v1 v2 v3 : Value} (p1 : tmps.getD 6 undef = .pointer (some ⟨b1, 0, none⟩)) (p2 : tmps.getD 7 undef = .pointer (some ⟨b2, 0, none⟩)) (p3 : tmps.getD 8 undef = .pointer (some ⟨b3, 0, none⟩))
    (c1 : W.cell? ⟨b1, 0, none⟩ = some v1) (c2 : W.cell? ⟨b2, 0, none⟩ = some v2) (c3 : W.cell? ⟨b3, 0, none⟩ = some v3) :
    (results Try.f12 tmps).run Try.prog W = .ok (.tuple #[v1, v2, v3]) W := by
  have h : (Try.f12).results = #[.cell 6 22, .cell 7 3, .cell 8 26] := rfl
  have q1 : tmps[6]?.getD undef = .pointer (some ⟨b1, 0, none⟩) := by simpa using p1
  have q2 : tmps[7]?.getD undef = .pointer (some ⟨b2, 0, none⟩) := by simpa using p2
  have q3 : tmps[8]?.getD undef = .pointer (some ⟨b3, 0, none⟩) := by simpa using p3
  simp [results, h, q1, q2, q3, asAddr, loadVar, Try.isAgg22, Try.isAgg3, Try.isAgg26, c1, c2, c3, Result.andThen]

theorem Orw.leave {R : List (List UInt8) × Nat × Nat} {tmps : Array Value} {pn en : Nat} (T : Orw w count s most v acc pn en W) (hR : R = (acc, pn, en)) (p1 : tmps.getD 6 undef = .pointer (some ⟨w.heap.size + 1, 0, none⟩)) (p2 : tmps.getD 7 undef = .pointer (some ⟨w.heap.size + 2, 0, none⟩)) (p3 : tmps.getD 8 undef = .pointer (some ⟨w.heap.size + 3, 0, none⟩)) :
    bodyPostM Fence.wide 0 Try.prog Try.f12 (fun e w' => ∃ v, e = .returned (.tuple #[v, .int .i64 (R.2.1 : Int), .int .i64 (R.2.2 : Int)]) ∧ SlS w' w.heap.size v R.1 ∧ Below w.heap.size w w') .ret
      { tmps := tmps, defers := [{ target := .collected (w.heap.size + 6), args := #[] }] } W := by
  subst hR
  have go : ∀ k, k ≠ w.heap.size + 6 → (W.putObj (w.heap.size + 6) (.deferred none)).heap[k]? = W.heap[k]? := fun k hk => World.putObj_heap_other hk
  refine leave_marked T.b6 (results_rr p1 p2 p3 (cell_of_row _ _ 0 _ _ (0, 0) ((go _ (by omega)).trans T.b1)) (cell_of_row _ _ 0 _ _ (0, 0) ((go _ (by omega)).trans T.b2)) (cell_of_row _ _ 0 _ _ (0, 0) ((go _ (by omega)).trans T.b3))) ⟨_, rfl, ?_, below_putObj T.b (by omega)⟩
  exact (sls_other (k := 0) T.sl (by omega) fun j hj => go j (by omega)).mono (by omega)
theorem Orw.setV (T : Orw w count s most v acc p e W) {v' : Value} {acc' : List (List UInt8)} (h : SlS (W.setCell ⟨w.heap.size + 1, 0, none⟩ v') (w.heap.size + 8) v' acc') : Orw w count s most v' acc' p e (W.setCell ⟨w.heap.size + 1, 0, none⟩ v') :=
  ⟨(heap_setCell_other _ _ _ _ (by simp)).trans T.b0, heap_setCell_same _ _ 0 _ _ _ T.b1, (heap_setCell_other _ _ _ _ (by simp)).trans T.b2, (heap_setCell_other _ _ _ _ (by simp)).trans T.b3, (heap_setCell_other _ _ _ _ (by simp)).trans T.b4, (heap_setCell_other _ _ _ _ (by simp)).trans T.b5, (heap_setCell_other _ _ _ _ (by simp)).trans T.b6, h, T.b.setCell (by simp) _⟩
theorem Orw.draw (T : Orw w count s most v acc p e W) : Orw w count s most v acc p e W.drew := T.same (T.sl.heap rfl) T.b.drew fun k hk => rfl

set_option maxRecDepth 100000 in
set_option maxHeartbeats 8000000 in
theorem ReadRow_any (s : List UInt8) (count most : Int) (hs : s.length ≤ 1099511627776) (hc : count ≤ 10000) (hm : most ≤ 9223372036854775807) (w : World) :
    Calls Try.prog 12 #[str s, .int .i64 count, .int .i64 most] w fun e w' => ∃ v, e = .returned (.tuple #[v, .int .i64 ((rr s most count.toNat [] 0).2.1 : Int), .int .i64 ((rr s most count.toNat [] 0).2.2 : Int)]) ∧ SlS w' w.heap.size v (rr s most count.toNat [] 0).1 ∧ Below w.heap.size w w' := by
  obtain ⟨n, hn⟩ : ∃ n, n = count.toNat := ⟨_, rfl⟩
  rw [← hn]
  generalize hR : rr s most n [] 0 = Rv
  have HRV := Lib.hid hR
  have HN := Lib.hid hn
  have hn2 : n ≤ 10000 := by omega
  clear hR hn
  refine calls_marks Try.func12 rfl ?_
  simp only [Try.ntmps12, List.size_toArray, List.length_cons, List.length_nil, Nat.reduceAdd, Nat.reduceSub, Array.replicate_succ, Array.replicate_zero, List.push_toArray, List.append_toArray, List.nil_append, List.cons_append]
  by_cases hpos : count ≤ 0
  · have h0 : n = 0 := by have := HN.out; omega
    have hRe : ([], 0, 0) = Rv := by rw [← HRV.out, h0]; rfl
    subst hRe
    go_wp2_with fail
    go_step3
    go_wp2_with fail
    refine leave_plain (v := .tuple #[.slice none 0 0, .int .i64 0, .int .i64 0]) ?_ ⟨_, rfl, SlS.nil _ _, ?_⟩
    · have k2 := ((World.alloc_heap_new (((w.alloc (.cells #[.int .i64 count] 3 (0, 0))).alloc (.cells #[.slice none 0 0] 22 (0, 0))).alloc (.cells #[.int .i64 0] 3 (0, 0))) (.cells #[.int .i64 0] 26 (0, 0))))
      have k1 := World.alloc_heap_new ((w.alloc (.cells #[.int .i64 count] 3 (0, 0))).alloc (.cells #[.slice none 0 0] 22 (0, 0))) (.cells #[.int .i64 0] 3 (0, 0))
      have k0 := World.alloc_heap_new (w.alloc (.cells #[.int .i64 count] 3 (0, 0))) (.cells #[.slice none 0 0] 22 (0, 0))
      refine results_rr (b1 := w.heap.size + 1) (b2 := w.heap.size + 2) (b3 := w.heap.size + 3) rfl rfl rfl (cell_of_row _ _ 0 #[.slice none 0 0] 22 (0, 0) ?_) (cell_of_row _ _ 0 #[.int .i64 0] 3 (0, 0) ?_) (cell_of_row _ _ 0 #[.int .i64 0] 26 (0, 0) ?_)
      · exact (Below.heap_alloc _ _ _ (by simp)).trans ((Below.heap_alloc _ _ _ (by simp)).trans (by simpa using k0))
      · exact (Below.heap_alloc _ _ _ (by simp)).trans (by simpa using k1)
      · simpa using k2
    · exact ((((Below.refl _ w).alloc (Nat.le_refl _) _).alloc (by simp) _).alloc (by simp; omega) _).alloc (by simp; omega) _
  · have d1 : decide (count ≤ 0) = false := by simp; omega
    obtain ⟨W0, hW0⟩ : ∃ W0, (((((w.alloc (.cells #[.int .i64 count] 3 (0, 0))).alloc (.cells #[.slice none 0 0] 22 (0, 0))).alloc (.cells #[.int .i64 0] 3 (0, 0))).alloc (.cells #[.int .i64 0] 26 (0, 0))).alloc (.cells #[str s] 9 (0, 0))).alloc (.cells #[.int .i64 most] 3 (0, 0)) = W0 := ⟨_, rfl⟩
    have hsz : W0.heap.size = w.heap.size + 6 := by rw [← hW0]; simp
    have hB0 : Below w.heap.size w W0 := by
      rw [← hW0]
      exact ((((((Below.refl _ w).alloc (Nat.le_refl _) _).alloc (by simp) _).alloc (by simp; omega) _).alloc (by simp; omega) _).alloc (by simp; omega) _).alloc (by simp; omega) _
    have T0 : ∀ W, (∀ k, k < 6 → W.heap[w.heap.size + k]? = W0.heap[w.heap.size + k]?) → W.heap[w.heap.size + 6]? = some (.deferred (some [])) → Below w.heap.size w W → Orw w count s most (.slice none 0 0) [] 0 0 W := by
      intro W h hd hb
      have q : ∀ k, W0.heap[w.heap.size + k]? = (w.heap ++ #[.cells #[.int .i64 count] 3 (0, 0), .cells #[.slice none 0 0] 22 (0, 0), .cells #[.int .i64 0] 3 (0, 0), .cells #[.int .i64 0] 26 (0, 0), .cells #[str s] 9 (0, 0), .cells #[.int .i64 most] 3 (0, 0)])[w.heap.size + k]? := by
        intro k; rw [← hW0]; rfl
      have q2 : ∀ k, W0.heap[w.heap.size + k]? = (#[.cells #[.int .i64 count] 3 (0, 0), .cells #[.slice none 0 0] 22 (0, 0), .cells #[.int .i64 0] 3 (0, 0), .cells #[.int .i64 0] 26 (0, 0), .cells #[str s] 9 (0, 0), .cells #[.int .i64 most] 3 (0, 0)] : Array Obj)[k]? := by
        intro k; rw [q k, Array.getElem?_append_right (by omega)]; congr 1; omega
      exact ⟨(h 0 (by omega)).trans (q2 0), (h 1 (by omega)).trans (q2 1), (h 2 (by omega)).trans (q2 2), (h 3 (by omega)).trans (q2 3), (h 4 (by omega)).trans (q2 4), (h 5 (by omega)).trans (q2 5), hd, SlS.nil _ _, hb⟩
    have HW0 := Lib.hid hW0
    have HT0 := Lib.hid T0
    have HSZ := Lib.hid hsz
    clear hW0 T0 hsz
    go_wp2_with fail
    go_step3
    go_wp2_with fail
    go_step3
    go_wp2_with (go_at_call 19; refine (each_any s most _).mono ?_; rintro e w1 ⟨rfl, rfl⟩)
    rw [HW0.out]
    simp only [Nat.add_assoc, Nat.reduceAdd]
    refine rangeFunc_at rfl (enters_of Try.func21 (by kernel_rfl) rfl) ?_
    intro R HR
    rw [HSZ.out] at HR ⊢
    have hl1 : ((W0.alloc (.deferred (some []))).alloc (.loop (R .ready none))).heap[w.heap.size + 7]? = some (.loop (R .ready none)) := by
      have := World.alloc_heap_new (W0.alloc (.deferred (some []))) (.loop (R .ready none))
      rwa [World.size_alloc, HSZ.out] at this
    have hT1 : Orw w count s most (.slice none 0 0) [] 0 0 ((W0.alloc (.deferred (some []))).alloc (.loop (R .ready none))) := by
      refine HT0.out _ (fun k hk => ?_) ?_ ?_
      · exact (Below.heap_alloc _ _ _ (by simp; have := HSZ.out; omega)).trans (Below.heap_alloc _ _ _ (by have := HSZ.out; omega))
      · refine (Below.heap_alloc _ _ _ (by simp; have := HSZ.out; omega)).trans ?_
        have := World.alloc_heap_new W0 (.deferred (some []))
        rwa [HSZ.out] at this
      · exact (hB0.alloc hB0.size _).alloc (Nat.le_trans hB0.size (by simp)) _
    generalize (W0.alloc (.deferred (some []))).alloc (.loop (R .ready none)) = W1 at hl1 hT1 ⊢
    clear HW0 HT0 hB0
    show Calls _ _ #[_, _, _] _ _
    have J0 : (∃ v acc, Orw w count s most v acc 0 0 W1 ∧ acc.length < n ∧ rr s most (n - acc.length) acc 0 = Rv) ∧ W1.heap[w.heap.size + 7]? = some (.loop (R .ready none)) :=
      ⟨⟨_, [], hT1, by have := HN.out; simp; omega, HRV.out⟩, hl1⟩
    refine (each_iter (w.heap.size + 4) (w.heap.size + 5) (w.heap.size + 7) s most hm hs (fun a W => (∃ v acc, Orw w count s most v acc 0 0 W ∧ acc.length < n ∧ rr s most (n - acc.length) acc a = Rv) ∧ W.heap[w.heap.size + 7]? = some (.loop (R .ready none)))
      (fun W => (∃ (v : Value) (acc : List (List UInt8)) (p e : Nat), Orw w count s most v acc p e W ∧ ((e ≠ 0 ∧ Rv = ([], 0, e)) ∨ (e = 0 ∧ Rv = (acc, p, 0)))) ∧ W.heap[w.heap.size + 7]? = some (.loop (R .done (some (.exit 0)))))
      W1 ?_ ?_ J0 ?_).mono ?_
    · rintro a W ⟨⟨v, acc, T, _⟩, _⟩
      exact ⟨cell_of_row _ _ 0 _ _ (0, 0) T.b4, cell_of_row _ _ 0 _ _ (0, 0) T.b5⟩
    · rintro a W q ⟨⟨v, acc, T, h2⟩, h3⟩
      exact ⟨⟨v, acc, T.same (T.sl.heap rfl) ⟨T.b.os, T.b.tape, T.b.output, T.b.size, T.b.block⟩ (fun k hk => rfl), h2⟩, h3⟩
    · rintro a W ha ⟨⟨v, acc, T, hlt, hE⟩, hl⟩
      have HE : Hid (((readText (s.drop a) most).2.2 = 0 → rr s most (n - (acc.length + 1)) (acc ++ [(readText (s.drop a) most).1]) (a + (readText (s.drop a) most).2.1) = Rv) ∧ ((readText (s.drop a) most).2.2 ≠ 0 → Rv = ([], 0, (readText (s.drop a) most).2.2))) := by
        rw [show n - acc.length = (n - (acc.length + 1)) + 1 by omega] at hE
        exact ⟨fun h => by rw [← hE, rr_ok h], fun h => by rw [← hE, rr_no h]⟩
      clear hE
      generalize readText (s.drop a) most = r at HE ⊢
      obtain ⟨t, m, er⟩ := r
      simp only at HE ⊢
      refine' yield_of HR hl (by rfl) (fun K hK => ?asg) ?hl1 ?bd
      case asg =>
        gi_wp2
        exact hK
      case hl1 => exact (Below.heap_alloc _ _ _ (Array.getElem?_eq_some_iff.1 hl).1).trans hl
      clear HR
      have hc8 : w.heap.size + 8 ≤ W.heap.size := by have := (Array.getElem?_eq_some_iff.1 hl).1; omega
      have T2 : Hid (Orw w count s most v acc 0 0 ((W.alloc (.cells #[str t, .int .i64 ((a : Int) + (m : Int)), .int .i64 (er : Int)] 42 (0, 0))).putObj (w.heap.size + 7) (.loop (R .busy none))) ∧
          ((W.alloc (.cells #[str t, .int .i64 ((a : Int) + (m : Int)), .int .i64 (er : Int)] 42 (0, 0))).putObj (w.heap.size + 7) (.loop (R .busy none))).heap[w.heap.size + 7]? = some (.loop (R .busy none)) ∧
          ((W.alloc (.cells #[str t, .int .i64 ((a : Int) + (m : Int)), .int .i64 (er : Int)] 42 (0, 0))).putObj (w.heap.size + 7) (.loop (R .busy none))).heap[W.heap.size]? = some (.cells #[str t, .int .i64 ((a : Int) + (m : Int)), .int .i64 (er : Int)] 42 (0, 0))) :=
        ⟨(T.bel ((Below.refl _ W).alloc (Nat.le_refl _) _)).loop _, World.putObj_heap_same (by simp; omega), (World.putObj_heap_other (by omega)).trans (World.alloc_heap_new _ _)⟩
      have HO : Hid (∀ r, v.ownBlock = some r → r < W.heap.size) := fun r hr => T.sl.ownlt hr
      clear T
      have hl1 := hlt
      clear hlt hT1 J0
      generalize W.heap.size = c at hc8 T2 HO ⊢
      clear hl
      show Code.wpIn _ _ _ _ _ _ ((W.alloc (.cells #[str t, .int .i64 ((a : Int) + (m : Int)), .int .i64 (er : Int)] 42 (0, 0))).putObj (w.heap.size + 7) (.loop (R .busy none)))
      generalize (W.alloc (.cells #[str t, .int .i64 ((a : Int) + (m : Int)), .int .i64 (er : Int)] 42 (0, 0))).putObj (w.heap.size + 7) (.loop (R .busy none)) = W2 at T2 ⊢
      have c2 := cell_of_row _ _ 2 _ _ (0, 0) T2.out.2.2
      have c3 := cell_of_row _ _ 0 _ _ (0, 0) T2.out.1.b3
      have f3 := frozen_of_row _ _ 0 _ _ T2.out.1.b3
      by_cases he : er = 0
      · have e0 : (er : Int) = 0 := by omega
        rw [e0] at T2 c2 ⊢
        have T3 := Lib.hid (T2.out.1.setE 0)
        have L3 : Hid ((W2.setCell ⟨w.heap.size + 3, 0, none⟩ (.int .i64 0)).heap[w.heap.size + 7]? = some (.loop (R .busy none))) := (heap_setCell_other _ _ _ _ (by simp)).trans T2.out.2.1
        have C3 : Hid ((W2.setCell ⟨w.heap.size + 3, 0, none⟩ (.int .i64 0)).heap[c]? = some (.cells #[str t, .int .i64 ((a : Int) + (m : Int)), .int .i64 0] 42 (0, 0))) := (heap_setCell_other _ _ _ _ (by simp; omega)).trans T2.out.2.2
        have hB : Hid (w.heap.size + 8 ≤ (W2.setCell ⟨w.heap.size + 3, 0, none⟩ (.int .i64 0)).heap.size) := by have := (Array.getElem?_eq_some_iff.1 C3.out).1; show _ ≤ _; omega
        have HZ : Hid (W2.heap.size = (W2.setCell ⟨w.heap.size + 3, 0, none⟩ (.int .i64 0)).heap.size) := by show _ = _; simp [World.setCell]
        have c4 := cell_of_row _ _ 0 _ _ (0, 0) C3.out
        have c5 := cell_of_row _ _ 0 _ _ (0, 0) T3.out.b1
        have hne : c ≠ w.heap.size + 1 := by omega
        have HA : Hid (∀ w3, ((W2.setCell ⟨w.heap.size + 3, 0, none⟩ (.int .i64 0)).alloc (.cells #[str t] 9 (0, 0))).grownBy w3 v.ownBlock →
            (w3.cell? ⟨w.heap.size + 1, 0, none⟩ = some v ∧ w3.frozen? ⟨w.heap.size + 1, 0, none⟩ = false ∧ w3.cell? ⟨w.heap.size, 0, none⟩ = some (.int .i64 count) ∧ w3.cell? ⟨w.heap.size + 2, 0, none⟩ = some (.int .i64 0) ∧ w3.frozen? ⟨w.heap.size + 2, 0, none⟩ = false) ∧ w3.cell? ⟨c, 1, none⟩ = some (.int .i64 ((a : Int) + (m : Int)))) := by
          intro w3 g2
          have hcz := (Array.getElem?_eq_some_iff.1 C3.out).1
          refine ⟨T3.out.app ((Below.refl _ _).alloc (Nat.le_refl _) _) g2, cell_of_row _ _ 1 _ _ (0, 0) ((g2.block c (by rw [World.size_alloc]; omega) (fun e => by have := HO.out _ e.symm; omega)).trans ((Below.heap_alloc _ _ _ hcz).trans C3.out))⟩
        by_cases hlast : acc.length + 1 = n
        · have d2 : ((n : Int) == count) = true := by have := HN.out; simp; omega
          gi_wp2_with (gi_at_builtin; refine wpListIn_append_str rfl (.tmp 20) (.tmp 23) rfl (w.heap.size + 8) v acc t W2.heap.size HZ.out (by rfl) T3.out.sl hB.out (by rfl) (by omega) ?_; intro v' w3 g1 g2 g3; have G1 := Lib.hid g1; have G2 := Lib.hid g2; obtain ⟨A', cp, rfl⟩ := g3; obtain ⟨⟨k1, k2, k3, k4, k5⟩, k6⟩ := HA.out _ g2; clear g1 g2)
          obtain ⟨m1, m2⟩ := T3.out.more ((Below.refl _ _).alloc (Nat.le_refl _) _) G1.out G2.out
          have m3 := m2 _ rfl (Array.getElem?_eq_some_iff.1 L3.out).1
          rw [hlast] at m1 m3
          have m4 := m1.setP ((a + m : Nat) : Int)
          rw [Int.natCast_add] at m4
          have m5 : ((w3.setCell ⟨w.heap.size + 1, 0, none⟩ (.slice A' n cp)).setCell ⟨w.heap.size + 2, 0, none⟩ (.int .i64 ((a : Int) + (m : Int)))).heap[w.heap.size + 7]? = some (.loop (R .busy none)) :=
            (heap_setCell_other _ _ _ _ (by simp)).trans (m3.trans L3.out)
          have hq := HE.out.1 he
          rw [hlast, Nat.sub_self] at hq
          exact ⟨m5, .inr ⟨rfl, ⟨_, acc ++ [t], a + m, 0, by rw [Int.natCast_add]; exact m4.loop _, .inr ⟨rfl, hq.symm⟩⟩, World.putObj_heap_same (Array.getElem?_eq_some_iff.1 m5).1⟩⟩
        · have d2 : ((acc.length : Int) + 1 == count) = false := by have := HN.out; simp; omega
          gi_wp2_with (gi_at_builtin; refine wpListIn_append_str rfl (.tmp 20) (.tmp 23) rfl (w.heap.size + 8) v acc t W2.heap.size HZ.out (by rfl) T3.out.sl hB.out (by rfl) (by omega) ?_; intro v' w3 g1 g2 g3; have G1 := Lib.hid g1; have G2 := Lib.hid g2; obtain ⟨A', cp, rfl⟩ := g3; obtain ⟨⟨k1, k2, k3, k4, k5⟩, k6⟩ := HA.out _ g2; clear g1 g2)
          obtain ⟨m1, m2⟩ := T3.out.more ((Below.refl _ _).alloc (Nat.le_refl _) _) G1.out G2.out
          have m5 := (m2 _ rfl (Array.getElem?_eq_some_iff.1 L3.out).1).trans L3.out
          exact ⟨m5, .inl ⟨rfl, he, ⟨_, acc ++ [t], m1.loop _, by simp; omega, by have := HE.out.1 he; simpa using this⟩, World.putObj_heap_same (Array.getElem?_eq_some_iff.1 m5).1⟩⟩
      · have d2 : ((er : Int) != 0) = true := by simp; omega
        have F3 : Hid ((W2.setCell ⟨w.heap.size + 3, 0, none⟩ (.int .i64 (er : Int))).heap[w.heap.size + 7]? = some (.loop (R .busy none)) ∧ Orw w count s most v acc 0 er (W2.setCell ⟨w.heap.size + 3, 0, none⟩ (.int .i64 (er : Int)))) :=
          ⟨(heap_setCell_other _ _ _ _ (by simp)).trans T2.out.2.1, T2.out.1.setE er⟩
        gi_wp2
        exact ⟨F3.out.1, .inr ⟨rfl, ⟨v, acc, 0, er, F3.out.2.loop _, .inl ⟨he, HE.out.2 he⟩⟩, World.putObj_heap_same (Array.getElem?_eq_some_iff.1 F3.out.1).1⟩⟩
    · rintro e W ⟨⟨v0, rfl⟩, ⟨v, acc, p, e, T, hR⟩, hl⟩
      refine ⟨⟨v0, rfl⟩, .inr ⟨.exit 0, hl, ?_⟩⟩
      obtain ⟨A', cp, hv, _⟩ := T.sl.txt
      subst hv
      have T3 := Lib.hid (T.loop (.loop (R .exhausted (some (.exit 0)))))
      clear HR hl1 hT1
      generalize W.putObj (w.heap.size + 7) (.loop (R .exhausted (some (.exit 0)))) = W3 at T3 ⊢
      have c1 := cell_of_row _ _ 0 _ _ (0, 0) T3.out.b1
      have c2 := cell_of_row _ _ 0 _ _ (0, 0) T3.out.b2
      have c3 := cell_of_row _ _ 0 _ _ (0, 0) T3.out.b3
      have f1 := frozen_of_row _ _ 0 _ _ T3.out.b1
      have f2 := frozen_of_row _ _ 0 _ _ T3.out.b2
      have f3 := frozen_of_row _ _ 0 _ _ T3.out.b3
      rcases hR with ⟨he, rfl⟩ | ⟨he, rfl⟩
      · have d2 : ((e : Int) != 0) = true := by simp; omega
        go_wp2_with fail
        go_region
        go_wp2_with fail
        refine Orw.leave (v := .slice none 0 0) (acc := []) (s := s) (most := most) (count := count) (pn := 0) (en := e) ?_ rfl rfl rfl rfl
        exact (((T3.out.setV (SlS.nil _ _)).setP 0).setE e).draw
      · subst he
        go_wp2_with fail
        go_region
        go_wp2_with fail
        refine Orw.leave (v := .slice A' acc.length cp) (acc := acc) (s := s) (most := most) (count := count) (pn := p) (en := 0) ?_ rfl rfl rfl rfl
        exact (((T3.out.setV (sls_other (k := 0) T3.out.sl (by omega) fun j hj => heap_setCell_other _ _ _ _ (by simp; omega))).setP p).setE 0).draw
end Go.Proofs.Ytjjndmhkigoifaa
