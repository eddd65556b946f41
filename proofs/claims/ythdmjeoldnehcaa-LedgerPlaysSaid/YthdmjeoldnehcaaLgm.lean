/- The walks of what a ledger's kinds of actions may and do, but for decisions: mayBegin, begin, mayVote, vote, decide, mayLearn, learn. Condition: the row lies at the pointer. -/
import Derived.Test.YthdmjeoldnehcaaLgw
import Derived.BigRegion
namespace Go.Proofs.Ythdmjeoldnehcaa
open Go.RowKit
set_option linter.unusedVariables false
set_option linter.unusedSimpArgs false

theorem or_is {a b : Nat} (ha : a < 256) (hb : b < 256) : bits BinOp.or IntKind.u8 (a : Int) (b : Int) = ((a ||| b : Nat) : Int) := by
  have hl : a ||| b < 256 := or_lt ha hb
  have e1 : IntKind.u8.bits = 8 := rfl
  have e2 : (BitVec.ofInt 8 (a : Int)).toNat = a := by rw [BitVec.toNat_ofInt]; omega
  have e3 : (BitVec.ofInt 8 (b : Int)).toNat = b := by rw [BitVec.toNat_ofInt]; omega
  simp only [bits]
  rw [e1, BitVec.toNat_or, e2, e3]
  exact IntWalk.u8_in _ (by omega)

/-- A row's cells lie at a place. -/
structure RwAt (W : World) (b o : Nat) (r : Rw) : Prop where
  t0 : W.cell? ⟨b, o, none⟩ = some (.int .i64 r.tx.c)
  t1 : W.cell? ⟨b, o + 1, none⟩ = some (.int .i64 r.tx.e)
  t2 : W.cell? ⟨b, o + 2, none⟩ = some (.int .i64 r.tx.s)
  c3 : W.cell? ⟨b, o + 3, none⟩ = some (.bool r.begun)
  c4 : W.cell? ⟨b, o + 4, none⟩ = some (.int .u8 (r.orgs : Int))
  c5 : W.cell? ⟨b, o + 5, none⟩ = some (.int .u8 (r.voted : Int))
  c6 : W.cell? ⟨b, o + 6, none⟩ = some (.int .u8 (r.yes : Int))
  c7 : W.cell? ⟨b, o + 7, none⟩ = some (.bool r.dec)
  c8 : W.cell? ⟨b, o + 8, none⟩ = some (.bool r.com)
  c9 : W.cell? ⟨b, o + 9, none⟩ = some (.int .u8 (r.learnt : Int))
  lt : b < W.heap.size
theorem RwAt.bel {W W' : World} {b o : Nat} {r : Rw} (h : RwAt W b o r) (hb : Below W.heap.size W W') : RwAt W' b o r := by
  have e : ∀ j, W'.cell? ⟨b, j, none⟩ = W.cell? ⟨b, j, none⟩ := fun j => hb.cell (p := ⟨b, j, none⟩) h.lt
  exact ⟨(e _).trans h.t0, (e _).trans h.t1, (e _).trans h.t2, (e _).trans h.c3, (e _).trans h.c4, (e _).trans h.c5, (e _).trans h.c6, (e _).trans h.c7, (e _).trans h.c8, (e _).trans h.c9, Nat.lt_of_lt_of_le h.lt hb.size⟩

/-- An action's cells lie at a block. -/
structure AcAt (W : World) (b : Nat) (a : Ac) : Prop where
  a0 : W.cell? ⟨b, 0, none⟩ = some (.int .u8 (a.kind : Int))
  a1 : W.cell? ⟨b, 1, none⟩ = some (.int .i64 a.tx.c)
  a2 : W.cell? ⟨b, 2, none⟩ = some (.int .i64 a.tx.e)
  a3 : W.cell? ⟨b, 3, none⟩ = some (.int .i64 a.tx.s)
  a4 : W.cell? ⟨b, 4, none⟩ = some (.int .i64 a.org)
  a5 : W.cell? ⟨b, 5, none⟩ = some (.bool a.yes)
  a6 : W.cell? ⟨b, 6, none⟩ = some (.int .u8 (a.orgs : Int))
  lt : b < W.heap.size
theorem AcAt.bel {W W' : World} {b : Nat} {a : Ac} (h : AcAt W b a) (hb : Below W.heap.size W W') : AcAt W' b a := by
  have e : ∀ j, W'.cell? ⟨b, j, none⟩ = W.cell? ⟨b, j, none⟩ := fun j => hb.cell (p := ⟨b, j, none⟩) h.lt
  exact ⟨(e _).trans h.a0, (e _).trans h.a1, (e _).trans h.a2, (e _).trans h.a3, (e _).trans h.a4, (e _).trans h.a5, (e _).trans h.a6, Nat.lt_of_lt_of_le h.lt hb.size⟩
theorem ac_box (w : World) (a : Ac) : AcAt (w.alloc (.cells a.cells.toArray 35 (0, 0))) w.heap.size a ∧ Below w.heap.size w (w.alloc (.cells a.cells.toArray 35 (0, 0))) := by
  have h := heap_alloc_new w (.cells a.cells.toArray 35 (0, 0))
  have hc : ∀ j x, a.cells[j]? = some x → (w.alloc (.cells a.cells.toArray 35 (0, 0))).cell? ⟨w.heap.size, j, none⟩ = some x := fun j x hx => by
    simp only [World.cell?, h]
    simpa using hx
  exact ⟨⟨hc 0 _ rfl, hc 1 _ rfl, hc 2 _ rfl, hc 3 _ rfl, hc 4 _ rfl, hc 5 _ rfl, hc 6 _ rfl, (Array.getElem?_eq_some_iff.1 h).1⟩, (Below.refl _ w).alloc (Nat.le_refl _) _⟩

theorem mayBegin_any (g : Value) (b o : Nat) (r : Rw) (a : Ac) (w : World) (h : RwAt w b o r) :
    Calls Try.prog 30 #[g, .pointer (some ⟨b, o, none⟩), .agg a.cells.toArray] w fun e w' => e = .returned (.bool (!r.begun && !r.dec)) ∧ Below w.heap.size w w' := by
  obtain ⟨kind, ⟨c, e, s⟩, org, yes, orgs⟩ := a
  simp only [Ac.cells]
  obtain ⟨⟨x0, x1, x2, x3, x4, x5, x6, xl⟩, bx⟩ := ac_box w ⟨kind, ⟨c, e, s⟩, org, yes, orgs⟩
  simp only [Ac.cells] at *
  have h2 := h.bel bx
  have HB := Lib.hid bx
  obtain ⟨t0, t1, t2, c3, c4, c5, c6, c7, c8, c9, lt⟩ := h2
  clear bx h
  obtain ⟨tx, b1, o1, v1, y1, d1, m1, l1⟩ := r
  simp only at *
  cases b1 <;> cases d1
  all_goals
    go_enter Try.func30, Try.ntmps30
    go_wp2_with fail
    go_ret
    exact ⟨rfl, HB.out⟩

theorem bit_is {k : Int} (h0 : 0 ≤ k) (h8 : k < 8) : (2 : Int) ^ k.toNat % 256 = (bitO k : Int) := by
  have hl := bitO_lt h0 h8
  have e2 : (2 ^ k.toNat : Int) = (bitO k : Int) := by unfold bitO; push_cast; omega
  rw [e2]
  omega
set_option maxHeartbeats 1000000 in
theorem mayVote_any (g : Value) (b o : Nat) (r : Rw) (a : Ac) (w : World) (h : RwAt w b o r) (h0 : 0 ≤ a.org) (h8 : a.org < 8) (l : r.orgs < 256 ∧ r.voted < 256 ∧ r.yes < 256 ∧ r.learnt < 256) :
    Calls Try.prog 32 #[g, .pointer (some ⟨b, o, none⟩), .agg a.cells.toArray] w fun e w' => e = .returned (.bool (r.begun && inS r.orgs a.org && !(inS r.voted a.org || inS r.learnt a.org))) ∧ Below w.heap.size w w' := by
  obtain ⟨kind, ⟨c, e, s⟩, org, yes, orgs⟩ := a
  simp only [Ac.cells]
  simp only at h0 h8
  obtain ⟨⟨x0, x1, x2, x3, x4, x5, x6, xl⟩, bx⟩ := ac_box w ⟨kind, ⟨c, e, s⟩, org, yes, orgs⟩
  simp only [Ac.cells] at *
  have h2 := h.bel bx
  have HB := Lib.hid bx
  obtain ⟨t0, t1, t2, c3, c4, c5, c6, c7, c8, c9, lt⟩ := h2
  clear bx h
  obtain ⟨tx, b1, o1, v1, y1, d1, m1, l1⟩ := r
  simp only at *
  have eo := or_is l.2.1 l.2.2.2
  have ei : inS (v1 ||| l1) org = (inS v1 org || inS l1 org) := by
    unfold inS
    rw [Nat.testBit_or]
    cases decide (0 ≤ org) <;> simp
  rw [← ei]
  have CI := fun W => in_any o1 l.1 org h0 (by omega) W
  have CJ := fun W => in_any (v1 ||| l1) (or_lt l.2.1 l.2.2.2) org h0 (by omega) W
  generalize inS o1 org = i1 at CI ⊢
  generalize inS (v1 ||| l1) org = i2 at CJ ⊢
  go_enter Try.func32, Try.ntmps32
  go_wp2_with fail
  generalize (w.alloc (.cells #[.int .u8 (kind : Int), .int .i64 c, .int .i64 e, .int .i64 s, .int .i64 org, .bool yes, .int .u8 (orgs : Int)] 35 (0, 0))) = w1 at *
  have QI := Lib.hid (fun n => calls_quiet (CI (w1.drewN n)) ⟨n, rfl⟩)
  have QJ := Lib.hid (fun n => calls_quiet (CJ (w1.drewN n)) ⟨n, rfl⟩)
  clear CI CJ
  cases b1
  · go_quiet (fail)
    go_wp2_with fail
    go_ret
    exact ⟨rfl, below_drewN HB.out _⟩
  cases i1
  · go_quiet (first | (go_at_call 41; with_reducible exact QI.out _) | (go_at_call 41; with_reducible exact QJ.out _))
    go_wp2_with fail
    go_ret
    exact ⟨rfl, below_drewN HB.out _⟩
  · go_quiet (first | (go_at_call 41; with_reducible exact QI.out _) | (go_at_call 41; with_reducible exact QJ.out _))
    go_wp2_with fail
    go_ret
    exact ⟨rfl, below_drewN HB.out _⟩

/-- Ten cells of a block, from o on; the others are as in cs0. -/
structure RowP (W : World) (b : Nat) (T : TypeId) (o : Nat) (cells : List Value) (cs0 : Array Value) : Prop where
  ex : ∃ cs : Array Value, W.heap[b]? = some (.cells cs T (0, 0)) ∧ cs.size = cs0.size ∧ (∀ j, j < 10 → cs[o + j]? = cells[j]?) ∧ ∀ i, (i < o ∨ o + 10 ≤ i) → cs[i]? = cs0[i]?
theorem RowP.set {W : World} {b : Nat} {T : TypeId} {o : Nat} {cells : List Value} {cs0 : Array Value} (h : RowP W b T o cells cs0) (hl : cells.length = 10) (j : Nat) (hj : j < 10) (v : Value) : RowP (W.setCell ⟨b, o + j, none⟩ v) b T o (cells.set j v) cs0 := by
  obtain ⟨cs, h1, h2, h3, h4⟩ := h
  refine ⟨cs.setIfInBounds (o + j) v, ?_, by simp [h2], fun i hi => ?_, fun i hi => ?_⟩
  · simp [World.setCell, Array.getElem?_modify, h1]
  · have h5 := h3 i hi
    rw [Array.getElem?_setIfInBounds, List.getElem?_set]
    have hs : o + i < cs.size := by
      have : (cells[i]?).isSome := by rw [List.getElem?_eq_getElem (by omega)]; rfl
      rw [← h5] at this
      obtain ⟨x, hx⟩ := Option.isSome_iff_exists.1 this
      exact (Array.getElem?_eq_some_iff.1 hx).1
    by_cases e : j = i
    · subst e
      rw [if_pos rfl, if_pos rfl, if_pos hs, if_pos (by omega)]
    · rw [if_neg (by omega), if_neg e, h5]
  · rw [Array.getElem?_setIfInBounds, if_neg (by omega), h4 i hi]
theorem RowP.same {W W' : World} {b : Nat} {T : TypeId} {o : Nat} {cells : List Value} {cs0 : Array Value} (h : RowP W b T o cells cs0) (hh : W'.heap[b]? = W.heap[b]?) : RowP W' b T o cells cs0 := by
  obtain ⟨cs, h1, h2⟩ := h
  exact ⟨cs, hh.trans h1, h2⟩
theorem RowP.cell {W : World} {b : Nat} {T : TypeId} {o : Nat} {cells : List Value} {cs0 : Array Value} (h : RowP W b T o cells cs0) (j : Nat) (hj : j < 10) (x : Value) (hx : cells[j]? = some x) : W.cell? ⟨b, o + j, none⟩ = some x := by
  obtain ⟨cs, h1, h2, h3, h4⟩ := h
  have := (h3 j hj).trans hx
  simp [World.cell?, h1, this]
theorem RowP.free {W : World} {b : Nat} {T : TypeId} {o : Nat} {cells : List Value} {cs0 : Array Value} (h : RowP W b T o cells cs0) (i : Nat) : W.frozen? ⟨b, i, none⟩ = false := by
  obtain ⟨cs, h1, h2, h3, h4⟩ := h
  simp [World.frozen?, h1]
theorem RowP.at {W : World} {b : Nat} {T : TypeId} {o : Nat} {r : Rw} {cs0 : Array Value} (h : RowP W b T o r.cells cs0) : RwAt W b o r := by
  refine ⟨h.cell 0 (by omega) _ rfl, h.cell 1 (by omega) _ rfl, h.cell 2 (by omega) _ rfl, h.cell 3 (by omega) _ rfl, h.cell 4 (by omega) _ rfl, h.cell 5 (by omega) _ rfl, h.cell 6 (by omega) _ rfl, h.cell 7 (by omega) _ rfl, h.cell 8 (by omega) _ rfl, h.cell 9 (by omega) _ rfl, ?_⟩
  obtain ⟨cs, h1, h2⟩ := h
  exact (Array.getElem?_eq_some_iff.1 h1).1
theorem grown_bel {w w' : World} {g : Option Nat} (h : Below w.heap.size w w') : w.grownBy w' g := ⟨h.os, h.tape, h.output, h.size, fun k hk _ => h.block k hk⟩
theorem grown_put (w : World) (g i : Nat) (u : Value) : w.grownBy (w.setCell ⟨g, i, none⟩ u) (some g) :=
  ⟨rfl, rfl, rfl, by simp [World.setCell], fun k _ hk => Below.heap_setCell _ _ _ _ (fun e => hk (by rw [e]))⟩
theorem grown_dr {w w' : World} {r : Option Nat} (h : w.grownBy w' r) (n : Nat) : w.grownBy (w'.drewN n) r := ⟨h.os, h.tape, h.output, h.size, h.block⟩

set_option maxHeartbeats 1000000 in
theorem begin_any (g : Value) (b o : Nat) (T : TypeId) (r : Rw) (a : Ac) (cs0 : Array Value) (w : World) (h : RowP w b T o r.cells cs0) (hk : a.kind = 1) :
    Calls Try.prog 31 #[g, .pointer (some ⟨b, o, none⟩), .agg a.cells.toArray] w fun e w' => e = .returned (.tuple #[]) ∧ RowP w' b T o (doIt r a).cells cs0 ∧ w.grownBy w' (some b) := by
  have hd : doIt r a = { r with begun := true, orgs := a.orgs } := by unfold doIt; rw [if_pos hk]
  rw [hd]
  obtain ⟨kind, ⟨c, e, s⟩, org, yes, orgs⟩ := a
  obtain ⟨⟨x0, x1, x2, x3, x4, x5, x6, xl⟩, bx⟩ := ac_box w ⟨kind, ⟨c, e, s⟩, org, yes, orgs⟩
  have hlt := h.at.lt
  have h2 := h.same (bx.block b hlt)
  simp only [Ac.cells] at *
  have fz := fun i => h2.free i
  obtain ⟨t0, t1, t2, c3, c4, c5, c6, c7, c8, c9, lt⟩ := h2.at
  have H2 := Lib.hid h2
  have G2 := Lib.hid (grown_bel (g := some b) bx)
  clear h h2 hd hk bx
  go_enter Try.func31, Try.ntmps31
  go_wp2_with fail
  generalize (w.alloc (.cells #[.int .u8 (kind : Int), .int .i64 c, .int .i64 e, .int .i64 s, .int .i64 org, .bool yes, .int .u8 (orgs : Int)] 35 (0, 0))) = w1 at *
  have nb : b ≠ w.heap.size := by omega
  go_region
  go_end0
  exact ⟨rfl, RowP.same ((H2.out.set rfl 3 (by omega) _).set rfl 4 (by omega) _) rfl, grown_dr ((G2.out.trans (grown_put _ _ _ _)).trans (grown_put _ _ _ _)) 1⟩

set_option maxHeartbeats 1000000 in
theorem decide_any (g : Value) (b o : Nat) (T : TypeId) (r : Rw) (a : Ac) (cs0 : Array Value) (w : World) (h : RowP w b T o r.cells cs0) (hk : a.kind = 3) :
    Calls Try.prog 35 #[g, .pointer (some ⟨b, o, none⟩), .agg a.cells.toArray] w fun e w' => e = .returned (.tuple #[]) ∧ RowP w' b T o (doIt r a).cells cs0 ∧ w.grownBy w' (some b) := by
  have hd : doIt r a = { r with dec := true, com := a.yes } := by unfold doIt; rw [if_neg (by omega), if_neg (by omega), if_pos hk]
  rw [hd]
  obtain ⟨kind, ⟨c, e, s⟩, org, yes, orgs⟩ := a
  obtain ⟨⟨x0, x1, x2, x3, x4, x5, x6, xl⟩, bx⟩ := ac_box w ⟨kind, ⟨c, e, s⟩, org, yes, orgs⟩
  have hlt := h.at.lt
  have h2 := h.same (bx.block b hlt)
  simp only [Ac.cells] at *
  have fz := fun i => h2.free i
  obtain ⟨t0, t1, t2, c3, c4, c5, c6, c7, c8, c9, lt⟩ := h2.at
  have H2 := Lib.hid h2
  have G2 := Lib.hid (grown_bel (g := some b) bx)
  clear h h2 hd hk bx
  go_enter Try.func35, Try.ntmps35
  go_wp2_with fail
  generalize (w.alloc (.cells #[.int .u8 (kind : Int), .int .i64 c, .int .i64 e, .int .i64 s, .int .i64 org, .bool yes, .int .u8 (orgs : Int)] 35 (0, 0))) = w1 at *
  have nb : b ≠ w.heap.size := by omega
  go_region
  go_end0
  exact ⟨rfl, RowP.same ((H2.out.set rfl 7 (by omega) _).set rfl 8 (by omega) _) rfl, grown_dr ((G2.out.trans (grown_put _ _ _ _)).trans (grown_put _ _ _ _)) 1⟩

set_option maxHeartbeats 1000000 in
theorem learn_any (g : Value) (b o : Nat) (T : TypeId) (r : Rw) (a : Ac) (cs0 : Array Value) (w : World) (h : RowP w b T o r.cells cs0) (hk : a.kind = 4) (h0 : 0 ≤ a.org) (h8 : a.org < 8) (l : r.learnt < 256) :
    Calls Try.prog 37 #[g, .pointer (some ⟨b, o, none⟩), .agg a.cells.toArray] w fun e w' => e = .returned (.tuple #[]) ∧ RowP w' b T o (doIt r a).cells cs0 ∧ w.grownBy w' (some b) := by
  have hd : doIt r a = { r with learnt := r.learnt ||| bitO a.org } := by unfold doIt; rw [if_neg (by omega), if_neg (by omega), if_neg (by omega)]
  rw [hd]
  obtain ⟨kind, ⟨c, e, s⟩, org, yes, orgs⟩ := a
  obtain ⟨⟨x0, x1, x2, x3, x4, x5, x6, xl⟩, bx⟩ := ac_box w ⟨kind, ⟨c, e, s⟩, org, yes, orgs⟩
  have hlt := h.at.lt
  have h2 := h.same (bx.block b hlt)
  simp only [Ac.cells] at *
  have fz := fun i => h2.free i
  obtain ⟨t0, t1, t2, c3, c4, c5, c6, c7, c8, c9, lt⟩ := h2.at
  have H2 := Lib.hid h2
  have G2 := Lib.hid (grown_bel (g := some b) bx)
  have eo := or_is l (bitO_lt h0 h8)
  rw [← bit_is h0 h8] at eo
  clear h h2 hd hk bx
  go_enter Try.func37, Try.ntmps37
  go_wp2_with fail
  generalize (w.alloc (.cells #[.int .u8 (kind : Int), .int .i64 c, .int .i64 e, .int .i64 s, .int .i64 org, .bool yes, .int .u8 (orgs : Int)] 35 (0, 0))) = w1 at *
  have nb : b ≠ w.heap.size := by omega
  go_region
  go_end0
  exact ⟨rfl, RowP.same (H2.out.set rfl 9 (by omega) _) rfl, grown_dr (G2.out.trans (grown_put _ _ _ _)) 1⟩

set_option maxHeartbeats 1000000 in
theorem vote_any (g : Value) (b o : Nat) (T : TypeId) (r : Rw) (a : Ac) (cs0 : Array Value) (w : World) (h : RowP w b T o r.cells cs0) (hk : a.kind = 2) (h0 : 0 ≤ a.org) (h8 : a.org < 8) (l : r.voted < 256) (ly : r.yes < 256) :
    Calls Try.prog 33 #[g, .pointer (some ⟨b, o, none⟩), .agg a.cells.toArray] w fun e w' => e = .returned (.tuple #[]) ∧ RowP w' b T o (doIt r a).cells cs0 ∧ w.grownBy w' (some b) := by
  have hd : doIt r a = { r with voted := r.voted ||| bitO a.org, yes := if a.yes then r.yes ||| bitO a.org else r.yes } := by unfold doIt; rw [if_neg (by omega), if_pos hk]
  rw [hd]
  obtain ⟨kind, ⟨c, e, s⟩, org, yes, orgs⟩ := a
  obtain ⟨⟨x0, x1, x2, x3, x4, x5, x6, xl⟩, bx⟩ := ac_box w ⟨kind, ⟨c, e, s⟩, org, yes, orgs⟩
  have hlt := h.at.lt
  have h2 := h.same (bx.block b hlt)
  simp only [Ac.cells] at *
  have fz := fun i => h2.free i
  obtain ⟨t0, t1, t2, c3, c4, c5, c6, c7, c8, c9, lt⟩ := h2.at
  have H2 := Lib.hid h2
  have G2 := Lib.hid (grown_bel (g := some b) bx)
  have eo := or_is l (bitO_lt h0 h8)
  have ey := or_is ly (bitO_lt h0 h8)
  rw [← bit_is h0 h8] at eo ey
  clear h h2 hd hk bx
  go_enter Try.func33, Try.ntmps33
  go_wp2_with fail
  generalize (w.alloc (.cells #[.int .u8 (kind : Int), .int .i64 c, .int .i64 e, .int .i64 s, .int .i64 org, .bool yes, .int .u8 (orgs : Int)] 35 (0, 0))) = w1 at *
  have nb : b ≠ w.heap.size := by omega
  cases yes
  · go_region
    go_wp2_with fail
    go_end0
    exact ⟨rfl, RowP.same (H2.out.set rfl 5 (by omega) _) rfl, grown_dr (G2.out.trans (grown_put _ _ _ _)) 1⟩
  · go_region
    go_wp2_with fail
    go_region
    go_end0
    exact ⟨rfl, RowP.same ((H2.out.set rfl 5 (by omega) _).set rfl 6 (by omega) _) rfl, grown_dr ((G2.out.trans (grown_put _ _ _ _)).trans (grown_put _ _ _ _)) 2⟩

set_option maxHeartbeats 4000000 in
theorem mayLearn_any (g : Value) (b o : Nat) (r : Rw) (a : Ac) (w : World) (h : RwAt w b o r) (h0 : 0 ≤ a.org) (h8 : a.org < 8) (l : r.orgs < 256 ∧ r.voted < 256 ∧ r.yes < 256 ∧ r.learnt < 256) :
    Calls Try.prog 36 #[g, .pointer (some ⟨b, o, none⟩), .agg a.cells.toArray] w fun e w' => e = .returned (.bool (r.dec && (r.com == a.yes) && !inS r.learnt a.org && (!r.begun || inS r.orgs a.org) && (!a.yes || inS r.yes a.org))) ∧ Below w.heap.size w w' := by
  obtain ⟨kind, ⟨c, e, s⟩, org, yes, orgs⟩ := a
  simp only [Ac.cells]
  simp only at h0 h8
  obtain ⟨⟨x0, x1, x2, x3, x4, x5, x6, xl⟩, bx⟩ := ac_box w ⟨kind, ⟨c, e, s⟩, org, yes, orgs⟩
  simp only [Ac.cells] at *
  have h2 := h.bel bx
  have HB := Lib.hid bx
  obtain ⟨t0, t1, t2, c3, c4, c5, c6, c7, c8, c9, lt⟩ := h2
  clear bx h
  obtain ⟨tx, b1, o1, v1, y1, d1, m1, l1⟩ := r
  simp only at *
  have CI := fun W => in_any l1 l.2.2.2 org h0 (by omega) W
  have CJ := fun W => in_any o1 l.1 org h0 (by omega) W
  have CK := fun W => in_any y1 l.2.2.1 org h0 (by omega) W
  generalize inS l1 org = i1 at CI ⊢
  generalize inS o1 org = i2 at CJ ⊢
  generalize inS y1 org = i3 at CK ⊢
  go_enter Try.func36, Try.ntmps36
  go_wp2_with fail
  generalize (w.alloc (.cells #[.int .u8 (kind : Int), .int .i64 c, .int .i64 e, .int .i64 s, .int .i64 org, .bool yes, .int .u8 (orgs : Int)] 35 (0, 0))) = w1 at *
  have QI := Lib.hid (fun n => calls_quiet (CI (w1.drewN n)) ⟨n, rfl⟩)
  have QJ := Lib.hid (fun n => calls_quiet (CJ (w1.drewN n)) ⟨n, rfl⟩)
  have QK := Lib.hid (fun n => calls_quiet (CK (w1.drewN n)) ⟨n, rfl⟩)
  clear CI CJ CK
  cases d1
  · go_quiet (fail)
    go_wp2_with fail
    go_ret
    exact ⟨rfl, below_drewN HB.out _⟩
  by_cases hm : (m1 == yes) = false
  · cases m1 <;> cases yes <;> first | (exfalso; revert hm; decide) | skip
    all_goals
      go_quiet (fail)
      go_wp2_with fail
      go_ret
      exact ⟨rfl, below_drewN HB.out _⟩
  obtain rfl : m1 = yes := by cases m1 <;> cases yes <;> first | rfl | (exfalso; exact hm rfl)
  clear hm
  cases i1
  · cases m1
    · cases b1
      · go_quiet (first | (go_at_call 41; with_reducible exact QI.out _) | (go_at_call 41; with_reducible exact QJ.out _) | (go_at_call 41; with_reducible exact QK.out _))
        go_wp2_with fail
        go_ret
        exact ⟨rfl, below_drewN HB.out _⟩
      · cases i2
        all_goals
          go_quiet (first | (go_at_call 41; with_reducible exact QI.out _) | (go_at_call 41; with_reducible exact QJ.out _) | (go_at_call 41; with_reducible exact QK.out _))
          go_wp2_with fail
          go_ret
          exact ⟨rfl, below_drewN HB.out _⟩
    · cases b1
      · cases i3
        all_goals
          go_quiet (first | (go_at_call 41; with_reducible exact QI.out _) | (go_at_call 41; with_reducible exact QJ.out _) | (go_at_call 41; with_reducible exact QK.out _))
          go_wp2_with fail
          go_ret
          exact ⟨rfl, below_drewN HB.out _⟩
      · cases i2
        · go_quiet (first | (go_at_call 41; with_reducible exact QI.out _) | (go_at_call 41; with_reducible exact QJ.out _) | (go_at_call 41; with_reducible exact QK.out _))
          go_wp2_with fail
          go_ret
          exact ⟨rfl, below_drewN HB.out _⟩
        · cases i3
          all_goals
            go_quiet (first | (go_at_call 41; with_reducible exact QI.out _) | (go_at_call 41; with_reducible exact QJ.out _) | (go_at_call 41; with_reducible exact QK.out _))
            go_wp2_with fail
            go_ret
            exact ⟨rfl, below_drewN HB.out _⟩
  · cases m1
    all_goals
      go_quiet (first | (go_at_call 41; with_reducible exact QI.out _) | (go_at_call 41; with_reducible exact QJ.out _) | (go_at_call 41; with_reducible exact QK.out _))
      go_wp2_with fail
      go_ret
      exact ⟨rfl, below_drewN HB.out _⟩
end Go.Proofs.Ythdmjeoldnehcaa
