/- The ledger's memory: its pointer, its rows, its map; what another world must have kept. No walk. Condition: none. -/
import Derived.Test.YthdmjeoldnehcaaLgo
import Derived.Deep.MidRow
namespace Go.Proofs.Ythdmjeoldnehcaa
open Go.RowKit
set_option linter.unusedVariables false
set_option linter.unusedSimpArgs false

/-- What a store of a whole struct leaves: the block holds the cells, all else is as it was. -/
structure Put (w W : World) (g : Nat) (cs : Array Value) (t : TypeId) : Prop where
  os : W.os = w.os
  tape : W.tape = w.tape
  output : W.output = w.output
  size : W.heap.size = w.heap.size
  block : ∀ k, k ≠ g → W.heap[k]? = w.heap[k]?
  here : W.heap[g]? = some (.cells cs t (0, 0))
theorem wpList_store_put {P : Program} {ops : Array Oper} {rest : List Oper} {o : Oper} {a : Act} {w : World} {Q : Exit → Act → World → Prop} (hgd : o.guard = none) (ty : TypeId) (x y : Operand) (ho : o.op = .store ty x y)
    (g : Nat) (cells : Array Value) (hx : a.eval x = .pointer (some ⟨g, 0, none⟩)) (hy : a.eval y = .agg cells)
    (t : TypeId) (old : Array Value) (hg : w.heap[g]? = some (.cells old t (0, 0))) (hi : (P.info? ty).map (·.size) = some cells.size)
    (hold : old.size = cells.size) (h1 : cells.all (·.oneCell') = true)
    (h : ∀ W, Put w W g cells t → wpList P ops Q rest (a.put o.dst undef) W) : wpList P ops Q (o :: rest) a w :=
  wpList_store_row hgd ty x y ho g cells hx hy t old hg hi hold h1
    (h _ ⟨rfl, rfl, rfl, by simp, fun k hk => setRow_other w g k cells hk, setRow_heap w g old cells t (0, 0) hg⟩)
theorem Put.below {w w1 W : World} {g : Nat} {cs : Array Value} {t : TypeId} (h : Put w1 W g cs t) {B : Nat} (hb : Below B w w1) (hg : B ≤ g) : Below B w W :=
  ⟨h.os.trans hb.os, h.tape.trans hb.tape, h.output.trans hb.output, by rw [h.size]; exact hb.size, fun k hk => (h.block k (by omega)).trans (hb.block k hk)⟩

/-- Only blocks of P are changed. -/
structure Chg (P : Nat → Prop) (w W : World) : Prop where
  os : W.os = w.os
  tape : W.tape = w.tape
  output : W.output = w.output
  size : w.heap.size ≤ W.heap.size
  block : ∀ k, k < w.heap.size → ¬ P k → W.heap[k]? = w.heap[k]?
theorem Chg.refl (P : Nat → Prop) (w : World) : Chg P w w := ⟨rfl, rfl, rfl, Nat.le_refl _, fun _ _ _ => rfl⟩
theorem Chg.of_below {P : Nat → Prop} {w W : World} (h : Below w.heap.size w W) : Chg P w W := ⟨h.os, h.tape, h.output, h.size, fun k hk _ => h.block k hk⟩
theorem Chg.trans {P Q : Nat → Prop} {a b c : World} (h : Chg P a b) (k : Chg Q b c) (hq : ∀ n, n < a.heap.size → Q n → P n) : Chg P a c :=
  ⟨k.os.trans h.os, k.tape.trans h.tape, k.output.trans h.output, Nat.le_trans h.size k.size, fun n hn hp => (k.block n (Nat.lt_of_lt_of_le hn h.size) (fun q => hp (hq n hn q))).trans (h.block n hn hp)⟩
theorem Chg.below {P : Nat → Prop} {B : Nat} {w0 a b : World} (h : Chg P a b) (hb : Below B w0 a) (hB : B ≤ a.heap.size) (hp : ∀ n, P n → B ≤ n) : Below B w0 b :=
  ⟨h.os.trans hb.os, h.tape.trans hb.tape, h.output.trans hb.output, Nat.le_trans hb.size h.size, fun k hk => (h.block k (by omega) (fun q => by have := hp k q; omega)).trans (hb.block k hk)⟩
theorem Chg.of_grown {P : Nat → Prop} {row : Option Nat} {w W : World} (h : w.grownBy W row) (hp : ∀ k, row = some k → P k) : Chg P w W :=
  ⟨h.os, h.tape, h.output, h.size, fun k hk hn => h.block k hk (fun e => hn (hp k e.symm))⟩
theorem Chg.drewN {P : Nat → Prop} {w W : World} (h : Chg P w W) (n : Nat) : Chg P w (W.drewN n) := ⟨h.os, h.tape, h.output, h.size, h.block⟩

def flat (rows : List Rw) : List Value := rows.flatMap Rw.cells
theorem cells_len (r : Rw) : r.cells.length = 10 := rfl
theorem flat_len : ∀ rows : List Rw, (flat rows).length = rows.length * 10
  | [] => rfl
  | r :: rows => by
    show (r.cells ++ flat rows).length = _
    rw [List.length_append, flat_len rows, cells_len, List.length_cons]
    omega
theorem flat_cons (r : Rw) (rows : List Rw) : flat (r :: rows) = r.cells ++ flat rows := rfl
theorem flat_app (a b : List Rw) : flat (a ++ b) = flat a ++ flat b := by simp [flat]
theorem flat_at : ∀ (rows : List Rw) (k : Nat) (h : k < rows.length) (j : Nat), j < 10 → (flat rows)[k * 10 + j]? = (rows[k]).cells[j]?
  | [], k, h, _, _ => by simp at h
  | r :: rows, 0, h, j, hj => by
    rw [flat_cons, List.getElem?_append_left (by rw [cells_len]; omega)]
    simp
  | r :: rows, k + 1, h, j, hj => by
    rw [flat_cons, List.getElem?_append_right (by rw [cells_len]; omega), cells_len, show (k + 1) * 10 + j - 10 = k * 10 + j by omega]
    exact flat_at rows k (by simpa using h) j hj
theorem flat_set : ∀ (rows : List Rw) (k : Nat) (r : Rw) (h : k < rows.length) (i : Nat), (flat (rows.set k r))[i]? = if k * 10 ≤ i ∧ i < k * 10 + 10 then r.cells[i - k * 10]? else (flat rows)[i]?
  | [], k, r, h, _ => by simp at h
  | q :: rows, 0, r, h, i => by
    simp only [List.set_cons_zero, flat_cons]
    by_cases hi : i < 10
    · rw [if_pos (by omega), List.getElem?_append_left (by rw [cells_len]; omega)]
      simp
    · rw [if_neg (by omega), List.getElem?_append_right (by rw [cells_len]; omega), List.getElem?_append_right (by rw [cells_len]; omega), cells_len, cells_len]
  | q :: rows, k + 1, r, h, i => by
    simp only [List.set_cons_succ, flat_cons]
    by_cases hi : i < 10
    · rw [if_neg (by omega), List.getElem?_append_left (by rw [cells_len]; omega), List.getElem?_append_left (by rw [cells_len]; omega)]
    · rw [List.getElem?_append_right (by rw [cells_len]; omega), List.getElem?_append_right (by rw [cells_len]; omega), cells_len, flat_set rows k r (by simpa using h) (i - 10)]
      by_cases h2 : (k + 1) * 10 ≤ i ∧ i < (k + 1) * 10 + 10
      · rw [if_pos h2, if_pos (by omega)]; congr 1; omega
      · rw [if_neg h2, if_neg (by omega)]
theorem flat_one (rows : List Rw) : ∀ u ∈ flat rows, u.oneCell' = true := by
  intro u hu
  unfold flat at hu
  rw [List.mem_flatMap] at hu
  obtain ⟨r, _, hr⟩ := hu
  simp only [Rw.cells, List.mem_cons, List.not_mem_nil, or_false] at hr
  rcases hr with rfl | rfl | rfl | rfl | rfl | rfl | rfl | rfl | rfl | rfl <;> rfl
theorem size_rw (r : Rw) : (Try.prog.info? 43).map (·.size) = some r.cells.toArray.size := by
  show _ = some 10
  kernel_rfl
theorem one_rw (r : Rw) : r.cells.toArray.all (·.oneCell') = true := by simp [Rw.cells, Value.oneCell']

/-- A ledger: bad ones, rows. -/
structure Lg (W : World) (B g mb : Nat) (sl : Value) (bad : Nat) (rows : List Rw) : Prop where
  top : W.heap[g]? = some (.cells #[.int .u8 (bad : Int), sl, .map (some mb)] 53 (0, 0))
  own : W.ownsRow B 43 10 sl rows.length (flat rows)
  map : W.heap[mb]? = some (.map (ents rows) rows.length)
  bg : B ≤ g
  bm : B ≤ mb
  ngm : g ≠ mb
  ng : sl.ownBlock ≠ some g
  nm : sl.ownBlock ≠ some mb
  sd : ∀ r ∈ rows, Sound bad r
/-- Its blocks. -/
def Bl (g mb : Nat) (sl : Value) (k : Nat) : Prop := k = g ∨ k = mb ∨ sl.ownBlock = some k
theorem Lg.bl_le {W : World} {B g mb : Nat} {sl : Value} {bad : Nat} {rows : List Rw} (h : Lg W B g mb sl bad rows) (k : Nat) (hk : Bl g mb sl k) : B ≤ k := by
  rcases hk with rfl | rfl | e
  · exact h.bg
  · exact h.bm
  · rcases h.own.2 with ⟨rfl, _⟩ | ⟨b, cap, cur, rfl, hB, _⟩
    · cases e
    · simp only [Value.ownBlock, Option.some.injEq] at e
      omega
theorem lt_of_heap {W : World} {k : Nat} {o : Obj} (h : W.heap[k]? = some o) : k < W.heap.size := (Array.getElem?_eq_some_iff.1 h).1
theorem Lg.bl_lt {W : World} {B g mb : Nat} {sl : Value} {bad : Nat} {rows : List Rw} (h : Lg W B g mb sl bad rows) (k : Nat) (hk : Bl g mb sl k) : k < W.heap.size := by
  rcases hk with rfl | rfl | e
  · exact lt_of_heap h.top
  · exact lt_of_heap h.map
  · rcases h.own.2 with ⟨rfl, _⟩ | ⟨b, cap, cur, rfl, hB, h1, _⟩
    · cases e
    · simp only [Value.ownBlock, Option.some.injEq] at e
      subst e
      exact lt_of_heap h1
theorem ownsRow_same {W W' : World} {B : Nat} {e : TypeId} {s n : Nat} {v : Value} {xs : List Value} (h : W.ownsRow B e s v n xs) (hb : ∀ k, v.ownBlock = some k → W'.heap[k]? = W.heap[k]?) : W'.ownsRow B e s v n xs := by
  refine ⟨h.1, h.2.imp id ?_⟩
  rintro ⟨g, cap, cur, rfl, h1, h2, h3⟩
  exact ⟨g, cap, cur, rfl, h1, (hb g rfl).trans h2, h3⟩
theorem Lg.same {W W' : World} {B g mb : Nat} {sl : Value} {bad : Nat} {rows : List Rw} (h : Lg W B g mb sl bad rows) (hb : ∀ k, Bl g mb sl k → W'.heap[k]? = W.heap[k]?) : Lg W' B g mb sl bad rows :=
  ⟨(hb g (.inl rfl)).trans h.top, ownsRow_same h.own (fun k hk => hb k (.inr (.inr hk))), (hb mb (.inr (.inl rfl))).trans h.map, h.bg, h.bm, h.ngm, h.ng, h.nm, h.sd⟩
theorem Lg.bel {W W' : World} {B g mb : Nat} {sl : Value} {bad : Nat} {rows : List Rw} (h : Lg W B g mb sl bad rows) (hb : Below W.heap.size W W') : Lg W' B g mb sl bad rows :=
  h.same fun k hk => hb.block k (h.bl_lt k hk)
theorem Lg.chg {P : Nat → Prop} {W W' : World} {B g mb : Nat} {sl : Value} {bad : Nat} {rows : List Rw} (h : Lg W B g mb sl bad rows) (hc : Chg P W W') (hp : ∀ k, Bl g mb sl k → ¬ P k) : Lg W' B g mb sl bad rows :=
  h.same fun k hk => hc.block k (h.bl_lt k hk) (hp k hk)
theorem Lg.mono {W : World} {B B' g mb : Nat} {sl : Value} {bad : Nat} {rows : List Rw} (h : Lg W B g mb sl bad rows) (hB : B' ≤ B) : Lg W B' g mb sl bad rows :=
  ⟨h.top, ⟨h.own.1, h.own.2.imp id fun ⟨g, cap, cur, e, h1, h2⟩ => ⟨g, cap, cur, e, by omega, h2⟩⟩, h.map, Nat.le_trans hB h.bg, Nat.le_trans hB h.bm, h.ngm, h.ng, h.nm, h.sd⟩
/-- The k-th row of an own slice. -/
theorem own_row {W : World} {B : Nat} {sl : Value} {rows : List Rw} (h : W.ownsRow B 43 10 sl rows.length (flat rows)) {k : Nat} (hk : k < rows.length) :
    ∃ rb cap, sl = .slice (some ⟨rb, 0, none⟩) rows.length cap ∧ sl.ownBlock = some rb ∧ rb < W.heap.size ∧ B ≤ rb ∧ ∀ k (hk : k < rows.length), W.rangeAt rb (k * 10) (rows[k]).cells := by
  rcases h.2 with ⟨_, h0⟩ | ⟨g, cap, cur, rfl, h1, h2, h3, h4, h5, h6⟩
  · omega
  · refine ⟨g, cap, rfl, rfl, lt_of_heap h2, h1, fun k hk j v hv => ?_⟩
    have hj : j < 10 := by
      have := (List.getElem?_eq_some_iff.1 hv).1
      rwa [cells_len] at this
    have e := flat_at rows k hk j hj
    rw [← h6, hv, List.getElem?_take_of_lt (by omega)] at e
    simp only [World.cell?, h2]
    simpa using e
end Go.Proofs.Ythdmjeoldnehcaa
