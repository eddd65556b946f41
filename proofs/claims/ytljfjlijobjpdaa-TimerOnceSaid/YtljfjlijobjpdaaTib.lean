/- The timers' memory: a map of stamps; a block of structs; what a call may change. No walk. Condition: none. -/
import Derived.Test.YtljfjlijobjpdaaTia
import Derived.Test.YtljfjlijobjpdaaRng
import Derived.MapKept
import Derived.Deep.MidRow
namespace Go.Proofs.Ytljfjlijobjpdaa
open Go.RowKit
set_option linter.unusedVariables false
set_option linter.unusedSimpArgs false

/-! ### A map of stamps -/
def stV (v : Int × Nat) : Value := .agg #[.int .i64 v.1, .int .i64 (v.2 : Int)]
def kvE (x : MapEntry) : Value × Value := (x.key, x.val)
def kvM (e : List UInt8 × Int × Nat) : Value × Value := (str e.1, stV e.2)
def MapS (W : World) (mb : Nat) (M : Mp) : Prop := ∃ es clock, W.heap[mb]? = some (.map es clock) ∧ es.toList.map kvE = M.map kvM
theorem str_beq (a b : List UInt8) : ((⟨a.toArray⟩ : ByteArray) == ⟨b.toArray⟩) = decide (a = b) := by
  by_cases h : a = b
  · subst h
    rw [decide_eq_true rfl]
    exact (MapKept.bytes_beq _ _).2 rfl
  · have : ¬ ((⟨a.toArray⟩ : ByteArray) = ⟨b.toArray⟩) := fun q => h (by
      have := congrArg (fun x : ByteArray => x.data.toList) q
      simpa using this)
    rw [decide_eq_false h]
    exact Bool.eq_false_iff.2 fun q => this ((MapKept.bytes_beq _ _).1 q)
theorem find_st (k : List UInt8) (a : Int) (n : Nat) : ∀ (es : List MapEntry) (M : Mp) (i : Nat), es.map kvE = M.map kvM →
    (lookM k M = none ∧ Instr.findNow .string (str k) es i = some none ∧ putM k a n M = M ++ [(k, a, n)] ∧ delM k M = M) ∨
    (∃ v j x, lookM k M = some v ∧ Instr.findNow .string (str k) es i = some (some (i + j, stV v)) ∧ es[j]? = some x ∧ x.key = str k ∧ (es.modify j fun e => { e with key := str k, val := stV (a, n) }).map kvE = (putM k a n M).map kvM ∧ (es.eraseIdx j).map kvE = (delM k M).map kvM)
  | [], [], i, h => .inl ⟨rfl, rfl, rfl, rfl⟩
  | [], e :: M, i, h => by simp at h
  | x :: es, [], i, h => by simp at h
  | x :: es, e :: M, i, h => by
    simp only [List.map_cons, List.cons.injEq] at h
    obtain ⟨h1, h2⟩ := h
    have hk : x.key = str e.1 := congrArg Prod.fst h1
    have hv : x.val = stV e.2 := congrArg Prod.snd h1
    have hs : Instr.sameNow .string (str k) x.key = some (decide (k = e.1)) := by
      rw [hk]
      show some _ = some _
      rw [str_beq]
    by_cases q : e.1 = k
    · refine .inr ⟨e.2, 0, x, by rw [lookM, if_pos q], ?_, rfl, by rw [hk, q], ?_, ?_⟩
      · rw [Instr.findNow, hs, decide_eq_true q.symm, hv]; rfl
      · rw [putM, if_pos q]
        simp only [List.modify_zero_cons, List.map_cons, h2]
        rfl
      · rw [delM, if_pos q]
        simpa using h2
    · rcases find_st k a n es M (i + 1) h2 with ⟨f1, f2, f3, f4⟩ | ⟨v, j, y, f1, f2, f3, f4, f5, f6⟩
      · refine .inl ⟨by rw [lookM, if_neg q]; exact f1, ?_, by rw [putM, if_neg q, f3]; rfl, by rw [delM, if_neg q, f4]⟩
        rw [Instr.findNow, hs, decide_eq_false (fun r => q r.symm)]
        exact f2
      · refine .inr ⟨v, j + 1, y, by rw [lookM, if_neg q]; exact f1, ?_, f3, f4, ?_, ?_⟩
        · rw [Instr.findNow, hs, decide_eq_false (fun r => q r.symm), show i + (j + 1) = i + 1 + j by omega]
          exact f2
        · rw [putM, if_neg q]
          simp only [List.modify_succ_cons, List.map_cons, f5, h1]
        · rw [delM, if_neg q]
          simp only [List.eraseIdx_cons_succ, List.map_cons, f6, h1]
theorem check_str (b : Bool) (k : List UInt8) (W : World) : (Instr.checkKey b 10000 9 (str k)).run Try.prog W = .ok () W := MapKept.run_checkKey (d := .string) Try.underlying9 (by simp [MapKept.IsKey]) b 9999
theorem find_key {es : List MapEntry} {k : List UInt8} {r : Option (Nat × Value)} (h : Instr.findNow .string (str k) es 0 = some r) (W : World) : (Instr.findKey 9 (str k) es).run Try.prog W = .ok r W := MapKept.run_findKey (d := .string) Try.underlying9 h
theorem zero_st (W : World) : (zeroValue 44).run Try.prog W = .ok (stV (0, 0)) W := by
  unfold stV
  go_simp
theorem MapS.same {W W' : World} {mb : Nat} {M : Mp} (h : MapS W mb M) (e : W'.heap[mb]? = W.heap[mb]?) : MapS W' mb M := by
  obtain ⟨es, c, h1, h2⟩ := h
  exact ⟨es, c, e.trans h1, h2⟩
theorem MapS.lt {W : World} {mb : Nat} {M : Mp} (h : MapS W mb M) : mb < W.heap.size := by
  obtain ⟨es, c, h1, h2⟩ := h
  exact (Array.getElem?_eq_some_iff.1 h1).1
/-- What a look gives: the stamp, and whether there is one. -/
def lkV (o : Option (Int × Nat)) : Value := stV (o.getD (0, 0))
theorem run_look {W : World} {mb : Nat} {M : Mp} (h : MapS W mb M) (k : List UInt8) (c : Bool) :
    (Instr.lookup 40 (.map (some mb)) (str k) c).run Try.prog W = .ok (if c then .tuple #[lkV (lookM k M), .bool (lookM k M).isSome] else lkV (lookM k M)) W := by
  obtain ⟨es, cl, h1, h2⟩ := h
  unfold Instr.lookup
  rcases find_st k 0 0 es.toList M 0 h2 with ⟨f1, f2, _, _⟩ | ⟨v, j, x, f1, f2, _⟩
  · simp only [Sem.run_bind, run_underlying Try.underlying40, Result.andThen_ok, MapKept.run_getObj_map h1, Sem.run_pure, check_str, find_key f2, zero_st, f1]
    rfl
  · simp only [Sem.run_bind, run_underlying Try.underlying40, Result.andThen_ok, MapKept.run_getObj_map h1, Sem.run_pure, check_str, find_key f2, f1]
    rfl
theorem heap_putS {W : World} {mb : Nat} {o o' : Obj} (h : W.heap[mb]? = some o) : (W.putObj mb o').heap[mb]? = some o' := World.putObj_heap_same (Array.getElem?_eq_some_iff.1 h).1
theorem run_put {W : World} {mb : Nat} {M : Mp} (h : MapS W mb M) (k : List UInt8) (a : Int) (n : Nat) :
    ∃ o, (Instr.mapUpdate 40 (.map (some mb)) (str k) (.agg #[.int .i64 a, .int .i64 (n : Int)])).run Try.prog W = .ok () (W.putObj mb o) ∧ MapS (W.putObj mb o) mb (putM k a n M) := by
  obtain ⟨es, cl, h1, h2⟩ := h
  rcases find_st k a n es.toList M 0 h2 with ⟨f1, f2, f3, _⟩ | ⟨v, j, x, f1, f2, f3, f4, f5, _⟩
  · refine ⟨.map (es.push { key := str k, val := stV (a, n), born := cl }) (cl + 1), ?_, _, _, heap_putS h1, ?_⟩
    · unfold Instr.mapUpdate
      simp only [Sem.run_bind, run_underlying Try.underlying40, Result.andThen_ok, MapKept.run_getObj_map h1, check_str, find_key f2, MapKept.run_setObj_map _ h1]
      rfl
    · rw [Array.toList_push, List.map_append, f3, List.map_append, h2]
      rfl
  · rw [Nat.zero_add] at f2
    refine ⟨.map (es.modify j fun e => { e with key := str k, val := stV (a, n) }) cl, ?_, _, _, heap_putS h1, ?_⟩
    · have hj : es[j]? = some x := by simpa using f3
      have hkk : (((es[j]?).map (·.key)).getD (str k)) = str k := by rw [hj]; simp [f4]
      unfold Instr.mapUpdate
      simp only [Sem.run_bind, run_underlying Try.underlying40, Result.andThen_ok, MapKept.run_getObj_map h1, check_str, find_key f2, hkk, MapKept.run_keyThatStays (d := .string) (k := str k) (by simp [MapKept.IsKey]), MapKept.run_setObj_map _ h1]
      rfl
    · rw [Array.toList_modify]
      exact f5
theorem run_del {W : World} {mb : Nat} {M : Mp} (h : MapS W mb M) (k : List UInt8) (ty : TypeId) :
    ∃ o, (Builtin.delete_ #[40, 9] ty #[.map (some mb), str k]).run Try.prog W = .ok (.tuple #[]) (W.putObj mb o) ∧ MapS (W.putObj mb o) mb (delM k M) := by
  obtain ⟨es, cl, h1, h2⟩ := h
  rcases find_st k 0 0 es.toList M 0 h2 with ⟨f1, f2, _, f3⟩ | ⟨v, j, x, f1, f2, f3, f4, _, f6⟩
  · refine ⟨.map es cl, ?_, _, _, heap_putS h1, by rw [f3]; exact h2⟩
    simp [Builtin.delete_, run_underlying Try.underlying40, MapKept.run_getObj_map h1, check_str, find_key f2, MapKept.run_setObj_map _ h1, Result.andThen]
    rfl
  · rw [Nat.zero_add] at f2
    refine ⟨.map (es.eraseIdxIfInBounds j) cl, ?_, _, _, heap_putS h1, ?_⟩
    · simp [Builtin.delete_, run_underlying Try.underlying40, MapKept.run_getObj_map h1, check_str, find_key f2, MapKept.run_setObj_map _ h1, Result.andThen]
      rfl
    · have hjl : j < es.size := by
        have := (List.getElem?_eq_some_iff.1 f3).1
        simpa using this
      have : (es.eraseIdxIfInBounds j).toList = es.toList.eraseIdx j := by
        unfold Array.eraseIdxIfInBounds
        rw [dif_pos hjl, Array.toList_eraseIdx]
      rw [this]
      exact f6
theorem run_len {W : World} {mb : Nat} {M : Mp} (h : MapS W mb M) (ty : TypeId) : (Builtin.len_ #[40] ty #[.map (some mb)]).run Try.prog W = .ok (.int .i64 (M.length : Int)) W := by
  obtain ⟨es, cl, h1, h2⟩ := h
  have hl : es.size = M.length := by
    have := congrArg List.length h2
    simpa using this
  unfold Builtin.len_
  simp [run_underlying Try.underlying40, MapKept.run_getObj_map h1, hl, Result.andThen, goInt]

/-! ### A block of structs -/
def oflat (l : List On1) : List Value := l.flatMap On1.cells
theorem ocells_len (x : On1) : x.cells.length = 3 := rfl
theorem oflat_len : ∀ l : List On1, (oflat l).length = l.length * 3
  | [] => rfl
  | x :: l => by
    show (x.cells ++ oflat l).length = _
    rw [List.length_append, oflat_len l, ocells_len, List.length_cons]
    omega
theorem oflat_app (a b : List On1) : oflat (a ++ b) = oflat a ++ oflat b := by simp [oflat]
theorem oflat_at : ∀ (l : List On1) (k : Nat) (h : k < l.length) (j : Nat), j < 3 → (oflat l)[k * 3 + j]? = (l[k]).cells[j]?
  | [], k, h, _, _ => by simp at h
  | x :: l, 0, h, j, hj => by
    show (x.cells ++ oflat l)[_]? = _
    rw [List.getElem?_append_left (by rw [ocells_len]; omega)]
    simp
  | x :: l, k + 1, h, j, hj => by
    show (x.cells ++ oflat l)[_]? = _
    rw [List.getElem?_append_right (by rw [ocells_len]; omega), ocells_len, show (k + 1) * 3 + j - 3 = k * 3 + j by omega]
    exact oflat_at l k (by simpa using h) j hj
theorem oflat_one (l : List On1) : ∀ u ∈ oflat l, u.oneCell' = true := by
  intro u hu
  unfold oflat at hu
  rw [List.mem_flatMap] at hu
  obtain ⟨x, _, hx⟩ := hu
  simp only [On1.cells, List.mem_cons, List.not_mem_nil, or_false] at hx
  rcases hx with rfl | rfl | rfl <;> rfl
theorem oflat_snoc (l : List On1) (x : On1) : oflat (l ++ [x]) = oflat l ++ x.cells := by
  rw [oflat_app]
  simp [oflat]
/-- The block b holds the structs l first. -/
structure Blk (W : World) (b cap : Nat) (l : List On1) : Prop where
  ex : ∃ cs : Array Value, W.heap[b]? = some (.cells cs 48 (0, 0)) ∧ cs.size = cap * 3
  le : l.length ≤ cap
  cell : ∀ k, k < l.length → W.cell? ⟨b, k * 3, none⟩ = some (str (g l k).key) ∧ W.cell? ⟨b, k * 3 + 1, none⟩ = some (.int .i64 (g l k).at_) ∧ W.cell? ⟨b, k * 3 + 2, none⟩ = some (.int .i64 ((g l k).no : Int))
theorem Blk.free {W : World} {b cap : Nat} {l : List On1} (h : Blk W b cap l) (i : Nat) : W.frozen? ⟨b, i, none⟩ = false := by
  obtain ⟨cs, h1, _⟩ := h.ex
  simp [World.frozen?, h1]
theorem Blk.lt {W : World} {b cap : Nat} {l : List On1} (h : Blk W b cap l) : b < W.heap.size := by
  obtain ⟨cs, h1, _⟩ := h.ex
  exact (Array.getElem?_eq_some_iff.1 h1).1
theorem Blk.same {W W' : World} {b cap : Nat} {l : List On1} (h : Blk W b cap l) (e : W'.heap[b]? = W.heap[b]?) : Blk W' b cap l := by
  obtain ⟨⟨cs, h1, h2⟩, h3, h4⟩ := h
  refine ⟨⟨cs, e.trans h1, h2⟩, h3, fun k hk => ?_⟩
  have := h4 k hk
  simp only [World.cell?, e] at this ⊢
  exact this
theorem Blk.take {W : World} {b cap : Nat} {l : List On1} (h : Blk W b cap l) (n : Nat) : Blk W b cap (l.take n) := by
  refine ⟨h.ex, Nat.le_trans (by simp; omega) h.le, fun k hk => ?_⟩
  rw [List.length_take] at hk
  have e : g (l.take n) k = g l k := by
    unfold g
    simp only [List.getD_eq_getElem?_getD]
    rw [List.getElem?_take_of_lt (by omega)]
  rw [e]
  exact h.cell k (by omega)
/-- One struct stored in its place. -/
theorem Blk.set {W : World} {b cap : Nat} {l : List On1} (h : Blk W b cap l) (k : Nat) (hk : k < l.length) (x : On1) :
    Blk (((W.setCell ⟨b, k * 3, none⟩ (str x.key)).setCell ⟨b, k * 3 + 1, none⟩ (.int .i64 x.at_)).setCell ⟨b, k * 3 + 2, none⟩ (.int .i64 (x.no : Int))) b cap (l.set k x) := by
  obtain ⟨⟨cs, h1, h2⟩, h3, h4⟩ := h
  refine ⟨⟨((cs.setIfInBounds (k * 3) (str x.key)).setIfInBounds (k * 3 + 1) (.int .i64 x.at_)).setIfInBounds (k * 3 + 2) (.int .i64 (x.no : Int)), ?_, by simp [h2]⟩, by simpa using h3, fun j hj => ?_⟩
  · simp [World.setCell, Array.getElem?_modify, h1]
  · rw [List.length_set] at hj
    have h5 := h4 j hj
    rw [g_set l k x j hk]
    have hc : k * 3 + 2 < cs.size := by omega
    simp only [World.cell?, h1] at h5
    have e : ∀ i, (((W.setCell ⟨b, k * 3, none⟩ (str x.key)).setCell ⟨b, k * 3 + 1, none⟩ (.int .i64 x.at_)).setCell ⟨b, k * 3 + 2, none⟩ (.int .i64 (x.no : Int))).cell? ⟨b, i, none⟩ = (((cs.setIfInBounds (k * 3) (str x.key)).setIfInBounds (k * 3 + 1) (.int .i64 x.at_)).setIfInBounds (k * 3 + 2) (.int .i64 (x.no : Int)))[i]? := fun i => by
      simp [World.cell?, World.setCell, Array.getElem?_modify, h1]
    rw [e, e, e]
    simp only [Array.getElem?_setIfInBounds, Array.size_setIfInBounds]
    by_cases q : k = j
    · subst q
      have ge : (if k = k then x else g l k) = x := if_pos rfl
      rw [ge]
      refine ⟨?_, ?_, ?_⟩
      · rw [if_neg (by omega), if_neg (by omega), if_pos rfl, if_pos (by omega)]
      · rw [if_neg (by omega), if_pos rfl, if_pos (by omega)]
      · rw [if_pos rfl, if_pos (by omega)]
    · rw [if_neg q]
      refine ⟨?_, ?_, ?_⟩
      · rw [if_neg (by omega), if_neg (by omega), if_neg (by omega)]; exact h5.1
      · rw [if_neg (by omega), if_neg (by omega), if_neg (by omega)]; exact h5.2.1
      · rw [if_neg (by omega), if_neg (by omega), if_neg (by omega)]; exact h5.2.2
theorem info_on : (Try.prog.info? 48).map (fun i => (i.zero, i.size, i.bytes)) = some (some (.agg (On1.cells ⟨[], 0, 0⟩).toArray), 3, 32) := by kernel_rfl
theorem size_on (x : On1) : (Try.prog.info? 48).map (·.size) = some x.cells.toArray.size := by
  show _ = some 3
  kernel_rfl
theorem one_on (x : On1) : x.cells.toArray.all (·.oneCell') = true := by simp [On1.cells, Value.oneCell']
/-- Own slices as blocks, and back. -/
theorem blk_of_own {W : World} {B : Nat} {v : Value} {l : List On1} (h : W.ownsRow B 48 3 v l.length (oflat l)) (hn : 0 < l.length) : ∃ b cap, v = .slice (some ⟨b, 0, none⟩) l.length cap ∧ B ≤ b ∧ cap ≤ maxLen ∧ Blk W b cap l := by
  rcases h.2 with ⟨_, h0⟩ | ⟨b, cap, cur, rfl, h1, h2, h3, h4, h5, h6⟩
  · omega
  · refine ⟨b, cap, rfl, h1, h4, ⟨cur, h2, h5⟩, h3, fun k hk => ?_⟩
    have e : ∀ j, j < 3 → W.cell? ⟨b, k * 3 + j, none⟩ = (l[k]).cells[j]? := fun j hj => by
      rw [← oflat_at l k hk j hj, ← h6, List.getElem?_take_of_lt (by omega)]
      simp [World.cell?, h2]
    rw [g_at hk]
    exact ⟨e 0 (by omega), e 1 (by omega), e 2 (by omega)⟩
theorem own_of_blk {W : World} {B b cap : Nat} {l : List On1} (h : Blk W b cap l) (hB : B ≤ b) (hc : cap ≤ maxLen) : W.ownsRow B 48 3 (.slice (some ⟨b, 0, none⟩) l.length cap) l.length (oflat l) := by
  obtain ⟨⟨cs, h1, h2⟩, h3, h4⟩ := h
  refine ⟨oflat_len l, .inr ⟨b, cap, cs, rfl, hB, h1, h3, hc, h2, ?_⟩⟩
  apply List.ext_getElem?
  intro i
  by_cases hi : i < l.length * 3
  · rw [List.getElem?_take_of_lt hi]
    have hk : i / 3 < l.length := by omega
    have hr := Nat.mod_lt i (show 0 < 3 by omega)
    have hd := Nat.div_add_mod i 3
    have e := oflat_at l (i / 3) hk (i % 3) hr
    rw [show i / 3 * 3 + i % 3 = i by omega] at e
    rw [e]
    have h5 := h4 (i / 3) hk
    rw [g_at hk] at h5
    simp only [World.cell?, h1] at h5
    have : i % 3 = 0 ∨ i % 3 = 1 ∨ i % 3 = 2 := by omega
    rcases this with q | q | q
    · rw [q]
      rw [show i / 3 * 3 = i by omega] at h5
      simpa [On1.cells] using h5.1
    · rw [q]
      rw [show i / 3 * 3 + 1 = i by omega] at h5
      simpa [On1.cells] using h5.2.1
    · rw [q]
      rw [show i / 3 * 3 + 2 = i by omega] at h5
      simpa [On1.cells] using h5.2.2
  · rw [List.getElem?_eq_none (by rw [List.length_take]; omega), List.getElem?_eq_none (by rw [oflat_len]; omega)]

/-! ### What a call may change -/
/-- Only blocks of P are changed. -/
structure Chg (P : Nat → Prop) (w W : World) : Prop where
  os : W.os = w.os
  tape : W.tape = w.tape
  output : W.output = w.output
  size : w.heap.size ≤ W.heap.size
  block : ∀ k, k < w.heap.size → ¬ P k → W.heap[k]? = w.heap[k]?
theorem Chg.refl (P : Nat → Prop) (w : World) : Chg P w w := ⟨rfl, rfl, rfl, Nat.le_refl _, fun _ _ _ => rfl⟩
theorem Chg.of_below {P : Nat → Prop} {w W : World} (h : Below w.heap.size w W) : Chg P w W := ⟨h.os, h.tape, h.output, h.size, fun k hk _ => h.block k hk⟩
theorem Chg.trans {P Q : Nat → Prop} {a b c : World} (h : Chg P a b) (k : Chg Q b c) (hq : ∀ n, n < a.heap.size → Q n → P n) : Chg P a c :=
  ⟨k.os.trans h.os, k.tape.trans h.tape, k.output.trans h.output, Nat.le_trans h.size k.size, fun n hn hp => (k.block n (Nat.lt_of_lt_of_le hn h.size) (fun q => hp (hq n hn q))).trans (h.block n hn hp)⟩
theorem Chg.below {P : Nat → Prop} {B : Nat} {w0 a b : World} (h : Chg P a b) (hb : Below B w0 a) (hB : B ≤ a.heap.size) (hp : ∀ n, P n → B ≤ n) : Below B w0 b :=
  ⟨h.os.trans hb.os, h.tape.trans hb.tape, h.output.trans hb.output, Nat.le_trans hb.size h.size, fun k hk => (h.block k (by omega) (fun q => by have := hp k q; omega)).trans (hb.block k hk)⟩
theorem Chg.of_grown {P : Nat → Prop} {row : Option Nat} {w W : World} (h : w.grownBy W row) (hp : ∀ k, row = some k → P k) : Chg P w W :=
  ⟨h.os, h.tape, h.output, h.size, fun k hk hn => h.block k hk (fun e => hn (hp k e.symm))⟩
theorem Chg.drewN {P : Nat → Prop} {w W : World} (h : Chg P w W) (n : Nat) : Chg P w (W.drewN n) := ⟨h.os, h.tape, h.output, h.size, h.block⟩
theorem Chg.put {P : Nat → Prop} (W : World) (k : Nat) (o : Obj) (hp : P k) : Chg P W (W.putObj k o) :=
  ⟨rfl, rfl, rfl, by rw [World.putObj_size]; exact Nat.le_refl _, fun j _ hn => World.putObj_heap_other (fun e => hn (e ▸ hp))⟩
theorem Chg.cell {P : Nat → Prop} (W : World) (a : Addr) (v : Value) (hp : P a.block) : Chg P W (W.setCell a v) :=
  ⟨rfl, rfl, rfl, by simp [World.setCell], fun j _ hn => Below.heap_setCell _ _ _ _ (fun e => hn (e ▸ hp))⟩
theorem lt_of_heap {W : World} {k : Nat} {o : Obj} (h : W.heap[k]? = some o) : k < W.heap.size := (Array.getElem?_eq_some_iff.1 h).1
theorem ownsRow_same {W W' : World} {B : Nat} {e : TypeId} {s n : Nat} {v : Value} {xs : List Value} (h : W.ownsRow B e s v n xs) (hb : ∀ k, v.ownBlock = some k → W'.heap[k]? = W.heap[k]?) : W'.ownsRow B e s v n xs := by
  refine ⟨h.1, h.2.imp id ?_⟩
  rintro ⟨g, cap, cur, rfl, h1, h2, h3⟩
  exact ⟨g, cap, cur, rfl, h1, (hb g rfl).trans h2, h3⟩
theorem own_range {W : World} {B n : Nat} {v : Value} {T : TypeId} {s : Nat} {xs : List Value} (h : W.ownsRow B T s v n xs) (k : Nat) (hk : v.ownBlock = some k) : B ≤ k ∧ k < W.heap.size := by
  rcases h.2 with ⟨rfl, _⟩ | ⟨b, cap, cur, rfl, hB, h1, _⟩
  · cases hk
  · simp only [Value.ownBlock, Option.some.injEq] at hk
    subst hk
    exact ⟨hB, lt_of_heap h1⟩
theorem own_slice {W : World} {B n : Nat} {v : Value} {T : TypeId} {s : Nat} {xs : List Value} (h : W.ownsRow B T s v n xs) : ∃ ob cap, v = .slice ob n cap := by
  rcases h.2 with ⟨rfl, h0⟩ | ⟨b, cap, cur, rfl, hB, h1, _⟩
  · exact ⟨none, 0, by rw [h0]⟩
  · exact ⟨_, _, rfl⟩

/-- Timers: the heap's row, the map, the count. -/
structure Tm (W : World) (B gb mb : Nat) (sl : Value) (l : List On1) (M : Mp) (no : Nat) : Prop where
  top : W.heap[gb]? = some (.cells #[sl, .func (.func 12) #[] #[], .map (some mb), .int .i64 (no : Int)] 42 (0, 0))
  own : W.ownsRow B 48 3 sl l.length (oflat l)
  map : MapS W mb M
  bg : B ≤ gb
  bm : B ≤ mb
  ngm : gb ≠ mb
  ng : sl.ownBlock ≠ some gb
  nm : sl.ownBlock ≠ some mb
/-- Its blocks. -/
def Tl (gb mb : Nat) (sl : Value) (k : Nat) : Prop := k = gb ∨ k = mb ∨ sl.ownBlock = some k
theorem Tm.bl {W : World} {B gb mb : Nat} {sl : Value} {l : List On1} {M : Mp} {no : Nat} (h : Tm W B gb mb sl l M no) (k : Nat) (hk : Tl gb mb sl k) : B ≤ k ∧ k < W.heap.size := by
  rcases hk with rfl | rfl | e
  · exact ⟨h.bg, lt_of_heap h.top⟩
  · exact ⟨h.bm, h.map.lt⟩
  · exact own_range h.own k e
theorem Tm.same {W W' : World} {B gb mb : Nat} {sl : Value} {l : List On1} {M : Mp} {no : Nat} (h : Tm W B gb mb sl l M no) (hb : ∀ k, Tl gb mb sl k → W'.heap[k]? = W.heap[k]?) : Tm W' B gb mb sl l M no :=
  ⟨(hb gb (.inl rfl)).trans h.top, ownsRow_same h.own (fun k hk => hb k (.inr (.inr hk))), h.map.same (hb mb (.inr (.inl rfl))), h.bg, h.bm, h.ngm, h.ng, h.nm⟩
theorem Tm.bel {W W' : World} {B gb mb : Nat} {sl : Value} {l : List On1} {M : Mp} {no : Nat} (h : Tm W B gb mb sl l M no) (hb : Below W.heap.size W W') : Tm W' B gb mb sl l M no := h.same fun k hk => hb.block k (h.bl k hk).2
theorem Tm.chg {P : Nat → Prop} {W W' : World} {B gb mb : Nat} {sl : Value} {l : List On1} {M : Mp} {no : Nat} (h : Tm W B gb mb sl l M no) (hc : Chg P W W') (hp : ∀ k, Tl gb mb sl k → ¬ P k) : Tm W' B gb mb sl l M no := h.same fun k hk => hc.block k (h.bl k hk).2 (hp k hk)
theorem Tm.slice {W : World} {B gb mb : Nat} {sl : Value} {l : List On1} {M : Mp} {no : Nat} (h : Tm W B gb mb sl l M no) : ∃ ob cap, sl = .slice ob l.length cap := own_slice h.own
theorem Tm.s {W : World} {B gb mb : Nat} {sl : Value} {l : List On1} {M : Mp} {no : Nat} (h : Tm W B gb mb sl l M no) :
    W.cell? ⟨gb, 0, none⟩ = some sl ∧ W.cell? ⟨gb, 1, none⟩ = some (.func (.func 12) #[] #[]) ∧ W.cell? ⟨gb, 2, none⟩ = some (.map (some mb)) ∧ W.cell? ⟨gb, 3, none⟩ = some (.int .i64 (no : Int)) ∧ ∀ i, W.frozen? ⟨gb, i, none⟩ = false :=
  ⟨cell_of_row _ _ 0 _ _ (0, 0) h.top, cell_of_row _ _ 1 _ _ (0, 0) h.top, cell_of_row _ _ 2 _ _ (0, 0) h.top, cell_of_row _ _ 3 _ _ (0, 0) h.top, fun i => by simp [World.frozen?, h.top]⟩
end Go.Proofs.Ytljfjlijobjpdaa
