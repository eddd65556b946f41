/- The memory of a call of the timers' Due. No walk. Condition: none. -/
import Derived.Test.YtljfjlijobjpdaaTib
import Derived.Test.YtljfjlijobjpdaaStl
import Derived.Maps.OwnIn
namespace Go.Proofs.Ytljfjlijobjpdaa
open Go.RowKit
set_option linter.unusedVariables false
set_option linter.unusedSimpArgs false

theorem rising_any (gb : Nat) (t : Int) (w : World) :
    Calls Try.prog 14 #[.pointer (some ⟨gb, 0, none⟩), .int .i64 t] w fun e w' => e = .returned (.func (.func 15) #[] #[.pointer (some ⟨w.heap.size, 0, none⟩), .pointer (some ⟨w.heap.size + 1, 0, none⟩)]) ∧
      w' = (w.alloc (.cells #[.pointer (some ⟨gb, 0, none⟩)] 25 (0, 0))).alloc (.cells #[.int .i64 t] 2 (0, 0)) := by
  go_enter Try.func14, Try.ntmps14
  go_wp2_with fail
  go_ret
  exact ⟨rfl, rfl⟩
theorem results_out {tmps : Array Value} {W : World} {b1 : Nat} {v1 : Value} (p1 : tmps.getD 4 undef = .pointer (some ⟨b1, 0, none⟩)) (c1 : W.cell? ⟨b1, 0, none⟩ = some v1) :
    (results Try.f9 tmps).run Try.prog W = .ok v1 W := by
  have h : (Try.f9).results = #[.cell 4 32] := rfl
  have q1 : tmps[4]?.getD undef = .pointer (some ⟨b1, 0, none⟩) := by simpa using p1
  simp [results, h, q1, asAddr, loadVar, Try.isAgg32, c1, Result.andThen]
theorem wpListIn_append_str {F : Fence} {nF : Nat} {ops : Array Oper} {rest : List Oper} {o : Oper} {a : Act} {Q : Exit → Act → World → Prop} {W : World} (hgd : o.guard = none) (s x : Operand)
    (ho : o.op = .call { callee := .builtin .append, args := #[s, x], argTypes := #[32, 32] }) (B : Nat) (v : Value) (ls : List (List UInt8)) (y : List UInt8) (g : Nat) (hg : g = W.heap.size) (hs : a.eval s = v) (h : SlS W B v ls) (hB : B ≤ W.heap.size)
    (hx : a.eval x = .slice (some ⟨g, 0, none⟩) 1 1) (hl : ls.length ≤ 1000000)
    (hK : ∀ v' w', SlS w' B v' (ls ++ [y]) → (W.alloc (.cells #[str y] 9 (0, 0))).grownBy w' v.ownBlock → (∃ A c, v' = .slice A (ls.length + 1) c) → wpListIn F nF Try.prog ops Q rest (a.put o.dst v') w') :
    wpListIn F nF Try.prog ops Q (o :: rest) a (W.alloc (.cells #[str y] 9 (0, 0))) := by
  subst hg
  obtain ⟨i0, hi, hz0, hz1, hz2⟩ := info_parts str_inf
  have h2 : SlS (W.alloc (.cells #[str y] 9 (0, 0))) B v ls := h.bel ((Below.refl _ _).alloc (Nat.le_refl _) _)
  refine wpListIn_append_own_at _ hgd s x 32 ho B 9 i0 _ 1 16 Try.underlying32 hi hz0 hz1 hz2 rfl (by decide) v ls.length _ hs h2 ⟨W.heap.size, 0, none⟩ 1 1 [str y] hx rfl (cell_new_str W y (0, 0)) (by simp [Value.oneCell']) (by unfold maxLen; omega) (by omega) (by simp; omega) ?_
  intro v' w' q1 q2 q3 q4
  have e : SlS w' B v' (ls ++ [y]) := by
    show w'.ownsRow _ _ _ _ _ _
    simpa using q1
  refine hK v' w' e q2 ?_
  obtain ⟨A, c, e2, _⟩ := e.txt
  exact ⟨A, c, by rw [e2]; simp⟩
theorem sls_same {W W' : World} {B : Nat} {v : Value} {ls : List (List UInt8)} (h : SlS W B v ls) (hb : ∀ k, B ≤ k → k < W.heap.size → v.ownBlock = some k → W'.heap[k]? = W.heap[k]?) : SlS W' B v ls :=
  ownsRow_same h fun k hk => hb k (own_range h k hk).1 (own_range h k hk).2 hk
/-- The memory of a call of Due, behind what was handed over. -/
structure Dm (w : World) (B gb mb no : Nat) (sl0 : Value) (t : Int) (sl : Value) (l : List On1) (M : Mp) (del : List On1) (ov : Value) (W : World) : Prop where
  tm : Tm W B gb mb sl l M no
  so : sl.ownBlock = sl0.ownBlock
  ch : Chg (Tl gb mb sl0) w W
  ob : W.heap[w.heap.size]? = some (.cells #[ov] 32 (0, 0))
  b1 : W.heap[w.heap.size + 1]? = some (.cells #[.pointer (some ⟨gb, 0, none⟩)] 25 (0, 0))
  b2 : W.heap[w.heap.size + 2]? = some (.cells #[.int .i64 t] 2 (0, 0))
  df : W.heap[w.heap.size + 3]? = some (.deferred (some []))
  sz : w.heap.size + 5 ≤ W.heap.size
  os : SlS W (w.heap.size + 5) ov (del.map On1.key)
  lt : ∀ k, Tl gb mb sl0 k → k < w.heap.size
section
variable {w : World} {B gb mb no : Nat} {sl0 : Value} {t : Int} {sl : Value} {l : List On1} {M : Mp} {del : List On1} {ov : Value} {W : World}
theorem Dm.tl (h : Dm w B gb mb no sl0 t sl l M del ov W) (k : Nat) (hk : Tl gb mb sl k) : k < w.heap.size := h.lt k (by
  rcases hk with q | q | q
  · exact .inl q
  · exact .inr (.inl q)
  · exact .inr (.inr (h.so ▸ q)))
theorem Dm.step (h : Dm w B gb mb no sl0 t sl l M del ov W) {W' : World} {sl' : Value} {l' : List On1} {M' : Mp} (hT : Tm W' B gb mb sl' l' M' no) (ho : sl'.ownBlock = sl.ownBlock) (hc : Chg (Tl gb mb sl) W W') : Dm w B gb mb no sl0 t sl' l' M' del ov W' := by
  have e : ∀ k, k < W.heap.size → w.heap.size ≤ k → W'.heap[k]? = W.heap[k]? := fun k hk hw => hc.block k hk (fun q => by have := h.tl k q; omega)
  have hz := h.sz
  refine ⟨hT, ho.trans h.so, h.ch.trans hc (fun n hn q => ?_), (e _ (by omega) (by omega)).trans h.ob, (e _ (by omega) (by omega)).trans h.b1, (e _ (by omega) (by omega)).trans h.b2, (e _ (by omega) (by omega)).trans h.df, Nat.le_trans h.sz hc.size, sls_same h.os (fun k h1 h2 _ => e k h2 (by omega)), h.lt⟩
  rcases q with q | q | q
  · exact .inl q
  · exact .inr (.inl q)
  · exact .inr (.inr (h.so ▸ q))
theorem Dm.bel (h : Dm w B gb mb no sl0 t sl l M del ov W) {W' : World} (hb : Below W.heap.size W W') : Dm w B gb mb no sl0 t sl l M del ov W' := h.step (h.tm.bel hb) rfl (Chg.of_below hb)
theorem Dm.loop (h : Dm w B gb mb no sl0 t sl l M del ov W) (o : Obj) : Dm w B gb mb no sl0 t sl l M del ov (W.putObj (w.heap.size + 4) o) := by
  have e : ∀ k, k ≠ w.heap.size + 4 → (W.putObj (w.heap.size + 4) o).heap[k]? = W.heap[k]? := fun k hk => World.putObj_heap_other hk
  refine ⟨h.tm.same (fun k hk => e k (by have := h.tl k hk; omega)), h.so, ⟨h.ch.os, h.ch.tape, h.ch.output, by rw [World.putObj_size]; exact h.ch.size, fun k hk hn => (e k (by omega)).trans (h.ch.block k hk hn)⟩, (e _ (by omega)).trans h.ob, (e _ (by omega)).trans h.b1, (e _ (by omega)).trans h.b2, (e _ (by omega)).trans h.df, by rw [World.putObj_size]; exact h.sz, sls_same h.os (fun k h1 h2 _ => e k (by omega)), h.lt⟩
/-- One key more. -/
theorem Dm.more (h : Dm w B gb mb no sl0 t sl l M del ov W) {W1 A : World} {v' : Value} {x : On1} (hA : Below W.heap.size W A) (h1 : SlS W1 (w.heap.size + 5) v' ((del ++ [x]).map On1.key)) (h2 : A.grownBy W1 ov.ownBlock) :
    Dm w B gb mb no sl0 t sl l M (del ++ [x]) v' (W1.setCell ⟨w.heap.size, 0, none⟩ v') ∧ (∀ k, w.heap.size < k → k < w.heap.size + 5 → (W1.setCell ⟨w.heap.size, 0, none⟩ v').heap[k]? = W.heap[k]?) ∧ W1.cell? ⟨w.heap.size, 0, none⟩ = some ov ∧ W1.frozen? ⟨w.heap.size, 0, none⟩ = false := by
  have T := h.bel hA
  have hz := T.sz
  have hWz := h.sz
  have g0 : ∀ k, k < w.heap.size + 5 → W1.heap[k]? = A.heap[k]? := fun k hk => h2.block k (by omega) (fun e => by have := (own_range T.os k e.symm).1; omega)
  have e : ∀ k, k ≠ w.heap.size → k < w.heap.size + 5 → (W1.setCell ⟨w.heap.size, 0, none⟩ v').heap[k]? = A.heap[k]? := fun k h3 h4 => (Below.heap_setCell _ _ _ _ h3).trans (g0 k h4)
  have ho := (g0 w.heap.size (by omega)).trans T.ob
  refine ⟨⟨T.tm.same (fun k hk => e k (by have := T.tl k hk; omega) (by have := T.tl k hk; omega)), h.so, ?_, ?_, (e _ (by omega) (by omega)).trans T.b1, (e _ (by omega) (by omega)).trans T.b2, (e _ (by omega) (by omega)).trans T.df, ?_, ?_, h.lt⟩, fun k h3 h4 => (e k (by omega) h4).trans (hA.block k (by omega)), cell_of_row _ _ 0 _ _ (0, 0) ho, frozen_of_row _ _ 0 _ _ ho⟩
  · refine (T.ch.trans (Chg.of_grown (P := fun k => w.heap.size ≤ k) h2 (fun k q => by have := (own_range T.os k q).1; omega)) (fun n hn q => by omega)).trans (Chg.cell (P := fun k => w.heap.size ≤ k) _ ⟨w.heap.size, 0, none⟩ v' (Nat.le_refl _)) (fun n hn q => by omega)
  · simp [World.setCell, Array.getElem?_modify, ho]
  · have := h2.size
    simp [World.setCell]
    omega
  · exact sls_same h1 (fun k h3 h4 _ => Below.heap_setCell _ _ _ _ (by simp; omega))
end
end Go.Proofs.Ytljfjlijobjpdaa
