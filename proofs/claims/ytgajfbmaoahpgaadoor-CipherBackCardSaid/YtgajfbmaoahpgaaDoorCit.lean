/- The walks of cipher's bytes and turned. Condition: at most 4096 bytes; sizes that a machine has; the table k reads as the standard's numbers. -/
import Derived.Test.YtgajfbmaoahpgaaDoorCis
import Derived.OwnWalk
import Derived.Laws.OwnMore
import Derived.Shelf.Abstract
namespace Go.Proofs.YtgajfbmaoahpgaaDoor
open Go.RowKit Go.Shelf
set_option linter.unusedVariables false
set_option linter.unusedSimpArgs false
attribute [local go_sem] Oper.semAt_some

theorem step_append_at {P : Program} {ops : Array Oper} {o : Oper} {a : Act} {K : Act → World → Prop} {Q : Exit → Act → World → Prop} {E : Prop} {w : World} (hgd : o.guard = none) (s x : Operand) (t : TypeId)
    (ho : o.op = .call { callee := .builtin .append, args := #[s, x], argTypes := #[t, t] }) (sv xv v' : Value) (w' : World) (hs : a.eval s = sv) (hx : a.eval x = xv) (hr : (Builtin.append_ #[t, t] o.type #[sv, xv]).run P w = .ok v' w')
    (h : K (a.put o.dst v') w') : if Region.wanted o (yielded ops a.tmps) = true then Oper.wp P o a w K Q else E := by
  have hw : Region.wanted o (yielded ops a.tmps) = true := by simp [Region.wanted, hgd]
  rw [if_pos hw]
  unfold Oper.wp execOp
  simp only [ho, resolve, invoke, builtin, Sem.run_bind, Sem.run_pure, Result.andThen_ok, List.map_toArray, List.map_cons, List.map_nil, hs, hx, hr]
  exact h

/-- The memory of a call of turned, behind j bytes. -/
structure Ctm (w : World) (g1 : Nat) (p2 : Value) (key nonce s : List UInt8) (j : Nat) (W : World) : Prop where
  pb : W.heap[w.heap.size]? = some (.cells #[.pointer (some ⟨g1, 0, none⟩), p2] 36 (0, 0))
  sb : W.heap[w.heap.size + 1]? = some (.cells #[str s] 9 (0, 0))
  row : W.ownsRow w.heap.size 5 1 (.slice (some ⟨w.heap.size + 2, 0, none⟩) j s.length) j (byc (xst key nonce s j))
  ob : W.heap[w.heap.size + 3]? = some (.cells #[.slice (some ⟨w.heap.size + 2, 0, none⟩) j s.length] 31 (0, 0))
  pr : W.heap[w.heap.size + 4]? = some (.cells #[.pointer (some ⟨g1, 0, none⟩), p2] 36 (0, 0))
  no : W.heap[w.heap.size + 5]? = some (.cells #[str nonce] 9 (0, 0))
  d : W.heap[w.heap.size + 6]? = some (.deferred (some []))
  b : Below w.heap.size w W
theorem Ctm.lt {w W : World} {g1 : Nat} {p2 : Value} {key nonce s : List UInt8} {j : Nat} (T : Ctm w g1 p2 key nonce s j W) : w.heap.size + 6 < W.heap.size := (Array.getElem?_eq_some_iff.1 T.d).1
theorem row_same {W W' : World} {B g n c : Nat} {E : TypeId} {xs : List Value} (h : W.ownsRow B E 1 (.slice (some ⟨g, 0, none⟩) n c) n xs) (e : W'.heap[g]? = W.heap[g]?) : W'.ownsRow B E 1 (.slice (some ⟨g, 0, none⟩) n c) n xs := by
  refine ⟨h.1, ?_⟩
  rcases h.2 with hn | ⟨g', cap, cur, hv, hb, hgg, rest⟩
  · exact .inl hn
  · refine .inr ⟨g', cap, cur, hv, hb, ?_, rest⟩
    injection hv with h1
    injection h1 with h1
    injection h1 with h1
    subst h1
    rw [e]; exact hgg
/-- Whatever leaves the blocks up to the mark as they are. -/
theorem Ctm.same {w W W' : World} {g1 : Nat} {p2 : Value} {key nonce s : List UInt8} {j : Nat} (T : Ctm w g1 p2 key nonce s j W) (hb : Below w.heap.size w W') (h : ∀ k, k < 7 → W'.heap[w.heap.size + k]? = W.heap[w.heap.size + k]?) : Ctm w g1 p2 key nonce s j W' :=
  ⟨(h 0 (by omega)).trans T.pb, (h 1 (by omega)).trans T.sb, row_same T.row (h 2 (by omega)), (h 3 (by omega)).trans T.ob, (h 4 (by omega)).trans T.pr, (h 5 (by omega)).trans T.no, (h 6 (by omega)).trans T.d, hb⟩
theorem Ctm.bel {w W W' : World} {g1 : Nat} {p2 : Value} {key nonce s : List UInt8} {j : Nat} (T : Ctm w g1 p2 key nonce s j W) (h : Below W.heap.size W W') : Ctm w g1 p2 key nonce s j W' :=
  T.same (below_acc T.b h) fun k hk => h.block _ (by have := T.lt; omega)
theorem Ctm.put {w W : World} {g1 : Nat} {p2 : Value} {key nonce s : List UInt8} {j k : Nat} (T : Ctm w g1 p2 key nonce s j W) (o : Obj) (hk : w.heap.size + 7 ≤ k) : Ctm w g1 p2 key nonce s j (W.putObj k o) :=
  T.same (below_putObj T.b (by omega)) fun i hi => World.putObj_heap_other (by omega)
theorem Ctm.set {w W : World} {g1 : Nat} {p2 : Value} {key nonce s : List UInt8} {j : Nat} (T : Ctm w g1 p2 key nonce s j W) (a : Addr) (v : Value) (hk : w.heap.size + 7 ≤ a.block) : Ctm w g1 p2 key nonce s j (W.setCell a v) :=
  T.same (T.b.setCell (by omega) _) fun i hi => heap_setCell_other _ _ _ _ (by omega)
theorem Ctm.draw {w W : World} {g1 : Nat} {p2 : Value} {key nonce s : List UInt8} {j : Nat} (T : Ctm w g1 p2 key nonce s j W) : Ctm w g1 p2 key nonce s j W.drew := T.same T.b.drew fun k hk => rfl
/-- One byte more. -/
theorem Ctm.more {w W W1 : World} {g1 : Nat} {p2 : Value} {key nonce s : List UInt8} {j : Nat} (T : Ctm w g1 p2 key nonce s j W) (h1 : W1.ownsRow w.heap.size 5 1 (.slice (some ⟨w.heap.size + 2, 0, none⟩) (j + 1) s.length) (j + 1) (byc (xst key nonce s (j + 1)))) (h2 : W.grownBy W1 (some (w.heap.size + 2))) :
    Ctm w g1 p2 key nonce s (j + 1) (W1.setCell ⟨w.heap.size + 3, 0, none⟩ (.slice (some ⟨w.heap.size + 2, 0, none⟩) (j + 1) s.length)) ∧ ∀ k, w.heap.size + 4 ≤ k → k < W.heap.size → (W1.setCell ⟨w.heap.size + 3, 0, none⟩ (.slice (some ⟨w.heap.size + 2, 0, none⟩) (j + 1) s.length)).heap[k]? = W.heap[k]? := by
  have hl := T.lt
  have go : ∀ k, k ≠ w.heap.size + 2 → k ≠ w.heap.size + 3 → k < W.heap.size → (W1.setCell ⟨w.heap.size + 3, 0, none⟩ (.slice (some ⟨w.heap.size + 2, 0, none⟩) (j + 1) s.length)).heap[k]? = W.heap[k]? := fun k h3 h4 h5 =>
    (heap_setCell_other _ _ _ _ h4).trans (h2.block k h5 (fun e => h3 (Option.some.inj e)))
  refine ⟨⟨(go _ (by omega) (by omega) (by omega)).trans T.pb, (go _ (by omega) (by omega) (by omega)).trans T.sb, row_same h1 (heap_setCell_other _ _ _ _ (by simp)), ?_, (go _ (by omega) (by omega) (by omega)).trans T.pr, (go _ (by omega) (by omega) (by omega)).trans T.no, (go _ (by omega) (by omega) (by omega)).trans T.d, ?_⟩, fun k hk hk2 => go k (by omega) (by omega) hk2⟩
  · exact heap_setCell_same _ _ 0 _ _ _ ((h2.block _ (by omega) (by simp)).trans T.ob)
  · exact (T.b.grown h2 (by omega) (by intro k e; cases e; omega)).setCell (by simp) _

theorem Ctm.app {w W A W3 : World} {g1 : Nat} {p2 : Value} {key nonce s : List UInt8} {j : Nat} (T : Ctm w g1 p2 key nonce s j W) (hb : Below W.heap.size W A) (hg : A.grownBy W3 (some (w.heap.size + 2))) :
    W3.cell? ⟨w.heap.size + 3, 0, none⟩ = some (.slice (some ⟨w.heap.size + 2, 0, none⟩) j s.length) ∧ W3.frozen? ⟨w.heap.size + 3, 0, none⟩ = false ∧ W3.cell? ⟨w.heap.size + 1, 0, none⟩ = some (str s) := by
  have hTA := T.bel hb
  have e3 := (hg.block (w.heap.size + 3) (by have := hTA.lt; omega) (by simp)).trans hTA.ob
  have e4 := (hg.block (w.heap.size + 1) (by have := hTA.lt; omega) (by simp)).trans hTA.sb
  exact ⟨cell_of_row _ _ 0 _ _ (0, 0) e3, frozen_of_row _ _ 0 _ _ e3, cell_of_row _ _ 0 _ _ (0, 0) e4⟩
theorem Ctm.cast {w W : World} {g1 : Nat} {p2 : Value} {key nonce s : List UInt8} {j j' : Nat} (T : Ctm w g1 p2 key nonce s j W) (e : j = j') : Ctm w g1 p2 key nonce s j' W := by subst e; exact T
theorem Ctm.step {w W W2 A W3 : World} {g1 B : Nat} {p2 : Value} {key nonce s : List UInt8} {j : Nat} {bz : Obj} {y : UInt8} (T : Ctm w g1 p2 key nonce s j W2) (hl : W2.heap[w.heap.size + 7]? = some bz) (hk : Keep B W W2) (hB : w.heap.size + 8 ≤ B) (hb : Below W2.heap.size W2 A)
    (hr : W3.ownsRow w.heap.size 5 1 (.slice (some ⟨w.heap.size + 2, 0, none⟩) (j + 1) s.length) (j + 1) (byc (xst key nonce s j) ++ byc [y])) (hx : xst key nonce s (j + 1) = xst key nonce s j ++ [y]) (hg : A.grownBy W3 (some (w.heap.size + 2))) (o : Obj) :
    (W3.setCell ⟨w.heap.size + 3, 0, none⟩ (.slice (some ⟨w.heap.size + 2, 0, none⟩) (j + 1) s.length)).heap[w.heap.size + 7]? = some bz ∧
    Keep B W ((W3.setCell ⟨w.heap.size + 3, 0, none⟩ (.slice (some ⟨w.heap.size + 2, 0, none⟩) (j + 1) s.length)).putObj (w.heap.size + 7) o) ∧
    Ctm w g1 p2 key nonce s (j + 1) ((W3.setCell ⟨w.heap.size + 3, 0, none⟩ (.slice (some ⟨w.heap.size + 2, 0, none⟩) (j + 1) s.length)).putObj (w.heap.size + 7) o) ∧
    ((W3.setCell ⟨w.heap.size + 3, 0, none⟩ (.slice (some ⟨w.heap.size + 2, 0, none⟩) (j + 1) s.length)).putObj (w.heap.size + 7) o).heap[w.heap.size + 7]? = some o := by
  have h7 := (Array.getElem?_eq_some_iff.1 hl).1
  have hA := (hb.block _ h7).trans hl
  have hAs := hb.size
  have e : byc (xst key nonce s j) ++ byc [y] = byc (xst key nonce s (j + 1)) := by rw [hx]; simp [byc]
  rw [e] at hr
  obtain ⟨m1, m2⟩ := (T.bel hb).more hr hg
  have m3 := m2 (w.heap.size + 7) (by omega) (by omega)
  have hz : W3.heap.size ≤ (W3.setCell ⟨w.heap.size + 3, 0, none⟩ (.slice (some ⟨w.heap.size + 2, 0, none⟩) (j + 1) s.length)).heap.size := Nat.le_of_eq (by simp [World.setCell])
  have hs3 := hg.size
  refine ⟨m3.trans hA, ⟨?_, fun k h1 h2 => ?_⟩, m1.put o (Nat.le_refl _), World.putObj_heap_same (by omega)⟩
  · rw [World.putObj_size]; have := hk.size; omega
  · have q := hk.size
    rw [World.putObj_heap_other (by omega), m2 k (by omega) (by omega), hb.block k (by omega), hk.same k h1 h2]
def zc (n : Nat) : Array Value := madeCells (Value.int .u8 0).cells (n * 1)
theorem make_zc (n : Nat) (hn : n ≤ 4096) (W : World) : (Instr.makeSlice 31 (.int .i64 0) (.int .i64 (n : Int))).run Tryd.prog W = .ok (.slice (some ⟨W.heap.size, 0, none⟩) 0 n) (W.alloc (.cells (zc n) 5 (0, 0))) := by
  obtain ⟨i0, hi, hz0, hz1, hz2⟩ := info_parts u8_info
  have h := run_make (P := Tryd.prog) W 31 5 i0 _ Tryd.underlying31 hi hz0 .i64 .i64 0 n (by omega) (by omega) (by rw [hz2]; omega) (by omega)
  rw [h, hz1]; rfl
theorem bytes_any (g1 : Nat) (p2 : Value) (nonce : List UInt8) (w : World) :
    Calls Tryd.prog 22 #[.agg #[.pointer (some ⟨g1, 0, none⟩), p2], str nonce] w fun e w' => e = .returned (.func (.func 29) #[] #[.pointer (some ⟨w.heap.size, 0, none⟩), .pointer (some ⟨w.heap.size + 1, 0, none⟩)]) ∧
      w' = (w.alloc (.cells #[.pointer (some ⟨g1, 0, none⟩), p2] 36 (0, 0))).alloc (.cells #[str nonce] 9 (0, 0)) := by
  go_enter Tryd.func22, Tryd.ntmps22
  go_wp2_with fail
  go_ret
  exact ⟨rfl, rfl⟩

set_option maxRecDepth 100000 in
set_option maxHeartbeats 8000000 in
theorem turned_any (g1 h1 h2 : Nat) (g2 : Addr) (key nonce s : List UInt8) (w : World) (hA : KeyAt w g1 key h1 h2) (hK : KT w) (hs : s.length ≤ 4096) (hno : nonce.length ≤ 1099511626000) :
    Calls Tryd.prog 15 #[.agg #[.pointer (some ⟨g1, 0, none⟩), .pointer (some g2)], str nonce, str s] w fun e w' => e = .returned (str (xst key nonce s s.length)) ∧ Below w.heap.size w w' := by
  have HK := Lib.hid hK
  have HA := Lib.hid hA
  clear hK hA
  have mk := make_zc s.length hs
  by_cases he : s = []
  · subst he
    refine calls_marks Tryd.func15 rfl ?_
    simp only [Tryd.ntmps15, List.size_toArray, List.length_cons, List.length_nil, Nat.reduceAdd, Nat.reduceSub, Array.replicate_succ, Array.replicate_zero, List.push_toArray, List.append_toArray, List.nil_append, List.cons_append]
    have mk0 : ∀ W, (Instr.makeSlice 31 (.int .i64 0) (.int .i64 0)).run Tryd.prog W = .ok (.slice (some ⟨W.heap.size, 0, none⟩) 0 0) (W.alloc (.cells (zc 0) 5 (0, 0))) := fun W => make_zc 0 (by omega) W
    go_wp2_with fail
    refine leave_plain (results_tmp rfl _ _ _) ⟨rfl, ?_⟩
    exact (((((Below.refl _ w).alloc (Nat.le_refl _) _).alloc (by simp) _).alloc (by simp; omega) _).alloc (by simp; omega) _)
  · have hie : s.isEmpty = false := by simpa using he
    have hpos : 0 < s.length := List.length_pos_iff.2 he
    obtain ⟨W0, hW0⟩ : ∃ W0, (((((w.alloc (.cells #[.pointer (some ⟨g1, 0, none⟩), .pointer (some g2)] 36 (0, 0))).alloc (.cells #[str s] 9 (0, 0))).alloc (.cells (zc s.length) 5 (0, 0))).alloc (.cells #[.slice (some ⟨w.heap.size + 1 + 1, 0, none⟩) 0 s.length] 31 (0, 0))).alloc (.cells #[.pointer (some ⟨g1, 0, none⟩), .pointer (some g2)] 36 (0, 0))).alloc (.cells #[str nonce] 9 (0, 0)) = W0 := ⟨_, rfl⟩
    have hsz : W0.heap.size = w.heap.size + 6 := by rw [← hW0]; simp
    have hB0 : Below w.heap.size w W0 := by
      rw [← hW0]
      exact ((((((Below.refl _ w).alloc (Nat.le_refl _) _).alloc (by simp) _).alloc (by simp; omega) _).alloc (by simp; omega) _).alloc (by simp; omega) _).alloc (by simp; omega) _
    have T0 : ∀ W, (∀ k, k < 6 → W.heap[w.heap.size + k]? = W0.heap[w.heap.size + k]?) → W.heap[w.heap.size + 6]? = some (.deferred (some [])) → Below w.heap.size w W → Ctm w g1 (.pointer (some g2)) key nonce s 0 W := by
      intro W h hd hb
      have q : ∀ k, W0.heap[w.heap.size + k]? = (w.heap ++ #[.cells #[.pointer (some ⟨g1, 0, none⟩), .pointer (some g2)] 36 (0, 0), .cells #[str s] 9 (0, 0), .cells (zc s.length) 5 (0, 0), .cells #[.slice (some ⟨w.heap.size + 1 + 1, 0, none⟩) 0 s.length] 31 (0, 0), .cells #[.pointer (some ⟨g1, 0, none⟩), .pointer (some g2)] 36 (0, 0), .cells #[str nonce] 9 (0, 0)])[w.heap.size + k]? := by
        intro k; rw [← hW0]; rfl
      have q2 : ∀ k, W0.heap[w.heap.size + k]? = (#[.cells #[.pointer (some ⟨g1, 0, none⟩), .pointer (some g2)] 36 (0, 0), .cells #[str s] 9 (0, 0), .cells (zc s.length) 5 (0, 0), .cells #[.slice (some ⟨w.heap.size + 1 + 1, 0, none⟩) 0 s.length] 31 (0, 0), .cells #[.pointer (some ⟨g1, 0, none⟩), .pointer (some g2)] 36 (0, 0), .cells #[str nonce] 9 (0, 0)] : Array Obj)[k]? := by
        intro k; rw [q k, Array.getElem?_append_right (by omega)]; congr 1; omega
      refine ⟨(h 0 (by omega)).trans (q2 0), (h 1 (by omega)).trans (q2 1), ?_, (h 3 (by omega)).trans (q2 3), (h 4 (by omega)).trans (q2 4), (h 5 (by omega)).trans (q2 5), hd, hb⟩
      exact ⟨by simp [byc, xst_zero], .inr ⟨w.heap.size + 2, s.length, zc s.length, rfl, by omega, (h 2 (by omega)).trans (q2 2), by omega, by unfold maxLen; omega, by simp [zc, size_madeCells], by simp [byc, xst_zero]⟩⟩
    have HW0 := Lib.hid hW0
    have HT0 := Lib.hid T0
    have HSZ := Lib.hid hsz
    clear hW0 T0 hsz
    refine calls_marks Tryd.func15 rfl ?_
    simp only [Tryd.ntmps15, List.size_toArray, List.length_cons, List.length_nil, Nat.reduceAdd, Nat.reduceSub, Array.replicate_succ, Array.replicate_zero, List.push_toArray, List.append_toArray, List.nil_append, List.cons_append]
    go_wp2_with (go_at_call 22; refine (bytes_any g1 _ nonce _).mono ?_; rintro e w1 ⟨rfl, rfl⟩)
    rw [HW0.out]
    refine rangeFunc_at rfl (enters_of Tryd.func29 (by kernel_rfl) rfl) ?_
    intro R HR
    rw [HSZ.out] at HR ⊢
    have hl1 : ((W0.alloc (.deferred (some []))).alloc (.loop (R .ready none))).heap[w.heap.size + 7]? = some (.loop (R .ready none)) := by
      have := World.alloc_heap_new (W0.alloc (.deferred (some []))) (.loop (R .ready none))
      rwa [World.size_alloc, HSZ.out] at this
    have hT1 : Ctm w g1 (.pointer (some g2)) key nonce s 0 ((W0.alloc (.deferred (some []))).alloc (.loop (R .ready none))) := by
      refine HT0.out _ (fun k hk => ?_) ?_ ?_
      · exact (Below.heap_alloc _ _ _ (by simp; have := HSZ.out; omega)).trans (Below.heap_alloc _ _ _ (by have := HSZ.out; omega))
      · refine (Below.heap_alloc _ _ _ (by simp; have := HSZ.out; omega)).trans ?_
        have := World.alloc_heap_new W0 (.deferred (some []))
        rwa [HSZ.out] at this
      · exact (hB0.alloc hB0.size _).alloc (Nat.le_trans hB0.size (by simp)) _
    have hs1 : ((W0.alloc (.deferred (some []))).alloc (.loop (R .ready none))).heap.size = w.heap.size + 8 := by simp; have := HSZ.out; omega
    generalize (W0.alloc (.deferred (some []))).alloc (.loop (R .ready none)) = W1 at hl1 hT1 hs1 ⊢
    clear HW0 HT0 hB0
    show Calls _ _ #[_, _, _] _ _
    have jok : Jok W1.heap.size (w.heap.size + 4) (w.heap.size + 5) g1 h1 h2 (.pointer (some g2)) key nonce (fun j W => Ctm w g1 (.pointer (some g2)) key nonce s j W ∧ W.heap[w.heap.size + 7]? = some (.loop (R .ready none))) :=
      ⟨fun j W T => T.1.pr, fun j W T => T.1.no, fun j W T => HA.out.bel T.1.b, fun j W T => HK.out.bel T.1.b,
        fun j W W' T hb => ⟨T.1.bel hb, (hb.block _ (Array.getElem?_eq_some_iff.1 T.2).1).trans T.2⟩,
        fun j W a v T ha => ⟨T.1.set a v (by omega), (heap_setCell_other _ _ _ _ (by omega)).trans T.2⟩,
        fun j W T => by have := (Array.getElem?_eq_some_iff.1 T.2).1; omega, fun j W T => ⟨T.1.draw, T.2⟩⟩
    refine (bytes_iter (w.heap.size + 4) (w.heap.size + 5) g1 h1 h2 (w.heap.size + 7) s.length g2 key nonce _ (fun W => Ctm w g1 (.pointer (some g2)) key nonce s s.length W ∧ W.heap[w.heap.size + 7]? = some (.loop (R .done (some (.exit 0))))) W1 jok hs hpos hno ⟨hT1, hl1⟩ ?_).mono ?_
    · rintro j W hj ⟨T, hl⟩
      refine' yield_of HR hl (by rfl) (fun K hK => ?asg) hl ?bd
      case asg =>
        gi_wp2
        exact hK
      have T2 : Hid (Ctm w g1 (.pointer (some g2)) key nonce s j (W.putObj (w.heap.size + 7) (.loop (R .busy none))) ∧ (W.putObj (w.heap.size + 7) (.loop (R .busy none))).heap[w.heap.size + 7]? = some (.loop (R .busy none)) ∧ Keep W1.heap.size W (W.putObj (w.heap.size + 7) (.loop (R .busy none)))) :=
        ⟨T.put _ (Nat.le_refl _), World.putObj_heap_same (Array.getElem?_eq_some_iff.1 hl).1, Nat.le_of_eq World.putObj_size.symm, fun k hk _ => World.putObj_heap_other (by omega)⟩
      clear HR
      generalize W.putObj (w.heap.size + 7) (.loop (R .busy none)) = W2 at T2 ⊢
      gi_wp2
      have HS : Hid (∀ W', Ctm w g1 (.pointer (some g2)) key nonce s j W' → W'.cell? ⟨w.heap.size + 3, 0, none⟩ = some (.slice (some ⟨w.heap.size + 2, 0, none⟩) j s.length) ∧ W'.cell? ⟨w.heap.size + 1, 0, none⟩ = some (str s)) :=
        fun W' T => ⟨cell_of_row _ _ 0 _ _ (0, 0) T.ob, cell_of_row _ _ 0 _ _ (0, 0) T.sb⟩
      refine region_round (by kernel_rfl) ?_ (by kernel_rfl) (any_of_E (S := (fun W' => W'.cell? ⟨w.heap.size + 3, 0, none⟩ = some (.slice (some ⟨w.heap.size + 2, 0, none⟩) j s.length) ∧ W'.cell? ⟨w.heap.size + 1, 0, none⟩ = some (str s))) (k := 9) _ _ _ _ ?_)
      · rintro ⟨a, w, h⟩; exact h
      change anyE _ _ _ _ _ _ _ _ W2.drew
      have q0 := run_index_str s j (j : Int) rfl hj
      have kb : 0 ≤ (j : Int) ∧ (j : Int) < (s.length : Int) := by omega
      have hH0 := HS.out _ T2.out.1.draw
      obtain ⟨i0, hi0, hz0, hz1, hz2⟩ := info_parts u8_info
      have HX := Lib.hid (xst_succ key nonce s j)
      generalize hbx : bx (byt s j) (stk key nonce j) = y at HX
      have TA : Hid (Ctm w g1 (.pointer (some g2)) key nonce s j (W2.alloc (.cells #[.int .u8 (y.toNat : Int)] 5 (0, 0))).drew) := T2.out.1.bel ((Below.refl _ W2).alloc (Nat.le_refl _) _).drew
      obtain ⟨w3, hrun, hr3, hg3⟩ := run_append_fits (P := Tryd.prog) ((W2.alloc (.cells #[.int .u8 (y.toNat : Int)] 5 (0, 0))).drew) w.heap.size 31 31 5 i0 1 Tryd.underlying31 hi0 hz1 (w.heap.size + 2) j s.length _ TA.out.row ⟨W2.heap.size, 0, none⟩ 1 1 (byc [y]) rfl (new_bytes W2 [y] _) (byc_one _) (by omega)
      obtain ⟨c3, f3, c4⟩ := T2.out.1.app (((Below.refl _ W2).alloc (Nat.le_refl _) _).drew) hg3
      have HG := Lib.hid (And.intro hr3 hg3)
      have YX := Lib.hid hbx
      clear hr3 hg3 hbx
      refine anyE_take (i := 0) (v := .slice (some ⟨w.heap.size + 2, 0, none⟩) j s.length) rfl (by kernel_rfl) (by kernel_rfl) (by kernel_rfl) (by kernel_rfl) (fun _ _ _ h => h) (Or.inl ⟨by rfl, ?_⟩) (by assumption) ?_
      · intro w hSw; go_simp
      try simp only [Act.put, List.setIfInBounds_toArray, List.set_cons_zero, List.set_cons_succ]
      refine anyE_take (i := 1) (v := str s) rfl (by kernel_rfl) (by kernel_rfl) (by kernel_rfl) (by kernel_rfl) (fun _ _ _ h => h) (Or.inl ⟨by rfl, ?_⟩) (by assumption) ?_
      · intro w hSw; go_simp
      try simp only [Act.put, List.setIfInBounds_toArray, List.set_cons_zero, List.set_cons_succ]
      refine anyE_take (i := 2) (v := .slice (some ⟨w.heap.size + 2, 0, none⟩) j s.length) rfl (by kernel_rfl) (by kernel_rfl) (by kernel_rfl) (by kernel_rfl) (fun _ _ _ h => h) (Or.inl ⟨by rfl, ?_⟩) (by assumption) ?_
      · intro w hSw; go_simp
      try simp only [Act.put, List.setIfInBounds_toArray, List.set_cons_zero, List.set_cons_succ]
      refine anyE_take (i := 3) (v := .int .i64 (j : Int)) rfl (by kernel_rfl) (by kernel_rfl) (by kernel_rfl) (by kernel_rfl) (fun _ _ _ h => h) (Or.inl ⟨by rfl, ?_⟩) (by assumption) ?_
      · intro w hSw; go_simp
      try simp only [Act.put, List.setIfInBounds_toArray, List.set_cons_zero, List.set_cons_succ]
      refine anyE_take (i := 4) (v := bv (byt s j)) rfl (by kernel_rfl) (by kernel_rfl) (by kernel_rfl) (by kernel_rfl) (fun _ _ _ h => h) (Or.inl ⟨by rfl, ?_⟩) (by assumption) ?_
      · intro w hSw; go_simp
      try simp only [Act.put, List.setIfInBounds_toArray, List.set_cons_zero, List.set_cons_succ]
      refine anyE_take (i := 5) (v := bv (stk key nonce j)) rfl (by kernel_rfl) (by kernel_rfl) (by kernel_rfl) (by kernel_rfl) (fun _ _ _ h => h) (Or.inl ⟨by rfl, ?_⟩) (by assumption) ?_
      · intro w hSw; go_simp
      try simp only [Act.put, List.setIfInBounds_toArray, List.set_cons_zero, List.set_cons_succ]
      refine anyE_take (i := 6) (v := bv (bx (byt s j) (stk key nonce j))) rfl (by kernel_rfl) (by kernel_rfl) (by kernel_rfl) (by kernel_rfl) (fun _ _ _ h => h) (Or.inl ⟨by rfl, ?_⟩) (by assumption) ?_
      · intro w hSw; go_simp
      try simp only [Act.put, List.setIfInBounds_toArray, List.set_cons_zero, List.set_cons_succ]
      rw [YX.out]
      refine anyE_one (i := 7) (by kernel_rfl) rfl (fun K hK => ?_)
      go_simp
      refine hK.out _ _ (HS.out _ TA.out) (fun hH1 => ?_)
      clear hK K
      try simp only [Act.put, List.setIfInBounds_toArray, List.set_cons_zero, List.set_cons_succ]
      refine anyE_one (i := 8) (by kernel_rfl) rfl (fun K hK => ?_)
      refine step_append_at (by rfl) (.tmp 19) (.tmp 26) _ (by rfl) _ _ _ _ (by rfl) (by rfl) hrun ?_
      refine hK.out _ _ ⟨c3, c4⟩ (fun hH2 => ?_)
      clear hK K
      try simp only [Act.put, List.setIfInBounds_toArray, List.set_cons_zero, List.set_cons_succ]
      refine anyE_last (by kernel_rfl) (by kernel_rfl) rfl (fun K hK => ?_)
      go_simp
      refine hK.out _ _ ?_
      clear hK K
      by_cases hjn : j + 1 = s.length
      · have d1 : ((j : Int) + 1 == (s.length : Int)) = true := by simp; omega
        obtain ⟨r1, r2, r3, r4⟩ := T2.out.1.step T2.out.2.1 T2.out.2.2 (by omega) (((Below.refl _ W2).alloc (Nat.le_refl _) _).drew) HG.out.1 HX.out HG.out.2 (.loop (R .done (some (.exit 0))))
        have HE := Lib.hid (And.intro r1 (And.intro r2 (And.intro (r3.cast hjn) r4)))
        clear r1 r2 r3 r4 HG hjn
        gi_wp2
        exact ⟨HE.out.1, HE.out.2.1, .inr ⟨rfl, HE.out.2.2.1, HE.out.2.2.2⟩⟩
      · have d1 : ((j : Int) + 1 == (s.length : Int)) = false := by simp; omega
        obtain ⟨r1, r2, r3, r4⟩ := T2.out.1.step T2.out.2.1 T2.out.2.2 (by omega) (((Below.refl _ W2).alloc (Nat.le_refl _) _).drew) HG.out.1 HX.out HG.out.2 (.loop (R .ready none))
        have HE := Lib.hid (And.intro r1 (And.intro r2 (And.intro r3 r4)))
        clear r1 r2 r3 r4 HG
        gi_wp2
        exact ⟨HE.out.1, HE.out.2.1, .inl ⟨rfl, by omega, HE.out.2.2.1, HE.out.2.2.2⟩⟩
    · rintro e W ⟨⟨v, rfl⟩, T, hl⟩
      refine ⟨⟨v, rfl⟩, .inr ⟨.exit 0, hl, ?_⟩⟩
      have T3 := Lib.hid (T.put (.loop (R .exhausted (some (.exit 0)))) (Nat.le_refl _))
      clear HR jok hl1 hT1
      generalize W.putObj (w.heap.size + 7) (.loop (R .exhausted (some (.exit 0)))) = W3 at T3 ⊢
      have c1 := cell_of_row _ _ 0 _ _ (0, 0) T3.out.ob
      have xl := xst_len key nonce s s.length
      have hby : ByS W3 w.heap.size (.slice (some ⟨w.heap.size + 2, 0, none⟩) s.length s.length) (xst key nonce s s.length) := ByS.of_owns (by rw [xl]; exact T3.out.row)
      have cv := conv_bys hby
      clear hby xl
      go_wp2_with fail
      exact leave_marked T3.out.d (results_tmp rfl _ _ _) ⟨rfl, below_putObj T3.out.b (by omega)⟩
end Go.Proofs.YtgajfbmaoahpgaaDoor
