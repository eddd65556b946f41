/- The reference's memory, and the walk of its Row. Condition: the reference lies at the pointer. -/
import Derived.Test.YthdmjeoldnehcaaLrf
namespace Go.Proofs.Ythdmjeoldnehcaa
open Go.RowKit
set_option linter.unusedVariables false
set_option linter.unusedSimpArgs false

/-- The reference: bad ones, the actions that were done. -/
structure Rf (W : World) (B hp : Nat) (v : Value) (bad : Nat) (L : List Ac) : Prop where
  top : W.heap[hp]? = some (.cells #[.int .u8 (bad : Int), v] 30 (0, 0))
  own : W.ownsRow B 35 7 v L.length (aflat L)
  bh : B ≤ hp
  nh : v.ownBlock ≠ some hp
/-- Its blocks. -/
def Rl (hp : Nat) (v : Value) (k : Nat) : Prop := k = hp ∨ v.ownBlock = some k
theorem Rf.bl_lt {W : World} {B hp : Nat} {v : Value} {bad : Nat} {L : List Ac} (h : Rf W B hp v bad L) (k : Nat) (hk : Rl hp v k) : B ≤ k ∧ k < W.heap.size := by
  rcases hk with rfl | e
  · exact ⟨h.bh, lt_of_heap h.top⟩
  · exact own_range h.own k e
theorem Rf.same {W W' : World} {B hp : Nat} {v : Value} {bad : Nat} {L : List Ac} (h : Rf W B hp v bad L) (hb : ∀ k, Rl hp v k → W'.heap[k]? = W.heap[k]?) : Rf W' B hp v bad L :=
  ⟨(hb hp (.inl rfl)).trans h.top, ownsRow_same h.own (fun k hk => hb k (.inr hk)), h.bh, h.nh⟩
theorem Rf.bel {W W' : World} {B hp : Nat} {v : Value} {bad : Nat} {L : List Ac} (h : Rf W B hp v bad L) (hb : Below W.heap.size W W') : Rf W' B hp v bad L := h.same fun k hk => hb.block k (h.bl_lt k hk).2
theorem Rf.slice {W : World} {B hp : Nat} {v : Value} {bad : Nat} {L : List Ac} (h : Rf W B hp v bad L) : ∃ ob cap, v = .slice ob L.length cap := own_slice h.own

/-- What Row works on: the transaction, the answer's place, the row as it grows. -/
structure Rwm (w : World) (t : Tx) (rb : Nat) (r : Rw) (W : World) : Prop where
  tx : W.heap[w.heap.size]? = some (.cells t.cells.toArray 33 (0, 0))
  z : W.heap[w.heap.size + 1]? = some (.cells zrow.toArray 43 (0, 0))
  r : W.heap[rb]? = some (.cells r.cells.toArray 43 (0, 0))
  n : w.heap.size + 2 ≤ rb
  b : Below w.heap.size w W
theorem Rwm.bel {w : World} {t : Tx} {rb : Nat} {r : Rw} {W W' : World} (h : Rwm w t rb r W) (hb : Below W.heap.size W W') : Rwm w t rb r W' :=
  ⟨(hb.block _ (lt_of_heap h.tx)).trans h.tx, (hb.block _ (lt_of_heap h.z)).trans h.z, (hb.block _ (lt_of_heap h.r)).trans h.r, h.n, below_acc h.b hb⟩
theorem Rwm.set {w : World} {t : Tx} {rb : Nat} {r : Rw} {W : World} (h : Rwm w t rb r W) (j : Nat) (v : Value) (r' : Rw) (e : r'.cells = r.cells.set j v) : Rwm w t rb r' (W.setCell ⟨rb, j, none⟩ v) := by
  have hn := h.n
  refine ⟨(Below.heap_setCell _ _ _ _ (by simp; omega)).trans h.tx, (Below.heap_setCell _ _ _ _ (by simp; omega)).trans h.z, ?_, h.n, h.b.setCell (p := ⟨rb, j, none⟩) (show w.heap.size ≤ rb by omega) v⟩
  rw [e]
  have := h.r
  simp [World.setCell, Array.getElem?_modify, this]
theorem Rwm.draw {w : World} {t : Tx} {rb : Nat} {r : Rw} {W : World} (h : Rwm w t rb r W) (n : Nat) : Rwm w t rb r (W.drewN n) := h.bel (below_drewN (Below.refl _ W) n)
theorem free_of {W : World} {b : Nat} {cs : Array Value} {T : TypeId} (h : W.heap[b]? = some (.cells cs T (0, 0))) (i : Nat) : W.frozen? ⟨b, i, none⟩ = false := by simp [World.frozen?, h]
theorem results_rrow {tmps : Array Value} {W : World} {b : Nat} {cs : Array Value} {x : Value} (p : tmps.getD 4 undef = .pointer (some ⟨b, 0, none⟩)) (h5 : tmps.getD 5 undef = x) (hb : W.heap[b]? = some (.cells cs 43 (0, 0))) (hs : cs.size = 10) :
    (results Try.f19 tmps).run Try.prog W = .ok (.tuple #[.agg cs, x]) W := by
  have h : (Try.f19).results = #[.cell 4 43, .tmp 5] := rfl
  have q1 : tmps[4]?.getD undef = .pointer (some ⟨b, 0, none⟩) := by simpa using p
  have q5 : tmps[5]?.getD undef = x := by simpa using h5
  have hl := run_loadVar_row (P := Try.prog) W b 43 43 cs (0, 0) _ hb Try.underlying43 rfl (by rw [hs]; exact size_rw (row0 ⟨0, 0, 0⟩))
  simp [results, h, q1, q5, asAddr, hl, Result.andThen]
theorem fR_succ (L : List Ac) (t : Tx) (k : Nat) (h : k < L.length) : fR (L.take (k + 1)) t = (if (L[k]).tx = t then doIt (fR (L.take k) t) L[k] else fR (L.take k) t) ∧ isR (L.take (k + 1)) t = (isR (L.take k) t || decide ((L[k]).tx = t)) := by
  rw [List.take_succ_eq_append_getElem h]
  exact ⟨fR_snoc _ _ _, isR_snoc _ _ _⟩
theorem rv_same {L : List Ac} {t : Tx} : (isR L t = true → rvR L t = fR L t) ∧ (isR L t = false → rvR L t = row0 ⟨0, 0, 0⟩) := by
  unfold rvR
  exact ⟨fun h => by rw [if_pos h], fun h => by rw [h]; rfl⟩
set_option maxHeartbeats 8000000 in
theorem rRow_any {B hp bad : Nat} {v : Value} {L : List Ac} {w : World} (h : Rf w B hp v bad L) (ok : ∀ a ∈ L, Okd bad a) (t : Tx) (hlen : L.length ≤ 100000) :
    Calls Try.prog 19 #[.pointer (some ⟨hp, 0, none⟩), .agg t.cells.toArray] w fun e w' => e = .returned (.tuple #[.agg (rvR L t).cells.toArray, .bool (isR L t)]) ∧ Below w.heap.size w w' := by
  obtain ⟨ob, cap, rfl⟩ := h.slice
  have HF := Lib.hid h
  have OK := Lib.hid ok
  have RV := Lib.hid (rv_same (L := L) (t := t))
  have LO := Lib.hid (fun k => lo_fR (fun a ha => ok a (List.mem_of_mem_take ha)) t (L := L.take k))
  clear h ok
  obtain ⟨c, e, s⟩ := t
  simp only [Tx.cells]
  have b0 := (Below.refl w.heap.size w).alloc (Nat.le_refl _) (.cells #[.int .i64 c, .int .i64 e, .int .i64 s] 33 (0, 0))
  have b1 := b0.alloc b0.size (.cells zrow.toArray 43 (0, 0))
  have p0 := (Below.heap_alloc (w.alloc (.cells #[.int .i64 c, .int .i64 e, .int .i64 s] 33 (0, 0))) (.cells zrow.toArray 43 (0, 0)) w.heap.size (by simp)).trans (heap_alloc_new w (.cells #[.int .i64 c, .int .i64 e, .int .i64 s] 33 (0, 0)))
  have p1 := heap_alloc_new (w.alloc (.cells #[.int .i64 c, .int .i64 e, .int .i64 s] 33 (0, 0))) (.cells zrow.toArray 43 (0, 0))
  rw [World.size_alloc] at p1
  have hsz : ((w.alloc (.cells #[.int .i64 c, .int .i64 e, .int .i64 s] 33 (0, 0))).alloc (.cells zrow.toArray 43 (0, 0))).heap.size = w.heap.size + 2 := by simp
  generalize hr : Value.tuple #[.agg (rvR L ⟨c, e, s⟩).cells.toArray, .bool (isR L ⟨c, e, s⟩)] = res
  have RES := Lib.hid hr
  clear hr
  go_enter Try.func19, Try.ntmps19
  go_upto_region 1 with (fail)
  change Code.wp _ _ _ _ ((w.alloc (.cells #[.int .i64 c, .int .i64 e, .int .i64 s] 33 (0, 0))).alloc (.cells zrow.toArray 43 (0, 0)))
  generalize (w.alloc (.cells #[.int .i64 c, .int .i64 e, .int .i64 s] 33 (0, 0))).alloc (.cells zrow.toArray 43 (0, 0)) = w1 at b1 p0 p1 hsz ⊢
  have q0 := cell_of_row _ _ 0 _ _ (0, 0) p0
  have q1 := cell_of_row _ _ 1 _ _ (0, 0) p0
  have q2 := cell_of_row _ _ 2 _ _ (0, 0) p0
  simp only [List.getElem?_toArray, List.getElem?_cons_zero, List.getElem?_cons_succ] at q0 q1 q2
  have BB := Lib.hid (And.intro b1 (And.intro p0 (And.intro p1 hsz)))
  clear b0 b1 p0 p1 hsz
  go_upto_region 2 with (refine wpList_store_put rfl 43 _ _ rfl w1.heap.size (row0 ⟨c, e, s⟩).cells.toArray (by rfl) (by rfl) 43 _ (heap_alloc_new w1 (.cells zrow.toArray 43 (0, 0))) (size_rw _) (by rfl) (one_rw _) ?_; intro W2 P2)
  have R0 : Hid (Rwm w ⟨c, e, s⟩ w1.heap.size (fR (L.take 0) ⟨c, e, s⟩) W2) := by
    obtain ⟨b1, p0, p1, hsz⟩ := BB.out
    have bb := P2.below ((Below.refl w1.heap.size w1).alloc (Nat.le_refl _) _) (Nat.le_refl _)
    exact ⟨(bb.block _ (lt_of_heap p0)).trans p0, (bb.block _ (lt_of_heap p1)).trans p1, P2.here, by omega, below_acc b1 bb⟩
  clear BB q0 q1 q2 P2
  generalize w1.heap.size = rb at R0 ⊢
  go_wp2_with fail
  go_loopw [7, 8] (fun iv i wr => ∃ (k : Nat) (sd : Bool), iv = .bool sd ∧ i = .int .i64 (k : Int) ∧ k ≤ L.length ∧ Hid (Rwm w ⟨c, e, s⟩ rb (fR (L.take k) ⟨c, e, s⟩) wr ∧ sd = isR (L.take k) ⟨c, e, s⟩)) (fun _ i _ => L.length - (intOf i).toNat)
  case atStart => exact ⟨0, false, rfl, rfl, by omega, R0.out, by simp [isR]⟩
  case round =>
    clear R0
    obtain ⟨k, sd, rfl, rfl, hk, H⟩ := hrel
    have g1 := cell_of_row _ _ 1 _ _ (0, 0) (HF.out.bel H.out.1.b).top
    simp only [List.getElem?_toArray, List.getElem?_cons_zero, List.getElem?_cons_succ] at g1
    by_cases hkl : k < L.length
    · obtain ⟨ab, cap2, e2, hr2⟩ := own_act (HF.out.bel H.out.1.b).own hkl
      cases e2
      have HR := Lib.hid (hr2 k hkl)
      have OKk := Lib.hid (OK.out L[k] (List.getElem_mem hkl))
      have ST := Lib.hid (fR_succ L ⟨c, e, s⟩ k hkl)
      have LOk := Lib.hid (LO.out k)
      have kb : 0 ≤ (k : Int) ∧ (k : Int) < (L.length : Int) := by omega
      have kw : IntKind.i64.wrap ((k : Int) + 1) = (k : Int) + 1 := IntWalk.i64_in _ (by omega)
      clear hr2
      generalize L[k] = x at HR OKk ST
      generalize fR (L.take k) ⟨c, e, s⟩ = r at H ST LOk
      generalize isR (L.take k) ⟨c, e, s⟩ = is at H ST
      have R1 := Lib.hid H.out.1
      have IS := Lib.hid H.out.2
      clear H
      go_upto_region 6 with (first
        | (refine wpList_load_mid rfl 35 _ rfl ab (k * 7) (by rfl) x.cells _ HR.out Try.underlying35 rfl (size_ac x) ?_)
        | (refine wpList_store_put rfl 35 _ _ rfl wr.heap.size x.cells.toArray (by rfl) (by rfl) 35 _ (heap_alloc_new wr (.cells zac.toArray 35 (0, 0))) (size_ac _) (by rfl) (one_ac _) ?_; intro W3 P3; have R3 := Lib.hid (R1.out.bel (P3.below ((Below.refl wr.heap.size wr).alloc (Nat.le_refl _) _) (Nat.le_refl _))); have H3 := Lib.hid P3.here; clear P3))
      have nb : rb ≠ wr.heap.size := by have := lt_of_heap R1.out.r; omega
      clear R1 HR g1
      generalize wr.heap.size = xb at H3 nb ⊢
      obtain ⟨kx, ⟨cx, ex, sx⟩, ox, yx, gx⟩ := x
      obtain ⟨tr, b1', o1', v1', y1', d1', m1', l1'⟩ := r
      have t0 := cell_of_row _ _ 0 _ _ (0, 0) R3.out.tx
      have t1 := cell_of_row _ _ 1 _ _ (0, 0) R3.out.tx
      have t2 := cell_of_row _ _ 2 _ _ (0, 0) R3.out.tx
      have x0 := cell_of_row _ _ 0 _ _ (0, 0) H3.out
      have x1 := cell_of_row _ _ 1 _ _ (0, 0) H3.out
      have x2 := cell_of_row _ _ 2 _ _ (0, 0) H3.out
      have x3 := cell_of_row _ _ 3 _ _ (0, 0) H3.out
      have x4 := cell_of_row _ _ 4 _ _ (0, 0) H3.out
      have x5 := cell_of_row _ _ 5 _ _ (0, 0) H3.out
      have x6 := cell_of_row _ _ 6 _ _ (0, 0) H3.out
      have r3 := cell_of_row _ _ 3 _ _ (0, 0) R3.out.r
      have r4 := cell_of_row _ _ 4 _ _ (0, 0) R3.out.r
      have r5 := cell_of_row _ _ 5 _ _ (0, 0) R3.out.r
      have r6 := cell_of_row _ _ 6 _ _ (0, 0) R3.out.r
      have r7 := cell_of_row _ _ 7 _ _ (0, 0) R3.out.r
      have r8 := cell_of_row _ _ 8 _ _ (0, 0) R3.out.r
      have r9 := cell_of_row _ _ 9 _ _ (0, 0) R3.out.r
      simp only [Tx.cells, Ac.cells, Rw.cells, List.getElem?_toArray, List.getElem?_cons_zero, List.getElem?_cons_succ] at t0 t1 t2 x0 x1 x2 x3 x4 x5 x6 r3 r4 r5 r6 r7 r8 r9
      have fz := free_of R3.out.r
      by_cases htx : (⟨cx, ex, sx⟩ : Tx) = ⟨c, e, s⟩
      rotate_left
      · have hne : ∀ W : World, (binOp .neq 33 (.agg #[.int .i64 cx, .int .i64 ex, .int .i64 sx]) (.agg #[.int .i64 c, .int .i64 e, .int .i64 s])).run Try.prog W = .ok (.bool true) W := fun W => by
          have := neq_tx ⟨cx, ex, sx⟩ ⟨c, e, s⟩ W
          rw [decide_eq_false htx] at this
          exact this
        have ST2 : Hid (fR (L.take (k + 1)) ⟨c, e, s⟩ = ⟨tr, b1', o1', v1', y1', d1', m1', l1'⟩ ∧ isR (L.take (k + 1)) ⟨c, e, s⟩ = sd) := by
          have := ST.out
          simp only [htx, if_false, decide_false, Bool.or_false] at this
          exact ⟨this.1, this.2.trans IS.out.symm⟩
        clear ST htx
        go_wp2_with fail
        go_roundw
        case rel => exact ⟨k + 1, sd, rfl, by go_num, by omega, by rw [ST2.out.1]; exact R3.out, ST2.out.2.symm⟩
        case measure => simp [intOf]; omega
      have hne : ∀ W : World, (binOp .neq 33 (.agg #[.int .i64 cx, .int .i64 ex, .int .i64 sx]) (.agg #[.int .i64 c, .int .i64 e, .int .i64 s])).run Try.prog W = .ok (.bool false) W := fun W => by
        have := neq_tx ⟨cx, ex, sx⟩ ⟨c, e, s⟩ W
        rw [decide_eq_true htx] at this
        exact this
      have ST2 : Hid (fR (L.take (k + 1)) ⟨c, e, s⟩ = doIt ⟨tr, b1', o1', v1', y1', d1', m1', l1'⟩ ⟨kx, ⟨cx, ex, sx⟩, ox, yx, gx⟩ ∧ isR (L.take (k + 1)) ⟨c, e, s⟩ = true) := by
        have := ST.out
        simp only [htx, if_true, decide_true, Bool.or_true] at this
        exact this
      clear ST htx
      obtain rfl | rfl | rfl | rfl : kx = 1 ∨ kx = 2 ∨ kx = 3 ∨ kx = 4 := OKk.out.k
      · clear OKk LOk IS
        go_wp2_with fail
        go_roundw
        case rel => exact ⟨k + 1, true, rfl, by go_num, by omega, by rw [ST2.out.1]; exact (R3.out.set 3 _ ⟨tr, true, o1', v1', y1', d1', m1', l1'⟩ rfl).set 4 _ ⟨tr, true, gx, v1', y1', d1', m1', l1'⟩ rfl, ST2.out.2.symm⟩
        case measure => simp [intOf]; omega
      · cases yx
        · have ho := OKk.out.o (by simp)
          simp only at ho
          have hw : IntKind.u64.wrap ox = ox := IntWalk.u64_in _ (by omega)
          have eo := or_is (show v1' < 256 from LOk.out.2.1) (bitO_lt ho.1 ho.2)
          rw [← bit_is ho.1 ho.2] at eo
          clear OKk LOk IS
          go_wp2_with fail
          go_roundw
          case rel => exact ⟨k + 1, true, rfl, by go_num, by omega, by rw [ST2.out.1]; exact R3.out.set 5 _ ⟨tr, b1', o1', v1' ||| bitO ox, y1', d1', m1', l1'⟩ (by rfl), ST2.out.2.symm⟩
          case measure => simp [intOf]; omega
        · have ho := OKk.out.o (by simp)
          simp only at ho
          have hw : IntKind.u64.wrap ox = ox := IntWalk.u64_in _ (by omega)
          have eo := or_is (show v1' < 256 from LOk.out.2.1) (bitO_lt ho.1 ho.2)
          rw [← bit_is ho.1 ho.2] at eo
          have ey := or_is (show y1' < 256 from LOk.out.2.2.1) (bitO_lt ho.1 ho.2)
          rw [← bit_is ho.1 ho.2] at ey
          clear OKk LOk IS
          go_wp2_with fail
          go_roundw
          case rel => exact ⟨k + 1, true, rfl, by go_num, by omega, by rw [ST2.out.1]; exact (R3.out.set 5 _ ⟨tr, b1', o1', v1' ||| bitO ox, y1', d1', m1', l1'⟩ (by rfl)).set 6 _ ⟨tr, b1', o1', v1' ||| bitO ox, y1' ||| bitO ox, d1', m1', l1'⟩ (by rfl), ST2.out.2.symm⟩
          case measure => simp [intOf]; omega
      · clear OKk LOk IS
        go_wp2_with fail
        go_roundw
        case rel => exact ⟨k + 1, true, rfl, by go_num, by omega, by rw [ST2.out.1]; exact (R3.out.set 7 _ ⟨tr, b1', o1', v1', y1', true, m1', l1'⟩ rfl).set 8 _ ⟨tr, b1', o1', v1', y1', true, yx, l1'⟩ rfl, ST2.out.2.symm⟩
        case measure => simp [intOf]; omega
      · have ho := OKk.out.o (by simp)
        simp only at ho
        have hw : IntKind.u64.wrap ox = ox := IntWalk.u64_in _ (by omega)
        have eo := or_is (show l1' < 256 from LOk.out.2.2.2) (bitO_lt ho.1 ho.2)
        rw [← bit_is ho.1 ho.2] at eo
        clear OKk LOk IS
        go_wp2_with fail
        go_roundw
        case rel => exact ⟨k + 1, true, rfl, by go_num, by omega, by rw [ST2.out.1]; exact R3.out.set 9 _ ⟨tr, b1', o1', v1', y1', d1', m1', l1' ||| bitO ox⟩ (by rfl), ST2.out.2.symm⟩
        case measure => simp [intOf]; omega
    · obtain rfl : k = L.length := by omega
      have IS := Lib.hid H.out.2
      have R1 := Lib.hid H.out.1
      rw [List.take_length] at IS R1
      clear H hk hkl LO OK
      cases sd
      · have RS : Hid (rvR L ⟨c, e, s⟩ = row0 ⟨0, 0, 0⟩) := RV.out.2 IS.out.symm
        go_wp2_with (refine wpList_store_put rfl 43 _ _ rfl (w.heap.size + 1) zrow.toArray (by rfl) (by rfl) 43 _ R1.out.z (size_rw (row0 ⟨0, 0, 0⟩)) (by rfl) (one_rw (row0 ⟨0, 0, 0⟩)) ?_; intro W4 P4)
        refine bodyPost_ret (results_rrow (by rfl) (by rfl) P4.here rfl) rfl ⟨by rw [← RES.out, RS.out, ← IS.out]; rfl, P4.below R1.out.b (by omega)⟩
      · have RS : Hid (rvR L ⟨c, e, s⟩ = fR L ⟨c, e, s⟩) := RV.out.1 IS.out.symm
        generalize fR L ⟨c, e, s⟩ = r at R1 RS
        go_wp2_with (first
          | (refine wpList_load_row rfl 43 _ rfl rb (by rfl) 43 _ (0, 0) _ R1.out.r Try.underlying43 rfl (size_rw _) ?_)
          | (refine wpList_store_put rfl 43 _ _ rfl (w.heap.size + 1) r.cells.toArray (by rfl) (by rfl) 43 _ R1.out.z (size_rw _) (by rfl) (one_rw _) ?_; intro W4 P4))
        refine bodyPost_ret (results_rrow (by rfl) (by rfl) P4.here rfl) rfl ⟨by rw [← RES.out, RS.out, ← IS.out]; rfl, P4.below R1.out.b (by omega)⟩
end Go.Proofs.Ythdmjeoldnehcaa
