/- The walk of the ledger's mayDecide: a range over honest. Condition: the row and the ledger lie at the pointers. -/
import Derived.Test.YthdmjeoldnehcaaLgd
import Derived.Shelf.Abstract
namespace Go.Proofs.Ythdmjeoldnehcaa
open Go.RowKit Go.Shelf
set_option linter.unusedVariables false
set_option linter.unusedSimpArgs false
set_option linter.unnecessarySimpa false
attribute [local go_sem] Oper.semAt_some

/-- The memory of mayDecide while its loop runs. -/
structure Mdm (w : World) (rb ro gb : Nat) (a : Ac) (W : World) : Prop where
  p0 : W.heap[w.heap.size]? = some (.cells #[.pointer (some ⟨rb, ro, none⟩)] 61 (0, 0))
  p1 : W.heap[w.heap.size + 1]? = some (.cells a.cells.toArray 35 (0, 0))
  p2 : W.heap[w.heap.size + 2]? = some (.cells #[.bool false] 4 (0, 0))
  p3 : W.heap[w.heap.size + 3]? = some (.cells #[.pointer (some ⟨gb, 0, none⟩)] 24 (0, 0))
  p4 : W.heap[w.heap.size + 4]? = some (.cells #[.pointer (some ⟨rb, ro, none⟩)] 61 (0, 0))
  d : W.heap[w.heap.size + 5]? = some (.deferred (some []))
  b : Below w.heap.size w W
theorem Mdm.draw {w W : World} {rb ro gb : Nat} {a : Ac} (h : Mdm w rb ro gb a W) (n : Nat) : Mdm w rb ro gb a (W.drewN n) := ⟨h.p0, h.p1, h.p2, h.p3, h.p4, h.d, below_drewN h.b n⟩
theorem Mdm.put {w W : World} {rb ro gb : Nat} {a : Ac} (h : Mdm w rb ro gb a W) (o : Obj) : Mdm w rb ro gb a (W.putObj (w.heap.size + 6) o) := by
  have e : ∀ k, k < 6 → (W.putObj (w.heap.size + 6) o).heap[w.heap.size + k]? = W.heap[w.heap.size + k]? := fun k hk => World.putObj_heap_other (by omega)
  exact ⟨(e 0 (by omega)).trans h.p0, (e 1 (by omega)).trans h.p1, (e 2 (by omega)).trans h.p2, (e 3 (by omega)).trans h.p3, (e 4 (by omega)).trans h.p4, (e 5 (by omega)).trans h.d, below_putObj h.b (by omega)⟩
theorem Mdm.act {w W : World} {rb ro gb : Nat} {a : Ac} (h : Mdm w rb ro gb a W) : AcAt W (w.heap.size + 1) a := by
  obtain ⟨kind, ⟨c, e, s⟩, org, yes, orgs⟩ := a
  have h1 := h.p1
  exact ⟨cell_of_row _ _ 0 _ _ (0, 0) h1, cell_of_row _ _ 1 _ _ (0, 0) h1, cell_of_row _ _ 2 _ _ (0, 0) h1, cell_of_row _ _ 3 _ _ (0, 0) h1, cell_of_row _ _ 4 _ _ (0, 0) h1, cell_of_row _ _ 5 _ _ (0, 0) h1, cell_of_row _ _ 6 _ _ (0, 0) h1, (Array.getElem?_eq_some_iff.1 h1).1⟩
theorem keep6 {w W : World} {o : Obj} (h : W.heap[w.heap.size + 6]? = some o) (v : Bool) : (W.setCell ⟨w.heap.size + 2, 0, none⟩ (.bool v)).heap[w.heap.size + 6]? = some o := (Below.heap_setCell _ _ _ _ (by simp)).trans h
theorem Mdm.keep2 {w W : World} {rb ro gb : Nat} {a : Ac} (h : Mdm w rb ro gb a W) (v : Bool) : (W.setCell ⟨w.heap.size + 2, 0, none⟩ (.bool v)).heap[w.heap.size + 5]? = some (.deferred (some [])) := (Below.heap_setCell _ _ _ _ (by simp)).trans h.d
theorem Mdm.cell2 {w W : World} {rb ro gb : Nat} {a : Ac} (h : Mdm w rb ro gb a W) (v : Bool) : ((W.setCell ⟨w.heap.size + 2, 0, none⟩ (.bool v)).putObj (w.heap.size + 5) (.deferred none)).cell? ⟨w.heap.size + 2, 0, none⟩ = some (.bool v) := by
  have e := (World.putObj_heap_other (w := W.setCell ⟨w.heap.size + 2, 0, none⟩ (.bool v)) (r := w.heap.size + 5) (k := w.heap.size + 2) (o := .deferred none) (by omega))
  have h2 : (W.setCell ⟨w.heap.size + 2, 0, none⟩ (.bool v)).heap[w.heap.size + 2]? = some (.cells #[.bool v] 4 (0, 0)) := by
    simp [World.setCell, Array.getElem?_modify, h.p2]
  have := cell_of_row _ _ 0 _ _ (0, 0) (e.trans h2)
  simpa using this
theorem Mdm.stay {w W : World} {rb ro gb : Nat} {a : Ac} (h : Mdm w rb ro gb a W) : Mdm w rb ro gb a (W.setCell ⟨w.heap.size + 2, 0, none⟩ (.bool false)) := by
  have e : ∀ k, k ≠ 2 → (W.setCell ⟨w.heap.size + 2, 0, none⟩ (.bool false)).heap[w.heap.size + k]? = W.heap[w.heap.size + k]? := fun k hk => Below.heap_setCell _ _ _ _ (by simp; omega)
  refine ⟨(e 0 (by omega)).trans h.p0, (e 1 (by omega)).trans h.p1, ?_, (e 3 (by omega)).trans h.p3, (e 4 (by omega)).trans h.p4, (e 5 (by omega)).trans h.d, h.b.setCell (p := ⟨w.heap.size + 2, 0, none⟩) (by simp) _⟩
  simp [World.setCell, Array.getElem?_modify, h.p2]
theorem results_dec {tmps : Array Value} {W : World} {b1 : Nat} {v1 : Value} (p1 : tmps.getD 6 undef = .pointer (some ⟨b1, 0, none⟩)) (c1 : W.cell? ⟨b1, 0, none⟩ = some v1) :
    (results Try.f34 tmps).run Try.prog W = .ok v1 W := by
  have h : (Try.f34).results = #[.cell 6 4] := rfl
  have q1 : tmps[6]?.getD undef = .pointer (some ⟨b1, 0, none⟩) := by simpa using p1
  simp [results, h, q1, asAddr, loadVar, Try.isAgg4, c1, Result.andThen]

theorem honest_any (g rp : Addr) (w : World) :
    Calls Try.prog 46 #[.pointer (some g), .pointer (some rp)] w fun e w' => e = .returned (.func (.func 48) #[] #[.pointer (some ⟨w.heap.size + 1, 0, none⟩), .pointer (some ⟨w.heap.size, 0, none⟩)]) ∧
      w' = (w.alloc (.cells #[.pointer (some g)] 24 (0, 0))).alloc (.cells #[.pointer (some rp)] 61 (0, 0)) := by
  go_enter Try.func46, Try.ntmps46
  go_wp2_with fail
  go_ret
  exact ⟨rfl, rfl⟩

/-- All of a set up to a place are in another. -/
def upto (s y k : Nat) : Prop := ∀ j, j < k → s.testBit j = true → y.testBit j = true
theorem upto_step {s y k : Nat} (h : upto s y k) (hk : s.testBit k = true → y.testBit k = true) : upto s y (k + 1) := fun j hj hjb => by
  by_cases e : j = k
  · subst e; exact hk hjb
  · exact h j (by omega) hjb
/-- What a decision asks of the votes. -/
def decOk (bad : Nat) (r : Rw) (yes : Bool) : Bool := !r.dec && (!yes || (r.begun && ((List.range 8).all fun k => !(r.orgs.testBit k && !bad.testBit k) || r.yes.testBit k)))

set_option maxRecDepth 100000 in
set_option maxHeartbeats 8000000 in
theorem mayDecide_any (gb b o bad : Nat) (r : Rw) (a : Ac) (w : World) (h : RwAt w b o r) (hg : w.cell? ⟨gb, 0, none⟩ = some (.int .u8 (bad : Int))) (hbad : bad < 256) (l : r.orgs < 256 ∧ r.voted < 256 ∧ r.yes < 256 ∧ r.learnt < 256) :
    Calls Try.prog 34 #[.pointer (some ⟨gb, 0, none⟩), .pointer (some ⟨b, o, none⟩), .agg a.cells.toArray] w fun e w' => e = .returned (.bool (decOk bad r a.yes)) ∧ Below w.heap.size w w' := by
  have hglt : gb < w.heap.size := block_lt_of_cell hg
  obtain ⟨kind, ⟨c, e, s⟩, org, yes, orgs⟩ := a
  obtain ⟨W0, hW0⟩ : ∃ W0, ((w.alloc (.cells #[.pointer (some ⟨b, o, none⟩)] 61 (0, 0))).alloc (.cells #[.int .u8 (kind : Int), .int .i64 c, .int .i64 e, .int .i64 s, .int .i64 org, .bool yes, .int .u8 (orgs : Int)] 35 (0, 0))).alloc (.cells #[.bool false] 4 (0, 0)) = W0 := ⟨_, rfl⟩
  have hsz : W0.heap.size = w.heap.size + 3 := by rw [← hW0]; simp
  have hB0 : Below w.heap.size w W0 := by
    rw [← hW0]
    exact (((Below.refl _ w).alloc (Nat.le_refl _) _).alloc (by simp) _).alloc (by simp; omega) _
  have q : ∀ k, W0.heap[w.heap.size + k]? = (#[.cells #[.pointer (some ⟨b, o, none⟩)] 61 (0, 0), .cells #[.int .u8 (kind : Int), .int .i64 c, .int .i64 e, .int .i64 s, .int .i64 org, .bool yes, .int .u8 (orgs : Int)] 35 (0, 0), .cells #[.bool false] 4 (0, 0)] : Array Obj)[k]? := by
    intro k
    have : W0.heap = w.heap ++ #[.cells #[.pointer (some ⟨b, o, none⟩)] 61 (0, 0), .cells #[.int .u8 (kind : Int), .int .i64 c, .int .i64 e, .int .i64 s, .int .i64 org, .bool yes, .int .u8 (orgs : Int)] 35 (0, 0), .cells #[.bool false] 4 (0, 0)] := by rw [← hW0]; rfl
    rw [this, Array.getElem?_append_right (by omega)]; congr 1; omega
  have h0 := h.bel hB0
  obtain ⟨t0, t1, t2, c3, c4, c5, c6, c7, c8, c9, lt⟩ := h0
  have p0 := cell_of_row _ _ 0 _ _ (0, 0) (q 0)
  have p1 := cell_of_row _ _ 5 _ _ (0, 0) (q 1)
  have p2 := cell_of_row _ _ 0 _ _ (0, 0) (q 2)
  have f2 := frozen_of_row _ _ 0 _ _ (q 2)
  simp only [Nat.add_zero, List.getElem?_toArray, List.getElem?_cons_zero, List.getElem?_cons_succ] at p0 p1 p2 f2
  refine calls_marks Try.func34 rfl ?_
  simp only [Ac.cells, Try.ntmps34, List.size_toArray, List.length_cons, List.length_nil, Nat.reduceAdd, Nat.reduceSub, Array.replicate_succ, Array.replicate_zero, List.push_toArray, List.append_toArray, List.nil_append, List.cons_append]
  go_upto_region 1 with (fail)
  simp only [Nat.add_assoc, Nat.reduceAdd]
  have HQ := Lib.hid q
  have HB := Lib.hid hB0
  have NO : Hid ((r.dec = true ∨ (yes = true ∧ r.begun = false)) → decOk bad r yes = false) := by
    rintro (h1 | ⟨h1, h2⟩)
    · show _ = _; unfold decOk; rw [h1]; rfl
    · show _ = _; unfold decOk; rw [h1, h2]; simp
  have YE : Hid (r.dec = false → (yes = true → r.begun = true) → decOk bad r yes = (!yes || ((List.range 8).all fun k => !(an r.orgs bad).testBit k || r.yes.testBit k))) := by
    intro h1 h2
    show _ = _
    have hall : ((List.range 8).all fun k => !(r.orgs.testBit k && !bad.testBit k) || r.yes.testBit k) = ((List.range 8).all fun k => !(an r.orgs bad).testBit k || r.yes.testBit k) := by
      rw [Bool.eq_iff_iff, List.all_eq_true, List.all_eq_true]
      refine forall_congr' fun k => forall_congr' fun hk => ?_
      rw [an_bit _ _ _ (by simpa using hk)]
    unfold decOk
    rw [h1, hall]
    cases yes
    · rfl
    · rw [h2 rfl]; simp
  have CC : Hid (∀ W, Below w.heap.size w W → W.cell? ⟨b, o + 4, none⟩ = some (.int .u8 (r.orgs : Int)) ∧ W.cell? ⟨b, o + 6, none⟩ = some (.int .u8 (r.yes : Int)) ∧ W.cell? ⟨gb, 0, none⟩ = some (.int .u8 (bad : Int))) :=
    fun W hb => ⟨(h.bel hb).c4, (h.bel hb).c6, (hb.cell (p := ⟨gb, 0, none⟩) hglt).trans hg⟩
  clear q hB0 hW0 h hg
  generalize hd : r.dec = d at *
  generalize hbg : r.begun = bg at *
  cases d
  case true =>
    have N1 := Lib.hid (NO.out (.inl rfl))
    clear NO YE CC HQ
    go_wp2_with fail
    rw [N1.out]
    refine leave_plain (results_dec (by rfl) (by go_simp)) ⟨rfl, ?_⟩
    exact HB.out.setCell (p := ⟨w.heap.size + 2, 0, none⟩) (by simp) _
  case false =>
    by_cases hy : yes = true ∧ bg = false
    · obtain ⟨rfl, rfl⟩ := hy
      have N1 := Lib.hid (NO.out (.inr ⟨rfl, rfl⟩))
      clear NO YE CC HQ
      go_wp2_with fail
      rw [N1.out]
      refine leave_plain (results_dec (by rfl) (by go_simp)) ⟨rfl, ?_⟩
      exact HB.out.setCell (p := ⟨w.heap.size + 2, 0, none⟩) (by simp) _
    · have ybg : yes = true → bg = true := fun h1 => by
        cases bg
        · exact absurd ⟨h1, rfl⟩ hy
        · rfl
      have YF := Lib.hid (YE.out rfl ybg)
      have HGO : (yes = false) ∨ (yes = true ∧ bg = true) := by cases yes; exact .inl rfl; exact .inr ⟨rfl, ybg rfl⟩
      clear NO YE hy ybg
      rcases HGO with rfl | ⟨rfl, rfl⟩
      · go_wp2_with (go_at_call 46; refine (honest_any _ _ _).mono ?_; rintro e w1 ⟨rfl, rfl⟩)
        obtain ⟨W5, hW5⟩ : ∃ W5, (W0.alloc (.cells #[.pointer (some ⟨gb, 0, none⟩)] 24 (0, 0))).alloc (.cells #[.pointer (some ⟨b, o, none⟩)] 61 (0, 0)) = W5 := ⟨_, rfl⟩
        rw [hW5]
        have hs5 : W5.heap.size = w.heap.size + 5 := by rw [← hW5]; simp; omega
        have hB5 : Below w.heap.size w W5 := by rw [← hW5]; exact (HB.out.alloc (by omega) _).alloc (by simp; omega) _
        have g0 : ∀ k, k < 3 → W5.heap[w.heap.size + k]? = W0.heap[w.heap.size + k]? := fun k hk => by
          rw [← hW5]; exact (Below.heap_alloc _ _ _ (by simp; omega)).trans (Below.heap_alloc _ _ _ (by omega))
        have g3 : W5.heap[w.heap.size + 3]? = some (.cells #[.pointer (some ⟨gb, 0, none⟩)] 24 (0, 0)) := by
          rw [← hW5]
          refine (Below.heap_alloc _ _ _ (by simp; omega)).trans ?_
          rw [← hsz]; exact World.alloc_heap_new _ _
        have g4 : W5.heap[w.heap.size + 4]? = some (.cells #[.pointer (some ⟨b, o, none⟩)] 61 (0, 0)) := by
          rw [← hW5]
          have := World.alloc_heap_new (W0.alloc (.cells #[.pointer (some ⟨gb, 0, none⟩)] 24 (0, 0))) (.cells #[.pointer (some ⟨b, o, none⟩)] 61 (0, 0))
          rwa [World.size_alloc, hsz] at this
        have T0 : ∀ o2 : Obj, Mdm w b o gb ⟨kind, ⟨c, e, s⟩, org, false, orgs⟩ ((W5.alloc (.deferred (some []))).alloc o2) := by
          intro o2
          have e : ∀ k, k < 5 → ((W5.alloc (.deferred (some []))).alloc o2).heap[w.heap.size + k]? = W5.heap[w.heap.size + k]? := fun k hk =>
            (Below.heap_alloc _ _ _ (by simp; omega)).trans (Below.heap_alloc _ _ _ (by omega))
          refine ⟨(e 0 (by omega)).trans ((g0 0 (by omega)).trans (HQ.out 0)), (e 1 (by omega)).trans ((g0 1 (by omega)).trans (HQ.out 1)), (e 2 (by omega)).trans ((g0 2 (by omega)).trans (HQ.out 2)), (e 3 (by omega)).trans g3, (e 4 (by omega)).trans g4, ?_, ?_⟩
          · refine (Below.heap_alloc _ _ _ (by simp; omega)).trans ?_
            rw [← hs5]; exact World.alloc_heap_new _ _
          · exact (hB5.alloc hB5.size _).alloc (Nat.le_trans hB5.size (by simp)) _
        have HT0 := Lib.hid T0
        clear T0 g0 g3 g4 hB5 hW5 HQ HB hsz t0 t1 t2 c3 c4 c5 c6 c7 c8 c9 p0 p1 p2 f2 lt
        refine rangeFunc_at rfl (enters_of Try.func48 (by kernel_rfl) rfl) ?_
        intro R HR
        rw [hs5] at HR ⊢
        have hl1 : ((W5.alloc (.deferred (some []))).alloc (.loop (R .ready none))).heap[w.heap.size + 6]? = some (.loop (R .ready none)) := by
          have := World.alloc_heap_new (W5.alloc (.deferred (some []))) (.loop (R .ready none))
          rwa [World.size_alloc, hs5] at this
        have hT1 := HT0.out (.loop (R .ready none))
        generalize (W5.alloc (.deferred (some []))).alloc (.loop (R .ready none)) = W1 at hl1 hT1 ⊢
        clear HT0 hs5
        simp only [Nat.add_assoc, Nat.reduceAdd] at HR ⊢
        show Calls _ _ #[_, _, _] _ _
        refine (honest_iter (w.heap.size + 4) (w.heap.size + 3) b o gb (w.heap.size + 6) r.orgs bad l.1 hbad
          (fun k W => (Mdm w b o gb ⟨kind, ⟨c, e, s⟩, org, false, orgs⟩ W ∧ W.heap[w.heap.size + 6]? = some (.loop (R .ready none))) ∧ (false = true → ∀ j, j < k → (an r.orgs bad).testBit j = true → r.yes.testBit j = true))
          (fun W => (Mdm w b o gb ⟨kind, ⟨c, e, s⟩, org, false, orgs⟩ W ∧ W.heap[w.heap.size + 6]? = some (.loop (R .done (some .ret)))) ∧ false = true ∧ ∃ j, j < 8 ∧ (an r.orgs bad).testBit j = true ∧ r.yes.testBit j = false) W1
          ?cells ?draw ⟨⟨hT1, hl1⟩, fun _ j hj => by omega⟩ ?skip ?yield).mono ?after
        case cells =>
          rintro k W ⟨⟨T, hl⟩, _⟩
          obtain ⟨x1, x2, x3⟩ := CC.out W T.b
          exact ⟨cell_of_row _ _ 0 _ _ (0, 0) T.p4, cell_of_row _ _ 0 _ _ (0, 0) T.p3, x1, x3⟩
        case draw =>
          rintro k W n ⟨⟨T, hl⟩, hj⟩
          exact ⟨⟨T.draw n, hl⟩, hj⟩
        case skip =>
          rintro k W hk hn ⟨hT, hj⟩
          refine ⟨hT, fun hy j hjk hjb => ?_⟩
          by_cases e : j = k
          · subst e; rw [hn] at hjb; cases hjb
          · exact hj hy j (by omega) hjb
        case yield =>
          rintro k W hk hbit ⟨⟨T, hl⟩, hj⟩
          have HJ := Lib.hid hj
          have HT := Lib.hid T
          have HW := Lib.hid hl
          have HX := Lib.hid hbit
          have HL := Lib.hid l
          clear hj T hl hbit hT1 hl1 l
          refine' yield_of HR HW.out (by rfl) (fun K hK => ?asg) HW.out ?bd
          case asg =>
            gi_wp2
            exact hK
          have T2 : Hid (Mdm w b o gb ⟨kind, ⟨c, e, s⟩, org, false, orgs⟩ (W.putObj (w.heap.size + 6) (.loop (R .busy none))) ∧ (W.putObj (w.heap.size + 6) (.loop (R .busy none))).heap[w.heap.size + 6]? = some (.loop (R .busy none))) :=
            ⟨HT.out.put _, World.putObj_heap_same (Array.getElem?_eq_some_iff.1 HW.out).1⟩
          clear HR HW HT
          generalize W.putObj (w.heap.size + 6) (.loop (R .busy none)) = W2 at T2 ⊢
          have xa := T2.out.1.act.a5
          have xp := cell_of_row _ _ 0 _ _ (0, 0) T2.out.1.p0
          obtain ⟨y1, y2, y3⟩ := CC.out W2 T2.out.1.b
          simp only [List.getElem?_toArray, List.getElem?_cons_zero] at xp
          gi_wp2
          refine ⟨trivial, ?_⟩
          gi_wp2
          exact ⟨T2.out.2, .inl ⟨rfl, ⟨T2.out.1.put _, World.putObj_heap_same (Array.getElem?_eq_some_iff.1 T2.out.2).1⟩, fun hy => by cases hy⟩⟩
        case after =>
          rintro e W ⟨⟨v, rfl⟩, ⟨⟨T, hl⟩, hj⟩ | ⟨⟨T, hl⟩, hy, j, hj8, hjb, hjn⟩⟩
          · refine ⟨⟨v, rfl⟩, .inl ⟨hl, ?_⟩⟩
            have RS : Hid (decOk bad r false = true) := by
              show _ = true
              rw [YF.out]; rfl
            have T3 := Lib.hid (T.put (.loop (R .exhausted none)))
            clear HR hl1 hT1 hl hj YF
            generalize W.putObj (w.heap.size + 6) (.loop (R .exhausted none)) = W3 at T3 ⊢
            have fz := frozen_of_row _ _ 0 _ _ T3.out.p2
            have c2 := cell_of_row _ _ 0 _ _ (0, 0) T3.out.p2
            simp only [List.getElem?_toArray, List.getElem?_cons_zero] at c2
            go_wp2_with fail
            rw [RS.out]
            refine leave_marked (T3.out.keep2 true) (results_dec (by rfl) ?_) ⟨rfl, below_putObj (T3.out.b.setCell (p := ⟨w.heap.size + 2, 0, none⟩) (by simp) _) (by omega)⟩
            exact T3.out.cell2 true
          · cases hy
      · go_wp2_with (go_at_call 46; refine (honest_any _ _ _).mono ?_; rintro e w1 ⟨rfl, rfl⟩)
        obtain ⟨W5, hW5⟩ : ∃ W5, (W0.alloc (.cells #[.pointer (some ⟨gb, 0, none⟩)] 24 (0, 0))).alloc (.cells #[.pointer (some ⟨b, o, none⟩)] 61 (0, 0)) = W5 := ⟨_, rfl⟩
        rw [hW5]
        have hs5 : W5.heap.size = w.heap.size + 5 := by rw [← hW5]; simp; omega
        have hB5 : Below w.heap.size w W5 := by rw [← hW5]; exact (HB.out.alloc (by omega) _).alloc (by simp; omega) _
        have g0 : ∀ k, k < 3 → W5.heap[w.heap.size + k]? = W0.heap[w.heap.size + k]? := fun k hk => by
          rw [← hW5]; exact (Below.heap_alloc _ _ _ (by simp; omega)).trans (Below.heap_alloc _ _ _ (by omega))
        have g3 : W5.heap[w.heap.size + 3]? = some (.cells #[.pointer (some ⟨gb, 0, none⟩)] 24 (0, 0)) := by
          rw [← hW5]
          refine (Below.heap_alloc _ _ _ (by simp; omega)).trans ?_
          rw [← hsz]; exact World.alloc_heap_new _ _
        have g4 : W5.heap[w.heap.size + 4]? = some (.cells #[.pointer (some ⟨b, o, none⟩)] 61 (0, 0)) := by
          rw [← hW5]
          have := World.alloc_heap_new (W0.alloc (.cells #[.pointer (some ⟨gb, 0, none⟩)] 24 (0, 0))) (.cells #[.pointer (some ⟨b, o, none⟩)] 61 (0, 0))
          rwa [World.size_alloc, hsz] at this
        have T0 : ∀ o2 : Obj, Mdm w b o gb ⟨kind, ⟨c, e, s⟩, org, true, orgs⟩ ((W5.alloc (.deferred (some []))).alloc o2) := by
          intro o2
          have e : ∀ k, k < 5 → ((W5.alloc (.deferred (some []))).alloc o2).heap[w.heap.size + k]? = W5.heap[w.heap.size + k]? := fun k hk =>
            (Below.heap_alloc _ _ _ (by simp; omega)).trans (Below.heap_alloc _ _ _ (by omega))
          refine ⟨(e 0 (by omega)).trans ((g0 0 (by omega)).trans (HQ.out 0)), (e 1 (by omega)).trans ((g0 1 (by omega)).trans (HQ.out 1)), (e 2 (by omega)).trans ((g0 2 (by omega)).trans (HQ.out 2)), (e 3 (by omega)).trans g3, (e 4 (by omega)).trans g4, ?_, ?_⟩
          · refine (Below.heap_alloc _ _ _ (by simp; omega)).trans ?_
            rw [← hs5]; exact World.alloc_heap_new _ _
          · exact (hB5.alloc hB5.size _).alloc (Nat.le_trans hB5.size (by simp)) _
        have HT0 := Lib.hid T0
        clear T0 g0 g3 g4 hB5 hW5 HQ HB hsz t0 t1 t2 c3 c4 c5 c6 c7 c8 c9 p0 p1 p2 f2 lt
        refine rangeFunc_at rfl (enters_of Try.func48 (by kernel_rfl) rfl) ?_
        intro R HR
        rw [hs5] at HR ⊢
        have hl1 : ((W5.alloc (.deferred (some []))).alloc (.loop (R .ready none))).heap[w.heap.size + 6]? = some (.loop (R .ready none)) := by
          have := World.alloc_heap_new (W5.alloc (.deferred (some []))) (.loop (R .ready none))
          rwa [World.size_alloc, hs5] at this
        have hT1 := HT0.out (.loop (R .ready none))
        generalize (W5.alloc (.deferred (some []))).alloc (.loop (R .ready none)) = W1 at hl1 hT1 ⊢
        clear HT0 hs5
        simp only [Nat.add_assoc, Nat.reduceAdd] at HR ⊢
        show Calls _ _ #[_, _, _] _ _
        refine (honest_iter (w.heap.size + 4) (w.heap.size + 3) b o gb (w.heap.size + 6) r.orgs bad l.1 hbad
          (fun k W => (Mdm w b o gb ⟨kind, ⟨c, e, s⟩, org, true, orgs⟩ W ∧ W.heap[w.heap.size + 6]? = some (.loop (R .ready none))) ∧ upto (an r.orgs bad) r.yes k)
          (fun W => (Mdm w b o gb ⟨kind, ⟨c, e, s⟩, org, true, orgs⟩ W ∧ W.heap[w.heap.size + 6]? = some (.loop (R .done (some .ret)))) ∧ ∃ j, j < 8 ∧ (an r.orgs bad).testBit j = true ∧ r.yes.testBit j = false) W1
          ?cells2 ?draw2 ⟨⟨hT1, hl1⟩, fun j hj => by omega⟩ ?skip2 ?yield2).mono ?after2
        case cells2 =>
          rintro k W ⟨⟨T, hl⟩, _⟩
          obtain ⟨x1, x2, x3⟩ := CC.out W T.b
          exact ⟨cell_of_row _ _ 0 _ _ (0, 0) T.p4, cell_of_row _ _ 0 _ _ (0, 0) T.p3, x1, x3⟩
        case draw2 =>
          rintro k W n ⟨⟨T, hl⟩, hj⟩
          exact ⟨⟨T.draw n, hl⟩, hj⟩
        case skip2 =>
          rintro k W hk hn ⟨hT, hj⟩
          exact ⟨hT, upto_step hj fun h => by rw [hn] at h; cases h⟩
        case yield2 =>
          rintro k W hk hbit ⟨⟨T, hl⟩, hj⟩
          have HJ := Lib.hid hj
          have HT := Lib.hid T
          have HW := Lib.hid hl
          have HX := Lib.hid hbit
          have HL := Lib.hid l
          clear hj T hl hbit hT1 hl1 l
          refine' yield_of HR HW.out (by rfl) (fun K hK => ?asg2) HW.out ?bd2
          case asg2 =>
            gi_wp2
            exact hK
          have T2 : Hid (Mdm w b o gb ⟨kind, ⟨c, e, s⟩, org, true, orgs⟩ (W.putObj (w.heap.size + 6) (.loop (R .busy none))) ∧ (W.putObj (w.heap.size + 6) (.loop (R .busy none))).heap[w.heap.size + 6]? = some (.loop (R .busy none))) :=
            ⟨HT.out.put _, World.putObj_heap_same (Array.getElem?_eq_some_iff.1 HW.out).1⟩
          clear HR HW HT
          generalize W.putObj (w.heap.size + 6) (.loop (R .busy none)) = W2 at T2 ⊢
          have xa := T2.out.1.act.a5
          have xp := cell_of_row _ _ 0 _ _ (0, 0) T2.out.1.p0
          obtain ⟨y1, y2, y3⟩ := CC.out W2 T2.out.1.b
          simp only [List.getElem?_toArray, List.getElem?_cons_zero] at xp
          have CI := fun W => in_any r.yes HL.out.2.2.1 (k : Int) (by omega) (by omega) W
          rw [inS_nat] at CI
          cases hyb : r.yes.testBit k
          · rw [hyb] at CI
            have CQ := Lib.hid (fun W : World => CI W)
            have HY := Lib.hid hyb
            clear CI hyb YF CC HL HJ
            gi_wp2
            refine ⟨trivial, rfl, CallsIn.inRound _ ((callsIn_wide (n := 0)).2 ((CQ.out W2).mono ?_))⟩
            rintro e w' ⟨rfl, rfl⟩
            have fz := frozen_of_row _ _ 0 _ _ T2.out.1.p2
            have c2 := cell_of_row _ _ 0 _ _ (0, 0) T2.out.1.p2
            simp only [List.getElem?_toArray, List.getElem?_cons_zero] at c2
            have T4 := Lib.hid T2.out.1.stay
            have hb6 := keep6 T2.out.2 false
            clear CQ
            gi_wp2
            exact ⟨hb6, .inr ⟨rfl, ⟨T4.out.put _, World.putObj_heap_same (Array.getElem?_eq_some_iff.1 hb6).1⟩, k, hk, HX.out, HY.out⟩⟩
          · rw [hyb] at CI
            have CQ := Lib.hid (fun W : World => CI W)
            have JJ := Lib.hid (upto_step HJ.out fun _ => hyb)
            clear CI hyb YF CC HL HJ
            gi_wp2
            refine ⟨trivial, rfl, CallsIn.inRound _ ((callsIn_wide (n := 0)).2 ((CQ.out W2).mono ?_))⟩
            rintro e w' ⟨rfl, rfl⟩
            clear CQ
            gi_wp2
            exact ⟨T2.out.2, .inl ⟨rfl, ⟨T2.out.1.put _, World.putObj_heap_same (Array.getElem?_eq_some_iff.1 T2.out.2).1⟩, JJ.out⟩⟩
        case after2 =>
          rintro e W ⟨⟨v, rfl⟩, ⟨⟨T, hl⟩, hj⟩ | ⟨⟨T, hl⟩, j, hj8, hjb, hjn⟩⟩
          · refine ⟨⟨v, rfl⟩, .inl ⟨hl, ?_⟩⟩
            have RS : Hid (decOk bad r true = true) := by
              show _ = true
              rw [YF.out]
              simp only [Bool.not_true, Bool.false_or, List.all_eq_true, List.mem_range]
              intro k hk
              cases hkb : (an r.orgs bad).testBit k
              · rfl
              · rw [hj k hk hkb]; rfl
            have T3 := Lib.hid (T.put (.loop (R .exhausted none)))
            clear HR hl1 hT1 hl hj YF
            generalize W.putObj (w.heap.size + 6) (.loop (R .exhausted none)) = W3 at T3 ⊢
            have fz := frozen_of_row _ _ 0 _ _ T3.out.p2
            have c2 := cell_of_row _ _ 0 _ _ (0, 0) T3.out.p2
            simp only [List.getElem?_toArray, List.getElem?_cons_zero] at c2
            go_wp2_with fail
            rw [RS.out]
            refine leave_marked (T3.out.keep2 true) (results_dec (by rfl) ?_) ⟨rfl, below_putObj (T3.out.b.setCell (p := ⟨w.heap.size + 2, 0, none⟩) (by simp) _) (by omega)⟩
            exact T3.out.cell2 true
          · have RS : Hid (decOk bad r true = false) := by
              show _ = false
              rw [YF.out]
              simp only [Bool.not_true, Bool.false_or]
              rw [Bool.eq_false_iff]
              intro h
              have := List.all_eq_true.1 h j (by simpa using hj8)
              rw [hjb, hjn] at this
              simp at this
            refine ⟨⟨v, rfl⟩, .inr ⟨.ret, hl, ?_⟩⟩
            have T3 := Lib.hid (T.put (.loop (R .exhausted (some .ret))))
            clear HR hl1 hT1 hl hjb hjn YF T
            generalize W.putObj (w.heap.size + 6) (.loop (R .exhausted (some .ret))) = W3 at T3 ⊢
            have c2 := cell_of_row _ _ 0 _ _ (0, 0) ((World.putObj_heap_other (o := .deferred none) (by omega)).trans T3.out.p2 : (W3.putObj (w.heap.size + 5) (.deferred none)).heap[w.heap.size + 2]? = _)
            simp only [List.getElem?_toArray, List.getElem?_cons_zero] at c2
            go_wp2_with fail
            rw [RS.out]
            refine leave_marked T3.out.d (results_dec (by rfl) c2) ⟨rfl, below_putObj T3.out.b (by omega)⟩
end Go.Proofs.Ythdmjeoldnehcaa
