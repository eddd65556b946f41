/- The walk of the timers' Due: a range over rising. Condition: the timers lie at the pointer. -/
import Derived.Test.YtljfjlijobjpdaaTig
import Derived.Test.YtljfjlijobjpdaaTij
import Derived.Shelf.Abstract
namespace Go.Proofs.Ytljfjlijobjpdaa
open Go.RowKit Go.Shelf
set_option linter.unusedVariables false
set_option linter.unusedSimpArgs false
set_option linter.unnecessarySimpa false
attribute [local go_sem] Oper.semAt_some

section
variable {w : World} {B gb mb no : Nat} {sl0 : Value} {t : Int} {sl : Value} {l : List On1} {M : Mp} {del : List On1} {ov : Value} {W : World}
/-- What it leaves. -/
theorem Dm.fin (h : Dm w B gb mb no sl0 t sl l M del ov W) :
    ((W.setCell ⟨w.heap.size, 0, none⟩ ov).heap[w.heap.size + 3]? = some (.deferred (some []))) ∧
    ((W.setCell ⟨w.heap.size, 0, none⟩ ov).putObj (w.heap.size + 3) (.deferred none)).cell? ⟨w.heap.size, 0, none⟩ = some ov ∧
    SlS ((W.setCell ⟨w.heap.size, 0, none⟩ ov).putObj (w.heap.size + 3) (.deferred none)) w.heap.size ov (del.map On1.key) ∧
    Tm ((W.setCell ⟨w.heap.size, 0, none⟩ ov).putObj (w.heap.size + 3) (.deferred none)) B gb mb sl l M no ∧
    Chg (Tl gb mb sl0) w ((W.setCell ⟨w.heap.size, 0, none⟩ ov).putObj (w.heap.size + 3) (.deferred none)) := by
  have e1 : ∀ k, k ≠ w.heap.size → (W.setCell ⟨w.heap.size, 0, none⟩ ov).heap[k]? = W.heap[k]? := fun k hk => Below.heap_setCell _ _ _ _ hk
  have e : ∀ k, k ≠ w.heap.size → k ≠ w.heap.size + 3 → ((W.setCell ⟨w.heap.size, 0, none⟩ ov).putObj (w.heap.size + 3) (.deferred none)).heap[k]? = W.heap[k]? := fun k h1 h2 => (World.putObj_heap_other h2).trans (e1 k h1)
  refine ⟨(e1 _ (by omega)).trans h.df, ?_, ?_, h.tm.same fun k hk => e k (by have := h.tl k hk; omega) (by have := h.tl k hk; omega), ?_⟩
  · refine (cell_of_row _ _ 0 #[ov] 32 (0, 0) ((World.putObj_heap_other (by omega)).trans ?_)).trans rfl
    simp [World.setCell, Array.getElem?_modify, h.ob]
  · exact (sls_same h.os fun k h1 _ _ => e k (by omega) (by omega)).mono (by omega)
  · refine ⟨h.ch.os, h.ch.tape, h.ch.output, ?_, fun k hk hn => (e k (by omega) (by omega)).trans (h.ch.block k hk hn)⟩
    rw [World.putObj_size]
    have := h.sz
    simp [World.setCell]
    omega
end
set_option maxRecDepth 100000 in
set_option maxHeartbeats 8000000 in
theorem Due_any {B gb mb no : Nat} {sl0 : Value} {l0 : List On1} {M0 : Mp} {w : World} (h : Tm w B gb mb sl0 l0 M0 no) (inv : Inv l0 M0) (t : Int) (hl0 : l0.length ≤ 100000) :
    Calls Try.prog 9 #[.pointer (some ⟨gb, 0, none⟩), .int .i64 t] w fun e w' => ∃ (ov : Value) (del : List On1) (sl' : Value) (l' : List On1) (M' : Mp), e = .returned ov ∧ SlS w' w.heap.size ov (del.map On1.key) ∧ Tm w' B gb mb sl' l' M' no ∧ sl'.ownBlock = sl0.ownBlock ∧ Chg (Tl gb mb sl0) w w' ∧ DInv M0 t l' M' del ∧ (∀ y ∈ l', t < y.at_) ∧ l'.length ≤ l0.length := by
  obtain ⟨W0, hW0⟩ : ∃ W0, w.alloc (.cells #[.slice none 0 0] 32 (0, 0)) = W0 := ⟨_, rfl⟩
  have hsz : W0.heap.size = w.heap.size + 1 := by rw [← hW0]; simp
  have hB0 : Below w.heap.size w W0 := by
    rw [← hW0]
    exact (Below.refl _ w).alloc (Nat.le_refl _) _
  have q : W0.heap[w.heap.size]? = some (.cells #[.slice none 0 0] 32 (0, 0)) := by rw [← hW0]; exact heap_alloc_new w _
  have H0 := Lib.hid h
  have I0 := Lib.hid inv
  clear h inv
  refine calls_marks Try.func9 rfl ?_
  simp only [Try.ntmps9, List.size_toArray, List.length_cons, List.length_nil, Nat.reduceAdd, Nat.reduceSub, Array.replicate_succ, Array.replicate_zero, List.push_toArray, List.append_toArray, List.nil_append, List.cons_append]
  go_upto_region 1 with (fail)
  have HW0 := Lib.hid hW0
  have HQ := Lib.hid q
  have HB := Lib.hid hB0
  clear hW0 q hB0
  go_wp2_with (go_at_call 14; refine (rising_any _ _ _).mono ?_; rintro e w1 ⟨rfl, rfl⟩)
  obtain ⟨W5, hW5⟩ : ∃ W5, (W0.alloc (.cells #[.pointer (some ⟨gb, 0, none⟩)] 25 (0, 0))).alloc (.cells #[.int .i64 t] 2 (0, 0)) = W5 := ⟨_, rfl⟩
  rw [hW5]
  simp only [Nat.add_assoc, Nat.reduceAdd]
  have hs5 : W5.heap.size = w.heap.size + 3 := by rw [← hW5]; simp; omega
  have hB5 : Below w.heap.size w W5 := by rw [← hW5]; exact (HB.out.alloc (by omega) _).alloc (by simp; omega) _
  have g0 : W5.heap[w.heap.size]? = W0.heap[w.heap.size]? := by
    rw [← hW5]; exact (Below.heap_alloc _ _ _ (by simp; omega)).trans (Below.heap_alloc _ _ _ (by omega))
  have g1 : W5.heap[w.heap.size + 1]? = some (.cells #[.pointer (some ⟨gb, 0, none⟩)] 25 (0, 0)) := by
    rw [← hW5]
    refine (Below.heap_alloc _ _ _ (by simp; omega)).trans ?_
    rw [← hsz]; exact World.alloc_heap_new _ _
  have g2 : W5.heap[w.heap.size + 2]? = some (.cells #[.int .i64 t] 2 (0, 0)) := by
    rw [← hW5]
    have := World.alloc_heap_new (W0.alloc (.cells #[.pointer (some ⟨gb, 0, none⟩)] 25 (0, 0))) (.cells #[.int .i64 t] 2 (0, 0))
    rwa [World.size_alloc, hsz] at this
  have T0 : ∀ o2 : Obj, Dm w B gb mb no sl0 t sl0 l0 M0 [] (.slice none 0 0) ((W5.alloc (.deferred (some []))).alloc o2) := by
    intro o2
    have e : ∀ k, k < w.heap.size + 3 → ((W5.alloc (.deferred (some []))).alloc o2).heap[k]? = W5.heap[k]? := fun k hk =>
      (Below.heap_alloc _ _ _ (by simp; omega)).trans (Below.heap_alloc _ _ _ (by omega))
    have hb : Below w.heap.size w ((W5.alloc (.deferred (some []))).alloc o2) := (hB5.alloc hB5.size _).alloc (Nat.le_trans hB5.size (by simp)) _
    refine ⟨H0.out.bel hb, rfl, Chg.of_below hb, (e _ (by omega)).trans (g0.trans HQ.out), (e _ (by omega)).trans g1, (e _ (by omega)).trans g2, ?_, by simp; omega, SlS.nil _ _, fun k hk => (H0.out.bl k hk).2⟩
    refine (Below.heap_alloc _ _ _ (by simp; omega)).trans ?_
    rw [← hs5]; exact World.alloc_heap_new _ _
  have HT0 := Lib.hid T0
  clear T0 g0 g1 g2 hB5 hW5 HW0 HQ HB hsz
  refine rangeFunc_at rfl (enters_of Try.func15 (by kernel_rfl) rfl) ?_
  intro R HR
  rw [hs5] at HR ⊢
  have hl1 : ((W5.alloc (.deferred (some []))).alloc (.loop (R .ready none))).heap[w.heap.size + 4]? = some (.loop (R .ready none)) := by
    have := World.alloc_heap_new (W5.alloc (.deferred (some []))) (.loop (R .ready none))
    rwa [World.size_alloc, hs5] at this
  have hT1 := HT0.out (.loop (R .ready none))
  generalize (W5.alloc (.deferred (some []))).alloc (.loop (R .ready none)) = W1 at hl1 hT1 ⊢
  clear HT0 hs5
  simp only [Nat.add_assoc, Nat.reduceAdd] at HR ⊢
  show Calls _ _ #[_, _, _] _ _
  refine (rising_iter (w.heap.size + 1) (w.heap.size + 2) gb mb (w.heap.size + 4) B no t M0
    (fun sl' l' M' del W => (∃ ov, Dm w B gb mb no sl0 t sl' l' M' del ov W) ∧ W.heap[w.heap.size + 4]? = some (.loop (R .ready none))) sl0 l0 W1
    ?cells ?bel ?put ⟨⟨_, hT1⟩, hl1⟩ I0.out hl0 ?yield).mono ?after
  case cells =>
    rintro sl l M del W ⟨⟨ov, T⟩, hl⟩
    exact ⟨cell_of_row _ _ 0 _ _ (0, 0) T.b1, cell_of_row _ _ 0 _ _ (0, 0) T.b2, T.tm⟩
  case bel =>
    rintro sl l M del W W' ⟨⟨ov, T⟩, hl⟩ hb
    exact ⟨⟨ov, T.bel hb⟩, (hb.block _ (lt_of_heap hl)).trans hl⟩
  case put =>
    rintro sl l M del W sl' l' M' W' ⟨⟨ov, T⟩, hl⟩ hT ho hc
    exact ⟨⟨ov, T.step hT ho hc⟩, (hc.block _ (lt_of_heap hl) (fun q => by have := T.tl _ q; omega)).trans hl⟩
  case yield =>
    rintro sl l M del x W ⟨⟨ov, T⟩, hl⟩ hdl
    have HW := Lib.hid hl
    have HT := Lib.hid T
    obtain ⟨xk, xa, xn⟩ := x
    clear T hl hT1 hl1 I0 H0
    refine' yield_of HR HW.out (by rfl) (fun K hK => ?asg) ?hl1 ?bd
    case asg =>
      gi_wp2
      exact hK
    case hl1 => exact (Below.heap_alloc _ _ _ (lt_of_heap HW.out)).trans HW.out
    clear HR
    have hc5 : w.heap.size + 5 ≤ W.heap.size := lt_of_heap HW.out
    have T2 : Hid (Dm w B gb mb no sl0 t sl l M del ov ((W.alloc (.cells #[str xk, .int .i64 xa, .int .i64 (xn : Int)] 48 (0, 0))).putObj (w.heap.size + 4) (.loop (R .busy none))) ∧
        ((W.alloc (.cells #[str xk, .int .i64 xa, .int .i64 (xn : Int)] 48 (0, 0))).putObj (w.heap.size + 4) (.loop (R .busy none))).heap[w.heap.size + 4]? = some (.loop (R .busy none)) ∧
        ((W.alloc (.cells #[str xk, .int .i64 xa, .int .i64 (xn : Int)] 48 (0, 0))).putObj (w.heap.size + 4) (.loop (R .busy none))).heap[W.heap.size]? = some (.cells #[str xk, .int .i64 xa, .int .i64 (xn : Int)] 48 (0, 0))) :=
      ⟨(HT.out.bel ((Below.refl _ W).alloc (Nat.le_refl _) _)).loop _, World.putObj_heap_same (by simp; omega), (World.putObj_heap_other (by omega)).trans (World.alloc_heap_new _ _)⟩
    clear HT HW
    generalize W.heap.size = c at hc5 T2 ⊢
    show Code.wpIn _ _ _ _ _ _ ((W.alloc (.cells #[str xk, .int .i64 xa, .int .i64 (xn : Int)] 48 (0, 0))).putObj (w.heap.size + 4) (.loop (R .busy none)))
    generalize (W.alloc (.cells #[str xk, .int .i64 xa, .int .i64 (xn : Int)] 48 (0, 0))).putObj (w.heap.size + 4) (.loop (R .busy none)) = W2 at T2 ⊢
    have c0 := cell_of_row _ _ 0 _ _ (0, 0) T2.out.2.2
    have o0 := cell_of_row _ _ 0 _ _ (0, 0) T2.out.1.ob
    simp only [List.getElem?_toArray, List.getElem?_cons_zero, List.getElem?_cons_succ] at c0 o0
    have HA : Hid (∀ (v' : Value) w3, SlS w3 (w.heap.size + 5) v' ((del.map On1.key) ++ [xk]) → (W2.alloc (.cells #[str xk] 9 (0, 0))).grownBy w3 ov.ownBlock →
        (w3.cell? ⟨w.heap.size, 0, none⟩ = some ov ∧ w3.frozen? ⟨w.heap.size, 0, none⟩ = false) ∧ Dm w B gb mb no sl0 t sl l M (del ++ [⟨xk, xa, xn⟩]) v' (w3.setCell ⟨w.heap.size, 0, none⟩ v') ∧ (w3.setCell ⟨w.heap.size, 0, none⟩ v').heap[w.heap.size + 4]? = some (.loop (R .busy none))) := fun v' w3 g1 g2 => by
      obtain ⟨m1, m2, m3, m4⟩ := T2.out.1.more (x := ⟨xk, xa, xn⟩) (v' := v') ((Below.refl _ W2).alloc (Nat.le_refl _) _) (by simpa using g1) g2
      exact ⟨⟨m3, m4⟩, m1, (m2 _ (by omega) (by omega)).trans T2.out.2.1⟩
    have OS := Lib.hid T2.out.1.os
    have hB : w.heap.size + 5 ≤ W2.heap.size := T2.out.1.sz
    have hdl2 : (del.map On1.key).length ≤ 1000000 := by rw [List.length_map]; omega
    clear T2
    generalize del.map On1.key = ls at HA OS hdl2
    obtain ⟨A0, cp0, hov, -⟩ := OS.out.txt
    subst hov
    gi_wp2_with (gi_at_builtin; refine wpListIn_append_str rfl (.tmp 12) (.tmp 15) rfl (w.heap.size + 5) _ ls xk W2.heap.size rfl (by rfl) OS.out hB (by rfl) hdl2 ?_; intro v' w3 g1 g2 g3; obtain ⟨⟨k1, k2⟩, k3, k4⟩ := HA.out v' w3 g1 g2; have K3 := Lib.hid k3; have K4 := Lib.hid k4; obtain ⟨A', cp, rfl⟩ := g3; clear g1 g2 k3 k4)
    exact ⟨K4.out, rfl, ⟨_, K3.out.loop _⟩, World.putObj_heap_same (lt_of_heap K4.out)⟩
  case after =>
    rintro e W ⟨⟨v0, rfl⟩, sl', l', M', del, hle, ⟨⟨ov, T⟩, hl⟩, D, hlate⟩
    refine ⟨⟨v0, rfl⟩, .inl ⟨hl, ?_⟩⟩
    have T3 := Lib.hid (T.loop (.loop (R .exhausted none)))
    have LT := Lib.hid (And.intro D hlate)
    clear HR hl1 hT1 hl T D hlate H0 I0
    generalize W.putObj (w.heap.size + 4) (.loop (R .exhausted none)) = W3 at T3 ⊢
    obtain ⟨A', cp, hv, _⟩ := T3.out.os.txt
    have FN := Lib.hid T3.out.fin
    generalize hls : del.map On1.key = ls at *
    subst hv
    have HLS := Lib.hid hls
    clear hls
    have c1 := cell_of_row _ _ 0 _ _ (0, 0) T3.out.ob
    have f1 := frozen_of_row _ _ 0 _ _ T3.out.ob
    simp only [List.getElem?_toArray, List.getElem?_cons_zero] at c1
    have SO := Lib.hid T3.out.so
    clear T3
    go_wp2_with fail
    obtain ⟨h1, h2, h3, h4, h5⟩ := FN.out
    refine leave_marked h1 (results_out (by rfl) h2) ⟨_, del, sl', l', M', rfl, ?_, h4, SO.out, h5, LT.out.1, LT.out.2, hle⟩
    rw [HLS.out]
    exact h3
end Go.Proofs.Ytljfjlijobjpdaa
