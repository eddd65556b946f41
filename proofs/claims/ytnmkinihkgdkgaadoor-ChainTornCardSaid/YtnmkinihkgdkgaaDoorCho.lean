/- The walk of chain's Scan. Condition: sizes that a machine has; the table k reads as the standard's numbers. -/
import Derived.Test.YtnmkinihkgdkgaaDoorChn
namespace Go.Proofs.YtnmkinihkgdkgaaDoor
open Go.RowKit Go.Shelf
set_option linter.unusedVariables false
set_option linter.unusedSimpArgs false
attribute [local go_sem] Oper.semAt_some

set_option maxRecDepth 100000 in
set_option maxHeartbeats 8000000 in
theorem Scan_any (s : List UInt8) (hs : s.length ≤ 1000000) (w : World) (hK : KT w) :
    Calls Tryd.prog 9 #[str s] w fun e w' => ∃ v, e = .returned (.tuple #[v, str (scan (s.length + 1) z32 s 0 []).2.1, .int .i64 ((scan (s.length + 1) z32 s 0 []).2.2 : Int)]) ∧ SlS w' w.heap.size v (scan (s.length + 1) z32 s 0 []).1 ∧ Below w.heap.size w w' := by
  generalize hR : scan (s.length + 1) z32 s 0 [] = Rv
  have HRV := Lib.hid hR
  have HK := Lib.hid hK
  clear hR hK
  refine calls_marks Tryd.func9 rfl ?_
  simp only [Tryd.ntmps9, List.size_toArray, List.length_cons, List.length_nil, Nat.reduceAdd, Nat.reduceSub, Array.replicate_succ, Array.replicate_zero, List.push_toArray, List.append_toArray, List.nil_append, List.cons_append]
  have CF := Lib.hid (fun W => First_any W)
  go_wp2_with fail
  go_step3
  go_wp2_with (first
    | (go_at_call 21; (with_reducible refine (CF.out _).mono ?_); rintro e w2 ⟨rfl, hb2⟩; have HH := Lib.hid (scan_first hb2); have c1 := cell_of_row _ _ 0 _ _ (0, 0) HH.out.2.1; have f1 := frozen_of_row _ _ 0 _ _ HH.out.2.1; clear hb2)
    | fail)
  go_step3
  go_wp2_with (go_at_call 23; refine (steps_any s _).mono ?_; rintro e w3 ⟨rfl, rfl⟩)
  obtain ⟨h0, h1, h2, hz2, hbb⟩ := HH.out
  have hsz0 : (w2.setCell ⟨w.heap.size + 1, 0, none⟩ (str z32)).heap.size = w2.heap.size := by simp [World.setCell]
  have hsz : ((w2.setCell ⟨w.heap.size + 1, 0, none⟩ (str z32)).alloc (.cells #[str s] 9 (0, 0))).heap.size = w2.heap.size + 1 := by rw [World.size_alloc, hsz0]
  refine rangeFunc_at rfl (enters_of Tryd.func33 (by kernel_rfl) rfl) ?_
  intro R HR
  rw [hsz] at HR ⊢
  obtain ⟨hT1, hl1, hs1⟩ := Scm.start (hd := z32) (s := s) h0 h1 h2 hz2 hbb (.loop (R .ready none))
  generalize (((w2.setCell ⟨w.heap.size + 1, 0, none⟩ (str z32)).alloc (.cells #[str s] 9 (0, 0))).alloc (.deferred (some []))).alloc (.loop (R .ready none)) = W1 at hT1 hl1 hs1 ⊢
  simp only [hsz0, Nat.add_assoc, Nat.reduceAdd] at HR ⊢
  clear h0 h1 h2 hbb hsz0 hsz c1 f1 HH CF
  generalize w2.heap.size = C at hT1 hl1 hs1 hz2 HR ⊢
  clear hz2
  show Calls _ _ #[_, _] _ _
  have J0 : (∃ v acc, Scm w C s v acc z32 0 W1 ∧ acc.length ≤ 0 ∧ ∃ n, scan n z32 (s.drop 0) 0 acc = Rv ∧ s.length < 0 + n) ∧ W1.heap[C + 2]? = some (.loop (R .ready none)) :=
    ⟨⟨_, [], hT1, by simp, _, HRV.out, by omega⟩, hl1⟩
  have stj : Stj W1.heap.size C s (fun a k W => (∃ v acc, Scm w C s v acc k a W ∧ acc.length ≤ a ∧ ∃ n, scan n k (s.drop a) a acc = Rv ∧ s.length < a + n) ∧ W.heap[C + 2]? = some (.loop (R .ready none))) := by
    refine ⟨?_, ?_, ?_, ?_⟩
    · rintro a k W ⟨⟨v, acc, T, _⟩, _⟩
      exact cell_of_row _ _ 0 _ _ (0, 0) T.bx
    · rintro a k W ⟨⟨v, acc, T, _⟩, _⟩
      exact HK.out.below T.b HK.out.lt
    · rintro a k W W' ⟨⟨v, acc, T, h⟩, hl⟩ hb
      exact ⟨⟨v, acc, T.bel hb, h⟩, (hb.block _ (Array.getElem?_eq_some_iff.1 hl).1).trans hl⟩
    · rintro a k W W' ⟨⟨v, acc, T, h⟩, hl⟩ hb hz hh
      rw [hs1] at hb hh
      exact ⟨⟨v, acc, T.put hb hz hh, h⟩, (hh _ (by omega)).trans hl⟩
  have ex : Hid (∀ (cs : Array Value) (t nk : List UInt8) (a' : Int) (W : World) (v : Value) (acc : List (List UInt8)) (k : List UInt8) (a : Nat), Cst cs t nk a' false → Scm w C s v acc k a W → W.heap[C + 2]? = some (.loop (R .ready none)) → C + 3 < W.heap.size →
      YieldAt Fence.wide 0 Tryd.prog (C + 2) #[.agg cs] W fun e W' => W'.heap[C + 3]? = W.heap[C + 3]? ∧ e = .returned (.bool false) ∧ Scm w C s v acc k a W' ∧ W'.heap[C + 2]? = some (.loop (R .done (some (.exit 0))))) := by
    intro cs t nk a' W v acc k a hc T hl hlt
    obtain ⟨q1, q2, q3, q4, q5⟩ := T.box hl #[str [], .int .u8 0, .int .u8 0, .int .u8 0, .int .u8 0, .int .u8 0, .int .u8 0, .int .u8 0, .int .u8 0, .int .u8 0, .int .u8 0, .int .u8 0, .int .u8 0, .int .u8 0, .int .u8 0, .int .u8 0, .int .u8 0, .int .u8 0, .int .u8 0, .int .u8 0, .int .u8 0, .int .u8 0, .int .u8 0, .int .u8 0, .int .u8 0, .int .u8 0, .int .u8 0, .int .u8 0, .int .u8 0, .int .u8 0, .int .u8 0, .int .u8 0, .int .u8 0, .int .i64 0, .bool false] cs (.loop (R .busy none))
    refine' yield_of HR hl (by rfl) (fun K hK => ?asg) ?hl1 ?bd
    case asg =>
      gi_wp2_with (refine wpListIn_store_row rfl _ _ _ rfl W.heap.size cs (by rfl) (by rfl) 51 _ (World.alloc_heap_new _ _) (size_step hc.size) (by simp [hc.size]) hc.one ?_)
      exact hK
    case hl1 => exact q1
    clear HR q1
    have q6 := q5 hlt
    clear q5
    generalize ((W.alloc (.cells #[str [], .int .u8 0, .int .u8 0, .int .u8 0, .int .u8 0, .int .u8 0, .int .u8 0, .int .u8 0, .int .u8 0, .int .u8 0, .int .u8 0, .int .u8 0, .int .u8 0, .int .u8 0, .int .u8 0, .int .u8 0, .int .u8 0, .int .u8 0, .int .u8 0, .int .u8 0, .int .u8 0, .int .u8 0, .int .u8 0, .int .u8 0, .int .u8 0, .int .u8 0, .int .u8 0, .int .u8 0, .int .u8 0, .int .u8 0, .int .u8 0, .int .u8 0, .int .u8 0, .int .i64 0, .bool false] 51 (0, 0))).setRow W.heap.size cs).putObj (C + 2) (.loop (R .busy none)) = W2 at q2 q3 q4 q6 ⊢
    have c34 : W2.cell? ⟨W.heap.size, 34, none⟩ = some (.bool false) := (cell_of_row _ _ 34 _ _ (0, 0) q4).trans hc.c34
    have K6 := Lib.hid q6
    clear q6
    gi_wp2
    exact ⟨q3, (World.putObj_heap_other (by omega)).trans K6.out, rfl, q2.loop _, World.putObj_heap_same (Array.getElem?_eq_some_iff.1 q3).1⟩
  have go : Hid (∀ (cs : Array Value) (t nk : List UInt8) (a' : Nat) (W : World) (v : Value) (acc : List (List UInt8)) (k : List UInt8) (a : Nat), Cst cs t nk (a' : Int) true → acc.length ≤ 1000000 → Scm w C s v acc k a W → W.heap[C + 2]? = some (.loop (R .ready none)) → C + 3 < W.heap.size →
      YieldAt Fence.wide 0 Tryd.prog (C + 2) #[.agg cs] W fun e W' => W'.heap[C + 3]? = W.heap[C + 3]? ∧ e = .returned (.bool true) ∧ (∃ v', Scm w C s v' (acc ++ [t]) nk a' W') ∧ W'.heap[C + 2]? = some (.loop (R .ready none))) := by
    intro cs t nk a' W v acc k a hc hac T hl hlt
    obtain ⟨q1, q2, q3, q4, q5⟩ := T.box hl #[str [], .int .u8 0, .int .u8 0, .int .u8 0, .int .u8 0, .int .u8 0, .int .u8 0, .int .u8 0, .int .u8 0, .int .u8 0, .int .u8 0, .int .u8 0, .int .u8 0, .int .u8 0, .int .u8 0, .int .u8 0, .int .u8 0, .int .u8 0, .int .u8 0, .int .u8 0, .int .u8 0, .int .u8 0, .int .u8 0, .int .u8 0, .int .u8 0, .int .u8 0, .int .u8 0, .int .u8 0, .int .u8 0, .int .u8 0, .int .u8 0, .int .u8 0, .int .u8 0, .int .i64 0, .bool false] cs (.loop (R .busy none))
    refine' yield_of HR hl (by rfl) (fun K hK => ?asg2) ?hl2 ?bd2
    case asg2 =>
      gi_wp2_with (refine wpListIn_store_row rfl _ _ _ rfl W.heap.size cs (by rfl) (by rfl) 51 _ (World.alloc_heap_new _ _) (size_step hc.size) (by simp [hc.size]) hc.one ?_)
      exact hK
    case hl2 => exact q1
    clear HR q1
    have q6 := q5 hlt
    clear q5
    generalize ((W.alloc (.cells #[str [], .int .u8 0, .int .u8 0, .int .u8 0, .int .u8 0, .int .u8 0, .int .u8 0, .int .u8 0, .int .u8 0, .int .u8 0, .int .u8 0, .int .u8 0, .int .u8 0, .int .u8 0, .int .u8 0, .int .u8 0, .int .u8 0, .int .u8 0, .int .u8 0, .int .u8 0, .int .u8 0, .int .u8 0, .int .u8 0, .int .u8 0, .int .u8 0, .int .u8 0, .int .u8 0, .int .u8 0, .int .u8 0, .int .u8 0, .int .u8 0, .int .u8 0, .int .u8 0, .int .i64 0, .bool false] 51 (0, 0))).setRow W.heap.size cs).putObj (C + 2) (.loop (R .busy none)) = W2 at q2 q3 q4 q6 ⊢
    have c34 : W2.cell? ⟨W.heap.size, 34, none⟩ = some (.bool true) := (cell_of_row _ _ 34 _ _ (0, 0) q4).trans hc.c34
    have T2 : Hid (Scm w C s v acc k a W2 ∧ W2.heap[C + 2]? = some (.loop (R .busy none)) ∧ W2.heap[W.heap.size]? = some (.cells cs 51 (0, 0)) ∧ W2.heap[C + 3]? = W.heap[C + 3]?) := ⟨q2, q3, q4, q6⟩
    have HS : Hid (∀ W', W'.heap[W.heap.size]? = some (.cells cs 51 (0, 0)) → W'.cell? ⟨W.heap.size, 0, none⟩ = some (str t) ∧ (convert 44 9 (.slice (some ⟨W.heap.size, 1, none⟩) 32 32)).run Tryd.prog W' = .ok (str nk) W' ∧ W'.cell? ⟨W.heap.size, 33, none⟩ = some (.int .i64 (a' : Int))) :=
      fun W' h2 => ⟨(cell_of_row _ _ 0 _ _ (0, 0) h2).trans hc.c0, conv_step hc h2, (cell_of_row _ _ 33 _ _ (0, 0) h2).trans hc.c33⟩
    have own : Hid (∀ r, v.ownBlock = some r → r < W.heap.size) := fun r hr => T.sl.ownlt hr
    have c0 := cell_of_row _ _ 0 _ _ (0, 0) q2.b0
    have hC := q2.hC
    clear q2 q3 q4 q6 hc hl T
    generalize W.heap.size = c at T2 HS own hlt c34 ⊢
    gi_wp2
    refine region_round (by kernel_rfl) ?_ (by kernel_rfl) (any_of_F (S := (fun W' => W'.cell? ⟨c, 0, none⟩ = some (str t) ∧ (convert 44 9 (.slice (some ⟨c, 1, none⟩) 32 32)).run Tryd.prog W' = .ok (str nk) W' ∧ W'.cell? ⟨c, 33, none⟩ = some (.int .i64 (a' : Int)))) (k := 12) (m := 0) 12 _ _ _ ?_)
    · rintro ⟨a, w, h⟩; exact h
    change anyF _ _ _ _ _ _ _ _ _ W2.drew
    have hH0 := HS.out W2.drew T2.out.2.2.1
    obtain ⟨i0, hi, hz0, hz1, hz2⟩ := info_parts str_inf
    have hAb : Below W2.heap.size W2 ((W2.alloc (.cells #[str t] 9 (0, 0))).drew) := ((Below.refl _ W2).alloc (Nat.le_refl _) _).drew
    have hcl := (Array.getElem?_eq_some_iff.1 T2.out.2.2.1).1
    have hA2 : ((W2.alloc (.cells #[str t] 9 (0, 0))).drew).heap[c]? = some (.cells cs 51 (0, 0)) := (hAb.block _ hcl).trans T2.out.2.2.1
    obtain ⟨v', w3, hrun, r2, r3, r4, r5⟩ := run_append_own_at (P := Tryd.prog) ((W2.alloc (.cells #[str t] 9 (0, 0))).drew) (C + 4) 23 23 9 i0 _ 1 16 Tryd.underlying23 hi hz0 hz1 hz2 rfl (by decide) v acc.length _ (T2.out.1.sl.bel hAb) ⟨W2.heap.size, 0, none⟩ 1 1 [str t] rfl (cell_new_str W2 t (0, 0)) (by simp [Value.oneCell']) (by unfold maxLen; omega) (by omega) (by show C + 4 ≤ (W2.alloc _).heap.size; rw [World.size_alloc]; omega)
    have r2' : SlS w3 (C + 4) v' (acc ++ [t]) := by
      show w3.ownsRow _ _ _ _ _ _
      simpa using r2
    obtain ⟨A', cp, hv', -⟩ := r2'.txt
    have hv2 : v' = .slice A' (acc.length + 1) cp := by rw [hv']; simp
    clear hv'
    subst hv2
    obtain ⟨k0, k1, k2, k3, k4, k5⟩ := T2.out.1.app hAb r3
    have b3 := (r3.block c (by show c < (W2.alloc _).heap.size; rw [World.size_alloc]; omega) (fun e => by have := own.out _ e.symm; omega)).trans hA2
    obtain ⟨m1, m2⟩ := T2.out.1.more hAb r2' r3
    have hlz := (Array.getElem?_eq_some_iff.1 T2.out.2.1).1
    have g2 := (m2 (C + 2) (by omega) (by omega) hlz).trans T2.out.2.1
    have g3 := (m2 (C + 3) (by omega) (by omega) (by omega)).trans T2.out.2.2.2
    have FIN := Lib.hid (And.intro ((m1.setH nk).setG a') (And.intro ((heap_setCell_other _ ⟨w.heap.size + 1, 0, none⟩ (C + 2) (str nk) (show C + 2 ≠ w.heap.size + 1 by omega)).trans g2) ((heap_setCell_other _ ⟨w.heap.size + 1, 0, none⟩ (C + 3) (str nk) (show C + 3 ≠ w.heap.size + 1 by omega)).trans g3)))
    have HA := Lib.hid (HS.out _ hA2)
    have cA0 := Lib.hid (cell_of_row _ _ 0 _ _ (0, 0) (T2.out.1.bel hAb).b0)
    have H3 := Lib.hid (HS.out _ b3)
    have b4 : (w3.setCell ⟨w.heap.size, 0, none⟩ (.slice A' (acc.length + 1) cp)).heap[c]? = some (.cells cs 51 (0, 0)) := (heap_setCell_other _ _ _ _ (by simp; omega)).trans b3
    have b5 : ((w3.setCell ⟨w.heap.size, 0, none⟩ (.slice A' (acc.length + 1) cp)).setCell ⟨w.heap.size + 1, 0, none⟩ (str nk)).heap[c]? = some (.cells cs 51 (0, 0)) := (heap_setCell_other _ _ _ _ (by simp; omega)).trans b4
    have H4 := Lib.hid (HS.out _ b4)
    have H5 := Lib.hid (HS.out _ b5)
    clear c34 r2 r2' r3 r4 r5 m1 m2 b3 b4 b5 hA2 hAb hi hz0 hz1 hz2 g2 g3 hlz
    refine anyF_take (i := 1) (v := .pointer (some ⟨c, 0, none⟩)) rfl (by kernel_rfl) (by kernel_rfl) (by kernel_rfl) (by kernel_rfl) (fun _ _ _ h => h) (Or.inl ⟨by rfl, ?_⟩) (by assumption) ?_
    · intro w hSw; go_simp
    try simp only [Act.put, List.setIfInBounds_toArray, List.set_cons_zero, List.set_cons_succ]
    refine anyF_take (i := 2) (v := str t) rfl (by kernel_rfl) (by kernel_rfl) (by kernel_rfl) (by kernel_rfl) (fun _ _ _ h => h) (Or.inl ⟨by rfl, ?_⟩) (by assumption) ?_
    · intro w hSw; go_simp
    try simp only [Act.put, List.setIfInBounds_toArray, List.set_cons_zero, List.set_cons_succ]
    refine anyF_take (i := 5) (v := .pointer (some ⟨c, 1, none⟩)) rfl (by kernel_rfl) (by kernel_rfl) (by kernel_rfl) (by kernel_rfl) (fun _ _ _ h => h) (Or.inl ⟨by rfl, ?_⟩) (by assumption) ?_
    · intro w hSw; go_simp
    try simp only [Act.put, List.setIfInBounds_toArray, List.set_cons_zero, List.set_cons_succ]
    refine anyF_take (i := 6) (v := .slice (some ⟨c, 1, none⟩) 32 32) rfl (by kernel_rfl) (by kernel_rfl) (by kernel_rfl) (by kernel_rfl) (fun _ _ _ h => h) (Or.inl ⟨by rfl, ?_⟩) (by assumption) ?_
    · intro w hSw; go_simp
    try simp only [Act.put, List.setIfInBounds_toArray, List.set_cons_zero, List.set_cons_succ]
    refine anyF_take (i := 7) (v := str nk) rfl (by kernel_rfl) (by kernel_rfl) (by kernel_rfl) (by kernel_rfl) (fun _ _ _ h => h) (Or.inl ⟨by rfl, ?_⟩) (by assumption) ?_
    · intro w hSw; go_simp
    try simp only [Act.put, List.setIfInBounds_toArray, List.set_cons_zero, List.set_cons_succ]
    refine anyF_take (i := 8) (v := .pointer (some ⟨c, 33, none⟩)) rfl (by kernel_rfl) (by kernel_rfl) (by kernel_rfl) (by kernel_rfl) (fun _ _ _ h => h) (Or.inl ⟨by rfl, ?_⟩) (by assumption) ?_
    · intro w hSw; go_simp
    try simp only [Act.put, List.setIfInBounds_toArray, List.set_cons_zero, List.set_cons_succ]
    refine anyF_take (i := 9) (v := .int .i64 (a' : Int)) rfl (by kernel_rfl) (by kernel_rfl) (by kernel_rfl) (by kernel_rfl) (fun _ _ _ h => h) (Or.inl ⟨by rfl, ?_⟩) (by assumption) ?_
    · intro w hSw; go_simp
    try simp only [Act.put, List.setIfInBounds_toArray, List.set_cons_zero, List.set_cons_succ]
    refine anyF_of_T (S := fun W' => (W'.cell? ⟨c, 0, none⟩ = some (str t) ∧ (convert 44 9 (.slice (some ⟨c, 1, none⟩) 32 32)).run Tryd.prog W' = .ok (str nk) W' ∧ W'.cell? ⟨c, 33, none⟩ = some (.int .i64 (a' : Int))) ∧ W'.cell? ⟨w.heap.size, 0, none⟩ = some v) (k := 10) (j := 2) (fun _ h => h.1) 3 _ _ _ ?_
    refine anyT_take (i := 0) (v := v) rfl (by kernel_rfl) (by kernel_rfl) (by kernel_rfl) (by kernel_rfl) (fun _ _ _ h => h) (Or.inl ⟨by rfl, ?_⟩) ⟨hH0, c0⟩ ?_
    · intro w hSw
      obtain ⟨_, hv0⟩ := hSw
      go_simp
    try simp only [Act.put, List.setIfInBounds_toArray, List.set_cons_zero, List.set_cons_succ]
    refine anyT_one (i := 3) (by kernel_rfl) rfl (fun K hK => ?_)
    go_simp
    refine hK.out _ _ ⟨HA.out, cA0.out⟩ (fun _ => ?_)
    clear hK K
    try simp only [Act.put, List.setIfInBounds_toArray, List.set_cons_zero, List.set_cons_succ]
    refine anyT_one (i := 4) (by kernel_rfl) rfl (fun K hK => ?_)
    refine step_append_at (by rfl) (.tmp 13) (.tmp 16) _ (by rfl) _ _ _ _ (by rfl) (by rfl) hrun ?_
    refine hK.out _ _ ⟨H3.out, k0⟩ (fun _ => ?_)
    clear hK K
    try simp only [Act.put, List.setIfInBounds_toArray, List.set_cons_zero, List.set_cons_succ]
    refine anyT_rest (by kernel_rfl) ?_
    refine anyF_one (i := 10) (by kernel_rfl) rfl (fun K hK => ?_)
    go_simp
    refine hK.out _ _ H4.out (fun _ => ?_)
    clear hK K
    try simp only [Act.put, List.setIfInBounds_toArray, List.set_cons_zero, List.set_cons_succ]
    refine anyF_one (i := 11) (by kernel_rfl) rfl (fun K hK => ?_)
    go_simp
    refine hK.out _ _ H5.out (fun _ => ?_)
    clear hK K
    try simp only [Act.put, List.setIfInBounds_toArray, List.set_cons_zero, List.set_cons_succ]
    refine anyF_rest (by kernel_rfl) ?_
    refine any_one (i := 12) (by kernel_rfl) rfl (fun K hK => ?_)
    go_simp
    refine hK.out _ _ ?_
    clear hK K
    refine any_end (by kernel_rfl) ?_
    have e2 := (heap_setCell_other _ ⟨w.heap.size + 2, 0, none⟩ (C + 2) (.int .i64 (a' : Int)) (show C + 2 ≠ w.heap.size + 2 by omega)).trans FIN.out.2.1
    have e3 := (heap_setCell_other _ ⟨w.heap.size + 2, 0, none⟩ (C + 3) (.int .i64 (a' : Int)) (show C + 3 ≠ w.heap.size + 2 by omega)).trans FIN.out.2.2
    exact ⟨e2, (World.putObj_heap_other (by omega)).trans e3, rfl, ⟨_, FIN.out.1.loop _⟩, World.putObj_heap_same (Array.getElem?_eq_some_iff.1 e2).1⟩
  refine (steps_iter C (C + 2) s hs W1 _ (fun W => (∃ v acc k a, Scm w C s v acc k a W ∧ Rv = (acc, k, a)) ∧ W.heap[C + 2]? = some (.loop (R .done (some (.exit 0))))) stj J0 ?_ ?_).mono ?_
  · rintro a k W ha hk hlt ⟨⟨v, acc, T, hac, n, hn1, hn2⟩, hl⟩ hbad
    rw [hs1] at hlt
    obtain ⟨n, rfl⟩ : ∃ n', n = n' + 1 := ⟨n - 1, by omega⟩
    have hRv : Rv = (acc, k, a) := by
      rcases scan_three s k a n acc Rv _ _ _ ha (show readText (s.drop a) 8192 = ((readText (s.drop a) 8192).1, (readText (s.drop a) 8192).2.1, (readText (s.drop a) 8192).2.2) from rfl) hn1 with ⟨_, h⟩ | ⟨_, _, h⟩ | ⟨h1, h2, _⟩
      · exact h
      · exact h
      · omega
    have hc := cst_step [] z32 z32_len 0 false
    rw [zero35_eq]
    generalize #[str []] ++ (byc z32).toArray ++ #[.int .i64 0, .bool false] = cs at hc ⊢
    refine (ex.out cs _ _ _ W v acc k a hc T hl hlt).mono ?_
    rintro e W' ⟨_, rfl, T', hl'⟩
    exact ⟨⟨_, rfl⟩, ⟨_, _, _, _, T', hRv⟩, hl'⟩
  · rintro a k W ha hk hlt ⟨⟨v, acc, T, hac, n, hn1, hn2⟩, hl⟩ he hfit
    rw [hs1] at hlt ⊢
    obtain ⟨n, rfl⟩ : ∃ n', n = n' + 1 := ⟨n - 1, by omega⟩
    have h3 := scan_three s k a n acc Rv _ _ _ ha (show readText (s.drop a) 8192 = ((readText (s.drop a) 8192).1, (readText (s.drop a) 8192).2.1, (readText (s.drop a) 8192).2.2) from rfl) hn1
    obtain ⟨t1, -, -, -⟩ := text_readText (s.drop a) 8192 he
    generalize readText (s.drop a) 8192 = r at he hfit h3 t1 ⊢
    obtain ⟨t, m, er⟩ := r
    simp only at he hfit h3 t1 ⊢
    have e1 : (s.drop a).take (m + 32) = text t ++ (s.take (a + m + 32)).drop (a + m) := by
      rw [List.take_add, t1, List.drop_take, List.drop_drop, show a + m + 32 - (a + m) = 32 by omega]
    have h4 : ((s.take (a + m + 32)).drop (a + m) ≠ nx k t ∧ Rv = (acc, k, a)) ∨ (1 ≤ m ∧ (s.take (a + m + 32)).drop (a + m) = nx k t ∧ scan n (nx k t) (s.drop (a + m + 32)) (a + m + 32) (acc ++ [t]) = Rv) := by
      rcases h3 with ⟨h, _⟩ | ⟨_, h, _⟩ | ⟨_, _, _, h5, ⟨h, hr⟩ | ⟨h, hr⟩⟩
      · exact absurd he h
      · omega
      · refine .inl ⟨fun q => h ?_, hr⟩
        rw [e1, q]
      · rw [e1] at h
        exact .inr ⟨h5, List.append_cancel_left h, hr⟩
    clear h3 e1 t1
    generalize (s.take (a + m + 32)).drop (a + m) = sl at h4 ⊢
    rcases h4 with ⟨hne, hr⟩ | ⟨hm, heq, hr⟩
    · have eb : (sl == nx k t) = false := by simpa using hne
      rw [eb]
      have hc := cst_step t (nx k t) (nx_len _ _) ((a : Int) + (m : Int) + 32) false
      unfold stepV
      generalize #[str t] ++ (byc (nx k t)).toArray ++ #[.int .i64 ((a : Int) + (m : Int) + 32), .bool false] = cs at hc ⊢
      refine (ex.out cs _ _ _ W v acc k a hc T hl hlt).mono ?_
      rintro e W' ⟨hk3, rfl, T', hl'⟩
      exact ⟨hk3, .inr ⟨rfl, ⟨_, _, _, _, T', hr⟩, hl'⟩⟩
    · have eb : (sl == nx k t) = true := by simpa using heq
      rw [eb]
      have hc := cst_step t (nx k t) (nx_len _ _) ((a + m + 32 : Nat) : Int) true
      have ec : ((a + m + 32 : Nat) : Int) = (a : Int) + (m : Int) + 32 := by omega
      unfold stepV
      rw [← ec]
      generalize #[str t] ++ (byc (nx k t)).toArray ++ #[.int .i64 ((a + m + 32 : Nat) : Int), .bool true] = cs at hc ⊢
      refine (go.out cs _ _ _ W v acc k a hc (by omega) T hl hlt).mono ?_
      rintro e W' ⟨hk3, rfl, ⟨v', T'⟩, hl'⟩
      exact ⟨hk3, .inl ⟨rfl, heq, ⟨v', acc ++ [t], T', by simp; omega, n, hr, by omega⟩, hl'⟩⟩
  · rintro e W ⟨⟨v0, rfl⟩, ⟨v, acc, k, a, T, hRv⟩, hl⟩
    refine ⟨⟨v0, rfl⟩, .inr ⟨.exit 0, hl, ?_⟩⟩
    obtain ⟨A', cp, hv, _⟩ := T.sl.txt
    subst hv
    have T3 := Lib.hid (T.loop (.loop (R .exhausted (some (.exit 0)))))
    clear HR hl1 hT1 ex go J0 stj T hl
    generalize W.putObj (C + 2) (.loop (R .exhausted (some (.exit 0)))) = W3 at T3 ⊢
    have c1 := cell_of_row _ _ 0 _ _ (0, 0) T3.out.b0
    have c2 := cell_of_row _ _ 0 _ _ (0, 0) T3.out.b1
    have c3 := cell_of_row _ _ 0 _ _ (0, 0) T3.out.b2
    have f1 := frozen_of_row _ _ 0 _ _ T3.out.b0
    have f2 := frozen_of_row _ _ 0 _ _ T3.out.b1
    have f3 := frozen_of_row _ _ 0 _ _ T3.out.b2
    subst hRv
    go_wp2_with fail
    have hC := T3.out.hC
    have LV := Lib.hid ((((T3.out.setV (sls_other (k := 0) (W' := W3.setCell ⟨w.heap.size, 0, none⟩ (.slice A' acc.length cp)) T3.out.sl (by omega) fun j hj => heap_setCell_other _ _ _ _ (by simp; omega))).setH k).setG a).draw)
    go_region
    all_goals
      go_wp2_with fail
      exact Scm.leave LV.out rfl rfl rfl rfl
end Go.Proofs.YtnmkinihkgdkgaaDoor
