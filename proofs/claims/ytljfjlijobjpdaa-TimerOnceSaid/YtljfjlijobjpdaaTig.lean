/- The walk of the timers' iterator rising$1: it hands over what is due, over a letter J. Condition: none. -/
import Derived.Test.YtljfjlijobjpdaaTip
import Derived.Test.YtljfjlijobjpdaaTif
namespace Go.Proofs.Ytljfjlijobjpdaa
open Go.RowKit
set_option linter.unusedVariables false
set_option linter.unusedSimpArgs false

/-- How many there are, as memory has it (the loop's measure). -/
def lenAt (gb : Nat) (W : World) : Nat := match W.cell? ⟨gb, 0, none⟩ with | some (.slice _ n _) => n | _ => 0
theorem lenAt_tm {W : World} {B gb mb no : Nat} {sl : Value} {l : List On1} {M : Mp} (h : Tm W B gb mb sl l M no) : lenAt gb W = l.length := by
  obtain ⟨ob, cap, rfl⟩ := h.slice
  unfold lenAt
  rw [h.s.1]
set_option maxRecDepth 100000 in
set_option maxHeartbeats 8000000 in
theorem rising_iter (b1 b2 gb mb lb B no : Nat) (t : Int) (M0 : Mp) (J : Value → List On1 → Mp → List On1 → World → Prop) (sl0 : Value) (l0 : List On1) (w : World)
    (hc : ∀ sl l M del W, J sl l M del W → W.cell? ⟨b1, 0, none⟩ = some (.pointer (some ⟨gb, 0, none⟩)) ∧ W.cell? ⟨b2, 0, none⟩ = some (.int .i64 t) ∧ Tm W B gb mb sl l M no)
    (hb : ∀ sl l M del W W', J sl l M del W → Below W.heap.size W W' → J sl l M del W')
    (hp : ∀ sl l M del W sl' l' M' W', J sl l M del W → Tm W' B gb mb sl' l' M' no → sl'.ownBlock = sl.ownBlock → Chg (Tl gb mb sl) W W' → J sl' l' M' del W')
    (hJ0 : J sl0 l0 M0 [] w) (inv : Inv l0 M0) (hl0 : l0.length ≤ 100000)
    (hY : ∀ sl l M del (x : On1) W, J sl l M del W → del.length ≤ 100000 → YieldAt Fence.wide 0 Try.prog lb #[.agg #[str x.key, .int .i64 x.at_, .int .i64 (x.no : Int)]] W fun e W' => e = .returned (.bool true) ∧ J sl l M (del ++ [x]) W') :
    Calls Try.prog 15 #[.func (.yield lb) #[] #[], .pointer (some ⟨b1, 0, none⟩), .pointer (some ⟨b2, 0, none⟩)] w fun e W' => (∃ v, e = .returned v) ∧ ∃ sl l M del, l.length ≤ l0.length ∧ J sl l M del W' ∧ DInv M0 t l M del ∧ ∀ y ∈ l, t < y.at_ := by
  have HC := Lib.hid hc
  have HB := Lib.hid hb
  have HP := Lib.hid hp
  have HY := Lib.hid hY
  have H0 := Lib.hid hJ0
  have D0 := Lib.hid (dinv_start inv t)
  clear hc hb hp hY hJ0 inv
  go_enter Try.func15, Try.ntmps15
  go_wp2_with fail
  go_loopw [26] (fun v wr => ∃ (sl : Value) (l : List On1) (M : Mp) (del : List On1), l.length + del.length ≤ l0.length ∧ Hid (J sl l M del wr ∧ DInv M0 t l M del)) (fun v W => lenAt gb W)
  case atStart => exact ⟨sl0, l0, M0, [], by simp, H0.out, D0.out⟩
  case round =>
    clear H0 D0
    obtain ⟨sl, l, M, del, hll, H⟩ := hrel
    obtain ⟨c1, c2, hT⟩ := HC.out _ _ _ _ _ H.out.1
    have T1 := Lib.hid hT
    have LA := Lib.hid (lenAt_tm hT)
    obtain ⟨t0, t1, t2, t3, fz⟩ := hT.s
    clear hT
    by_cases hl : l.length = 0
    · obtain ⟨ob, cap, rfl⟩ := T1.out.slice
      have g0 : decide ((0 : Int) < (l.length : Int)) = false := decide_eq_false (by omega)
      have g1 : decide (0 < l.length) = false := decide_eq_false (by omega)
      have FIN : Hid (∀ n, ∃ sl l M del, l.length ≤ l0.length ∧ J sl l M del (wr.drewN n) ∧ DInv M0 t l M del ∧ ∀ y ∈ l, t < y.at_) := fun n =>
        ⟨_, _, _, _, Nat.le_trans (Nat.le_add_right _ _) hll, HB.out _ _ _ _ _ _ H.out.1 (below_drewN (Below.refl _ wr) n), H.out.2, fun y hy => by rw [List.eq_nil_of_length_eq_zero hl] at hy; cases hy⟩
      clear H hl T1 LA HY HP HB HC
      go_wp2_with fail
      go_quiet (fail)
      go_wp2_with fail
      go_end0
      exact ⟨⟨_, rfl⟩, FIN.out _⟩
    have hlp : 0 < l.length := by omega
    obtain ⟨b, cap, rfl, hBb, hcm, hblk⟩ := blk_of_own T1.out.own hlp
    obtain ⟨x0, x1, x2⟩ := hblk.cell 0 hlp
    simp only [Nat.zero_mul, Nat.zero_add] at x0 x1 x2
    have g0 : decide ((0 : Int) < (l.length : Int)) = true := decide_eq_true (by omega)
    have g1 : decide (0 < l.length) = true := decide_eq_true (by omega)
    have lb0 : (0 : Int) < (l.length : Int) := by omega
    have MIN := Lib.hid (fun y hy => heap_min' H.out.2.inv.h (y := y) hy)
    have PO := Lib.hid (fun (W : World) (hT : Tm W B gb mb (.slice (some ⟨b, 0, none⟩) l.length cap) l M no) => pop_any hT H.out.2.inv.h hlp (by omega))
    generalize hf : g l 0 = x at x0 x1 x2 MIN PO
    have HF := Lib.hid hf
    clear hf hblk
    by_cases hat : x.at_ ≤ t
    rotate_left
    · have g2 : decide (x.at_ ≤ t) = false := decide_eq_false hat
      have FIN : Hid (∀ n, ∃ sl l M del, l.length ≤ l0.length ∧ J sl l M del (wr.drewN n) ∧ DInv M0 t l M del ∧ ∀ y ∈ l, t < y.at_) := fun n =>
        ⟨_, _, _, _, Nat.le_trans (Nat.le_add_right _ _) hll, HB.out _ _ _ _ _ _ H.out.1 (below_drewN (Below.refl _ wr) n), H.out.2, fun y hy => by
          have := MIN.out y hy
          unfold le at this
          omega⟩
      clear H T1 LA HY HP HB HC MIN PO hat
      go_wp2_with fail
      go_quiet (fail)
      go_wp2_with fail
      go_end0
      exact ⟨⟨_, rfl⟩, FIN.out _⟩
    have g2 : decide (x.at_ ≤ t) = true := decide_eq_true hat
    go_wp2_with fail
    go_quiet (fail)
    have J1 := Lib.hid (HB.out _ _ _ _ _ _ H.out.1 (below_drewN (Below.refl _ wr) nq))
    have T2 := Lib.hid (T1.out.bel (below_drewN (Below.refl _ wr) nq))
    have DI := Lib.hid H.out.2
    clear T1 H MIN x0 x1 x2 t0 t1 t2 t3 fz c2
    generalize wr.drewN nq = W1 at J1 T2 ⊢
    obtain ⟨c1', -, -⟩ := HC.out _ _ _ _ _ J1.out
    have PO2 := Lib.hid (PO.out _ T2.out)
    obtain ⟨xk, xa, xn⟩ := x
    simp only [On1.cells] at PO2
    simp only at hat g2
    clear PO c1 T2
    go_upto_region 2 with (go_at_call 16; (with_reducible refine PO2.out.mono ?_); rintro e W2 ⟨rfl, l', hpm, hhp, sl2, hT2, ho2, hc2⟩; have J2 := Lib.hid (HP.out _ _ _ _ _ _ _ _ _ J1.out hT2 ho2 hc2); have PM := Lib.hid (And.intro hpm hhp); clear hpm hhp hT2 ho2 hc2)
    have J3 := Lib.hid (HB.out _ _ _ _ _ _ J2.out ((Below.refl _ W2).alloc (Nat.le_refl _) (.cells #[str xk, .int .i64 xa, .int .i64 (xn : Int)] 48 (0, 0))))
    have x3 := heap_alloc_new W2 (.cells #[str xk, .int .i64 xa, .int .i64 (xn : Int)] 48 (0, 0))
    have X3 := Lib.hid x3
    clear x3 J2 PO2 J1 c1' W1
    generalize W2.alloc (.cells #[str xk, .int .i64 xa, .int .i64 (xn : Int)] 48 (0, 0)) = W3 at J3 X3 ⊢
    generalize W2.heap.size = xb at X3 ⊢
    obtain ⟨c1, -, T3⟩ := HC.out _ _ _ _ _ J3.out
    have T3' := Lib.hid T3
    have q0 := cell_of_row _ _ 0 _ _ (0, 0) X3.out
    simp only [List.getElem?_toArray, List.getElem?_cons_zero, List.getElem?_cons_succ] at q0
    have t2 := T3.s.2.2.1
    have hlk := fun (W : World) (hb : Below W3.heap.size W3 W) => run_look (T3.bel hb).map xk true
    simp only [if_true] at hlk
    clear T3
    have hst : lkV (lookM xk M) = .agg #[.int .i64 ((lookM xk M).getD (0, 0)).1, .int .i64 (((lookM xk M).getD (0, 0)).2 : Int)] := rfl
    rw [hst] at hlk
    have OUT : Hid (∀ a n, ((lookM xk M).getD (0, 0)).1 = a → ((lookM xk M).getD (0, 0)).2 = n → ((lookM xk M).isSome = false → lookM xk M ≠ some (xa, xn)) ∧ ((decide (a = xa) && decide (n = xn)) = false → lookM xk M ≠ some (xa, xn)) ∧ ((lookM xk M).isSome = true → (decide (a = xa) && decide (n = xn)) = true → lookM xk M = some (xa, xn))) := by
      intro a n ha hn
      cases ho : lookM xk M with
      | none => exact ⟨fun _ q => (by cases q), fun _ q => (by cases q), fun q => (by cases q)⟩
      | some v =>
        rw [ho] at ha hn
        simp only [Option.getD_some] at ha hn
        subst ha hn
        refine ⟨fun q => by simp at q, fun q r => ?_, fun _ q => ?_⟩
        · rw [Option.some.inj r] at q
          simp at q
        · simp only [Bool.and_eq_true, decide_eq_true_eq] at q
          rw [← q.1, ← q.2]
    have OU2 := Lib.hid (OUT.out _ _ rfl rfl)
    clear OUT hst
    generalize ((lookM xk M).getD (0, 0)).1 = va at hlk OU2
    generalize ((lookM xk M).getD (0, 0)).2 = vn at hlk OU2
    generalize (lookM xk M).isSome = is at hlk OU2
    have SS : Hid (∀ W : World, Below W3.heap.size W3 W → W.cell? ⟨b1, 0, none⟩ = some (.pointer (some ⟨gb, 0, none⟩)) ∧ W.cell? ⟨gb, 2, none⟩ = some (.map (some mb)) ∧ W.cell? ⟨xb, 0, none⟩ = some (str xk) ∧ (Instr.lookup 40 (.map (some mb)) (str xk) true).run Try.prog W = .ok (.tuple #[.agg #[.int .i64 va, .int .i64 (vn : Int)], .bool is]) W) := fun W hb => ⟨cell_kept hb c1, cell_kept hb t2, cell_kept hb q0, hlk W hb⟩
    clear hlk
    obtain ⟨c1', t2', q0', hl'⟩ := SS.out _ (Below.refl _ W3).drew
    go_cut [5, 6] (fun v5 v6 wx => v5 = .pointer (some ⟨W3.heap.size, 0, none⟩) ∧ v6 = .bool is ∧ wx = (W3.alloc (.cells #[.int .i64 va, .int .i64 (vn : Int)] 44 (0, 0))).drew)
    case first =>
      clear HC HB HP HY
      go_region_held3 (fun W => W.cell? ⟨b1, 0, none⟩ = some (.pointer (some ⟨gb, 0, none⟩)) ∧ W.cell? ⟨gb, 2, none⟩ = some (.map (some mb)) ∧ W.cell? ⟨xb, 0, none⟩ = some (str xk) ∧ (Instr.lookup 40 (.map (some mb)) (str xk) true).run Try.prog W = .ok (.tuple #[.agg #[.int .i64 va, .int .i64 (vn : Int)], .bool is]) W)
        (first | assumption | exact SS.out _ (Below.refl _ W3).drew | exact SS.out _ ((Below.refl _ W3).drew.alloc (Nat.le_refl _) _) | exact SS.out _ (((Below.refl _ W3).alloc (Nat.le_refl _) _).drew))
        (fail)
      all_goals
        go_wp2_with fail
        go_meet
        case rel => exact ⟨rfl, rfl, rfl⟩
    case rest =>
      obtain ⟨rfl, rfl, rfl⟩ := hcut
      have bx := ((Below.refl W3.heap.size W3).alloc (Nat.le_refl _) (.cells #[.int .i64 va, .int .i64 (vn : Int)] 44 (0, 0))).drew
      have J4 := Lib.hid (HB.out _ _ _ _ _ _ J3.out bx)
      have T4 := Lib.hid (T3'.out.bel bx)
      have X4 := (bx.block _ (lt_of_heap X3.out)).trans X3.out
      have S4 : ((W3.alloc (.cells #[.int .i64 va, .int .i64 (vn : Int)] 44 (0, 0))).drew).heap[W3.heap.size]? = some (.cells #[.int .i64 va, .int .i64 (vn : Int)] 44 (0, 0)) := heap_alloc_new W3 _
      have X5 := Lib.hid X4
      have S5 := Lib.hid S4
      clear bx X4 S4 J3 T3' X3 c1 q0 t2 SS c1' t2' q0' hl'
      generalize (W3.alloc (.cells #[.int .i64 va, .int .i64 (vn : Int)] 44 (0, 0))).drew = W5 at J4 T4 X5 S5 ⊢
      generalize W3.heap.size = sb at S5 ⊢
      have HSTALE : Hid (lookM xk M ≠ some (xa, xn) → ∀ W, Below W5.heap.size W5 W → (∃ (sl : Value) (l : List On1) (M : Mp) (del : List On1), l.length + del.length ≤ l0.length ∧ Hid (J sl l M del W ∧ DInv M0 t l M del)) ∧ lenAt gb W < lenAt gb wr) := fun hs W hb => by
        have hl2 := PM.out.1.length_eq
        simp only [List.length_cons] at hl2
        refine ⟨⟨sl2, l', M, del, by omega, HB.out _ _ _ _ _ _ J4.out hb, dinv_stale DI.out PM.out.1 PM.out.2 hs⟩, ?_⟩
        rw [lenAt_tm (T4.out.bel hb), LA.out]
        omega
      cases is
      · have ST := Lib.hid (HSTALE.out (OU2.out.1 rfl))
        clear HSTALE OU2 HC HB HP HY LA PM DI
        go_wp2_with fail
        exact ST.out _ (Below.refl _ W5)
      have s0 := cell_of_row _ _ 0 _ _ (0, 0) S5.out
      have s1 := cell_of_row _ _ 1 _ _ (0, 0) S5.out
      have x0 := cell_of_row _ _ 0 _ _ (0, 0) X5.out
      have x1 := cell_of_row _ _ 1 _ _ (0, 0) X5.out
      have x2 := cell_of_row _ _ 2 _ _ (0, 0) X5.out
      simp only [List.getElem?_toArray, List.getElem?_cons_zero, List.getElem?_cons_succ] at s0 s1 x0 x1 x2
      have hne := fun W => neq_st va xa vn xn W
      generalize (decide (va = xa) && decide (vn = xn)) = c at hne OU2
      cases c
      · have ST := Lib.hid (HSTALE.out (OU2.out.2.1 rfl))
        clear HSTALE OU2 HC HB HP HY LA PM DI
        go_wp2_with fail
        exact ST.out _ (Below.refl _ W5)
      have HLK := Lib.hid (OU2.out.2.2 rfl rfl)
      obtain ⟨c1, -, -⟩ := HC.out _ _ _ _ _ J4.out
      have t2 := T4.out.s.2.2.1
      have J5 := Lib.hid (HB.out _ _ _ _ _ _ J4.out (Below.refl _ W5).drew)
      have T5 := Lib.hid (T4.out.bel (Below.refl _ W5).drew)
      go_upto_region 4 with fail
      clear hne HSTALE OU2 s0 s1 S5
      obtain ⟨o4, hdel, hM⟩ := run_del (W := W5.drew) T5.out.map xk 0
      go_region
      have T6 := Lib.hid (tm_put T5.out hM)
      have J6 := Lib.hid (HP.out _ _ _ _ _ _ _ _ _ J5.out T6.out rfl (Chg.put (P := Tl gb mb sl2) W5.drew mb o4 (.inr (.inl rfl))))
      have hmx : xb ≠ mb := fun q => by
        obtain ⟨es, cl, h1, h2⟩ := T4.out.map
        have h3 := X5.out
        rw [q, h1] at h3
        cases h3
      have X6 : (W5.drew.putObj mb o4).heap[xb]? = some (.cells #[str xk, .int .i64 xa, .int .i64 (xn : Int)] 48 (0, 0)) := (World.putObj_heap_other hmx).trans X5.out
      have x60 := cell_of_row _ _ 0 _ _ (0, 0) X6
      have x61 := cell_of_row _ _ 1 _ _ (0, 0) X6
      have x62 := cell_of_row _ _ 2 _ _ (0, 0) X6
      simp only [List.getElem?_toArray, List.getElem?_cons_zero, List.getElem?_cons_succ] at x60 x61 x62
      have DF : Hid (DInv M0 t l' (delM xk M) (del ++ [⟨xk, xa, xn⟩])) := dinv_fresh DI.out PM.out.1 PM.out.2 HF.out.symm hat HLK.out
      have LL : l'.length + 1 = l.length := by have := PM.out.1.length_eq; simpa using this
      have NE := Lib.hid LL
      have YY := Lib.hid (HY.out _ _ _ _ ⟨xk, xa, xn⟩ _ J6.out (by omega))
      clear hdel hM x0 x1 x2 X5 X6 hmx t2 c1 J5 T5 J4 T4 HLK HF DI PM HP HB LL T6 J6
      generalize W5.drew.putObj mb o4 = W6 at x60 x61 x62 YY ⊢
      go_upto_region 5 with fail
      obtain ⟨fn, tmps, assign, body, hy, hR⟩ := YY.out
      have HR := Lib.hid hR
      clear hR YY
      refine (wpIn_wide (n := 0)).1 ?_
      gi_wp2
      refine ⟨rfl, HR.out.mono ?_⟩
      rintro e W' ⟨rfl, hJ'⟩
      have HE : Hid ((∃ (sl : Value) (l : List On1) (M : Mp) (del : List On1), l.length + del.length ≤ l0.length ∧ Hid (J sl l M del W' ∧ DInv M0 t l M del)) ∧ lenAt gb W' < lenAt gb wr) := by
        have h1 := NE.out
        refine ⟨⟨_, _, _, _, ?_, hJ', DF.out⟩, ?_⟩
        · rw [List.length_append, List.length_singleton]
          omega
        · rw [lenAt_tm (HC.out _ _ _ _ _ hJ').2.2, LA.out]
          omega
      clear hJ' HR hy NE DF LA HC HY x60 x61 x62
      gi_wp2
      go_wp2_with fail
      exact HE.out
end Go.Proofs.Ytljfjlijobjpdaa
