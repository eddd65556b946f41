/- What the ledger's Apply answers and leaves, for any action; New; of no ledger. Condition: the ledger lies at the pointer. -/
import Derived.Test.YthdmjeoldnehcaaLgr
namespace Go.Proofs.Ythdmjeoldnehcaa
open Go.RowKit
set_option linter.unusedVariables false
set_option linter.unusedSimpArgs false
attribute [local go_sem] run_makeMap

theorem step_on {bad : Nat} {rows : List Rw} {a : Ac} (h : errOf bad rows a = 0) : step bad rows a = putRow rows (doIt (rowOf rows a.tx) a) := by unfold step; rw [if_pos h]
theorem step_off {bad : Nat} {rows : List Rw} {a : Ac} (h : errOf bad rows a ≠ 0) : step bad rows a = rows := by unfold step; rw [if_neg h]
theorem err_zero {bad : Nat} {rows : List Rw} {a : Ac} (h : errOf bad rows a = 0) : mayBe bad a = true ∧ canDo bad (rowOf rows a.tx) a = true := by
  unfold errOf at h
  by_cases h1 : mayBe bad a = false
  · rw [if_pos h1] at h; omega
  · rw [if_neg h1] at h
    by_cases h2 : canDo bad (rowOf rows a.tx) a = false
    · rw [if_pos h2] at h; omega
    · exact ⟨by simpa using h1, by simpa using h2⟩
theorem err_le (bad : Nat) (rows : List Rw) (a : Ac) : errOf bad rows a ≤ 290 := by
  unfold errOf
  split
  · omega
  · split <;> omega
theorem may_kind {bad : Nat} {a : Ac} (h : mayBe bad a = true) : (a.kind = 1 ∨ a.kind = 2 ∨ a.kind = 3 ∨ a.kind = 4) ∧ (a.kind = 2 ∨ a.kind = 4 → 0 ≤ a.org ∧ a.org < 8) := by
  unfold mayBe at h
  simp only [Bool.and_eq_true, decide_eq_true_eq] at h
  obtain ⟨⟨⟨⟨k1, k4⟩, _⟩, _⟩, hk⟩ := h
  refine ⟨by omega, fun hh => ?_⟩
  rw [if_neg (by omega), if_neg (by omega)] at hk
  simp only [Bool.and_eq_true] at hk
  exact orgB_is hk.1.1.2
theorem Done.off {w w' : World} {B g mb bad : Nat} {sl : Value} {rows : List Rw} (h : Lg w B g mb sl bad rows) (hb : Below w.heap.size w w') : Done w B g mb sl bad rows w' := ⟨sl, h.bel hb, .inl rfl, Chg.of_below hb⟩

theorem Apply_not {B g mb bad : Nat} {sl : Value} {rows : List Rw} {w : World} (h : Lg w B g mb sl bad rows) (a : Ac) (n : Nat) (hn : n ≠ 0)
    (hmay : ∀ W : World, Lg W B g mb sl bad rows → Calls Try.prog 20 #[.pointer (some ⟨g, 0, none⟩), .agg a.cells.toArray] W fun r w' => r = .returned (.int .i64 (n : Int)) ∧ Below W.heap.size W w') :
    Calls Try.prog 14 #[.pointer (some ⟨g, 0, none⟩), .agg a.cells.toArray] w fun r w' => r = .returned (.int .i64 (n : Int)) ∧ Done w B g mb sl bad rows w' := by
  have b0 := (Below.refl w.heap.size w).alloc (Nat.le_refl _) (.cells a.cells.toArray 35 (0, 0))
  obtain ⟨kind, ⟨c, e, s⟩, org, yes, orgs⟩ := a
  have p0 := heap_alloc_new w (.cells (Ac.cells ⟨kind, ⟨c, e, s⟩, org, yes, orgs⟩).toArray 35 (0, 0))
  simp only [Ac.cells] at *
  have L1 := Lib.hid (h.bel b0)
  have B1 := Lib.hid b0
  have HM := Lib.hid hmay
  have HH := Lib.hid h
  have hn0 : ((n : Int) != 0) = true := by simp; omega
  clear hmay h b0 hn
  go_enter Try.func14, Try.ntmps14
  go_upto_region 1 with (fail)
  generalize w.alloc (.cells #[.int .u8 (kind : Int), .int .i64 c, .int .i64 e, .int .i64 s, .int .i64 org, .bool yes, .int .u8 (orgs : Int)] 35 (0, 0)) = w1 at L1 B1 p0 ⊢
  have q0 := cell_of_row _ _ 0 _ _ (0, 0) p0
  have q1 := cell_of_row _ _ 1 _ _ (0, 0) p0
  have q2 := cell_of_row _ _ 2 _ _ (0, 0) p0
  have q3 := cell_of_row _ _ 3 _ _ (0, 0) p0
  have q4 := cell_of_row _ _ 4 _ _ (0, 0) p0
  have q5 := cell_of_row _ _ 5 _ _ (0, 0) p0
  have q6 := cell_of_row _ _ 6 _ _ (0, 0) p0
  simp only [List.getElem?_toArray, List.getElem?_cons_zero, List.getElem?_cons_succ] at q0 q1 q2 q3 q4 q5 q6
  clear p0
  go_wp2_with (go_at_call 20; refine (HM.out _ L1.out).mono ?_; rintro r W2 ⟨rfl, hb⟩; have B2 := Lib.hid (below_acc B1.out hb); clear hb)
  go_ret
  exact ⟨rfl, Done.off HH.out B2.out⟩
theorem Apply_any {B g mb bad : Nat} {sl : Value} {rows : List Rw} {w : World} (h : Lg w B g mb sl bad rows) (a : Ac) (hlen : rows.length ≤ 100000) (hbad : bad < 256) (horgs : a.orgs < 256) (hBw : B ≤ w.heap.size) :
    Calls Try.prog 14 #[.pointer (some ⟨g, 0, none⟩), .agg a.cells.toArray] w fun r w' => r = .returned (.int .i64 (errOf bad rows a : Int)) ∧ Done w B g mb sl bad (step bad rows a) w' := by
  by_cases h0 : errOf bad rows a = 0
  rotate_left
  · rw [step_off h0]
    exact Apply_not h a _ h0 fun W hW => May_any hW a hlen hbad horgs
  rw [step_on h0]
  have hmay : ∀ W : World, Lg W B g mb sl bad rows → Calls Try.prog 20 #[.pointer (some ⟨g, 0, none⟩), .agg a.cells.toArray] W fun r w' => r = .returned (.int .i64 0) ∧ Below W.heap.size W w' := fun W hW => by
    have := May_any hW a hlen hbad horgs
    rw [h0] at this
    exact this
  rw [h0]
  obtain ⟨hm, hc⟩ := err_zero h0
  obtain ⟨hk, ho⟩ := may_kind hm
  have hs := sound_rowOf h.sd a.tx
  have hsd := sound_do hs hm hc horgs
  have htx : (doIt (rowOf rows a.tx) a).tx = a.tx := (doIt_tx _ _).trans (rowOf_tx _ _)
  obtain ⟨kind, ⟨c, e, s⟩, org, yes, orgs⟩ := a
  simp only [Ac.cells] at *
  rcases hk with rfl | rfl | rfl | rfl
  · exact Apply_kind B g mb bad sl rows 1 c e s org yes orgs true false false _ _ 31 _ w h hlen hBw rfl (fun W kb hk => look_kind hk _ _ 0 (kindV 1) (by rfl)) (fun args W => by kernel_rfl) hmay
      (fun W b o cs0 hr => begin_any _ b o _ _ ⟨1, ⟨c, e, s⟩, org, yes, orgs⟩ cs0 W hr rfl) htx hsd
  · have ho := ho (.inl rfl)
    exact Apply_kind B g mb bad sl rows 2 c e s org yes orgs false true true _ _ 33 _ w h hlen hBw rfl (fun W kb hk => look_kind hk _ _ 1 (kindV 2) (by rfl)) (fun args W => by kernel_rfl) hmay
      (fun W b o cs0 hr => vote_any _ b o _ _ ⟨2, ⟨c, e, s⟩, org, yes, orgs⟩ cs0 W hr rfl ho.1 ho.2 hs.lo.2.1 hs.lo.2.2.1) htx hsd
  · exact Apply_kind B g mb bad sl rows 3 c e s org yes orgs false false true _ _ 35 _ w h hlen hBw rfl (fun W kb hk => look_kind hk _ _ 2 (kindV 3) (by rfl)) (fun args W => by kernel_rfl) hmay
      (fun W b o cs0 hr => decide_any _ b o _ _ ⟨3, ⟨c, e, s⟩, org, yes, orgs⟩ cs0 W hr rfl) htx hsd
  · have ho := ho (.inr rfl)
    exact Apply_kind B g mb bad sl rows 4 c e s org yes orgs false true true _ _ 37 _ w h hlen hBw rfl (fun W kb hk => look_kind hk _ _ 3 (kindV 4) (by rfl)) (fun args W => by kernel_rfl) hmay
      (fun W b o cs0 hr => learn_any _ b o _ _ ⟨4, ⟨c, e, s⟩, org, yes, orgs⟩ cs0 W hr rfl ho.1 ho.2 hs.lo.2.2.2) htx hsd
theorem Apply_nil (a : Ac) (w : World) : Calls Try.prog 14 #[.pointer none, .agg a.cells.toArray] w fun r w' => r = .returned (.int .i64 1) ∧ Below w.heap.size w w' := by
  have b0 := Lib.hid ((Below.refl w.heap.size w).alloc (Nat.le_refl _) (.cells a.cells.toArray 35 (0, 0)))
  have HM := Lib.hid (fun W => May_nil a W)
  obtain ⟨kind, ⟨c, e, s⟩, org, yes, orgs⟩ := a
  have p0 := heap_alloc_new w (.cells (Ac.cells ⟨kind, ⟨c, e, s⟩, org, yes, orgs⟩).toArray 35 (0, 0))
  simp only [Ac.cells] at *
  go_enter Try.func14, Try.ntmps14
  go_upto_region 1 with (fail)
  generalize w.alloc (.cells #[.int .u8 (kind : Int), .int .i64 c, .int .i64 e, .int .i64 s, .int .i64 org, .bool yes, .int .u8 (orgs : Int)] 35 (0, 0)) = w1 at b0 p0 ⊢
  have q0 := cell_of_row _ _ 0 _ _ (0, 0) p0
  have q1 := cell_of_row _ _ 1 _ _ (0, 0) p0
  have q2 := cell_of_row _ _ 2 _ _ (0, 0) p0
  have q3 := cell_of_row _ _ 3 _ _ (0, 0) p0
  have q4 := cell_of_row _ _ 4 _ _ (0, 0) p0
  have q5 := cell_of_row _ _ 5 _ _ (0, 0) p0
  have q6 := cell_of_row _ _ 6 _ _ (0, 0) p0
  simp only [List.getElem?_toArray, List.getElem?_cons_zero, List.getElem?_cons_succ] at q0 q1 q2 q3 q4 q5 q6
  clear p0
  go_wp2_with (go_at_call 20; refine (HM.out _).mono ?_; rintro r W2 ⟨rfl, hb⟩; have B2 := Lib.hid (below_acc b0.out hb); clear hb)
  go_ret
  exact ⟨rfl, B2.out⟩
theorem New_any (bad : Nat) (w : World) : Calls Try.prog 13 #[.int .u8 (bad : Int)] w fun r w' => r = .returned (.pointer (some ⟨w.heap.size + 1, 0, none⟩)) ∧ Lg w' w.heap.size (w.heap.size + 1) w.heap.size (.slice none 0 0) bad [] ∧ Below w.heap.size w w' := by
  have b0 := (Below.refl w.heap.size w).alloc (Nat.le_refl _) (.map #[] 0)
  have b1 := b0.alloc b0.size (.cells #[.int .u8 (bad : Int), .slice none 0 0, .map (some w.heap.size)] 53 (0, 0))
  have p0 := (Below.heap_alloc (w.alloc (.map #[] 0)) (.cells #[.int .u8 (bad : Int), .slice none 0 0, .map (some w.heap.size)] 53 (0, 0)) w.heap.size (by simp)).trans (heap_alloc_new w (.map #[] 0))
  have p1 := heap_alloc_new (w.alloc (.map #[] 0)) (.cells #[.int .u8 (bad : Int), .slice none 0 0, .map (some w.heap.size)] 53 (0, 0))
  rw [World.size_alloc] at p1
  have HL : Hid (Lg ((w.alloc (.map #[] 0)).alloc (.cells #[.int .u8 (bad : Int), .slice none 0 0, .map (some w.heap.size)] 53 (0, 0))) w.heap.size (w.heap.size + 1) w.heap.size (.slice none 0 0) bad [] ∧ Below w.heap.size w ((w.alloc (.map #[] 0)).alloc (.cells #[.int .u8 (bad : Int), .slice none 0 0, .map (some w.heap.size)] 53 (0, 0)))) :=
    ⟨⟨p1, ⟨rfl, .inl ⟨rfl, rfl⟩⟩, p0, by omega, Nat.le_refl _, by omega, by simp [Value.ownBlock], by simp [Value.ownBlock], by simp⟩, b1⟩
  clear b0 b1 p0 p1
  go_enter Try.func13, Try.ntmps13
  go_wp2_with fail
  go_ret
  exact ⟨rfl, HL.out⟩
end Go.Proofs.Ythdmjeoldnehcaa
