/- What the ledger's May answers, for any action; of no ledger. Condition: the ledger lies at the pointer. -/
import Derived.Test.YthdmjeoldnehcaaLgj
namespace Go.Proofs.Ythdmjeoldnehcaa
open Go.RowKit
set_option linter.unusedVariables false
set_option linter.unusedSimpArgs false

theorem sound_rowOf {bad : Nat} {rows : List Rw} (h : ∀ r ∈ rows, Sound bad r) (t : Tx) : Sound bad (rowOf rows t) := by
  cases hi : idx rows t with
  | none => rw [rowOf_none hi]; exact sound_row0 bad t
  | some k => rw [rowOf_some hi]; exact h _ (List.getElem_mem _)
theorem orgB_is {k : Int} (h : orgB k = true) : 0 ≤ k ∧ k < 8 := by
  unfold orgB at h
  simpa using h
set_option maxHeartbeats 1000000 in
theorem May_any {B g mb bad : Nat} {sl : Value} {rows : List Rw} {w : World} (h : Lg w B g mb sl bad rows) (a : Ac) (hlen : rows.length ≤ 100000) (hbad : bad < 256) (horgs : a.orgs < 256) :
    Calls Try.prog 20 #[.pointer (some ⟨g, 0, none⟩), .agg a.cells.toArray] w fun r w' => r = .returned (.int .i64 (errOf bad rows a : Int)) ∧ Below w.heap.size w w' := by
  have hs := sound_rowOf h.sd a.tx
  obtain ⟨kind, ⟨c, e, s⟩, org, yes, orgs⟩ := a
  simp only at hs horgs
  unfold errOf
  simp only [Ac.cells]
  by_cases e1 : kind = 1
  · subst e1
    have em : mayBe bad ⟨1, ⟨c, e, s⟩, org, yes, orgs⟩ = (mayTx ⟨c, e, s⟩ && !inS bad c && (decide (1 ≤ ones orgs) && decide (ones orgs ≤ 6) && !inS orgs c && decide (org = 0) && !yes)) := by simp [mayBe]
    have ec : canDo bad (rowOf rows ⟨c, e, s⟩) ⟨1, ⟨c, e, s⟩, org, yes, orgs⟩ = (!(rowOf rows ⟨c, e, s⟩).begun && !(rowOf rows ⟨c, e, s⟩).dec) := by simp [canDo]
    rw [em, ec]
    exact May_kind B g mb bad sl rows 1 c e s org yes orgs true false false 30 _ (.func (.func 31) #[] #[]) _ _ w h hlen rfl rfl hbad
      (fun W kb hk => look_kind hk _ _ 0 (kindV 1) (by rfl))
      (fun W hg => mayBe_1 g bad 1 c e s org yes orgs _ _ W hg hbad horgs)
      (fun args W => by kernel_rfl)
      (fun _ W b hr hg => mayBegin_any _ b 0 _ ⟨1, ⟨c, e, s⟩, org, yes, orgs⟩ W hr)
  by_cases e2 : kind = 2
  · subst e2
    have em : mayBe bad ⟨2, ⟨c, e, s⟩, org, yes, orgs⟩ = (mayTx ⟨c, e, s⟩ && !inS bad c && (decide (ones orgs = 0) && orgB org && decide (org ≠ c) && !inS bad org)) := by simp [mayBe]
    have ec : canDo bad (rowOf rows ⟨c, e, s⟩) ⟨2, ⟨c, e, s⟩, org, yes, orgs⟩ = ((rowOf rows ⟨c, e, s⟩).begun && inS (rowOf rows ⟨c, e, s⟩).orgs org && !(inS (rowOf rows ⟨c, e, s⟩).voted org || inS (rowOf rows ⟨c, e, s⟩).learnt org)) := by simp [canDo]
    rw [em, ec]
    exact May_kind B g mb bad sl rows 2 c e s org yes orgs false true true 32 _ (.func (.func 33) #[] #[]) _ _ w h hlen rfl rfl hbad
      (fun W kb hk => look_kind hk _ _ 1 (kindV 2) (by rfl))
      (fun W hg => mayBe_2 g bad 2 c e s org yes orgs _ _ W hg hbad horgs)
      (fun args W => by kernel_rfl)
      (fun hm W b hr hg => by
        simp only [Bool.and_eq_true] at hm
        have ho := orgB_is hm.2.1.1.2
        exact mayVote_any _ b 0 _ ⟨2, ⟨c, e, s⟩, org, yes, orgs⟩ W hr ho.1 ho.2 hs.lo)
  by_cases e3 : kind = 3
  · subst e3
    have em : mayBe bad ⟨3, ⟨c, e, s⟩, org, yes, orgs⟩ = (mayTx ⟨c, e, s⟩ && !inS bad c && (decide (ones orgs = 0) && decide (org = 0))) := by simp [mayBe]
    have ec : canDo bad (rowOf rows ⟨c, e, s⟩) ⟨3, ⟨c, e, s⟩, org, yes, orgs⟩ = decOk bad (rowOf rows ⟨c, e, s⟩) yes := by simp [canDo, decOk]
    rw [em, ec]
    exact May_kind B g mb bad sl rows 3 c e s org yes orgs false false true 34 _ (.func (.func 35) #[] #[]) _ _ w h hlen rfl rfl hbad
      (fun W kb hk => look_kind hk _ _ 2 (kindV 3) (by rfl))
      (fun W hg => mayBe_3 g bad 3 c e s org yes orgs _ _ W hg hbad horgs)
      (fun args W => by kernel_rfl)
      (fun _ W b hr hg => mayDecide_any g b 0 bad _ ⟨3, ⟨c, e, s⟩, org, yes, orgs⟩ W hr hg hbad hs.lo)
  by_cases e4 : kind = 4
  · subst e4
    have em : mayBe bad ⟨4, ⟨c, e, s⟩, org, yes, orgs⟩ = (mayTx ⟨c, e, s⟩ && !inS bad c && (decide (ones orgs = 0) && orgB org && decide (org ≠ c) && !inS bad org)) := by simp [mayBe]
    have ec : canDo bad (rowOf rows ⟨c, e, s⟩) ⟨4, ⟨c, e, s⟩, org, yes, orgs⟩ = ((rowOf rows ⟨c, e, s⟩).dec && ((rowOf rows ⟨c, e, s⟩).com == yes) && !inS (rowOf rows ⟨c, e, s⟩).learnt org && (!(rowOf rows ⟨c, e, s⟩).begun || inS (rowOf rows ⟨c, e, s⟩).orgs org) && (!yes || inS (rowOf rows ⟨c, e, s⟩).yes org)) := by simp [canDo]
    rw [em, ec]
    exact May_kind B g mb bad sl rows 4 c e s org yes orgs false true true 36 _ (.func (.func 37) #[] #[]) _ _ w h hlen rfl rfl hbad
      (fun W kb hk => look_kind hk _ _ 3 (kindV 4) (by rfl))
      (fun W hg => mayBe_2 g bad 4 c e s org yes orgs _ _ W hg hbad horgs)
      (fun args W => by kernel_rfl)
      (fun hm W b hr hg => by
        simp only [Bool.and_eq_true] at hm
        have ho := orgB_is hm.2.1.1.2
        exact mayLearn_any _ b 0 _ ⟨4, ⟨c, e, s⟩, org, yes, orgs⟩ W hr ho.1 ho.2 hs.lo)
  have em : mayBe bad ⟨kind, ⟨c, e, s⟩, org, yes, orgs⟩ = false := by
    have : (decide (1 ≤ kind) && decide (kind ≤ 4)) = false := by
      rw [Bool.and_eq_false_iff]
      by_cases h1 : 1 ≤ kind
      · right; simp; omega
      · left; simp; omega
    simp only [mayBe, this, Bool.false_and]
  rw [if_pos em]
  exact May_none B g mb bad sl rows kind c e s org yes orgs w h hlen ⟨e1, e2, e3, e4⟩
theorem May_nil (a : Ac) (w : World) : Calls Try.prog 20 #[.pointer none, .agg a.cells.toArray] w fun r w' => r = .returned (.int .i64 1) ∧ Below w.heap.size w w' := by
  have b0 := Lib.hid ((Below.refl w.heap.size w).alloc (Nat.le_refl _) (.cells a.cells.toArray 35 (0, 0)))
  obtain ⟨kind, ⟨c, e, s⟩, org, yes, orgs⟩ := a
  go_enter Try.func20, Try.ntmps20
  go_wp2_with fail
  go_ret
  exact ⟨rfl, b0.out⟩
end Go.Proofs.Ythdmjeoldnehcaa
