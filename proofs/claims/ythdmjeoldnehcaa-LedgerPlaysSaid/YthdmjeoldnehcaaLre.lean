/- The walk of the reference's Bare: an action, with what its kind names alone. Condition: none. -/
import Derived.Test.YthdmjeoldnehcaaLrd
import Derived.Test.YthdmjeoldnehcaaLsq
namespace Go.Proofs.Ythdmjeoldnehcaa
open Go.RowKit
set_option linter.unusedVariables false
set_option linter.unusedSimpArgs false

/-- An action, with what its kind names alone. -/
def bareA (a : Ac) : Ac :=
  if a.kind = 1 then ⟨1, a.tx, 0, false, a.orgs⟩
  else if a.kind = 2 then ⟨2, a.tx, a.org, a.yes, 0⟩
  else if a.kind = 4 then ⟨4, a.tx, a.org, a.yes, 0⟩
  else if a.kind = 3 then ⟨3, a.tx, 0, a.yes, 0⟩
  else ⟨0, ⟨0, 0, 0⟩, 0, false, 0⟩
set_option maxHeartbeats 2000000 in
theorem Bare_any (a : Ac) (w : World) : Calls Try.prog 42 #[.agg a.cells.toArray] w fun e w' => e = .returned (.agg (bareA a).cells.toArray) ∧ Below w.heap.size w w' := by
  obtain ⟨kind, ⟨c, e, s⟩, org, yes, orgs⟩ := a
  simp only [Ac.cells]
  have b0 := (Below.refl w.heap.size w).alloc (Nat.le_refl _) (.cells #[.int .u8 (kind : Int), .int .i64 c, .int .i64 e, .int .i64 s, .int .i64 org, .bool yes, .int .u8 (orgs : Int)] 35 (0, 0))
  have b1 := b0.alloc b0.size (.cells zac.toArray 35 (0, 0))
  have p0 := (Below.heap_alloc (w.alloc (.cells #[.int .u8 (kind : Int), .int .i64 c, .int .i64 e, .int .i64 s, .int .i64 org, .bool yes, .int .u8 (orgs : Int)] 35 (0, 0))) (.cells zac.toArray 35 (0, 0)) w.heap.size (by simp)).trans (heap_alloc_new w (.cells #[.int .u8 (kind : Int), .int .i64 c, .int .i64 e, .int .i64 s, .int .i64 org, .bool yes, .int .u8 (orgs : Int)] 35 (0, 0)))
  have p1 := heap_alloc_new (w.alloc (.cells #[.int .u8 (kind : Int), .int .i64 c, .int .i64 e, .int .i64 s, .int .i64 org, .bool yes, .int .u8 (orgs : Int)] 35 (0, 0))) (.cells zac.toArray 35 (0, 0))
  rw [World.size_alloc] at p1
  have B1 := Lib.hid b1
  have P0 := Lib.hid p0
  have P1 := Lib.hid p1
  clear b0 b1 p0 p1
  generalize hb : bareA ⟨kind, ⟨c, e, s⟩, org, yes, orgs⟩ = rb
  have HB := Lib.hid hb
  clear hb
  go_enter Try.func42, Try.ntmps42
  go_upto_region 1 with (fail)
  change Code.wp _ _ _ _ ((w.alloc (.cells #[.int .u8 (kind : Int), .int .i64 c, .int .i64 e, .int .i64 s, .int .i64 org, .bool yes, .int .u8 (orgs : Int)] 35 (0, 0))).alloc (.cells zac.toArray 35 (0, 0)))
  generalize (w.alloc (.cells #[.int .u8 (kind : Int), .int .i64 c, .int .i64 e, .int .i64 s, .int .i64 org, .bool yes, .int .u8 (orgs : Int)] 35 (0, 0))).alloc (.cells zac.toArray 35 (0, 0)) = w1 at B1 P0 P1 ⊢
  have q0 := cell_of_row _ _ 0 _ _ (0, 0) P0.out
  have q1 := cell_of_row _ _ 1 _ _ (0, 0) P0.out
  have q2 := cell_of_row _ _ 2 _ _ (0, 0) P0.out
  have q3 := cell_of_row _ _ 3 _ _ (0, 0) P0.out
  have q4 := cell_of_row _ _ 4 _ _ (0, 0) P0.out
  have q5 := cell_of_row _ _ 5 _ _ (0, 0) P0.out
  have q6 := cell_of_row _ _ 6 _ _ (0, 0) P0.out
  simp only [List.getElem?_toArray, List.getElem?_cons_zero, List.getElem?_cons_succ] at q0 q1 q2 q3 q4 q5 q6
  by_cases e1 : kind = 1
  · subst e1
    have hb : Hid (bareA ⟨1, ⟨c, e, s⟩, org, yes, orgs⟩ = ⟨1, ⟨c, e, s⟩, 0, false, orgs⟩) := rfl
    go_wp2_with (refine wpList_store_put rfl 35 _ _ rfl (w.heap.size + 1) (Ac.cells ⟨1, ⟨c, e, s⟩, 0, false, orgs⟩).toArray (by rfl) (by rfl) 35 _ P1.out (size_ac _) (by rfl) (one_ac _) ?_; intro W4 P4)
    refine bodyPost_ret (results_cell_row rfl _ _ (w.heap.size + 1) 35 _ (0, 0) _ rfl P4.here Try.underlying35 rfl (size_ac _)) rfl ⟨by rw [← HB.out, hb.out]; rfl, P4.below B1.out (by omega)⟩
  by_cases e2 : kind = 2
  · subst e2
    have hb : Hid (bareA ⟨2, ⟨c, e, s⟩, org, yes, orgs⟩ = ⟨2, ⟨c, e, s⟩, org, yes, 0⟩) := rfl
    go_wp2_with (refine wpList_store_put rfl 35 _ _ rfl (w.heap.size + 1) (Ac.cells ⟨2, ⟨c, e, s⟩, org, yes, 0⟩).toArray (by rfl) (by rfl) 35 _ P1.out (size_ac _) (by rfl) (one_ac _) ?_; intro W4 P4)
    refine bodyPost_ret (results_cell_row rfl _ _ (w.heap.size + 1) 35 _ (0, 0) _ rfl P4.here Try.underlying35 rfl (size_ac _)) rfl ⟨by rw [← HB.out, hb.out]; rfl, P4.below B1.out (by omega)⟩
  by_cases e3 : kind = 3
  · subst e3
    have hb : Hid (bareA ⟨3, ⟨c, e, s⟩, org, yes, orgs⟩ = ⟨3, ⟨c, e, s⟩, 0, yes, 0⟩) := rfl
    go_wp2_with (refine wpList_store_put rfl 35 _ _ rfl (w.heap.size + 1) (Ac.cells ⟨3, ⟨c, e, s⟩, 0, yes, 0⟩).toArray (by rfl) (by rfl) 35 _ P1.out (size_ac _) (by rfl) (one_ac _) ?_; intro W4 P4)
    refine bodyPost_ret (results_cell_row rfl _ _ (w.heap.size + 1) 35 _ (0, 0) _ rfl P4.here Try.underlying35 rfl (size_ac _)) rfl ⟨by rw [← HB.out, hb.out]; rfl, P4.below B1.out (by omega)⟩
  by_cases e4 : kind = 4
  · subst e4
    have hb : Hid (bareA ⟨4, ⟨c, e, s⟩, org, yes, orgs⟩ = ⟨4, ⟨c, e, s⟩, org, yes, 0⟩) := rfl
    go_wp2_with (refine wpList_store_put rfl 35 _ _ rfl (w.heap.size + 1) (Ac.cells ⟨4, ⟨c, e, s⟩, org, yes, 0⟩).toArray (by rfl) (by rfl) 35 _ P1.out (size_ac _) (by rfl) (one_ac _) ?_; intro W4 P4)
    refine bodyPost_ret (results_cell_row rfl _ _ (w.heap.size + 1) 35 _ (0, 0) _ rfl P4.here Try.underlying35 rfl (size_ac _)) rfl ⟨by rw [← HB.out, hb.out]; rfl, P4.below B1.out (by omega)⟩
  have hb : Hid (bareA ⟨kind, ⟨c, e, s⟩, org, yes, orgs⟩ = ⟨0, ⟨0, 0, 0⟩, 0, false, 0⟩) := by
    show bareA _ = _
    simp [bareA, e1, e2, e3, e4]
  have f1 : ((kind : Int) == 1) = false := by simp; omega
  have f2 : ((kind : Int) == 2) = false := by simp; omega
  have f3 : ((kind : Int) == 3) = false := by simp; omega
  have f4 : ((kind : Int) == 4) = false := by simp; omega
  clear e1 e2 e3 e4
  go_wp2_with (refine wpList_store_put rfl 35 _ _ rfl (w.heap.size + 1) (Ac.cells ⟨0, ⟨0, 0, 0⟩, 0, false, 0⟩).toArray (by rfl) (by rfl) 35 _ P1.out (size_ac _) (by rfl) (one_ac _) ?_; intro W4 P4)
  refine bodyPost_ret (results_cell_row rfl _ _ (w.heap.size + 1) 35 _ (0, 0) _ rfl P4.here Try.underlying35 rfl (size_ac _)) rfl ⟨by rw [← HB.out, hb.out]; rfl, P4.below B1.out (by omega)⟩
theorem neq_ac (t u : Ac) (w : World) : (binOp .neq 35 (.agg t.cells.toArray) (.agg u.cells.toArray)).run Try.prog w = .ok (.bool (!decide (t = u))) w := by
  show (do pure (Value.bool (!(← Op.equal 35 (.agg t.cells.toArray) (.agg u.cells.toArray)))) : Sem Value).run Try.prog w = _
  rw [Sem.run_bind, eq_ac]
  rfl
theorem neq_tx (t u : Tx) (w : World) : (binOp .neq 33 (.agg t.cells.toArray) (.agg u.cells.toArray)).run Try.prog w = .ok (.bool (!decide (t = u))) w := by
  show (do pure (Value.bool (!(← Op.equal 33 (.agg t.cells.toArray) (.agg u.cells.toArray)))) : Sem Value).run Try.prog w = _
  rw [Sem.run_bind, eq_tx]
  rfl
theorem neq_rw (t u : Rw) (w : World) : (binOp .neq 43 (.agg t.cells.toArray) (.agg u.cells.toArray)).run Try.prog w = .ok (.bool (!decide (t = u))) w := by
  show (do pure (Value.bool (!(← Op.equal 43 (.agg t.cells.toArray) (.agg u.cells.toArray)))) : Sem Value).run Try.prog w = _
  rw [Sem.run_bind, eq_rw]
  rfl
end Go.Proofs.Ythdmjeoldnehcaa
