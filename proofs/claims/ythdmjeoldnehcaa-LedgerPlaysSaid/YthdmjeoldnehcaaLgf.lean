/- The ledger's maps and struct comparisons: what '==' of transactions, rows, actions answers; a map by transactions; the map of kinds. Condition: none. -/
import Derived.Test.YthdmjeoldnehcaaLge
import Derived.MapKept
import Derived.ChangeMaps4
namespace Go.Proofs.Ythdmjeoldnehcaa
open Go.RowKit
set_option linter.unusedVariables false
set_option linter.unusedSimpArgs false

theorem eqIn_tx (n : Nat) (t u : Tx) (w : World) : (Op.equalIn (n + 2) 33 (.agg t.cells.toArray) (.agg u.cells.toArray)).run Try.prog w = .ok (decide (t = u)) w := by
  obtain ⟨a, b, c⟩ := t
  obtain ⟨d, e, f⟩ := u
  simp only [Tx.cells]
  unfold Op.equalIn
  simp [run_underlying Try.underlying33]
  go_simp
  by_cases h1 : a = d <;> by_cases h2 : b = e <;> by_cases h3 : c = f <;> simp [h1, h2, h3]
set_option maxHeartbeats 1000000 in
theorem eqIn_rw (n : Nat) (t u : Rw) (w : World) : (Op.equalIn (n + 3) 43 (.agg t.cells.toArray) (.agg u.cells.toArray)).run Try.prog w = .ok (decide (t = u)) w := by
  obtain ⟨⟨a, b, c⟩, x1, x2, x3, x4, x5, x6, x7⟩ := t
  obtain ⟨⟨d, e, f⟩, y1, y2, y3, y4, y5, y6, y7⟩ := u
  simp only [Rw.cells]
  unfold Op.equalIn
  simp [run_underlying Try.underlying43]
  go_simp
  simp only [Int.natCast_inj]
  by_cases h0 : a = d
  rotate_left
  · simp [h0]
  simp only [h0, if_true, decide_true, Bool.true_and]
  by_cases h1 : b = e
  rotate_left
  · simp [h1]
  simp only [h1, if_true, decide_true, Bool.true_and]
  by_cases h2 : c = f
  rotate_left
  · simp [h2]
  simp only [h2, if_true, decide_true, Bool.true_and]
  by_cases h3 : x1 = y1
  rotate_left
  · simp [h3]
  simp only [h3, if_true, decide_true, Bool.true_and]
  by_cases h4 : x2 = y2
  rotate_left
  · simp [h4]
  simp only [h4, if_true, decide_true, Bool.true_and]
  by_cases h5 : x3 = y3
  rotate_left
  · simp [h5]
  simp only [h5, if_true, decide_true, Bool.true_and]
  by_cases h6 : x4 = y4
  rotate_left
  · simp [h6]
  simp only [h6, if_true, decide_true, Bool.true_and]
  by_cases h7 : x5 = y5
  rotate_left
  · simp [h7]
  simp only [h7, if_true, decide_true, Bool.true_and]
  by_cases h8 : x6 = y6
  rotate_left
  · simp [h8]
  simp only [h8, if_true, decide_true, Bool.true_and]
  by_cases h9 : x7 = y7
  rotate_left
  · simp [h9]
  simp only [h9, if_true, decide_true, Bool.true_and]

set_option maxHeartbeats 1000000 in
theorem eqIn_ac (n : Nat) (t u : Ac) (w : World) : (Op.equalIn (n + 3) 35 (.agg t.cells.toArray) (.agg u.cells.toArray)).run Try.prog w = .ok (decide (t = u)) w := by
  obtain ⟨x1, ⟨a, b, c⟩, x2, x3, x4⟩ := t
  obtain ⟨y1, ⟨d, e, f⟩, y2, y3, y4⟩ := u
  simp only [Ac.cells]
  unfold Op.equalIn
  simp [run_underlying Try.underlying35]
  go_simp
  simp only [Int.natCast_inj]
  by_cases h0 : x1 = y1
  rotate_left
  · simp [h0]
  simp only [h0, if_true, decide_true, Bool.true_and]
  by_cases h1 : a = d
  rotate_left
  · simp [h1]
  simp only [h1, if_true, decide_true, Bool.true_and]
  by_cases h2 : b = e
  rotate_left
  · simp [h2]
  simp only [h2, if_true, decide_true, Bool.true_and]
  by_cases h3 : c = f
  rotate_left
  · simp [h3]
  simp only [h3, if_true, decide_true, Bool.true_and]
  by_cases h4 : x2 = y2
  rotate_left
  · simp [h4]
  simp only [h4, if_true, decide_true, Bool.true_and]
  by_cases h5 : x3 = y3
  rotate_left
  · simp [h5]
  simp only [h5, if_true, decide_true, Bool.true_and]
  by_cases h6 : x4 = y4
  rotate_left
  · simp [h6]
  simp only [h6, if_true, decide_true, Bool.true_and]
theorem eq_tx (t u : Tx) (w : World) : (Op.equal 33 (.agg t.cells.toArray) (.agg u.cells.toArray)).run Try.prog w = .ok (decide (t = u)) w := eqIn_tx 9998 t u w
theorem eq_rw (t u : Rw) (w : World) : (Op.equal 43 (.agg t.cells.toArray) (.agg u.cells.toArray)).run Try.prog w = .ok (decide (t = u)) w := eqIn_rw 9997 t u w
theorem eq_ac (t u : Ac) (w : World) : (Op.equal 35 (.agg t.cells.toArray) (.agg u.cells.toArray)).run Try.prog w = .ok (decide (t = u)) w := eqIn_ac 9997 t u w
theorem gdt_tx : Try.prog.eqGuardType Try.prog.depth 33 = false := by kernel_rfl
theorem gdt_rw : Try.prog.eqGuardType Try.prog.depth 43 = false := by kernel_rfl
theorem gdt_ac : Try.prog.eqGuardType Try.prog.depth 35 = false := by kernel_rfl
theorem guard_agg {t : TypeId} (h : Try.prog.eqGuardType Try.prog.depth t = false) (op : BinOp) (x y : Operand) (a b : Array Value) (w : World) : (eqGuard op t x y (.agg a) (.agg b)).run Try.prog w = .ok () w := by
  unfold eqGuard
  cases op <;> simp [h]

end Go.Proofs.Ythdmjeoldnehcaa
