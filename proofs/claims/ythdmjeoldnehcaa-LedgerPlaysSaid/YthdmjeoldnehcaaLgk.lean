/- A map by transactions: what lies at a transaction; one more put in. Condition: its entries are the rows' transactions, in order. -/
import Derived.Test.YthdmjeoldnehcaaLgf
namespace Go.Proofs.Ythdmjeoldnehcaa
open Go.RowKit
set_option linter.unusedVariables false
set_option linter.unusedSimpArgs false

def entsFrom : Nat → List Rw → List MapEntry
  | _, [] => []
  | off, r :: l => ⟨.agg r.tx.cells.toArray, .int .i64 (off : Int), off⟩ :: entsFrom (off + 1) l
def ents (rows : List Rw) : Array MapEntry := (entsFrom 0 rows).toArray
theorem entsFrom_len : ∀ (l : List Rw) (off : Nat), (entsFrom off l).length = l.length
  | [], _ => rfl
  | r :: l, off => by simp [entsFrom, entsFrom_len l]
theorem entsFrom_snoc (r : Rw) : ∀ (l : List Rw) (off : Nat), entsFrom off (l ++ [r]) = entsFrom off l ++ [⟨.agg r.tx.cells.toArray, .int .i64 ((off + l.length : Nat) : Int), off + l.length⟩]
  | [], off => by simp [entsFrom]
  | q :: l, off => by
    simp only [List.cons_append, entsFrom, entsFrom_snoc r l, List.length_cons]
    rw [show off + 1 + l.length = off + (l.length + 1) by omega]
theorem ents_snoc (l : List Rw) (r : Rw) : ents (l ++ [r]) = (ents l).push ⟨.agg r.tx.cells.toArray, .int .i64 (l.length : Int), l.length⟩ := by
  unfold ents
  rw [entsFrom_snoc]
  simp
theorem entsFrom_set (r : Rw) : ∀ (l : List Rw) (k off : Nat) (h : k < l.length), (l[k]).tx = r.tx → entsFrom off (l.set k r) = entsFrom off l
  | [], k, _, h, _ => by simp at h
  | q :: l, 0, off, _, e => by
    simp only [List.set_cons_zero, entsFrom]
    simp only [List.getElem_cons_zero] at e
    rw [e]
  | q :: l, k + 1, off, h, e => by
    simp only [List.set_cons_succ, entsFrom]
    rw [entsFrom_set r l k (off + 1) (by simpa using h) (by simpa using e)]
theorem ents_set (l : List Rw) (k : Nat) (r : Rw) (h : k < l.length) (e : (l[k]).tx = r.tx) : ents (l.set k r) = ents l := by
  unfold ents
  rw [entsFrom_set r l k 0 h e]
theorem idx_nil (t : Tx) : idx [] t = none := rfl
theorem idx_cons (r : Rw) (l : List Rw) (t : Tx) : idx (r :: l) t = if r.tx = t then some 0 else (idx l t).map (· + 1) := by
  unfold idx
  rw [List.findIdx?_cons]
  by_cases h : r.tx = t <;> simp [h]

theorem ask_tx (t : Tx) (w : World) : ∀ (l : List Rw) (off i : Nat), (Instr.findAsking 33 (.agg t.cells.toArray) (entsFrom off l) i).run Try.prog w = .ok ((idx l t).map fun k => (i + k, .int .i64 ((off + k : Nat) : Int))) w
  | [], off, i => by simp [entsFrom, Instr.findAsking, idx_nil]
  | r :: l, off, i => by
    have ih := ask_tx t w l (off + 1) (i + 1)
    rw [entsFrom, Instr.findAsking, idx_cons]
    by_cases h : r.tx = t
    · have e := eq_tx t r.tx w
      rw [h] at e
      simp [h, e]
    · have e := eq_tx t r.tx w
      rw [decide_eq_false (fun q => h q.symm)] at e
      simp only [Sem.run_bind, e, Result.andThen_ok, if_neg h]
      rw [show (if false = true then (pure (some (i, _)) : Sem (Option (Nat × Value))) else Instr.findAsking 33 (.agg t.cells.toArray) (entsFrom (off + 1) l) (i + 1)) = Instr.findAsking 33 (.agg t.cells.toArray) (entsFrom (off + 1) l) (i + 1) from rfl, ih]
      cases idx l t with
      | none => rfl
      | some k =>
        simp only [Option.map_some]
        rw [show i + 1 + k = i + (k + 1) by omega, show off + 1 + k = off + (k + 1) by omega]
theorem findKey_tx (t : Tx) (l : List Rw) (w : World) : (Instr.findKey 33 (.agg t.cells.toArray) (entsFrom 0 l)).run Try.prog w = .ok ((idx l t).map fun k => (k, .int .i64 (k : Int))) w := by
  have h := ask_tx t w l 0 0
  simp only [Nat.zero_add] at h
  unfold Instr.findKey
  rw [Sem.run_bind, run_underlying Try.underlying33, Result.andThen_ok]
  cases l with
  | nil => rfl
  | cons r l => exact h
theorem check_int (b : Bool) (x : Int) (w : World) : (Instr.checkKey b 9999 3 (.int .i64 x)).run Try.prog w = .ok () w := by
  show (Instr.checkKey b (9998 + 1) 3 (.int .i64 x)).run Try.prog w = _
  unfold Instr.checkKey
  simp [run_underlying Try.underlying3]
theorem check_tx (b : Bool) (t : Tx) (w : World) : (Instr.checkKey b 10000 33 (.agg t.cells.toArray)).run Try.prog w = .ok () w := by
  obtain ⟨x, y, z⟩ := t
  simp only [Tx.cells]
  unfold Instr.checkKey
  simp [run_underlying Try.underlying33]
  go_simp
  simp only [check_int, Result.andThen_ok]
theorem zero_int (W : World) : (zeroValue 3).run Try.prog W = .ok (.int .i64 0) W := by go_simp
theorem look_tx {W : World} {mb n : Nat} {rows : List Rw} (h : W.heap[mb]? = some (.map (ents rows) n)) (t : Tx) :
    (Instr.lookup 51 (.map (some mb)) (.agg t.cells.toArray) true).run Try.prog W = .ok (.tuple #[.int .i64 (((idx rows t).getD 0 : Nat) : Int), .bool (idx rows t).isSome]) W := by
  unfold Instr.lookup
  simp only [Sem.run_bind, run_underlying Try.underlying51, Result.andThen_ok, MapKept.run_getObj_map h, Sem.run_pure, check_tx, ents, findKey_tx, List.toList_toArray]
  cases idx rows t with
  | none => simp [zero_int]
  | some k => simp
theorem upd_tx {W : World} {mb : Nat} {rows : List Rw} (h : W.heap[mb]? = some (.map (ents rows) rows.length)) (t : Tx) (hn : idx rows t = none) :
    (Instr.mapUpdate 51 (.map (some mb)) (.agg t.cells.toArray) (.int .i64 (rows.length : Int))).run Try.prog W = .ok () (W.putObj mb (.map (ents (rows ++ [row0 t])) (rows.length + 1))) := by
  unfold Instr.mapUpdate
  rw [ents_snoc]
  simp only [Sem.run_bind, run_underlying Try.underlying51, Result.andThen_ok, MapKept.run_getObj_map h, check_tx, findKey_tx, ents, List.toList_toArray, hn, Option.map_none, MapKept.run_setObj_map _ h]
  rfl
end Go.Proofs.Ythdmjeoldnehcaa
