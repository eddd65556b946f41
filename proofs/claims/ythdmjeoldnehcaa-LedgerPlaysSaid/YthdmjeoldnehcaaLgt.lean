/- The walk of the ledger's Row. Condition: the ledger lies at the pointer. -/
import Derived.Test.YthdmjeoldnehcaaLgs
namespace Go.Proofs.Ythdmjeoldnehcaa
open Go.RowKit
set_option linter.unusedVariables false
set_option linter.unusedSimpArgs false

theorem results_row {tmps : Array Value} {W : World} {b : Nat} {cs : Array Value} {x : Value} (p : tmps.getD 4 undef = .pointer (some ⟨b, 0, none⟩)) (h5 : tmps.getD 5 undef = x) (hb : W.heap[b]? = some (.cells cs 43 (0, 0))) (hs : cs.size = 10) :
    (results Try.f18 tmps).run Try.prog W = .ok (.tuple #[.agg cs, x]) W := by
  have h : (Try.f18).results = #[.cell 4 43, .tmp 5] := rfl
  have q1 : tmps[4]?.getD undef = .pointer (some ⟨b, 0, none⟩) := by simpa using p
  have q5 : tmps[5]?.getD undef = x := by simpa using h5
  have hl := run_loadVar_row (P := Try.prog) W b 43 43 cs (0, 0) _ hb Try.underlying43 rfl (by rw [hs]; exact size_rw (row0 ⟨0, 0, 0⟩))
  simp [results, h, q1, q5, asAddr, hl, Result.andThen]

/-- What Row answers. -/
def rowV (rows : List Rw) (t : Tx) : Value := .tuple #[.agg (match idx rows t with | some k => (rows.getD k (row0 t)).cells | none => zrow).toArray, .bool (idx rows t).isSome]
theorem rowV_some {rows : List Rw} {t : Tx} {k : Nat} (h : idx rows t = some k) : rowV rows t = .tuple #[.agg ((rows[k]'(idx_lt h)).cells).toArray, .bool true] := by
  unfold rowV
  rw [h]
  simp [idx_lt h]
theorem rowV_none {rows : List Rw} {t : Tx} (h : idx rows t = none) : rowV rows t = .tuple #[.agg zrow.toArray, .bool false] := by
  unfold rowV
  rw [h]
  rfl
set_option maxHeartbeats 2000000 in
theorem Row_any {B g mb bad : Nat} {sl : Value} {rows : List Rw} {w : World} (h : Lg w B g mb sl bad rows) (t : Tx) (hlen : rows.length ≤ 100000) :
    Calls Try.prog 18 #[.pointer (some ⟨g, 0, none⟩), .agg t.cells.toArray] w fun e w' => e = .returned (rowV rows t) ∧ Below w.heap.size w w' := by
  obtain ⟨c, e, s⟩ := t
  simp only [Tx.cells]
  have h1 : ∃ w1, (w.alloc (.cells #[.int .i64 c, .int .i64 e, .int .i64 s] 33 (0, 0))).alloc (.cells zrow.toArray 43 (0, 0)) = w1 := ⟨_, rfl⟩
  obtain ⟨w1, hw1⟩ := h1
  have b0 := (Below.refl w.heap.size w).alloc (Nat.le_refl _) (.cells #[.int .i64 c, .int .i64 e, .int .i64 s] 33 (0, 0))
  have b1 := b0.alloc b0.size (.cells zrow.toArray 43 (0, 0))
  have p0 := (Below.heap_alloc (w.alloc (.cells #[.int .i64 c, .int .i64 e, .int .i64 s] 33 (0, 0))) (.cells zrow.toArray 43 (0, 0)) w.heap.size (by simp)).trans (heap_alloc_new w (.cells #[.int .i64 c, .int .i64 e, .int .i64 s] 33 (0, 0)))
  have p1 := heap_alloc_new (w.alloc (.cells #[.int .i64 c, .int .i64 e, .int .i64 s] 33 (0, 0))) (.cells zrow.toArray 43 (0, 0))
  rw [World.size_alloc] at p1
  rw [hw1] at b1 p0 p1
  have H1 := h.bel b1
  have hsz : w1.heap.size = w.heap.size + 2 := by rw [← hw1]; simp
  have t0 := cell_of_row _ _ 0 _ _ (0, 0) H1.top
  have t1 := cell_of_row _ _ 1 _ _ (0, 0) H1.top
  have t2 := cell_of_row _ _ 2 _ _ (0, 0) H1.top
  have q0 := cell_of_row _ _ 0 _ _ (0, 0) p0
  have q1 := cell_of_row _ _ 1 _ _ (0, 0) p0
  have q2 := cell_of_row _ _ 2 _ _ (0, 0) p0
  simp only [List.getElem?_toArray, List.getElem?_cons_zero, List.getElem?_cons_succ] at t0 t1 t2 q0 q1 q2
  have HH := Lib.hid H1
  have BB := Lib.hid b1
  have P1 := Lib.hid p1
  clear h b0 H1 b1 p0 p1
  have L := fun (W : World) (hW : W.heap[mb]? = some (.map (ents rows) rows.length)) => look_tx hW ⟨c, e, s⟩
  simp only [Tx.cells] at L
  cases hix : idx rows ⟨c, e, s⟩ with
  | none =>
    rw [rowV_none hix]
    rw [hix] at L
    simp only [Option.getD_none, Option.isSome_none] at L
    have HL := Lib.hid (L w1.drew HH.out.map)
    clear L hix
    go_enter Try.func18, Try.ntmps18
    go_upto_region 3 with (fail)
    change Code.wp _ _ _ _ ((w.alloc (.cells #[.int .i64 c, .int .i64 e, .int .i64 s] 33 (0, 0))).alloc (.cells zrow.toArray 43 (0, 0)))
    rw [hw1]
    clear hw1
    go_region_held3 (fun W => W.cell? ⟨g, 0, none⟩ = some (.int .u8 (bad : Int)) ∧ W.cell? ⟨g, 1, none⟩ = some sl ∧ W.cell? ⟨g, 2, none⟩ = some (.map (some mb)) ∧ W.cell? ⟨w.heap.size, 0, none⟩ = some (.int .i64 c) ∧ W.cell? ⟨w.heap.size, 1, none⟩ = some (.int .i64 e) ∧ W.cell? ⟨w.heap.size, 2, none⟩ = some (.int .i64 s) ∧
        (Instr.lookup 51 (.map (some mb)) (.agg #[.int .i64 c, .int .i64 e, .int .i64 s]) true).run Try.prog W = .ok (.tuple #[.int .i64 ((0 : Nat) : Int), .bool false]) W)
      (first | assumption | exact ⟨t0, t1, t2, q0, q1, q2, HL.out⟩)
      (fail)
    rename_i hS
    clear hS
    have P2 : Hid (w1.drew.heap[w.heap.size + 1]? = some (.cells zrow.toArray 43 (0, 0))) := P1.out
    have B2 := Lib.hid BB.out.drew
    have c0 : w1.drew.cell? ⟨w.heap.size, 0, none⟩ = some (.int .i64 c) := q0
    have c1 : w1.drew.cell? ⟨w.heap.size, 1, none⟩ = some (.int .i64 e) := q1
    have c2 : w1.drew.cell? ⟨w.heap.size, 2, none⟩ = some (.int .i64 s) := q2
    clear t0 t1 t2 q0 q1 q2 HL P1 BB
    generalize w1.drew = w2 at P2 B2 c0 c1 c2 ⊢
    go_wp2_with (refine wpList_store_put rfl 43 _ _ rfl (w.heap.size + 1) zrow.toArray (by rfl) (by rfl) 43 _ P2.out (size_rw (row0 ⟨0, 0, 0⟩)) (by rfl) (one_rw (row0 ⟨0, 0, 0⟩)) ?_; intro W4 P4)
    refine bodyPost_ret (results_row (by rfl) (by rfl) P4.here rfl) rfl ⟨rfl, P4.below B2.out (by omega)⟩
  | some k =>
    have hk := idx_lt hix
    rw [rowV_some hix]
    rw [hix] at L
    simp only [Option.getD_some, Option.isSome_some] at L
    have HL := Lib.hid (L w1.drew HH.out.map)
    clear L
    obtain ⟨rb, cap, rfl, -, -, -, hr⟩ := own_row HH.out.own hk
    have HR := Lib.hid (hr k hk)
    clear hr
    generalize rows[k] = r at HR ⊢
    clear hix
    have kb : 0 ≤ (k : Int) ∧ (k : Int) < (rows.length : Int) := by omega
    go_enter Try.func18, Try.ntmps18
    go_upto_region 3 with (fail)
    change Code.wp _ _ _ _ ((w.alloc (.cells #[.int .i64 c, .int .i64 e, .int .i64 s] 33 (0, 0))).alloc (.cells zrow.toArray 43 (0, 0)))
    rw [hw1]
    clear hw1
    go_region_held3 (fun W => W.cell? ⟨g, 0, none⟩ = some (.int .u8 (bad : Int)) ∧ W.cell? ⟨g, 1, none⟩ = some (.slice (some ⟨rb, 0, none⟩) rows.length cap) ∧ W.cell? ⟨g, 2, none⟩ = some (.map (some mb)) ∧ W.cell? ⟨w.heap.size, 0, none⟩ = some (.int .i64 c) ∧ W.cell? ⟨w.heap.size, 1, none⟩ = some (.int .i64 e) ∧ W.cell? ⟨w.heap.size, 2, none⟩ = some (.int .i64 s) ∧
        (Instr.lookup 51 (.map (some mb)) (.agg #[.int .i64 c, .int .i64 e, .int .i64 s]) true).run Try.prog W = .ok (.tuple #[.int .i64 (k : Int), .bool true]) W)
      (first | assumption | exact ⟨t0, t1, t2, q0, q1, q2, HL.out⟩)
      (fail)
    rename_i hS
    clear hS
    have P2 : Hid (w1.drew.heap[w.heap.size + 1]? = some (.cells zrow.toArray 43 (0, 0))) := P1.out
    have B2 := Lib.hid BB.out.drew
    have R2 : Hid (w1.drew.rangeAt rb (k * 10) r.cells) := HR.out
    have c0 : w1.drew.cell? ⟨g, 1, none⟩ = some (.slice (some ⟨rb, 0, none⟩) rows.length cap) := t1
    clear t0 t1 t2 q0 q1 q2 HL P1 BB HR HH
    generalize w1.drew = w2 at P2 B2 c0 R2 ⊢
    go_wp2_with (first
      | (refine wpList_load_mid rfl 43 _ rfl rb (k * 10) (by rfl) r.cells _ R2.out Try.underlying43 rfl (size_rw r) ?_)
      | (refine wpList_store_put rfl 43 _ _ rfl (w.heap.size + 1) r.cells.toArray (by rfl) (by rfl) 43 _ P2.out (size_rw _) (by rfl) (one_rw _) ?_; intro W4 P4))
    refine bodyPost_ret (results_row (by rfl) (by rfl) P4.here rfl) rfl ⟨rfl, P4.below B2.out (by omega)⟩
set_option maxHeartbeats 2000000 in
theorem Row_nil (t : Tx) (w : World) : Calls Try.prog 18 #[.pointer none, .agg t.cells.toArray] w fun e w' => e = .returned (.tuple #[.agg zrow.toArray, .bool false]) ∧ Below w.heap.size w w' := by
  obtain ⟨c, e, s⟩ := t
  simp only [Tx.cells]
  have b0 := (Below.refl w.heap.size w).alloc (Nat.le_refl _) (.cells #[.int .i64 c, .int .i64 e, .int .i64 s] 33 (0, 0))
  have B2 := Lib.hid (b0.alloc b0.size (.cells zrow.toArray 43 (0, 0)))
  have p1 := heap_alloc_new (w.alloc (.cells #[.int .i64 c, .int .i64 e, .int .i64 s] 33 (0, 0))) (.cells zrow.toArray 43 (0, 0))
  rw [World.size_alloc] at p1
  have P2 := Lib.hid p1
  clear b0 p1
  go_enter Try.func18, Try.ntmps18
  go_upto_region 1 with (fail)
  change Code.wp _ _ _ _ ((w.alloc (.cells #[.int .i64 c, .int .i64 e, .int .i64 s] 33 (0, 0))).alloc (.cells zrow.toArray 43 (0, 0)))
  generalize (w.alloc (.cells #[.int .i64 c, .int .i64 e, .int .i64 s] 33 (0, 0))).alloc (.cells zrow.toArray 43 (0, 0)) = w2 at P2 B2 ⊢
  go_wp2_with (refine wpList_store_put rfl 43 _ _ rfl (w.heap.size + 1) zrow.toArray (by rfl) (by rfl) 43 _ P2.out (size_rw (row0 ⟨0, 0, 0⟩)) (by rfl) (one_rw (row0 ⟨0, 0, 0⟩)) ?_; intro W4 P4)
  refine bodyPost_ret (results_row (by rfl) (by rfl) P4.here rfl) rfl ⟨rfl, P4.below B2.out (by omega)⟩
end Go.Proofs.Ythdmjeoldnehcaa
