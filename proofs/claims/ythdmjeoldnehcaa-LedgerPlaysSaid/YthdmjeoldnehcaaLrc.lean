/- The walk of the law's alive. Condition: none. -/
import Derived.Test.YthdmjeoldnehcaaLrb
namespace Go.Proofs.Ythdmjeoldnehcaa
open Go.RowKit
set_option linter.unusedVariables false
set_option linter.unusedSimpArgs false

def exT : Tx := ⟨0, 1, 1⟩
def exs : List Ac := [⟨1, exT, 0, false, 6⟩, ⟨2, exT, 1, true, 0⟩, ⟨2, exT, 2, true, 0⟩, ⟨3, exT, 0, true, 0⟩, ⟨4, exT, 1, true, 0⟩]
def exR : Rw := ⟨exT, true, 6, 6, 6, true, true, 2⟩
theorem ex_ok : ∀ j (h : j < exs.length), errOf 0 (stp 0 exs j) exs[j] = 0 := by decide +kernel
theorem ex_rows : stp 0 exs 5 = [exR] := by decide +kernel
theorem ex_d : errOf 0 [exR] ⟨3, exT, 0, false, 0⟩ = 290 := by decide +kernel
theorem ex_v : errOf 0 [exR] ⟨2, exT, 3, false, 0⟩ = 290 := by decide +kernel
theorem ex_a : errOf 0 [exR] ⟨2, exT, 0, false, 0⟩ = 2 := by decide +kernel
theorem ex_row : rowV [exR] exT = .tuple #[.agg exR.cells.toArray, .bool true] := rowV_some (k := 0) (by decide +kernel)
def exC : Array Value := #[.int .u8 1, .int .i64 0, .int .i64 1, .int .i64 1, .int .i64 0, .bool false, .int .u8 6,
  .int .u8 2, .int .i64 0, .int .i64 1, .int .i64 1, .int .i64 1, .bool true, .int .u8 0,
  .int .u8 2, .int .i64 0, .int .i64 1, .int .i64 1, .int .i64 2, .bool true, .int .u8 0,
  .int .u8 3, .int .i64 0, .int .i64 1, .int .i64 1, .int .i64 0, .bool true, .int .u8 0,
  .int .u8 4, .int .i64 0, .int .i64 1, .int .i64 1, .int .i64 1, .bool true, .int .u8 0]
theorem ex_acts {W : World} {b B : Nat} (h : W.heap[b]? = some (.cells exC 35 (0, 0))) (hb : b < B) : Acts W B (some ⟨b, 0, none⟩) exs := by
  intro i hi
  refine ⟨b, 0, rfl, hb, fun j v hv => ?_⟩
  rw [cell_of_row _ _ _ _ _ (0, 0) h]
  have hi5 : i < 5 := hi
  have hj : j < 7 := (List.getElem?_eq_some_iff.1 hv).1
  obtain rfl | rfl | rfl | rfl | rfl : i = 0 ∨ i = 1 ∨ i = 2 ∨ i = 3 ∨ i = 4 := by omega
  all_goals
    obtain rfl | rfl | rfl | rfl | rfl | rfl | rfl : j = 0 ∨ j = 1 ∨ j = 2 ∨ j = 3 ∨ j = 4 ∨ j = 5 ∨ j = 6 := by omega
    all_goals exact hv
def exV : Value := .agg #[.int .i64 0, .int .i64 1, .int .i64 1, .bool true, .int .u8 6, .int .u8 6, .int .u8 6, .bool true, .bool true, .int .u8 2]
theorem ex_run (W : World) (b : Nat) (h : W.heap[b]? = some (.cells exC 35 (0, 0))) :
    Calls Try.prog 8 #[.int .u8 0, .slice (some ⟨b, 0, none⟩) 5 5] W fun e w' => ∃ g mb, e = .returned (.tuple #[.pointer (some ⟨g, 0, none⟩), .int .i64 5, .int .i64 0]) ∧ Rm W g mb 0 [exR] w' :=
  (Run_any (some ⟨b, 0, none⟩) 5 0 exs W (ex_acts h (lt_of_heap h)) (by decide) (by decide) (by decide)).mono fun e w' hh => by
    rcases hh with ⟨g, mb, h1, _, h3⟩ | ⟨k, hk, _, h2, _⟩
    · have h3' : Rm W g mb 0 (stp 0 exs 5) w' := h3
      rw [ex_rows] at h3'
      exact ⟨g, mb, h1, h3'⟩
    · exact absurd (ex_ok k hk) h2
theorem ex_rowc {w W : World} {g mb : Nat} (h : Rm w g mb 0 [exR] W) : Calls Try.prog 18 #[.pointer (some ⟨g, 0, none⟩), .agg #[.int .i64 0, .int .i64 1, .int .i64 1]] W fun e w' => e = .returned (.tuple #[exV, .bool true]) ∧ Rm w g mb 0 [exR] w' := by
  obtain ⟨⟨sl, hl⟩, hb⟩ := h
  refine (Row_any hl exT (by decide)).mono fun e w' ⟨h1, h2⟩ => ⟨?_, ⟨sl, hl.bel h2⟩, below_acc hb h2⟩
  rw [h1, ex_row]
  rfl
theorem ex_apply {w W : World} {g mb : Nat} (h : Rm w g mb 0 [exR] W) (a : Ac) (n : Nat) (ho : a.orgs < 256) (he : errOf 0 [exR] a = n) (hn : n ≠ 0) : Calls Try.prog 14 #[.pointer (some ⟨g, 0, none⟩), .agg a.cells.toArray] W fun e w' => e = .returned (.int .i64 (n : Int)) ∧ Rm w g mb 0 [exR] w' := by
  refine (h.apply a (by decide) (by decide) ho).mono fun e w' ⟨h1, h2⟩ => ⟨by rw [h1, he], ?_⟩
  rw [step_off (by omega)] at h2
  exact h2
set_option maxHeartbeats 4000000 in
theorem alive_any (w : World) : Calls Try.prog 7 #[] w fun e w' => e = .returned (.bool true) ∧ Below w.heap.size w w' := by
  have b1 := (Below.refl w.heap.size w).alloc (Nat.le_refl _) (.cells #[.int .i64 0, .int .i64 1, .int .i64 1] 33 (0, 0))
  have b2 := b1.alloc b1.size (.cells exC 35 (0, 0))
  have p2 := heap_alloc_new (w.alloc (.cells #[.int .i64 0, .int .i64 1, .int .i64 1] 33 (0, 0))) (.cells exC 35 (0, 0))
  have p1 := (Below.heap_alloc (w.alloc (.cells #[.int .i64 0, .int .i64 1, .int .i64 1] 33 (0, 0))) (.cells exC 35 (0, 0)) w.heap.size (by simp)).trans (heap_alloc_new w (.cells #[.int .i64 0, .int .i64 1, .int .i64 1] 33 (0, 0)))
  rw [World.size_alloc] at p2
  have PB := Lib.hid (And.intro b2 (And.intro p1 (lt_of_heap p1)))
  have CR := Lib.hid (ex_run _ _ p2)
  clear b1 b2 p2 p1
  go_enter Try.func7, Try.ntmps7
  go_upto_region 5 with (go_at_call 8; refine CR.out.mono ?_; rintro e W2 ⟨g, mb, rfl, hR⟩; have R2 := Lib.hid hR; have TB := Lib.hid ((hR.b.block _ PB.out.2.2).trans PB.out.2.1); clear hR)
  clear CR
  have c0 := cell_of_row _ _ 0 _ _ (0, 0) TB.out
  have c1 := cell_of_row _ _ 1 _ _ (0, 0) TB.out
  have c2 := cell_of_row _ _ 2 _ _ (0, 0) TB.out
  simp only [List.getElem?_toArray, List.getElem?_cons_zero, List.getElem?_cons_succ] at c0 c1 c2
  go_upto_region 6 with (go_at_call 18; refine (ex_rowc R2.out).mono ?_; rintro e W3 ⟨rfl, hR⟩; unfold exV; have R3 := Lib.hid hR; have T3 := Lib.hid ((hR.b.block _ PB.out.2.2).trans PB.out.2.1); clear hR)
  clear c0 c1 c2
  have ba : Below W3.heap.size W3 (W3.alloc (.cells #[.int .i64 0, .int .i64 1, .int .i64 1, .bool true, .int .u8 6, .int .u8 6, .int .u8 6, .bool true, .bool true, .int .u8 2] 43 (0, 0))) := (Below.refl _ W3).alloc (Nat.le_refl _) _
  have R4 := Lib.hid (R3.out.bel ba)
  have e4 := heap_alloc_new W3 (.cells #[.int .i64 0, .int .i64 1, .int .i64 1, .bool true, .int .u8 6, .int .u8 6, .int .u8 6, .bool true, .bool true, .int .u8 2] 43 (0, 0))
  have T4 := Lib.hid ((ba.block _ (lt_of_heap T3.out)).trans T3.out)
  clear ba R3 T3 R2 TB
  generalize W3.alloc (.cells #[.int .i64 0, .int .i64 1, .int .i64 1, .bool true, .int .u8 6, .int .u8 6, .int .u8 6, .bool true, .bool true, .int .u8 2] 43 (0, 0)) = W4 at R4 e4 T4 ⊢
  generalize W3.heap.size = rb at e4 ⊢
  have c0 := cell_of_row _ _ 0 _ _ (0, 0) T4.out
  have c1 := cell_of_row _ _ 1 _ _ (0, 0) T4.out
  have c2 := cell_of_row _ _ 2 _ _ (0, 0) T4.out
  have d0 := cell_of_row _ _ 0 _ _ (0, 0) e4
  have d1 := cell_of_row _ _ 1 _ _ (0, 0) e4
  have d2 := cell_of_row _ _ 2 _ _ (0, 0) e4
  have d3 := cell_of_row _ _ 3 _ _ (0, 0) e4
  have d4 := cell_of_row _ _ 4 _ _ (0, 0) e4
  have d5 := cell_of_row _ _ 5 _ _ (0, 0) e4
  have d6 := cell_of_row _ _ 6 _ _ (0, 0) e4
  have d7 := cell_of_row _ _ 7 _ _ (0, 0) e4
  have d8 := cell_of_row _ _ 8 _ _ (0, 0) e4
  have d9 := cell_of_row _ _ 9 _ _ (0, 0) e4
  simp only [List.getElem?_toArray, List.getElem?_cons_zero, List.getElem?_cons_succ] at c0 c1 c2 d0 d1 d2 d3 d4 d5 d6 d7 d8 d9
  clear e4
  have A1 : Hid (∀ (w0 W : World), Rm w0 g mb 0 [exR] W → Calls Try.prog 14 #[.pointer (some ⟨g, 0, none⟩), .agg #[.int .u8 3, .int .i64 0, .int .i64 1, .int .i64 1, .int .i64 0, .bool false, .int .u8 0]] W fun e w' => e = .returned (.int .i64 290) ∧ Rm w0 g mb 0 [exR] w') := fun w0 W hR => ex_apply hR ⟨3, exT, 0, false, 0⟩ 290 (by decide) ex_d (by decide)
  have A2 : Hid (∀ (w0 W : World), Rm w0 g mb 0 [exR] W → Calls Try.prog 14 #[.pointer (some ⟨g, 0, none⟩), .agg #[.int .u8 2, .int .i64 0, .int .i64 1, .int .i64 1, .int .i64 3, .bool false, .int .u8 0]] W fun e w' => e = .returned (.int .i64 290) ∧ Rm w0 g mb 0 [exR] w') := fun w0 W hR => ex_apply hR ⟨2, exT, 3, false, 0⟩ 290 (by decide) ex_v (by decide)
  have A3 : Hid (∀ (w0 W : World), Rm w0 g mb 0 [exR] W → Calls Try.prog 14 #[.pointer (some ⟨g, 0, none⟩), .agg #[.int .u8 2, .int .i64 0, .int .i64 1, .int .i64 1, .int .i64 0, .bool false, .int .u8 0]] W fun e w' => e = .returned (.int .i64 2) ∧ Rm w0 g mb 0 [exR] w') := fun w0 W hR => ex_apply hR ⟨2, exT, 0, false, 0⟩ 2 (by decide) ex_a (by decide)
  go_wp2_with (first
    | (go_at_call 14; (with_reducible refine (A1.out _ _ R4.out).mono ?_); rintro e W5 ⟨rfl, hR⟩; have R5 := Lib.hid hR; have T5 := Lib.hid ((hR.b.block _ PB.out.2.2).trans PB.out.2.1); clear hR
       have c50 := cell_of_row _ _ 0 _ _ (0, 0) T5.out
       have c51 := cell_of_row _ _ 1 _ _ (0, 0) T5.out
       have c52 := cell_of_row _ _ 2 _ _ (0, 0) T5.out
       simp only [List.getElem?_toArray, List.getElem?_cons_zero, List.getElem?_cons_succ] at c50 c51 c52)
    | (go_at_call 14; (with_reducible refine (A2.out _ _ R5.out).mono ?_); rintro e W6 ⟨rfl, hR⟩; have R6 := Lib.hid hR; have T6 := Lib.hid ((hR.b.block _ PB.out.2.2).trans PB.out.2.1); clear hR
       have c60 := cell_of_row _ _ 0 _ _ (0, 0) T6.out
       have c61 := cell_of_row _ _ 1 _ _ (0, 0) T6.out
       have c62 := cell_of_row _ _ 2 _ _ (0, 0) T6.out
       simp only [List.getElem?_toArray, List.getElem?_cons_zero, List.getElem?_cons_succ] at c60 c61 c62)
    | (go_at_call 14; (with_reducible refine (A3.out _ _ R6.out).mono ?_); rintro e W7 ⟨rfl, hR⟩; have R7 := Lib.hid hR; clear hR))
  go_ret
  exact ⟨rfl, below_acc PB.out.1 R7.out.b⟩
end Go.Proofs.Ythdmjeoldnehcaa
