/- The walk of the ledger's Copy. Condition: the ledger lies at the pointer. -/
import Derived.Test.YthdmjeoldnehcaaLgu
namespace Go.Proofs.Ythdmjeoldnehcaa
open Go.RowKit
set_option linter.unusedVariables false
set_option linter.unusedSimpArgs false

structure Cpm (w : World) (B g mb : Nat) (sl : Value) (bad : Nat) (rows : List Rw) (W : World) : Prop where
  lg : Lg W B g mb sl bad rows
  b : Below w.heap.size w W
theorem Cpm.bel {w : World} {B g mb : Nat} {sl : Value} {bad : Nat} {rows : List Rw} {W W' : World} (h : Cpm w B g mb sl bad rows W) (hb : Below W.heap.size W W') : Cpm w B g mb sl bad rows W' := ⟨h.lg.bel hb, below_acc h.b hb⟩
theorem Cpm.s {w : World} {B g mb : Nat} {sl : Value} {bad : Nat} {rows : List Rw} {W : World} (h : Cpm w B g mb sl bad rows W) :
    W.cell? ⟨g, 0, none⟩ = some (.int .u8 (bad : Int)) ∧ W.cell? ⟨g, 1, none⟩ = some sl ∧ W.cell? ⟨g, 2, none⟩ = some (.map (some mb)) ∧ Cpm w B g mb sl bad rows W :=
  ⟨cell_of_row _ _ 0 _ _ (0, 0) h.lg.top, cell_of_row _ _ 1 _ _ (0, 0) h.lg.top, cell_of_row _ _ 2 _ _ (0, 0) h.lg.top, h⟩
theorem clone_map2 {w : World} {mb n : Nat} {es : Array MapEntry} (h : w.heap[mb]? = some (.map es n)) :
    Calls Try.prog 25 #[.map (some mb)] w fun e w' => e = .returned (.map (some w.heap.size)) ∧ w'.heap[w.heap.size]? = some (.map es n) ∧ Below w.heap.size w w' :=
  (clone_map h).mono fun e w' ⟨h1, h2⟩ => ⟨h1, by rw [h2]; exact heap_alloc_new w _, by rw [h2]; exact (Below.refl _ w).alloc (Nat.le_refl _) _⟩
theorem own_range {W : World} {B n : Nat} {v : Value} {T : TypeId} {s : Nat} {xs : List Value} (h : W.ownsRow B T s v n xs) (k : Nat) (hk : v.ownBlock = some k) : B ≤ k ∧ k < W.heap.size := by
  rcases h.2 with ⟨rfl, _⟩ | ⟨b, cap, cur, rfl, hB, h1, _⟩
  · cases hk
  · simp only [Value.ownBlock, Option.some.injEq] at hk
    subst hk
    exact ⟨hB, lt_of_heap h1⟩
theorem own_slice {W : World} {B n : Nat} {v : Value} {T : TypeId} {s : Nat} {xs : List Value} (h : W.ownsRow B T s v n xs) : ∃ ob cap, v = .slice ob n cap := by
  rcases h.2 with ⟨rfl, h0⟩ | ⟨b, cap, cur, rfl, hB, h1, _⟩
  · exact ⟨none, 0, by rw [h0]⟩
  · exact ⟨_, _, rfl⟩
set_option maxHeartbeats 2000000 in
theorem Copy_any {B g mb bad : Nat} {sl : Value} {rows : List Rw} {w : World} (h : Lg w B g mb sl bad rows) (hlen : rows.length ≤ 100000) :
    Calls Try.prog 17 #[.pointer (some ⟨g, 0, none⟩)] w fun e w' => ∃ g' mb' sl', e = .returned (.pointer (some ⟨g', 0, none⟩)) ∧ Lg w' w.heap.size g' mb' sl' bad rows ∧ Below w.heap.size w w' := by
  have M0 := Lib.hid (Cpm.mk h (Below.refl w.heap.size w))
  have SD := Lib.hid h.sd
  obtain ⟨t0, t1, t2, -⟩ := M0.out.s
  clear h
  go_enter Try.func17, Try.ntmps17
  go_upto_region 3 with (fail)
  go_region_held3 (fun W => W.cell? ⟨g, 0, none⟩ = some (.int .u8 (bad : Int)) ∧ W.cell? ⟨g, 1, none⟩ = some sl ∧ W.cell? ⟨g, 2, none⟩ = some (.map (some mb)) ∧ Cpm w B g mb sl bad rows W)
    (first | assumption | exact (M0.out.bel (Below.refl _ w).drew).s | exact ((by assumption : _ ∧ _ ∧ _ ∧ Cpm w B g mb sl bad rows _).2.2.2.bel hb).s | exact ((by assumption : _ ∧ _ ∧ _ ∧ Cpm w B g mb sl bad rows _).2.2.2.bel ((Below.refl _ _).alloc (Nat.le_refl _) _)).s)
    (first
      | (go_at_call 23; (with_reducible refine (clone_any B rows.length sl (flat rows) _ (by assumption : _ ∧ _ ∧ _ ∧ Cpm w B g mb sl bad rows _).2.2.2.lg.own (flat_one rows) hlen).mono ?_); rintro e W1 ⟨v', rfl, ho, hb⟩; obtain ⟨ob, cap, rfl⟩ := own_slice ho; have HO := Lib.hid ho; have HB := Lib.hid hb; clear ho)
      | (go_at_call 25; (with_reducible refine (clone_map2 (by assumption : _ ∧ _ ∧ _ ∧ Cpm w B g mb sl bad rows _).2.2.2.lg.map).mono ?_); rintro e W2 ⟨rfl, hm, hb⟩; have HM := Lib.hid hm; have HC := Lib.hid hb; clear hm))
  rename_i hS
  have TB := Lib.hid hS.2.2.2.b
  have hw1 : w.heap.size ≤ W1.heap.size := HB.out.size
  have hm2 : W1.heap.size < W2.heap.size := lt_of_heap HM.out
  have rg := own_range HO.out
  have HL : Hid (Lg (W2.alloc (.cells #[.int .u8 (bad : Int), .slice ob rows.length cap, .map (some W1.heap.size)] 53 (0, 0))) w.heap.size W2.heap.size W1.heap.size (.slice ob rows.length cap) bad rows) := by
    refine ⟨heap_alloc_new W2 _, ?_, (Below.heap_alloc W2 _ _ hm2).trans HM.out, Nat.le_trans hw1 (Nat.le_of_lt hm2), hw1, by omega, fun q => ?_, fun q => ?_, SD.out⟩
    · refine ownsRow_same (W := W1) HO.out fun k hk => ?_
      have h2 := (rg k hk).2
      exact (Below.heap_alloc W2 _ _ (by omega)).trans (HC.out.block k h2)
    · have := (rg _ q).2
      omega
    · have := (rg _ q).2
      omega
  clear hS hb rg HO HB HM HC M0 t0 t1 t2
  generalize W2.alloc (.cells #[.int .u8 (bad : Int), .slice ob rows.length cap, .map (some W1.heap.size)] 53 (0, 0)) = W3 at HL TB ⊢
  go_wp2_with fail
  exact bodyPost_ret (results_tmp (t := 2) rfl _ _ _) rfl ⟨_, _, _, rfl, HL.out, TB.out⟩
end Go.Proofs.Ythdmjeoldnehcaa
