/- Two ledgers and the reference, apart; the law's nothing. Condition: none. -/
import Derived.Test.YthdmjeoldnehcaaLrk
namespace Go.Proofs.Ythdmjeoldnehcaa
open Go.RowKit
set_option linter.unusedVariables false
set_option linter.unusedSimpArgs false

theorem Bo.draw {w : World} {g m hp bad : Nat} {R : List Rw} {L : List Ac} {W : World} (h : Bo w g m hp bad R L W) : Bo w g m hp bad R L W.drew := h.bel (Below.refl _ W).drew
/-- The elder ledger (R0), its copy (R), the reference. -/
structure Tri (w : World) (g m h n hp bad : Nat) (R0 R : List Rw) (L : List Ac) (W : World) : Prop where
  ex : ∃ sl sk v, Lg W w.heap.size g m sl bad R0 ∧ Lg W w.heap.size h n sk bad R ∧ Rf W w.heap.size hp v bad L ∧ (∀ k, Bl g m sl k → ¬ Bl h n sk k) ∧ (∀ k, Bl g m sl k → ¬ Rl hp v k) ∧ ∀ k, Bl h n sk k → ¬ Rl hp v k
  b : Below w.heap.size w W
theorem Tri.bo {w : World} {g m h n hp bad : Nat} {R0 R : List Rw} {L : List Ac} {W : World} (t : Tri w g m h n hp bad R0 R L W) : Bo w h n hp bad R L W := by
  obtain ⟨⟨sl, sk, v, h1, h2, h3, h4, h5, h6⟩, hb⟩ := t
  exact ⟨⟨sk, v, h2, h3, h6⟩, hb⟩
theorem Bo.copy {w : World} {g m hp bad : Nat} {R : List Rw} {L : List Ac} {W : World} (t : Bo w g m hp bad R L W) (hlen : R.length ≤ 100000) :
    Calls Try.prog 17 #[.pointer (some ⟨g, 0, none⟩)] W fun e w' => ∃ h n, e = .returned (.pointer (some ⟨h, 0, none⟩)) ∧ Tri w g m h n hp bad R R L w' := by
  obtain ⟨⟨sl, v, h1, h2, h3⟩, hb⟩ := t
  refine (Copy_any h1 hlen).mono fun e w' ⟨h, n, sk, he, l2, l3⟩ => ⟨h, n, he, ⟨sl, sk, v, h1.bel l3, l2.mono hb.size, h2.bel l3, fun k hk hs => ?_, h3, fun k hk hs => ?_⟩, below_acc hb l3⟩
  · have := h1.bl_lt k hk
    have := l2.bl_le k hs
    omega
  · have := (h2.bl_lt k hs).2
    have := l2.bl_le k hk
    omega
theorem Tri.apply {w : World} {g m h n hp bad : Nat} {R0 R : List Rw} {L : List Ac} {W : World} (t : Tri w g m h n hp bad R0 R L W) (a : Ac) (hlen : R0.length ≤ 100000) (hbad : bad < 256) (horgs : a.orgs < 256) :
    Calls Try.prog 14 #[.pointer (some ⟨g, 0, none⟩), .agg a.cells.toArray] W fun r w' => r = .returned (.int .i64 (errOf bad R0 a : Int)) ∧ Tri w g m h n hp bad (step bad R0 a) R L w' := by
  obtain ⟨⟨sl, sk, v, h1, h2, h3, h4, h5, h6⟩, hb⟩ := t
  refine (Apply_any h1 a hlen hbad horgs hb.size).mono fun e w' ⟨he, hd⟩ => ⟨he, ?_⟩
  obtain ⟨sl', l1, l2, l3⟩ := hd
  have nw : ∀ k, k < W.heap.size → ¬ Bl g m sl k → ¬ Bl g m sl' k := fun k hk hn hl => by
    rcases hl with q | q | q
    · exact hn (.inl q)
    · exact hn (.inr (.inl q))
    · rcases l2 with z | ⟨j, hj, z⟩
      · exact hn (.inr (.inr (z ▸ q)))
      · rw [z] at q
        have := Option.some.inj q
        omega
  refine ⟨⟨sl', sk, v, l1, h2.chg l3 (fun k hk hl => h4 k hl hk), h3.same (fun k hk => l3.block k (h3.bl_lt k hk).2 (fun q => h5 k q hk)), fun k hk hs => nw k (h2.bl_lt k hs) (fun q => h4 k q hs) hk, fun k hk hs => nw k (h3.bl_lt k hs).2 (fun q => h5 k q hs) hk, h6⟩, l3.below hb hb.size (fun n hn => h1.bl_le n hn)⟩
theorem Bo.row {w : World} {g m hp bad : Nat} {R : List Rw} {L : List Ac} {W : World} (t : Bo w g m hp bad R L W) (bt : Bt bad L R) (x : Tx) (hlen : R.length ≤ 100000) :
    Calls Try.prog 18 #[.pointer (some ⟨g, 0, none⟩), .agg x.cells.toArray] W fun e w' => e = .returned (.tuple #[.agg (rvR L x).cells.toArray, .bool (isR L x)]) ∧ Below W.heap.size W w' := by
  obtain ⟨⟨sl, v, h1, h2, h3⟩, hb⟩ := t
  rw [← rv_is bt x]
  exact Row_any h1 x hlen
theorem Bo.rrow {w : World} {g m hp bad : Nat} {R : List Rw} {L : List Ac} {W : World} (t : Bo w g m hp bad R L W) (bt : Bt bad L R) (x : Tx) (hlen : L.length ≤ 100000) :
    Calls Try.prog 19 #[.pointer (some ⟨hp, 0, none⟩), .agg x.cells.toArray] W fun e w' => e = .returned (.tuple #[.agg (rvR L x).cells.toArray, .bool (isR L x)]) ∧ Below W.heap.size W w' := by
  obtain ⟨⟨sl, v, h1, h2, h3⟩, hb⟩ := t
  exact rRow_any h2 bt.ok x hlen
theorem Bo.may {w : World} {g m hp bad : Nat} {R : List Rw} {L : List Ac} {W : World} (t : Bo w g m hp bad R L W) (a : Ac) (hlen : R.length ≤ 100000) (hbad : bad < 256) (horgs : a.orgs < 256) :
    Calls Try.prog 20 #[.pointer (some ⟨g, 0, none⟩), .agg a.cells.toArray] W fun e w' => e = .returned (.int .i64 (errOf bad R a : Int)) ∧ Below W.heap.size W w' := by
  obtain ⟨⟨sl, v, h1, h2, h3⟩, hb⟩ := t
  exact May_any h1 a hlen hbad horgs
theorem Bo.rmay {w : World} {g m hp bad : Nat} {R : List Rw} {L : List Ac} {W : World} (t : Bo w g m hp bad R L W) (bt : Bt bad L R) (a : Ac) (hlen : L.length ≤ 100000) (hbad : bad < 256) (horgs : a.orgs < 256) (hkind : a.kind < 256) :
    Calls Try.prog 21 #[.pointer (some ⟨hp, 0, none⟩), .agg a.cells.toArray] W fun e w' => e = .returned (.int .i64 (errOf bad R a : Int)) ∧ Below W.heap.size W w' := by
  obtain ⟨⟨sl, v, h1, h2, h3⟩, hb⟩ := t
  rw [← errR_is bt horgs]
  exact rMay_any h2 bt.ok a hlen hbad horgs hkind

/-! ### No ledger -/
def nilA : Ac := ⟨3, ⟨0, 1, 1⟩, 0, false, 0⟩
theorem nil_at {W : World} {b : Nat} (p : W.heap[b]? = some (.cells #[.int .u8 3, .int .i64 0, .int .i64 1, .int .i64 1, .int .i64 0, .bool false, .int .u8 0] 35 (0, 0))) :
    W.cell? ⟨b, 0, none⟩ = some (.int .u8 3) ∧ W.cell? ⟨b, 1, none⟩ = some (.int .i64 0) ∧ W.cell? ⟨b, 2, none⟩ = some (.int .i64 1) ∧ W.cell? ⟨b, 3, none⟩ = some (.int .i64 1) ∧ W.cell? ⟨b, 4, none⟩ = some (.int .i64 0) ∧ W.cell? ⟨b, 5, none⟩ = some (.bool false) ∧ W.cell? ⟨b, 6, none⟩ = some (.int .u8 0) :=
  ⟨cell_of_row _ _ 0 _ _ (0, 0) p, cell_of_row _ _ 1 _ _ (0, 0) p, cell_of_row _ _ 2 _ _ (0, 0) p, cell_of_row _ _ 3 _ _ (0, 0) p, cell_of_row _ _ 4 _ _ (0, 0) p, cell_of_row _ _ 5 _ _ (0, 0) p, cell_of_row _ _ 6 _ _ (0, 0) p⟩
set_option maxHeartbeats 2000000 in
theorem nothing_any (w : World) : Calls Try.prog 22 #[] w fun e w' => e = .returned (.bool true) ∧ Below w.heap.size w w' := by
  have b1 := (Below.refl w.heap.size w).alloc (Nat.le_refl _) (.cells #[.int .u8 3, .int .i64 0, .int .i64 1, .int .i64 1, .int .i64 0, .bool false, .int .u8 0] 35 (0, 0))
  have p1 := heap_alloc_new w (.cells #[.int .u8 3, .int .i64 0, .int .i64 1, .int .i64 1, .int .i64 0, .bool false, .int .u8 0] 35 (0, 0))
  have B1 := Lib.hid b1
  have P1 := Lib.hid p1
  clear b1 p1
  have CR : Hid (∀ W : World, Calls Try.prog 18 #[.pointer none, .agg #[.int .i64 0, .int .i64 1, .int .i64 1]] W fun e w' => e = .returned (.tuple #[.agg #[.int .i64 0, .int .i64 0, .int .i64 0, .bool false, .int .u8 0, .int .u8 0, .int .u8 0, .bool false, .bool false, .int .u8 0], .bool false]) ∧ Below W.heap.size W w') := fun W => Row_nil ⟨0, 1, 1⟩ W
  have CM : Hid (∀ W : World, Calls Try.prog 20 #[.pointer none, .agg #[.int .u8 3, .int .i64 0, .int .i64 1, .int .i64 1, .int .i64 0, .bool false, .int .u8 0]] W fun e w' => e = .returned (.int .i64 1) ∧ Below W.heap.size W w') := fun W => May_nil nilA W
  have CA : Hid (∀ W : World, Calls Try.prog 14 #[.pointer none, .agg #[.int .u8 3, .int .i64 0, .int .i64 1, .int .i64 1, .int .i64 0, .bool false, .int .u8 0]] W fun e w' => e = .returned (.int .i64 1) ∧ Below W.heap.size W w') := fun W => Apply_nil nilA W
  have CS := Lib.hid Rows_nil
  have CC := Lib.hid Copy_nil
  go_enter Try.func22, Try.ntmps22
  go_upto_region 3 with fail
  generalize w.alloc (.cells #[.int .u8 3, .int .i64 0, .int .i64 1, .int .i64 1, .int .i64 0, .bool false, .int .u8 0] 35 (0, 0)) = w1 at B1 P1 ⊢
  obtain ⟨q0, q1, q2, q3, q4, q5, q6⟩ := nil_at P1.out
  go_upto_region 4 with (go_at_call 18; (with_reducible refine (CR.out _).mono ?_); rintro e W2 ⟨rfl, hb⟩; have B2 := Lib.hid (below_acc B1.out hb); have P2 := Lib.hid ((hb.block _ (lt_of_heap P1.out)).trans P1.out); clear hb)
  clear q0 q1 q2 q3 q4 q5 q6 CR B1 P1
  have ba := (Below.refl _ W2).alloc (Nat.le_refl _) (.cells #[.int .i64 0, .int .i64 0, .int .i64 0, .bool false, .int .u8 0, .int .u8 0, .int .u8 0, .bool false, .bool false, .int .u8 0] 43 (0, 0))
  have B3 := Lib.hid (below_acc B2.out ba)
  have P3 := Lib.hid ((ba.block _ (lt_of_heap P2.out)).trans P2.out)
  clear ba B2 P2
  generalize W2.alloc (.cells #[.int .i64 0, .int .i64 0, .int .i64 0, .bool false, .int .u8 0, .int .u8 0, .int .u8 0, .bool false, .bool false, .int .u8 0] 43 (0, 0)) = W3 at B3 P3 ⊢
  obtain ⟨q0, q1, q2, q3, q4, q5, q6⟩ := nil_at P3.out
  go_wp2_with (first
    | (go_at_call 20; (with_reducible refine (CM.out _).mono ?_); rintro e W4 ⟨rfl, hb⟩; have B4 := Lib.hid (below_acc B3.out hb); have P4 := Lib.hid ((hb.block _ (lt_of_heap P3.out)).trans P3.out); clear hb; obtain ⟨r0, r1, r2, r3, r4, r5, r6⟩ := nil_at P4.out)
    | (go_at_call 14; (with_reducible refine (CA.out _).mono ?_); rintro e W5 ⟨rfl, hb⟩; have B5 := Lib.hid (below_acc B4.out hb); clear hb)
    | (go_at_call 11; (with_reducible refine (CS.out _).mono ?_); rintro e W6 ⟨rfl, rfl⟩)
    | (go_at_call 17; (with_reducible refine (CC.out _).mono ?_); rintro e W7 ⟨rfl, rfl⟩))
  go_ret
  exact ⟨rfl, B5.out⟩
end Go.Proofs.Ythdmjeoldnehcaa
