/- The walk of the reference's mayBe. Condition: its ledger's bad ones lie at the pointer. -/
import Derived.Test.YthdmjeoldnehcaaLrp
namespace Go.Proofs.Ythdmjeoldnehcaa
open Go.RowKit
set_option linter.unusedVariables false
set_option linter.unusedSimpArgs false

/-- What mayBe reads. -/
structure Rbm (w : World) (ab hb kind : Nat) (c e s org : Int) (yes : Bool) (orgs bad : Nat) (W : World) : Prop where
  a0 : W.cell? ⟨ab, 0, none⟩ = some (.int .u8 (kind : Int))
  a1 : W.cell? ⟨ab, 1, none⟩ = some (.int .i64 c)
  a2 : W.cell? ⟨ab, 2, none⟩ = some (.int .i64 e)
  a3 : W.cell? ⟨ab, 3, none⟩ = some (.int .i64 s)
  a4 : W.cell? ⟨ab, 4, none⟩ = some (.int .i64 org)
  a5 : W.cell? ⟨ab, 5, none⟩ = some (.bool yes)
  a6 : W.cell? ⟨ab, 6, none⟩ = some (.int .u8 (orgs : Int))
  g : W.cell? ⟨hb, 0, none⟩ = some (.int .u8 (bad : Int))
  b : Below w.heap.size w W
theorem cell_kept {W W' : World} (hb : Below W.heap.size W W') {a : Addr} {v : Value} (hc : W.cell? a = some v) : W'.cell? a = some v := (hb.cell (block_lt_of_cell hc)).trans hc
theorem Rbm.bel {w : World} {ab hb kind : Nat} {c e s org : Int} {yes : Bool} {orgs bad : Nat} {W W' : World} (h : Rbm w ab hb kind c e s org yes orgs bad W) (b : Below W.heap.size W W') : Rbm w ab hb kind c e s org yes orgs bad W' :=
  ⟨cell_kept b h.a0, cell_kept b h.a1, cell_kept b h.a2, cell_kept b h.a3, cell_kept b h.a4, cell_kept b h.a5, cell_kept b h.a6, cell_kept b h.g, below_acc h.b b⟩
theorem Rbm.draw {w : World} {ab hb kind : Nat} {c e s org : Int} {yes : Bool} {orgs bad : Nat} {W : World} (h : Rbm w ab hb kind c e s org yes orgs bad W) : Rbm w ab hb kind c e s org yes orgs bad W.drew := h.bel (Below.refl _ W).drew
theorem Rbm.s {w : World} {ab hb kind : Nat} {c e s org : Int} {yes : Bool} {orgs bad : Nat} {W : World} (h : Rbm w ab hb kind c e s org yes orgs bad W) :
    W.cell? ⟨ab, 0, none⟩ = some (.int .u8 (kind : Int)) ∧ W.cell? ⟨ab, 1, none⟩ = some (.int .i64 c) ∧ W.cell? ⟨ab, 2, none⟩ = some (.int .i64 e) ∧ W.cell? ⟨ab, 3, none⟩ = some (.int .i64 s) ∧ W.cell? ⟨ab, 4, none⟩ = some (.int .i64 org) ∧ W.cell? ⟨ab, 5, none⟩ = some (.bool yes) ∧ W.cell? ⟨ab, 6, none⟩ = some (.int .u8 (orgs : Int)) ∧ W.cell? ⟨hb, 0, none⟩ = some (.int .u8 (bad : Int)) ∧ Rbm w ab hb kind c e s org yes orgs bad W := ⟨h.a0, h.a1, h.a2, h.a3, h.a4, h.a5, h.a6, h.g, h⟩
theorem Rbm.new {w : World} {hb bad : Nat} (hg : w.cell? ⟨hb, 0, none⟩ = some (.int .u8 (bad : Int))) (kind : Nat) (c e s org : Int) (yes : Bool) (orgs : Nat) :
    Rbm w w.heap.size hb kind c e s org yes orgs bad (w.alloc (.cells #[.int .u8 (kind : Int), .int .i64 c, .int .i64 e, .int .i64 s, .int .i64 org, .bool yes, .int .u8 (orgs : Int)] 35 (0, 0))) := by
  have b0 := (Below.refl w.heap.size w).alloc (Nat.le_refl _) (.cells #[.int .u8 (kind : Int), .int .i64 c, .int .i64 e, .int .i64 s, .int .i64 org, .bool yes, .int .u8 (orgs : Int)] 35 (0, 0))
  have h0 := heap_alloc_new w (.cells #[.int .u8 (kind : Int), .int .i64 c, .int .i64 e, .int .i64 s, .int .i64 org, .bool yes, .int .u8 (orgs : Int)] 35 (0, 0))
  exact ⟨cell_of_row _ _ 0 _ _ (0, 0) h0, cell_of_row _ _ 1 _ _ (0, 0) h0, cell_of_row _ _ 2 _ _ (0, 0) h0, cell_of_row _ _ 3 _ _ (0, 0) h0, cell_of_row _ _ 4 _ _ (0, 0) h0, cell_of_row _ _ 5 _ _ (0, 0) h0, cell_of_row _ _ 6 _ _ (0, 0) h0, cell_kept b0 hg, b0⟩

set_option maxHeartbeats 8000000 in
theorem rMayBe_walk (hb bad kind : Nat) (c e s org : Int) (yes : Bool) (orgs : Nat) (w : World) (hg : w.cell? ⟨hb, 0, none⟩ = some (.int .u8 (bad : Int))) (hbad : bad < 256) (horgs : orgs < 256) (hkind : kind < 256) :
    Calls Try.prog 28 #[.pointer (some ⟨hb, 0, none⟩), .agg #[.int .u8 (kind : Int), .int .i64 c, .int .i64 e, .int .i64 s, .int .i64 org, .bool yes, .int .u8 (orgs : Int)]] w
      fun r w' => r = .returned (.bool (mayR bad ⟨kind, ⟨c, e, s⟩, org, yes, orgs⟩)) ∧ Below w.heap.size w w' := by
  have T0 := Lib.hid (Rbm.new hg kind c e s org yes orgs)
  have CB : Hid (∀ W, Calls Try.prog 42 #[.agg #[.int .u8 (kind : Int), .int .i64 c, .int .i64 e, .int .i64 s, .int .i64 org, .bool yes, .int .u8 (orgs : Int)]] W fun r w' => r = .returned (.agg (bareA ⟨kind, ⟨c, e, s⟩, org, yes, orgs⟩).cells.toArray) ∧ Below W.heap.size W w') := fun W => Bare_any ⟨kind, ⟨c, e, s⟩, org, yes, orgs⟩ W
  have CN := Lib.hid (fun W => size_any orgs horgs W)
  have CM : Hid (∀ W, Calls Try.prog 43 #[.agg #[.int .i64 c, .int .i64 e, .int .i64 s]] W fun r w' => r = .returned (.bool (mayTx ⟨c, e, s⟩)) ∧ Below W.heap.size W w') := fun W => (rMayTxn_any ⟨c, e, s⟩ W).mono fun r w' ⟨h1, h2⟩ => ⟨h1, by rw [h2]; exact (Below.refl _ W).alloc (Nat.le_refl _) _⟩
  have CI := Lib.hid (fun W => rIn_any bad hbad c W)
  have CJ := Lib.hid (fun W => rIn_any orgs horgs c W)
  have CO := Lib.hid (fun W => rIn_any bad hbad org W)
  have CR := Lib.hid (fun W => rOrg_any org W)
  have hne : ∀ W : World, (binOp .neq 35 (.agg #[.int .u8 (kind : Int), .int .i64 c, .int .i64 e, .int .i64 s, .int .i64 org, .bool yes, .int .u8 (orgs : Int)]) (.agg (bareA ⟨kind, ⟨c, e, s⟩, org, yes, orgs⟩).cells.toArray)).run Try.prog W = .ok (.bool (!decide ((⟨kind, ⟨c, e, s⟩, org, yes, orgs⟩ : Ac) = bareA ⟨kind, ⟨c, e, s⟩, org, yes, orgs⟩))) W := fun W => neq_ac ⟨kind, ⟨c, e, s⟩, org, yes, orgs⟩ (bareA ⟨kind, ⟨c, e, s⟩, org, yes, orgs⟩) W
  clear hg
  unfold mayR lastB
  simp only
  generalize decide ((⟨kind, ⟨c, e, s⟩, org, yes, orgs⟩ : Ac) = bareA ⟨kind, ⟨c, e, s⟩, org, yes, orgs⟩) = nb at hne ⊢
  generalize (bareA ⟨kind, ⟨c, e, s⟩, org, yes, orgs⟩).cells.toArray = bc at CB hne
  generalize mayTx ⟨c, e, s⟩ = mt at CM ⊢
  generalize ones orgs = n at CN ⊢
  generalize inS bad c = ib at CI ⊢
  generalize inS orgs c = io at CJ ⊢
  generalize inS bad org = i2 at CO ⊢
  generalize orgB org = ob at CR ⊢
  generalize hR : (decide (1 ≤ kind) && decide (kind ≤ 4) && nb && mt && !ib && (if kind = 1 then decide (1 ≤ n) && decide (n ≤ 6) && !io else decide (kind = 3) || (ob && !i2 && decide (org ≠ c)))) = R
  have HR := Lib.hid hR
  clear hR
  go_enter Try.func28, Try.ntmps28
  go_upto_region 1 with (fail)
  generalize (w.alloc (.cells #[.int .u8 (kind : Int), .int .i64 c, .int .i64 e, .int .i64 s, .int .i64 org, .bool yes, .int .u8 (orgs : Int)] 35 (0, 0))) = w1 at T0 ⊢
  obtain ⟨a0, a1, a2, a3, a4, a5, a6, g, b⟩ := T0.out
  have TB := Lib.hid b
  clear b
  by_cases h0 : kind = 0
  · have d1 : decide ((kind : Int) < 1) = true := by simp; omega
    have z : decide (1 ≤ kind) = false := by simp; omega
    go_quiet (fail)
    go_wp2_with fail
    go_ret
    have hr : R = false := by rw [← HR.out]; simp [z]
    rw [hr]
    exact ⟨rfl, below_drewN TB.out _⟩
  have d1 : decide ((kind : Int) < 1) = false := by simp; omega
  have z1 : decide (1 ≤ kind) = true := by simp; omega
  by_cases h4 : 4 < kind
  · have d2 : decide (4 < (kind : Int)) = true := by simp; omega
    have z : decide (kind ≤ 4) = false := by simp; omega
    go_quiet (fail)
    go_wp2_with fail
    go_ret
    have hr : R = false := by rw [← HR.out]; simp [z]
    rw [hr]
    exact ⟨rfl, below_drewN TB.out _⟩
  have d2 : decide (4 < (kind : Int)) = false := by simp; omega
  have z2 : decide (kind ≤ 4) = true := by simp; omega
  cases nb
  · refine wp_region_held_drew (S := (fun W => W.cell? ⟨w.heap.size, 0, none⟩ = some (.int .u8 (kind : Int)) ∧ W.cell? ⟨w.heap.size, 1, none⟩ = some (.int .i64 c) ∧ W.cell? ⟨w.heap.size, 2, none⟩ = some (.int .i64 e) ∧ W.cell? ⟨w.heap.size, 3, none⟩ = some (.int .i64 s) ∧ W.cell? ⟨w.heap.size, 4, none⟩ = some (.int .i64 org) ∧ W.cell? ⟨w.heap.size, 5, none⟩ = some (.bool yes) ∧ W.cell? ⟨w.heap.size, 6, none⟩ = some (.int .u8 (orgs : Int)) ∧ W.cell? ⟨hb, 0, none⟩ = some (.int .u8 (bad : Int)) ∧ Rbm w w.heap.size hb kind c e s org yes orgs bad W)) (by kernel_rfl) (T0.out.draw).s (fun hH0 => ?_)
    refine wpAnyH_take (i := 0) (v := .pointer (some ⟨w.heap.size, 0, none⟩)) rfl (by kernel_rfl) (by kernel_rfl) (by kernel_rfl) (fun _ _ _ h => h) (Or.inl ⟨by rfl, ?_⟩) (by assumption) ?_
    · intro w hSw; go_simp
    try simp only [List.getElem_toArray, List.getElem_cons_succ, List.getElem_cons_zero, Act.put, List.setIfInBounds_toArray, List.set_cons_zero, List.set_cons_succ]
    refine wpAnyH_take (i := 1) (v := .int .u8 (kind : Int)) rfl (by kernel_rfl) (by kernel_rfl) (by kernel_rfl) (fun _ _ _ h => h) (Or.inl ⟨by rfl, ?_⟩) (by assumption) ?_
    · intro w hSw; go_simp
    try simp only [List.getElem_toArray, List.getElem_cons_succ, List.getElem_cons_zero, Act.put, List.setIfInBounds_toArray, List.set_cons_zero, List.set_cons_succ]
    refine wpAnyH_take (i := 2) (v := .bool false) rfl (by kernel_rfl) (by kernel_rfl) (by kernel_rfl) (fun _ _ _ h => h) (Or.inl ⟨by rfl, ?_⟩) (by assumption) ?_
    · intro w hSw; go_simp
    try simp only [List.getElem_toArray, List.getElem_cons_succ, List.getElem_cons_zero, Act.put, List.setIfInBounds_toArray, List.set_cons_zero, List.set_cons_succ]
    refine wpAnyH_take (i := 3) (v := .bool false) rfl (by kernel_rfl) (by kernel_rfl) (by kernel_rfl) (fun _ _ _ h => h) (Or.inl ⟨by rfl, ?_⟩) (by assumption) ?_
    · intro w hSw; go_simp
    try simp only [List.getElem_toArray, List.getElem_cons_succ, List.getElem_cons_zero, Act.put, List.setIfInBounds_toArray, List.set_cons_zero, List.set_cons_succ]
    refine wpAnyH_take (i := 4) (v := .pointer (some ⟨w.heap.size, 0, none⟩)) rfl (by kernel_rfl) (by kernel_rfl) (by kernel_rfl) (fun _ _ _ h => h) (Or.inl ⟨by rfl, ?_⟩) (by assumption) ?_
    · intro w hSw; go_simp
    try simp only [List.getElem_toArray, List.getElem_cons_succ, List.getElem_cons_zero, Act.put, List.setIfInBounds_toArray, List.set_cons_zero, List.set_cons_succ]
    refine wpAnyH_take (i := 5) (v := .int .u8 (kind : Int)) rfl (by kernel_rfl) (by kernel_rfl) (by kernel_rfl) (fun _ _ _ h => h) (Or.inl ⟨by rfl, ?_⟩) (by assumption) ?_
    · intro w hSw; go_simp
    try simp only [List.getElem_toArray, List.getElem_cons_succ, List.getElem_cons_zero, Act.put, List.setIfInBounds_toArray, List.set_cons_zero, List.set_cons_succ]
    refine wpAnyH_take (i := 6) (v := .bool false) rfl (by kernel_rfl) (by kernel_rfl) (by kernel_rfl) (fun _ _ _ h => h) (Or.inl ⟨by rfl, ?_⟩) (by assumption) ?_
    · intro w hSw; go_simp
    try simp only [List.getElem_toArray, List.getElem_cons_succ, List.getElem_cons_zero, Act.put, List.setIfInBounds_toArray, List.set_cons_zero, List.set_cons_succ]
    refine wpAnyH_take (i := 7) (v := .bool false) rfl (by kernel_rfl) (by kernel_rfl) (by kernel_rfl) (fun _ _ _ h => h) (Or.inl ⟨by rfl, ?_⟩) (by assumption) ?_
    · intro w hSw; go_simp
    try simp only [List.getElem_toArray, List.getElem_cons_succ, List.getElem_cons_zero, Act.put, List.setIfInBounds_toArray, List.set_cons_zero, List.set_cons_succ]
    refine wpAnyH_take (i := 8) (v := .bool false) rfl (by kernel_rfl) (by kernel_rfl) (by kernel_rfl) (fun _ _ _ h => h) (Or.inl ⟨by rfl, ?_⟩) (by assumption) ?_
    · intro w hSw; go_simp
    try simp only [List.getElem_toArray, List.getElem_cons_succ, List.getElem_cons_zero, Act.put, List.setIfInBounds_toArray, List.set_cons_zero, List.set_cons_succ]
    refine wpAnyH_take (i := 9) (v := .agg #[.int .u8 (kind : Int), .int .i64 c, .int .i64 e, .int .i64 s, .int .i64 org, .bool yes, .int .u8 (orgs : Int)]) rfl (by kernel_rfl) (by kernel_rfl) (by kernel_rfl) (fun _ _ _ h => h) (Or.inl ⟨by rfl, ?_⟩) (by assumption) ?_
    · intro w hSw; go_simp
    try simp only [List.getElem_toArray, List.getElem_cons_succ, List.getElem_cons_zero, Act.put, List.setIfInBounds_toArray, List.set_cons_zero, List.set_cons_succ]
    refine wpAnyH_take (i := 10) (v := .agg #[.int .u8 (kind : Int), .int .i64 c, .int .i64 e, .int .i64 s, .int .i64 org, .bool yes, .int .u8 (orgs : Int)]) rfl (by kernel_rfl) (by kernel_rfl) (by kernel_rfl) (fun _ _ _ h => h) (Or.inl ⟨by rfl, ?_⟩) (by assumption) ?_
    · intro w hSw; go_simp
    try simp only [List.getElem_toArray, List.getElem_cons_succ, List.getElem_cons_zero, Act.put, List.setIfInBounds_toArray, List.set_cons_zero, List.set_cons_succ]
    refine wpAnyH_ready (rs := [11]) (by kernel_rfl) (by simp) (AllReadyH.cons rfl (fun K hK => ?_) AllReadyH.nil)
    go_simp
    refine (CB.out _).mono ?_
    rintro r w2 ⟨rfl, hb⟩
    refine hK.out _ _ (hH0.2.2.2.2.2.2.2.2.bel hb).s (fun hH1 => ?_)
    clear hK K
    try simp only [List.getElem_toArray, List.getElem_cons_succ, List.getElem_cons_zero, Act.put, List.setIfInBounds_toArray, List.set_cons_zero, List.set_cons_succ]
    refine wpAnyH_take (i := 12) (v := .bool true) rfl (by kernel_rfl) (by kernel_rfl) (by kernel_rfl) (fun _ _ _ h => h) (Or.inl ⟨by rfl, ?_⟩) (by assumption) ?_
    · intro w hSw; first | exact hne _ | (go_simp; done) | simp [hne]
    try simp only [List.getElem_toArray, List.getElem_cons_succ, List.getElem_cons_zero, Act.put, List.setIfInBounds_toArray, List.set_cons_zero, List.set_cons_succ]
    refine wpAnyH_take (i := 13) (v := .bool true) rfl (by kernel_rfl) (by kernel_rfl) (by kernel_rfl) (fun _ _ _ h => h) (Or.inl ⟨by rfl, ?_⟩) (by assumption) ?_
    · intro w hSw; go_simp
    try simp only [List.getElem_toArray, List.getElem_cons_succ, List.getElem_cons_zero, Act.put, List.setIfInBounds_toArray, List.set_cons_zero, List.set_cons_succ]
    refine wpAnyH_take (i := 14) (v := .bool true) rfl (by kernel_rfl) (by kernel_rfl) (by kernel_rfl) (fun _ _ _ h => h) (Or.inl ⟨by rfl, ?_⟩) (by assumption) ?_
    · intro w hSw; go_simp
    try simp only [List.getElem_toArray, List.getElem_cons_succ, List.getElem_cons_zero, Act.put, List.setIfInBounds_toArray, List.set_cons_zero, List.set_cons_succ]
    refine wpAnyH_take (i := 15) (v := undef) rfl (by kernel_rfl) (by kernel_rfl) (by kernel_rfl) (fun _ _ _ h => h) (Or.inr ⟨by rfl, rfl⟩) (by assumption) ?_
    try simp only [List.getElem_toArray, List.getElem_cons_succ, List.getElem_cons_zero, Act.put, List.setIfInBounds_toArray, List.set_cons_zero, List.set_cons_succ]
    refine wpAnyH_take (i := 16) (v := undef) rfl (by kernel_rfl) (by kernel_rfl) (by kernel_rfl) (fun _ _ _ h => h) (Or.inr ⟨by rfl, rfl⟩) (by assumption) ?_
    try simp only [List.getElem_toArray, List.getElem_cons_succ, List.getElem_cons_zero, Act.put, List.setIfInBounds_toArray, List.set_cons_zero, List.set_cons_succ]
    refine wpAnyH_take (i := 17) (v := undef) rfl (by kernel_rfl) (by kernel_rfl) (by kernel_rfl) (fun _ _ _ h => h) (Or.inr ⟨by rfl, rfl⟩) (by assumption) ?_
    try simp only [List.getElem_toArray, List.getElem_cons_succ, List.getElem_cons_zero, Act.put, List.setIfInBounds_toArray, List.set_cons_zero, List.set_cons_succ]
    refine wpAnyH_take (i := 18) (v := undef) rfl (by kernel_rfl) (by kernel_rfl) (by kernel_rfl) (fun _ _ _ h => h) (Or.inr ⟨by rfl, rfl⟩) (by assumption) ?_
    try simp only [List.getElem_toArray, List.getElem_cons_succ, List.getElem_cons_zero, Act.put, List.setIfInBounds_toArray, List.set_cons_zero, List.set_cons_succ]
    refine wpAnyH_take (i := 19) (v := .bool true) rfl (by kernel_rfl) (by kernel_rfl) (by kernel_rfl) (fun _ _ _ h => h) (Or.inl ⟨by rfl, ?_⟩) (by assumption) ?_
    · intro w hSw; go_simp
    try simp only [List.getElem_toArray, List.getElem_cons_succ, List.getElem_cons_zero, Act.put, List.setIfInBounds_toArray, List.set_cons_zero, List.set_cons_succ]
    refine wpAnyH_take (i := 20) (v := .bool true) rfl (by kernel_rfl) (by kernel_rfl) (by kernel_rfl) (fun _ _ _ h => h) (Or.inl ⟨by rfl, ?_⟩) (by assumption) ?_
    · intro w hSw; go_simp
    try simp only [List.getElem_toArray, List.getElem_cons_succ, List.getElem_cons_zero, Act.put, List.setIfInBounds_toArray, List.set_cons_zero, List.set_cons_succ]
    refine wpAnyH_take (i := 21) (v := undef) rfl (by kernel_rfl) (by kernel_rfl) (by kernel_rfl) (fun _ _ _ h => h) (Or.inr ⟨by rfl, rfl⟩) (by assumption) ?_
    try simp only [List.getElem_toArray, List.getElem_cons_succ, List.getElem_cons_zero, Act.put, List.setIfInBounds_toArray, List.set_cons_zero, List.set_cons_succ]
    refine wpAnyH_take (i := 22) (v := undef) rfl (by kernel_rfl) (by kernel_rfl) (by kernel_rfl) (fun _ _ _ h => h) (Or.inr ⟨by rfl, rfl⟩) (by assumption) ?_
    try simp only [List.getElem_toArray, List.getElem_cons_succ, List.getElem_cons_zero, Act.put, List.setIfInBounds_toArray, List.set_cons_zero, List.set_cons_succ]
    refine wpAnyH_take (i := 23) (v := undef) rfl (by kernel_rfl) (by kernel_rfl) (by kernel_rfl) (fun _ _ _ h => h) (Or.inr ⟨by rfl, rfl⟩) (by assumption) ?_
    try simp only [List.getElem_toArray, List.getElem_cons_succ, List.getElem_cons_zero, Act.put, List.setIfInBounds_toArray, List.set_cons_zero, List.set_cons_succ]
    refine wpAnyH_take (i := 24) (v := undef) rfl (by kernel_rfl) (by kernel_rfl) (by kernel_rfl) (fun _ _ _ h => h) (Or.inr ⟨by rfl, rfl⟩) (by assumption) ?_
    try simp only [List.getElem_toArray, List.getElem_cons_succ, List.getElem_cons_zero, Act.put, List.setIfInBounds_toArray, List.set_cons_zero, List.set_cons_succ]
    refine wpAnyH_take (i := 25) (v := undef) rfl (by kernel_rfl) (by kernel_rfl) (by kernel_rfl) (fun _ _ _ h => h) (Or.inr ⟨by rfl, rfl⟩) (by assumption) ?_
    try simp only [List.getElem_toArray, List.getElem_cons_succ, List.getElem_cons_zero, Act.put, List.setIfInBounds_toArray, List.set_cons_zero, List.set_cons_succ]
    refine wpAnyH_take (i := 26) (v := undef) rfl (by kernel_rfl) (by kernel_rfl) (by kernel_rfl) (fun _ _ _ h => h) (Or.inr ⟨by rfl, rfl⟩) (by assumption) ?_
    try simp only [List.getElem_toArray, List.getElem_cons_succ, List.getElem_cons_zero, Act.put, List.setIfInBounds_toArray, List.set_cons_zero, List.set_cons_succ]
    refine wpAnyH_take (i := 27) (v := undef) rfl (by kernel_rfl) (by kernel_rfl) (by kernel_rfl) (fun _ _ _ h => h) (Or.inr ⟨by rfl, rfl⟩) (by assumption) ?_
    try simp only [List.getElem_toArray, List.getElem_cons_succ, List.getElem_cons_zero, Act.put, List.setIfInBounds_toArray, List.set_cons_zero, List.set_cons_succ]
    refine wpAnyH_take (i := 28) (v := undef) rfl (by kernel_rfl) (by kernel_rfl) (by kernel_rfl) (fun _ _ _ h => h) (Or.inr ⟨by rfl, rfl⟩) (by assumption) ?_
    try simp only [List.getElem_toArray, List.getElem_cons_succ, List.getElem_cons_zero, Act.put, List.setIfInBounds_toArray, List.set_cons_zero, List.set_cons_succ]
    refine wpAnyH_take (i := 29) (v := .bool true) rfl (by kernel_rfl) (by kernel_rfl) (by kernel_rfl) (fun _ _ _ h => h) (Or.inl ⟨by rfl, ?_⟩) (by assumption) ?_
    · intro w hSw; go_simp
    try simp only [List.getElem_toArray, List.getElem_cons_succ, List.getElem_cons_zero, Act.put, List.setIfInBounds_toArray, List.set_cons_zero, List.set_cons_succ]
    refine wpAnyH_done (by kernel_rfl) ?_ _
    have TB := Lib.hid hH1.2.2.2.2.2.2.2.2.b
    clear hH0 hH1 hb
    go_wp2_with fail
    go_ret
    have hr : R = false := by rw [← HR.out]; simp []
    rw [hr]
    exact ⟨rfl, TB.out⟩
  cases mt
  · refine wp_region_held_drew (S := (fun W => W.cell? ⟨w.heap.size, 0, none⟩ = some (.int .u8 (kind : Int)) ∧ W.cell? ⟨w.heap.size, 1, none⟩ = some (.int .i64 c) ∧ W.cell? ⟨w.heap.size, 2, none⟩ = some (.int .i64 e) ∧ W.cell? ⟨w.heap.size, 3, none⟩ = some (.int .i64 s) ∧ W.cell? ⟨w.heap.size, 4, none⟩ = some (.int .i64 org) ∧ W.cell? ⟨w.heap.size, 5, none⟩ = some (.bool yes) ∧ W.cell? ⟨w.heap.size, 6, none⟩ = some (.int .u8 (orgs : Int)) ∧ W.cell? ⟨hb, 0, none⟩ = some (.int .u8 (bad : Int)) ∧ Rbm w w.heap.size hb kind c e s org yes orgs bad W)) (by kernel_rfl) (T0.out.draw).s (fun hH0 => ?_)
    refine wpAnyH_take (i := 0) (v := .pointer (some ⟨w.heap.size, 0, none⟩)) rfl (by kernel_rfl) (by kernel_rfl) (by kernel_rfl) (fun _ _ _ h => h) (Or.inl ⟨by rfl, ?_⟩) (by assumption) ?_
    · intro w hSw; go_simp
    try simp only [List.getElem_toArray, List.getElem_cons_succ, List.getElem_cons_zero, Act.put, List.setIfInBounds_toArray, List.set_cons_zero, List.set_cons_succ]
    refine wpAnyH_take (i := 1) (v := .int .u8 (kind : Int)) rfl (by kernel_rfl) (by kernel_rfl) (by kernel_rfl) (fun _ _ _ h => h) (Or.inl ⟨by rfl, ?_⟩) (by assumption) ?_
    · intro w hSw; go_simp
    try simp only [List.getElem_toArray, List.getElem_cons_succ, List.getElem_cons_zero, Act.put, List.setIfInBounds_toArray, List.set_cons_zero, List.set_cons_succ]
    refine wpAnyH_take (i := 2) (v := .bool false) rfl (by kernel_rfl) (by kernel_rfl) (by kernel_rfl) (fun _ _ _ h => h) (Or.inl ⟨by rfl, ?_⟩) (by assumption) ?_
    · intro w hSw; go_simp
    try simp only [List.getElem_toArray, List.getElem_cons_succ, List.getElem_cons_zero, Act.put, List.setIfInBounds_toArray, List.set_cons_zero, List.set_cons_succ]
    refine wpAnyH_take (i := 3) (v := .bool false) rfl (by kernel_rfl) (by kernel_rfl) (by kernel_rfl) (fun _ _ _ h => h) (Or.inl ⟨by rfl, ?_⟩) (by assumption) ?_
    · intro w hSw; go_simp
    try simp only [List.getElem_toArray, List.getElem_cons_succ, List.getElem_cons_zero, Act.put, List.setIfInBounds_toArray, List.set_cons_zero, List.set_cons_succ]
    refine wpAnyH_take (i := 4) (v := .pointer (some ⟨w.heap.size, 0, none⟩)) rfl (by kernel_rfl) (by kernel_rfl) (by kernel_rfl) (fun _ _ _ h => h) (Or.inl ⟨by rfl, ?_⟩) (by assumption) ?_
    · intro w hSw; go_simp
    try simp only [List.getElem_toArray, List.getElem_cons_succ, List.getElem_cons_zero, Act.put, List.setIfInBounds_toArray, List.set_cons_zero, List.set_cons_succ]
    refine wpAnyH_take (i := 5) (v := .int .u8 (kind : Int)) rfl (by kernel_rfl) (by kernel_rfl) (by kernel_rfl) (fun _ _ _ h => h) (Or.inl ⟨by rfl, ?_⟩) (by assumption) ?_
    · intro w hSw; go_simp
    try simp only [List.getElem_toArray, List.getElem_cons_succ, List.getElem_cons_zero, Act.put, List.setIfInBounds_toArray, List.set_cons_zero, List.set_cons_succ]
    refine wpAnyH_take (i := 6) (v := .bool false) rfl (by kernel_rfl) (by kernel_rfl) (by kernel_rfl) (fun _ _ _ h => h) (Or.inl ⟨by rfl, ?_⟩) (by assumption) ?_
    · intro w hSw; go_simp
    try simp only [List.getElem_toArray, List.getElem_cons_succ, List.getElem_cons_zero, Act.put, List.setIfInBounds_toArray, List.set_cons_zero, List.set_cons_succ]
    refine wpAnyH_take (i := 7) (v := .bool false) rfl (by kernel_rfl) (by kernel_rfl) (by kernel_rfl) (fun _ _ _ h => h) (Or.inl ⟨by rfl, ?_⟩) (by assumption) ?_
    · intro w hSw; go_simp
    try simp only [List.getElem_toArray, List.getElem_cons_succ, List.getElem_cons_zero, Act.put, List.setIfInBounds_toArray, List.set_cons_zero, List.set_cons_succ]
    refine wpAnyH_take (i := 8) (v := .bool false) rfl (by kernel_rfl) (by kernel_rfl) (by kernel_rfl) (fun _ _ _ h => h) (Or.inl ⟨by rfl, ?_⟩) (by assumption) ?_
    · intro w hSw; go_simp
    try simp only [List.getElem_toArray, List.getElem_cons_succ, List.getElem_cons_zero, Act.put, List.setIfInBounds_toArray, List.set_cons_zero, List.set_cons_succ]
    refine wpAnyH_take (i := 9) (v := .agg #[.int .u8 (kind : Int), .int .i64 c, .int .i64 e, .int .i64 s, .int .i64 org, .bool yes, .int .u8 (orgs : Int)]) rfl (by kernel_rfl) (by kernel_rfl) (by kernel_rfl) (fun _ _ _ h => h) (Or.inl ⟨by rfl, ?_⟩) (by assumption) ?_
    · intro w hSw; go_simp
    try simp only [List.getElem_toArray, List.getElem_cons_succ, List.getElem_cons_zero, Act.put, List.setIfInBounds_toArray, List.set_cons_zero, List.set_cons_succ]
    refine wpAnyH_take (i := 10) (v := .agg #[.int .u8 (kind : Int), .int .i64 c, .int .i64 e, .int .i64 s, .int .i64 org, .bool yes, .int .u8 (orgs : Int)]) rfl (by kernel_rfl) (by kernel_rfl) (by kernel_rfl) (fun _ _ _ h => h) (Or.inl ⟨by rfl, ?_⟩) (by assumption) ?_
    · intro w hSw; go_simp
    try simp only [List.getElem_toArray, List.getElem_cons_succ, List.getElem_cons_zero, Act.put, List.setIfInBounds_toArray, List.set_cons_zero, List.set_cons_succ]
    refine wpAnyH_ready (rs := [11]) (by kernel_rfl) (by simp) (AllReadyH.cons rfl (fun K hK => ?_) AllReadyH.nil)
    go_simp
    refine (CB.out _).mono ?_
    rintro r w2 ⟨rfl, hb⟩
    refine hK.out _ _ (hH0.2.2.2.2.2.2.2.2.bel hb).s (fun hH1 => ?_)
    clear hK K
    try simp only [List.getElem_toArray, List.getElem_cons_succ, List.getElem_cons_zero, Act.put, List.setIfInBounds_toArray, List.set_cons_zero, List.set_cons_succ]
    refine wpAnyH_take (i := 12) (v := .bool false) rfl (by kernel_rfl) (by kernel_rfl) (by kernel_rfl) (fun _ _ _ h => h) (Or.inl ⟨by rfl, ?_⟩) (by assumption) ?_
    · intro w hSw; first | exact hne _ | (go_simp; done) | simp [hne]
    try simp only [List.getElem_toArray, List.getElem_cons_succ, List.getElem_cons_zero, Act.put, List.setIfInBounds_toArray, List.set_cons_zero, List.set_cons_succ]
    refine wpAnyH_take (i := 13) (v := .bool false) rfl (by kernel_rfl) (by kernel_rfl) (by kernel_rfl) (fun _ _ _ h => h) (Or.inl ⟨by rfl, ?_⟩) (by assumption) ?_
    · intro w hSw; go_simp
    try simp only [List.getElem_toArray, List.getElem_cons_succ, List.getElem_cons_zero, Act.put, List.setIfInBounds_toArray, List.set_cons_zero, List.set_cons_succ]
    refine wpAnyH_take (i := 14) (v := .bool false) rfl (by kernel_rfl) (by kernel_rfl) (by kernel_rfl) (fun _ _ _ h => h) (Or.inl ⟨by rfl, ?_⟩) (by assumption) ?_
    · intro w hSw; go_simp
    try simp only [List.getElem_toArray, List.getElem_cons_succ, List.getElem_cons_zero, Act.put, List.setIfInBounds_toArray, List.set_cons_zero, List.set_cons_succ]
    refine wpAnyH_take (i := 15) (v := .pointer (some ⟨w.heap.size, 1, none⟩)) rfl (by kernel_rfl) (by kernel_rfl) (by kernel_rfl) (fun _ _ _ h => h) (Or.inl ⟨by rfl, ?_⟩) (by assumption) ?_
    · intro w hSw; go_simp
    try simp only [List.getElem_toArray, List.getElem_cons_succ, List.getElem_cons_zero, Act.put, List.setIfInBounds_toArray, List.set_cons_zero, List.set_cons_succ]
    refine wpAnyH_take (i := 16) (v := .agg #[.int .i64 c, .int .i64 e, .int .i64 s]) rfl (by kernel_rfl) (by kernel_rfl) (by kernel_rfl) (fun _ _ _ h => h) (Or.inl ⟨by rfl, ?_⟩) (by assumption) ?_
    · intro w hSw; go_simp
    try simp only [List.getElem_toArray, List.getElem_cons_succ, List.getElem_cons_zero, Act.put, List.setIfInBounds_toArray, List.set_cons_zero, List.set_cons_succ]
    refine wpAnyH_ready (rs := [17]) (by kernel_rfl) (by simp) (AllReadyH.cons rfl (fun K hK => ?_) AllReadyH.nil)
    go_simp
    refine (CM.out _).mono ?_
    rintro r w23 ⟨rfl, hb3⟩
    refine hK.out _ _ (hH1.2.2.2.2.2.2.2.2.bel hb3).s (fun hH3 => ?_)
    clear hK K
    try simp only [List.getElem_toArray, List.getElem_cons_succ, List.getElem_cons_zero, Act.put, List.setIfInBounds_toArray, List.set_cons_zero, List.set_cons_succ]
    refine wpAnyH_take (i := 18) (v := .bool true) rfl (by kernel_rfl) (by kernel_rfl) (by kernel_rfl) (fun _ _ _ h => h) (Or.inl ⟨by rfl, ?_⟩) (by assumption) ?_
    · intro w hSw; go_simp
    try simp only [List.getElem_toArray, List.getElem_cons_succ, List.getElem_cons_zero, Act.put, List.setIfInBounds_toArray, List.set_cons_zero, List.set_cons_succ]
    refine wpAnyH_take (i := 19) (v := .bool true) rfl (by kernel_rfl) (by kernel_rfl) (by kernel_rfl) (fun _ _ _ h => h) (Or.inl ⟨by rfl, ?_⟩) (by assumption) ?_
    · intro w hSw; go_simp
    try simp only [List.getElem_toArray, List.getElem_cons_succ, List.getElem_cons_zero, Act.put, List.setIfInBounds_toArray, List.set_cons_zero, List.set_cons_succ]
    refine wpAnyH_take (i := 20) (v := .bool true) rfl (by kernel_rfl) (by kernel_rfl) (by kernel_rfl) (fun _ _ _ h => h) (Or.inl ⟨by rfl, ?_⟩) (by assumption) ?_
    · intro w hSw; go_simp
    try simp only [List.getElem_toArray, List.getElem_cons_succ, List.getElem_cons_zero, Act.put, List.setIfInBounds_toArray, List.set_cons_zero, List.set_cons_succ]
    refine wpAnyH_take (i := 21) (v := undef) rfl (by kernel_rfl) (by kernel_rfl) (by kernel_rfl) (fun _ _ _ h => h) (Or.inr ⟨by rfl, rfl⟩) (by assumption) ?_
    try simp only [List.getElem_toArray, List.getElem_cons_succ, List.getElem_cons_zero, Act.put, List.setIfInBounds_toArray, List.set_cons_zero, List.set_cons_succ]
    refine wpAnyH_take (i := 22) (v := undef) rfl (by kernel_rfl) (by kernel_rfl) (by kernel_rfl) (fun _ _ _ h => h) (Or.inr ⟨by rfl, rfl⟩) (by assumption) ?_
    try simp only [List.getElem_toArray, List.getElem_cons_succ, List.getElem_cons_zero, Act.put, List.setIfInBounds_toArray, List.set_cons_zero, List.set_cons_succ]
    refine wpAnyH_take (i := 23) (v := undef) rfl (by kernel_rfl) (by kernel_rfl) (by kernel_rfl) (fun _ _ _ h => h) (Or.inr ⟨by rfl, rfl⟩) (by assumption) ?_
    try simp only [List.getElem_toArray, List.getElem_cons_succ, List.getElem_cons_zero, Act.put, List.setIfInBounds_toArray, List.set_cons_zero, List.set_cons_succ]
    refine wpAnyH_take (i := 24) (v := undef) rfl (by kernel_rfl) (by kernel_rfl) (by kernel_rfl) (fun _ _ _ h => h) (Or.inr ⟨by rfl, rfl⟩) (by assumption) ?_
    try simp only [List.getElem_toArray, List.getElem_cons_succ, List.getElem_cons_zero, Act.put, List.setIfInBounds_toArray, List.set_cons_zero, List.set_cons_succ]
    refine wpAnyH_take (i := 25) (v := undef) rfl (by kernel_rfl) (by kernel_rfl) (by kernel_rfl) (fun _ _ _ h => h) (Or.inr ⟨by rfl, rfl⟩) (by assumption) ?_
    try simp only [List.getElem_toArray, List.getElem_cons_succ, List.getElem_cons_zero, Act.put, List.setIfInBounds_toArray, List.set_cons_zero, List.set_cons_succ]
    refine wpAnyH_take (i := 26) (v := undef) rfl (by kernel_rfl) (by kernel_rfl) (by kernel_rfl) (fun _ _ _ h => h) (Or.inr ⟨by rfl, rfl⟩) (by assumption) ?_
    try simp only [List.getElem_toArray, List.getElem_cons_succ, List.getElem_cons_zero, Act.put, List.setIfInBounds_toArray, List.set_cons_zero, List.set_cons_succ]
    refine wpAnyH_take (i := 27) (v := undef) rfl (by kernel_rfl) (by kernel_rfl) (by kernel_rfl) (fun _ _ _ h => h) (Or.inr ⟨by rfl, rfl⟩) (by assumption) ?_
    try simp only [List.getElem_toArray, List.getElem_cons_succ, List.getElem_cons_zero, Act.put, List.setIfInBounds_toArray, List.set_cons_zero, List.set_cons_succ]
    refine wpAnyH_take (i := 28) (v := undef) rfl (by kernel_rfl) (by kernel_rfl) (by kernel_rfl) (fun _ _ _ h => h) (Or.inr ⟨by rfl, rfl⟩) (by assumption) ?_
    try simp only [List.getElem_toArray, List.getElem_cons_succ, List.getElem_cons_zero, Act.put, List.setIfInBounds_toArray, List.set_cons_zero, List.set_cons_succ]
    refine wpAnyH_take (i := 29) (v := .bool true) rfl (by kernel_rfl) (by kernel_rfl) (by kernel_rfl) (fun _ _ _ h => h) (Or.inl ⟨by rfl, ?_⟩) (by assumption) ?_
    · intro w hSw; go_simp
    try simp only [List.getElem_toArray, List.getElem_cons_succ, List.getElem_cons_zero, Act.put, List.setIfInBounds_toArray, List.set_cons_zero, List.set_cons_succ]
    refine wpAnyH_done (by kernel_rfl) ?_ _
    have TB := Lib.hid hH3.2.2.2.2.2.2.2.2.b
    clear hH0 hH1 hH3 hb hb3
    go_wp2_with fail
    go_ret
    have hr : R = false := by rw [← HR.out]; simp []
    rw [hr]
    exact ⟨rfl, TB.out⟩
  cases ib
  rotate_left
  · go_region_held3 (fun W => W.cell? ⟨w.heap.size, 0, none⟩ = some (.int .u8 (kind : Int)) ∧ W.cell? ⟨w.heap.size, 1, none⟩ = some (.int .i64 c) ∧ W.cell? ⟨w.heap.size, 2, none⟩ = some (.int .i64 e) ∧ W.cell? ⟨w.heap.size, 3, none⟩ = some (.int .i64 s) ∧ W.cell? ⟨w.heap.size, 4, none⟩ = some (.int .i64 org) ∧ W.cell? ⟨w.heap.size, 5, none⟩ = some (.bool yes) ∧ W.cell? ⟨w.heap.size, 6, none⟩ = some (.int .u8 (orgs : Int)) ∧ W.cell? ⟨hb, 0, none⟩ = some (.int .u8 (bad : Int)) ∧ Rbm w w.heap.size hb kind c e s org yes orgs bad W)
      (first | assumption | exact (T0.out.draw).s | exact ((by assumption : _ ∧ _ ∧ _ ∧ _ ∧ _ ∧ _ ∧ _ ∧ _ ∧ Rbm w w.heap.size hb kind c e s org yes orgs bad _).2.2.2.2.2.2.2.2.bel hx).s)
      (first | (go_at_call 42; (with_reducible refine (CB.out _).mono ?_); rintro r w2 ⟨rfl, hx⟩) | (go_at_call 43; (with_reducible refine (CM.out _).mono ?_); rintro r w3 ⟨rfl, hx⟩) | (go_at_call 29; (with_reducible refine (CI.out _).mono ?_); rintro r w4 ⟨rfl, rfl⟩))
    rename_i hS
    have TB := Lib.hid hS.2.2.2.2.2.2.2.2.b
    clear hS
    go_wp2_with fail
    go_ret
    have hr : R = false := by rw [← HR.out]; simp []
    rw [hr]
    exact ⟨rfl, TB.out⟩
  go_region_held3 (fun W => W.cell? ⟨w.heap.size, 0, none⟩ = some (.int .u8 (kind : Int)) ∧ W.cell? ⟨w.heap.size, 1, none⟩ = some (.int .i64 c) ∧ W.cell? ⟨w.heap.size, 2, none⟩ = some (.int .i64 e) ∧ W.cell? ⟨w.heap.size, 3, none⟩ = some (.int .i64 s) ∧ W.cell? ⟨w.heap.size, 4, none⟩ = some (.int .i64 org) ∧ W.cell? ⟨w.heap.size, 5, none⟩ = some (.bool yes) ∧ W.cell? ⟨w.heap.size, 6, none⟩ = some (.int .u8 (orgs : Int)) ∧ W.cell? ⟨hb, 0, none⟩ = some (.int .u8 (bad : Int)) ∧ Rbm w w.heap.size hb kind c e s org yes orgs bad W)
      (first | assumption | exact (T0.out.draw).s | exact ((by assumption : _ ∧ _ ∧ _ ∧ _ ∧ _ ∧ _ ∧ _ ∧ _ ∧ Rbm w w.heap.size hb kind c e s org yes orgs bad _).2.2.2.2.2.2.2.2.bel hx).s)
      (first | (go_at_call 42; (with_reducible refine (CB.out _).mono ?_); rintro r w2 ⟨rfl, hx⟩) | (go_at_call 43; (with_reducible refine (CM.out _).mono ?_); rintro r w3 ⟨rfl, hx⟩) | (go_at_call 29; (with_reducible refine (CI.out _).mono ?_); rintro r w4 ⟨rfl, rfl⟩))
  rename_i hS
  have T2 := Lib.hid hS.2.2.2.2.2.2.2.2
  clear hS a0 a1 a2 a3 a4 a5 a6 g T0 TB
  rename_i w3 _ _
  obtain ⟨a0, a1, a2, a3, a4, a5, a6, g, b⟩ := T2.out
  have TB := Lib.hid b
  clear b CI CM CB T2 hne
  by_cases k1 : kind = 1
  · subst k1
    have HQ : Hid ((decide (1 ≤ n) && decide (n ≤ 6) && !io) = R) := by
      have h := HR.out
      show _ = R
      simpa using h
    clear HR
    by_cases n1 : n < 1
    · have e1 : decide (1 ≤ (n : Int)) = false := by simp; omega
      have e0 : decide (1 ≤ n) = false := by simp; omega
      clear n1
      go_wp2_with (first | (go_at_call 44; refine (CN.out _).mono ?_; rintro r w2 ⟨rfl, rfl⟩) | (go_at_call 29; refine (CJ.out _).mono ?_; rintro r w2 ⟨rfl, rfl⟩))
      go_ret
      exact ⟨by rw [← HQ.out]; simp [e0], TB.out⟩
    have e1 : decide (1 ≤ (n : Int)) = true := by simp; omega
    have e0 : decide (1 ≤ n) = true := by simp; omega
    clear n1
    by_cases n2 : 6 < n
    · have e2 : decide ((n : Int) ≤ 6) = false := by simp; omega
      have e3 : decide (n ≤ 6) = false := by simp; omega
      clear n2
      go_wp2_with (first | (go_at_call 44; refine (CN.out _).mono ?_; rintro r w2 ⟨rfl, rfl⟩) | (go_at_call 29; refine (CJ.out _).mono ?_; rintro r w2 ⟨rfl, rfl⟩))
      go_ret
      exact ⟨by rw [← HQ.out]; simp [e3], TB.out⟩
    have e2 : decide ((n : Int) ≤ 6) = true := by simp; omega
    have e3 : decide (n ≤ 6) = true := by simp; omega
    clear n2
    cases io
    · go_wp2_with (first | (go_at_call 44; refine (CN.out _).mono ?_; rintro r w2 ⟨rfl, rfl⟩) | (go_at_call 29; refine (CJ.out _).mono ?_; rintro r w2 ⟨rfl, rfl⟩))
      go_ret
      exact ⟨by rw [← HQ.out]; simp [e0, e3], TB.out⟩
    · go_wp2_with (first | (go_at_call 44; refine (CN.out _).mono ?_; rintro r w2 ⟨rfl, rfl⟩) | (go_at_call 29; refine (CJ.out _).mono ?_; rintro r w2 ⟨rfl, rfl⟩))
      go_ret
      exact ⟨by rw [← HQ.out]; simp [], TB.out⟩
  have k1' : ((kind : Int) == 1) = false := by simp; omega
  have HQ : Hid ((decide (kind = 3) || (ob && !i2 && decide (org ≠ c))) = R) := by
    have h := HR.out
    show _ = R
    rw [z1, z2, if_neg k1] at h
    simpa using h
  clear HR CN CJ
  go_upto_region 5 with (fail)
  by_cases k3 : kind = 3
  · subst k3
    go_quiet (fail)
    go_wp2_with fail
    go_ret
    exact ⟨by rw [← HQ.out]; simp, below_drewN TB.out _⟩
  have k3' : ((kind : Int) == 3) = false := by simp; omega
  have QR := Lib.hid (fun n => calls_quiet (CR.out (w3.drewN n)) ⟨n, rfl⟩)
  have QO := Lib.hid (fun n => calls_quiet (CO.out (w3.drewN n)) ⟨n, rfl⟩)
  clear CR CO
  cases ob
  · go_quiet (first | (go_at_call 45; with_reducible exact QR.out _))
    go_wp2_with fail
    go_ret
    exact ⟨by rw [← HQ.out]; simp [k3], below_drewN TB.out _⟩
  cases i2
  rotate_left
  · go_quiet (first | (go_at_call 45; with_reducible exact QR.out _) | (go_at_call 29; with_reducible exact QO.out _))
    go_wp2_with fail
    go_ret
    exact ⟨by rw [← HQ.out]; simp [k3], below_drewN TB.out _⟩
  by_cases g3 : org = c
  · subst g3
    go_quiet (first | (go_at_call 45; with_reducible exact QR.out _) | (go_at_call 29; with_reducible exact QO.out _))
    go_wp2_with fail
    go_ret
    exact ⟨by rw [← HQ.out]; simp [k3], below_drewN TB.out _⟩
  have f3 : (org != c) = true := by simpa using g3
  have HQ2 : Hid (R = true) := by
    have h := HQ.out
    show _ = _
    rw [← h]
    simp [g3]
  clear g3 HQ
  go_quiet (first | (go_at_call 45; with_reducible exact QR.out _) | (go_at_call 29; with_reducible exact QO.out _))
  go_wp2_with fail
  go_ret
  exact ⟨by rw [HQ2.out]; rfl, below_drewN TB.out _⟩
theorem rMayBe_any (hb bad : Nat) (a : Ac) (w : World) (hg : w.cell? ⟨hb, 0, none⟩ = some (.int .u8 (bad : Int))) (hbad : bad < 256) (horgs : a.orgs < 256) (hkind : a.kind < 256) :
    Calls Try.prog 28 #[.pointer (some ⟨hb, 0, none⟩), .agg a.cells.toArray] w fun r w' => r = .returned (.bool (mayR bad a)) ∧ Below w.heap.size w w' := by
  obtain ⟨kind, ⟨c, e, s⟩, org, yes, orgs⟩ := a
  exact rMayBe_walk hb bad kind c e s org yes orgs w hg hbad horgs hkind
end Go.Proofs.Ythdmjeoldnehcaa
