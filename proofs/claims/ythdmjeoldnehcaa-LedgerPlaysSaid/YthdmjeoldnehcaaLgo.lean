/- The walk of the ledger's mayBe. Condition: the ledger lies at the pointer. -/
import Derived.Test.YthdmjeoldnehcaaLgn
namespace Go.Proofs.Ythdmjeoldnehcaa
open Go.RowKit
set_option linter.unusedVariables false
set_option linter.unusedSimpArgs false

/-- What mayBe reads. -/
structure Mbm (w : World) (ab kb gb : Nat) (kind : Nat) (c e s org : Int) (yes : Bool) (orgs bad : Nat) (ko kg ky : Bool) (W : World) : Prop where
  a0 : W.cell? ⟨ab, 0, none⟩ = some (.int .u8 (kind : Int))
  a1 : W.cell? ⟨ab, 1, none⟩ = some (.int .i64 c)
  a2 : W.cell? ⟨ab, 2, none⟩ = some (.int .i64 e)
  a3 : W.cell? ⟨ab, 3, none⟩ = some (.int .i64 s)
  a4 : W.cell? ⟨ab, 4, none⟩ = some (.int .i64 org)
  a5 : W.cell? ⟨ab, 5, none⟩ = some (.bool yes)
  a6 : W.cell? ⟨ab, 6, none⟩ = some (.int .u8 (orgs : Int))
  k0 : W.cell? ⟨kb, 0, none⟩ = some (.bool ko)
  k1 : W.cell? ⟨kb, 1, none⟩ = some (.bool kg)
  k2 : W.cell? ⟨kb, 2, none⟩ = some (.bool ky)
  g : W.cell? ⟨gb, 0, none⟩ = some (.int .u8 (bad : Int))
  lt : ab < W.heap.size ∧ kb < W.heap.size ∧ gb < W.heap.size
  b : Below w.heap.size w W
theorem Mbm.bel {w : World} {ab kb gb kind : Nat} {c e s org : Int} {yes : Bool} {orgs bad : Nat} {ko kg ky : Bool} {W W' : World} (h : Mbm w ab kb gb kind c e s org yes orgs bad ko kg ky W) (hb : Below W.heap.size W W') : Mbm w ab kb gb kind c e s org yes orgs bad ko kg ky W' := by
  have e1 : ∀ j, W'.cell? ⟨ab, j, none⟩ = W.cell? ⟨ab, j, none⟩ := fun j => hb.cell (p := ⟨ab, j, none⟩) h.lt.1
  have e2 : ∀ j, W'.cell? ⟨kb, j, none⟩ = W.cell? ⟨kb, j, none⟩ := fun j => hb.cell (p := ⟨kb, j, none⟩) h.lt.2.1
  have e3 : ∀ j, W'.cell? ⟨gb, j, none⟩ = W.cell? ⟨gb, j, none⟩ := fun j => hb.cell (p := ⟨gb, j, none⟩) h.lt.2.2
  exact ⟨(e1 _).trans h.a0, (e1 _).trans h.a1, (e1 _).trans h.a2, (e1 _).trans h.a3, (e1 _).trans h.a4, (e1 _).trans h.a5, (e1 _).trans h.a6, (e2 _).trans h.k0, (e2 _).trans h.k1, (e2 _).trans h.k2, (e3 _).trans h.g,
    ⟨Nat.lt_of_lt_of_le h.lt.1 hb.size, Nat.lt_of_lt_of_le h.lt.2.1 hb.size, Nat.lt_of_lt_of_le h.lt.2.2 hb.size⟩, below_acc h.b hb⟩
theorem Mbm.draw {w : World} {ab kb gb kind : Nat} {c e s org : Int} {yes : Bool} {orgs bad : Nat} {ko kg ky : Bool} {W : World} (h : Mbm w ab kb gb kind c e s org yes orgs bad ko kg ky W) : Mbm w ab kb gb kind c e s org yes orgs bad ko kg ky W.drew := ⟨h.a0, h.a1, h.a2, h.a3, h.a4, h.a5, h.a6, h.k0, h.k1, h.k2, h.g, h.lt, h.b.drew⟩
def Mbs (w : World) (ab kb gb : Nat) (kind : Nat) (c e s org : Int) (yes : Bool) (orgs bad : Nat) (ko kg ky : Bool) (W : World) : Prop :=
  W.cell? ⟨ab, 1, none⟩ = some (.int .i64 c) ∧ W.cell? ⟨ab, 2, none⟩ = some (.int .i64 e) ∧ W.cell? ⟨ab, 3, none⟩ = some (.int .i64 s) ∧ W.cell? ⟨gb, 0, none⟩ = some (.int .u8 (bad : Int)) ∧ Mbm w ab kb gb kind c e s org yes orgs bad ko kg ky W
theorem Mbm.s {w : World} {ab kb gb kind : Nat} {c e s org : Int} {yes : Bool} {orgs bad : Nat} {ko kg ky : Bool} {W : World} (h : Mbm w ab kb gb kind c e s org yes orgs bad ko kg ky W) : W.cell? ⟨ab, 1, none⟩ = some (.int .i64 c) ∧ W.cell? ⟨ab, 2, none⟩ = some (.int .i64 e) ∧ W.cell? ⟨ab, 3, none⟩ = some (.int .i64 s) ∧ W.cell? ⟨gb, 0, none⟩ = some (.int .u8 (bad : Int)) ∧ Mbm w ab kb gb kind c e s org yes orgs bad ko kg ky W := ⟨h.a1, h.a2, h.a3, h.g, h⟩
theorem Mbm.new {w : World} {gb bad : Nat} (hg : w.cell? ⟨gb, 0, none⟩ = some (.int .u8 (bad : Int))) (kind : Nat) (c e s org : Int) (yes : Bool) (orgs : Nat) (ko kg ky : Bool) (x y : Value) :
    Mbm w w.heap.size (w.heap.size + 1) gb kind c e s org yes orgs bad ko kg ky ((w.alloc (.cells #[.int .u8 (kind : Int), .int .i64 c, .int .i64 e, .int .i64 s, .int .i64 org, .bool yes, .int .u8 (orgs : Int)] 35 (0, 0))).alloc (.cells #[.bool ko, .bool kg, .bool ky, x, y] 58 (0, 0))) := by
  have hlt : gb < w.heap.size := block_lt_of_cell hg
  have b0 := (Below.refl w.heap.size w).alloc (Nat.le_refl _) (.cells #[.int .u8 (kind : Int), .int .i64 c, .int .i64 e, .int .i64 s, .int .i64 org, .bool yes, .int .u8 (orgs : Int)] 35 (0, 0))
  have b1 := b0.alloc b0.size (.cells #[.bool ko, .bool kg, .bool ky, x, y] 58 (0, 0))
  have h0 := (Below.heap_alloc (w.alloc (.cells #[.int .u8 (kind : Int), .int .i64 c, .int .i64 e, .int .i64 s, .int .i64 org, .bool yes, .int .u8 (orgs : Int)] 35 (0, 0))) (.cells #[.bool ko, .bool kg, .bool ky, x, y] 58 (0, 0)) w.heap.size (by simp)).trans (heap_alloc_new w (.cells #[.int .u8 (kind : Int), .int .i64 c, .int .i64 e, .int .i64 s, .int .i64 org, .bool yes, .int .u8 (orgs : Int)] 35 (0, 0)))
  have h1 := heap_alloc_new (w.alloc (.cells #[.int .u8 (kind : Int), .int .i64 c, .int .i64 e, .int .i64 s, .int .i64 org, .bool yes, .int .u8 (orgs : Int)] 35 (0, 0))) (.cells #[.bool ko, .bool kg, .bool ky, x, y] 58 (0, 0))
  rw [World.size_alloc] at h1
  exact ⟨cell_of_row _ _ 0 _ _ (0, 0) h0, cell_of_row _ _ 1 _ _ (0, 0) h0, cell_of_row _ _ 2 _ _ (0, 0) h0, cell_of_row _ _ 3 _ _ (0, 0) h0, cell_of_row _ _ 4 _ _ (0, 0) h0, cell_of_row _ _ 5 _ _ (0, 0) h0, cell_of_row _ _ 6 _ _ (0, 0) h0,
    cell_of_row _ _ 0 _ _ (0, 0) h1, cell_of_row _ _ 1 _ _ (0, 0) h1, cell_of_row _ _ 2 _ _ (0, 0) h1, (b1.cell (p := ⟨gb, 0, none⟩) hlt).trans hg, ⟨by simp; omega, by simp, by simp; omega⟩, b1⟩

set_option maxHeartbeats 8000000 in
theorem mayBe_1 (gb bad kind : Nat) (c e s org : Int) (yes : Bool) (orgs : Nat) (x y : Value) (w : World) (hg : w.cell? ⟨gb, 0, none⟩ = some (.int .u8 (bad : Int))) (hbad : bad < 256) (horgs : orgs < 256) :
    Calls Try.prog 26 #[.pointer (some ⟨gb, 0, none⟩), .agg #[.int .u8 (kind : Int), .int .i64 c, .int .i64 e, .int .i64 s, .int .i64 org, .bool yes, .int .u8 (orgs : Int)], .agg #[.bool true, .bool false, .bool false, x, y]] w
      fun r w' => r = .returned (.bool (mayTx ⟨c, e, s⟩ && !inS bad c && (decide (1 ≤ ones orgs) && decide (ones orgs ≤ 6) && !inS orgs c && decide (org = 0) && !yes))) ∧ Below w.heap.size w w' := by
  have T0 := Lib.hid (Mbm.new hg kind c e s org yes orgs true false false x y)
  have CN := Lib.hid (fun W => ones_any orgs horgs W)
  have CM : Hid (∀ W, Calls Try.prog 40 #[.agg #[.int .i64 c, .int .i64 e, .int .i64 s]] W fun r w' => r = .returned (.bool (mayTx ⟨c, e, s⟩)) ∧ Below W.heap.size W w') := fun W => (mayTxn_any ⟨c, e, s⟩ W).mono fun r w' ⟨h1, h2⟩ => ⟨h1, by rw [h2]; exact (Below.refl _ W).alloc (Nat.le_refl _) _⟩
  have HC : Hid (mayTx ⟨c, e, s⟩ = true → 0 ≤ c ∧ c < 8) := fun h => by
    unfold mayTx orgB at h
    simp only [Bool.and_eq_true, decide_eq_true_eq] at h
    exact h.1
  have CI : Hid (0 ≤ c ∧ c < 8 → ∀ W, Calls Try.prog 41 #[.int .u8 (bad : Int), .int .i64 c] W fun e w' => e = .returned (.bool (inS bad c)) ∧ W = w') := fun hc W => in_any bad hbad c hc.1 (by omega) W
  have CJ : Hid (0 ≤ c ∧ c < 8 → ∀ W, Calls Try.prog 41 #[.int .u8 (orgs : Int), .int .i64 c] W fun e w' => e = .returned (.bool (inS orgs c)) ∧ W = w') := fun hc W => in_any orgs horgs c hc.1 (by omega) W
  have CO : Hid (0 ≤ org ∧ org < 8 → ∀ W, Calls Try.prog 41 #[.int .u8 (bad : Int), .int .i64 org] W fun e w' => e = .returned (.bool (inS bad org)) ∧ W = w') := fun hc W => in_any bad hbad org hc.1 (by omega) W
  clear hg
  generalize hmt : mayTx ⟨c, e, s⟩ = mt at CM HC ⊢
  generalize hn : ones orgs = n at CN ⊢
  generalize hib : inS bad c = ib at CI ⊢
  generalize hio : inS orgs c = io at CJ ⊢
  generalize hi2 : inS bad org = i2 at CO ⊢
  generalize hR : (mt && !ib && (decide (1 ≤ n) && decide (n ≤ 6) && !io && decide (org = 0) && !yes)) = R
  have HR := Lib.hid hR
  clear hR hmt hn hib hio hi2
  go_enter Try.func26, Try.ntmps26
  go_upto_region 1 with (fail)
  generalize ((w.alloc (.cells #[.int .u8 (kind : Int), .int .i64 c, .int .i64 e, .int .i64 s, .int .i64 org, .bool yes, .int .u8 (orgs : Int)] 35 (0, 0))).alloc (.cells #[.bool true, .bool false, .bool false, x, y] 58 (0, 0))) = w1 at T0 ⊢
  generalize w.heap.size + 1 = kb at T0 ⊢
  obtain ⟨a0, a1, a2, a3, a4, a5, a6, k0, k1, k2, g, lt, b⟩ := T0.out
  clear lt b
  go_upto_region 2 with (go_at_call 39; refine (CN.out _).mono ?_; rintro r w2 ⟨rfl, rfl⟩)
  cases mt
  · refine wp_region_held_drew (S := (fun W => W.cell? ⟨w.heap.size, 1, none⟩ = some (.int .i64 c) ∧ W.cell? ⟨w.heap.size, 2, none⟩ = some (.int .i64 e) ∧ W.cell? ⟨w.heap.size, 3, none⟩ = some (.int .i64 s) ∧ W.cell? ⟨gb, 0, none⟩ = some (.int .u8 (bad : Int)) ∧ Mbm w w.heap.size kb gb kind c e s org yes orgs bad true false false W)) (by kernel_rfl) (T0.out.draw).s (fun hH0 => ?_)
    refine wpAnyH_take (i := 0) (v := .pointer (some ⟨w.heap.size, 1, none⟩)) rfl (by kernel_rfl) (by kernel_rfl) (by kernel_rfl) (fun _ _ _ h => h) (Or.inl ⟨by rfl, ?_⟩) (by assumption) ?_
    · intro w hSw; go_simp
    try simp only [List.getElem_toArray, List.getElem_cons_succ, List.getElem_cons_zero, Act.put, List.setIfInBounds_toArray, List.set_cons_zero, List.set_cons_succ]
    refine wpAnyH_take (i := 1) (v := .agg #[.int .i64 c, .int .i64 e, .int .i64 s]) rfl (by kernel_rfl) (by kernel_rfl) (by kernel_rfl) (fun _ _ _ h => h) (Or.inl ⟨by rfl, ?_⟩) (by assumption) ?_
    · intro w hSw; go_simp
    try simp only [List.getElem_toArray, List.getElem_cons_succ, List.getElem_cons_zero, Act.put, List.setIfInBounds_toArray, List.set_cons_zero, List.set_cons_succ]
    refine wpAnyH_ready (rs := [2]) (by kernel_rfl) (by simp) (AllReadyH.cons rfl (fun K hK => ?_) AllReadyH.nil)
    go_simp
    refine (CM.out _).mono ?_
    rintro r w2 ⟨rfl, hb⟩
    refine hK.out _ _ (hH0.2.2.2.2.bel hb).s (fun hH1 => ?_)
    clear hK K
    try simp only [List.getElem_toArray, List.getElem_cons_succ, List.getElem_cons_zero, Act.put, List.setIfInBounds_toArray, List.set_cons_zero, List.set_cons_succ]
    refine wpAnyH_take (i := 3) (v := .bool true) rfl (by kernel_rfl) (by kernel_rfl) (by kernel_rfl) (fun _ _ _ h => h) (Or.inl ⟨by rfl, ?_⟩) (by assumption) ?_
    · intro w hSw; go_simp
    try simp only [List.getElem_toArray, List.getElem_cons_succ, List.getElem_cons_zero, Act.put, List.setIfInBounds_toArray, List.set_cons_zero, List.set_cons_succ]
    refine wpAnyH_take (i := 4) (v := .bool true) rfl (by kernel_rfl) (by kernel_rfl) (by kernel_rfl) (fun _ _ _ h => h) (Or.inl ⟨by rfl, ?_⟩) (by assumption) ?_
    · intro w hSw; go_simp
    try simp only [List.getElem_toArray, List.getElem_cons_succ, List.getElem_cons_zero, Act.put, List.setIfInBounds_toArray, List.set_cons_zero, List.set_cons_succ]
    refine wpAnyH_take (i := 5) (v := undef) rfl (by kernel_rfl) (by kernel_rfl) (by kernel_rfl) (fun _ _ _ h => h) (Or.inr ⟨by rfl, rfl⟩) (by assumption) ?_
    try simp only [List.getElem_toArray, List.getElem_cons_succ, List.getElem_cons_zero, Act.put, List.setIfInBounds_toArray, List.set_cons_zero, List.set_cons_succ]
    refine wpAnyH_take (i := 6) (v := undef) rfl (by kernel_rfl) (by kernel_rfl) (by kernel_rfl) (fun _ _ _ h => h) (Or.inr ⟨by rfl, rfl⟩) (by assumption) ?_
    try simp only [List.getElem_toArray, List.getElem_cons_succ, List.getElem_cons_zero, Act.put, List.setIfInBounds_toArray, List.set_cons_zero, List.set_cons_succ]
    refine wpAnyH_take (i := 7) (v := undef) rfl (by kernel_rfl) (by kernel_rfl) (by kernel_rfl) (fun _ _ _ h => h) (Or.inr ⟨by rfl, rfl⟩) (by assumption) ?_
    try simp only [List.getElem_toArray, List.getElem_cons_succ, List.getElem_cons_zero, Act.put, List.setIfInBounds_toArray, List.set_cons_zero, List.set_cons_succ]
    refine wpAnyH_take (i := 8) (v := undef) rfl (by kernel_rfl) (by kernel_rfl) (by kernel_rfl) (fun _ _ _ h => h) (Or.inr ⟨by rfl, rfl⟩) (by assumption) ?_
    try simp only [List.getElem_toArray, List.getElem_cons_succ, List.getElem_cons_zero, Act.put, List.setIfInBounds_toArray, List.set_cons_zero, List.set_cons_succ]
    refine wpAnyH_take (i := 9) (v := undef) rfl (by kernel_rfl) (by kernel_rfl) (by kernel_rfl) (fun _ _ _ h => h) (Or.inr ⟨by rfl, rfl⟩) (by assumption) ?_
    try simp only [List.getElem_toArray, List.getElem_cons_succ, List.getElem_cons_zero, Act.put, List.setIfInBounds_toArray, List.set_cons_zero, List.set_cons_succ]
    refine wpAnyH_take (i := 10) (v := undef) rfl (by kernel_rfl) (by kernel_rfl) (by kernel_rfl) (fun _ _ _ h => h) (Or.inr ⟨by rfl, rfl⟩) (by assumption) ?_
    try simp only [List.getElem_toArray, List.getElem_cons_succ, List.getElem_cons_zero, Act.put, List.setIfInBounds_toArray, List.set_cons_zero, List.set_cons_succ]
    refine wpAnyH_take (i := 11) (v := undef) rfl (by kernel_rfl) (by kernel_rfl) (by kernel_rfl) (fun _ _ _ h => h) (Or.inr ⟨by rfl, rfl⟩) (by assumption) ?_
    try simp only [List.getElem_toArray, List.getElem_cons_succ, List.getElem_cons_zero, Act.put, List.setIfInBounds_toArray, List.set_cons_zero, List.set_cons_succ]
    refine wpAnyH_take (i := 12) (v := undef) rfl (by kernel_rfl) (by kernel_rfl) (by kernel_rfl) (fun _ _ _ h => h) (Or.inr ⟨by rfl, rfl⟩) (by assumption) ?_
    try simp only [List.getElem_toArray, List.getElem_cons_succ, List.getElem_cons_zero, Act.put, List.setIfInBounds_toArray, List.set_cons_zero, List.set_cons_succ]
    refine wpAnyH_take (i := 13) (v := .bool true) rfl (by kernel_rfl) (by kernel_rfl) (by kernel_rfl) (fun _ _ _ h => h) (Or.inl ⟨by rfl, ?_⟩) (by assumption) ?_
    · intro w hSw; go_simp
    try simp only [List.getElem_toArray, List.getElem_cons_succ, List.getElem_cons_zero, Act.put, List.setIfInBounds_toArray, List.set_cons_zero, List.set_cons_succ]
    refine wpAnyH_take (i := 14) (v := .bool true) rfl (by kernel_rfl) (by kernel_rfl) (by kernel_rfl) (fun _ _ _ h => h) (Or.inl ⟨by rfl, ?_⟩) (by assumption) ?_
    · intro w hSw; go_simp
    try simp only [List.getElem_toArray, List.getElem_cons_succ, List.getElem_cons_zero, Act.put, List.setIfInBounds_toArray, List.set_cons_zero, List.set_cons_succ]
    refine wpAnyH_done (by kernel_rfl) ?_ _
    have TB := Lib.hid hH1.2.2.2.2.b
    clear hH0 hH1 hb
    go_wp2_with fail
    go_ret
    have hr : R = false := by rw [← HR.out]; simp []
    rw [hr]
    exact ⟨rfl, TB.out⟩
  have hc := HC.out rfl
  have CI2 := Lib.hid (CI.out hc)
  have CJ2 := Lib.hid (CJ.out hc)
  clear CI CJ HC
  cases ib
  rotate_left
  · go_region_held3 (fun W => W.cell? ⟨w.heap.size, 1, none⟩ = some (.int .i64 c) ∧ W.cell? ⟨w.heap.size, 2, none⟩ = some (.int .i64 e) ∧ W.cell? ⟨w.heap.size, 3, none⟩ = some (.int .i64 s) ∧ W.cell? ⟨gb, 0, none⟩ = some (.int .u8 (bad : Int)) ∧ Mbm w w.heap.size kb gb kind c e s org yes orgs bad true false false W)
      (first | assumption | exact (T0.out.draw).s | exact ((by assumption : _ ∧ _ ∧ _ ∧ _ ∧ Mbm w w.heap.size kb gb kind c e s org yes orgs bad true false false _).2.2.2.2.bel hb).s)
      (first | (go_at_call 40; (with_reducible refine (CM.out _).mono ?_); rintro r w2 ⟨rfl, hb⟩) | (go_at_call 41; (with_reducible refine (CI2.out _).mono ?_); rintro r w2 ⟨rfl, rfl⟩))
    rename_i hS
    have TB := Lib.hid hS.2.2.2.2.b
    clear hS
    go_wp2_with fail
    go_ret
    have hr : R = false := by rw [← HR.out]; simp []
    rw [hr]
    exact ⟨rfl, TB.out⟩
  go_region_held3 (fun W => W.cell? ⟨w.heap.size, 1, none⟩ = some (.int .i64 c) ∧ W.cell? ⟨w.heap.size, 2, none⟩ = some (.int .i64 e) ∧ W.cell? ⟨w.heap.size, 3, none⟩ = some (.int .i64 s) ∧ W.cell? ⟨gb, 0, none⟩ = some (.int .u8 (bad : Int)) ∧ Mbm w w.heap.size kb gb kind c e s org yes orgs bad true false false W)
      (first | assumption | exact (T0.out.draw).s | exact ((by assumption : _ ∧ _ ∧ _ ∧ _ ∧ Mbm w w.heap.size kb gb kind c e s org yes orgs bad true false false _).2.2.2.2.bel hb).s)
      (first | (go_at_call 40; (with_reducible refine (CM.out _).mono ?_); rintro r w2 ⟨rfl, hb⟩) | (go_at_call 41; (with_reducible refine (CI2.out _).mono ?_); rintro r w2 ⟨rfl, rfl⟩))
  rename_i hS
  have T2 := Lib.hid hS.2.2.2.2
  clear hS a0 a1 a2 a3 a4 a5 a6 k0 k1 k2 g T0
  rename_i w3 _ _
  obtain ⟨a0, a1, a2, a3, a4, a5, a6, k0, k1, k2, g, lt, b⟩ := T2.out
  have TB := Lib.hid b
  clear lt b CI2 CM T2
  cases yes
  rotate_left
  · go_wp2_with fail
    go_ret
    have hr : R = false := by rw [← HR.out]; simp []
    rw [hr]
    exact ⟨rfl, TB.out⟩
  by_cases n1 : n < 1
  · have e1 : decide ((n : Int) < 1) = true := by simp; omega
    have e0 : decide (1 ≤ n) = false := by simp; omega
    go_wp2_with fail
    go_ret
    have hr : R = false := by rw [← HR.out]; simp [e0]
    rw [hr]
    exact ⟨rfl, TB.out⟩
  have e1 : decide ((n : Int) < 1) = false := by simp; omega
  have e0 : decide (1 ≤ n) = true := by simp; omega
  by_cases n2 : 6 < n
  · have e2 : decide (6 < (n : Int)) = true := by simp; omega
    have e3 : decide (n ≤ 6) = false := by simp; omega
    go_wp2_with fail
    go_ret
    have hr : R = false := by rw [← HR.out]; simp [e3]
    rw [hr]
    exact ⟨rfl, TB.out⟩
  have e2 : decide (6 < (n : Int)) = false := by simp; omega
  have e3 : decide (n ≤ 6) = true := by simp; omega
  cases io
  rotate_left
  · go_wp2_with (go_at_call 41; refine (CJ2.out _).mono ?_; rintro r w2 ⟨rfl, rfl⟩)
    go_ret
    have hr : R = false := by rw [← HR.out]; simp []
    rw [hr]
    exact ⟨rfl, TB.out⟩
  by_cases g1 : org = 0
  · have f1 : (org != 0) = false := by simpa using g1
    have f0 : decide (org = 0) = true := by simpa using g1
    go_upto_region 5 with (go_at_call 41; refine (CJ2.out _).mono ?_; rintro r w2 ⟨rfl, rfl⟩)
    go_quiet (fail)
    go_wp2_with fail
    go_ret
    have hr : R = true := by rw [← HR.out]; simp [e0, e3, f0]
    rw [hr]
    exact ⟨rfl, below_drewN TB.out _⟩
  · have f1 : (org != 0) = true := by simpa using g1
    have f0 : decide (org = 0) = false := by simpa using g1
    go_upto_region 5 with (go_at_call 41; refine (CJ2.out _).mono ?_; rintro r w2 ⟨rfl, rfl⟩)
    go_quiet (fail)
    go_wp2_with fail
    go_ret
    have hr : R = false := by rw [← HR.out]; simp [e0, e3, f0]
    rw [hr]
    exact ⟨rfl, below_drewN TB.out _⟩

set_option maxHeartbeats 8000000 in
theorem mayBe_3 (gb bad kind : Nat) (c e s org : Int) (yes : Bool) (orgs : Nat) (x y : Value) (w : World) (hg : w.cell? ⟨gb, 0, none⟩ = some (.int .u8 (bad : Int))) (hbad : bad < 256) (horgs : orgs < 256) :
    Calls Try.prog 26 #[.pointer (some ⟨gb, 0, none⟩), .agg #[.int .u8 (kind : Int), .int .i64 c, .int .i64 e, .int .i64 s, .int .i64 org, .bool yes, .int .u8 (orgs : Int)], .agg #[.bool false, .bool false, .bool true, x, y]] w
      fun r w' => r = .returned (.bool (mayTx ⟨c, e, s⟩ && !inS bad c && (decide (ones orgs = 0) && decide (org = 0)))) ∧ Below w.heap.size w w' := by
  have T0 := Lib.hid (Mbm.new hg kind c e s org yes orgs false false true x y)
  have CN := Lib.hid (fun W => ones_any orgs horgs W)
  have CM : Hid (∀ W, Calls Try.prog 40 #[.agg #[.int .i64 c, .int .i64 e, .int .i64 s]] W fun r w' => r = .returned (.bool (mayTx ⟨c, e, s⟩)) ∧ Below W.heap.size W w') := fun W => (mayTxn_any ⟨c, e, s⟩ W).mono fun r w' ⟨h1, h2⟩ => ⟨h1, by rw [h2]; exact (Below.refl _ W).alloc (Nat.le_refl _) _⟩
  have HC : Hid (mayTx ⟨c, e, s⟩ = true → 0 ≤ c ∧ c < 8) := fun h => by
    unfold mayTx orgB at h
    simp only [Bool.and_eq_true, decide_eq_true_eq] at h
    exact h.1
  have CI : Hid (0 ≤ c ∧ c < 8 → ∀ W, Calls Try.prog 41 #[.int .u8 (bad : Int), .int .i64 c] W fun e w' => e = .returned (.bool (inS bad c)) ∧ W = w') := fun hc W => in_any bad hbad c hc.1 (by omega) W
  have CJ : Hid (0 ≤ c ∧ c < 8 → ∀ W, Calls Try.prog 41 #[.int .u8 (orgs : Int), .int .i64 c] W fun e w' => e = .returned (.bool (inS orgs c)) ∧ W = w') := fun hc W => in_any orgs horgs c hc.1 (by omega) W
  have CO : Hid (0 ≤ org ∧ org < 8 → ∀ W, Calls Try.prog 41 #[.int .u8 (bad : Int), .int .i64 org] W fun e w' => e = .returned (.bool (inS bad org)) ∧ W = w') := fun hc W => in_any bad hbad org hc.1 (by omega) W
  clear hg
  generalize hmt : mayTx ⟨c, e, s⟩ = mt at CM HC ⊢
  generalize hn : ones orgs = n at CN ⊢
  generalize hib : inS bad c = ib at CI ⊢
  generalize hio : inS orgs c = io at CJ ⊢
  generalize hi2 : inS bad org = i2 at CO ⊢
  generalize hR : (mt && !ib && (decide (n = 0) && decide (org = 0))) = R
  have HR := Lib.hid hR
  clear hR hmt hn hib hio hi2
  go_enter Try.func26, Try.ntmps26
  go_upto_region 1 with (fail)
  generalize ((w.alloc (.cells #[.int .u8 (kind : Int), .int .i64 c, .int .i64 e, .int .i64 s, .int .i64 org, .bool yes, .int .u8 (orgs : Int)] 35 (0, 0))).alloc (.cells #[.bool false, .bool false, .bool true, x, y] 58 (0, 0))) = w1 at T0 ⊢
  generalize w.heap.size + 1 = kb at T0 ⊢
  obtain ⟨a0, a1, a2, a3, a4, a5, a6, k0, k1, k2, g, lt, b⟩ := T0.out
  clear lt b
  go_upto_region 2 with (go_at_call 39; refine (CN.out _).mono ?_; rintro r w2 ⟨rfl, rfl⟩)
  cases mt
  · refine wp_region_held_drew (S := (fun W => W.cell? ⟨w.heap.size, 1, none⟩ = some (.int .i64 c) ∧ W.cell? ⟨w.heap.size, 2, none⟩ = some (.int .i64 e) ∧ W.cell? ⟨w.heap.size, 3, none⟩ = some (.int .i64 s) ∧ W.cell? ⟨gb, 0, none⟩ = some (.int .u8 (bad : Int)) ∧ Mbm w w.heap.size kb gb kind c e s org yes orgs bad false false true W)) (by kernel_rfl) (T0.out.draw).s (fun hH0 => ?_)
    refine wpAnyH_take (i := 0) (v := .pointer (some ⟨w.heap.size, 1, none⟩)) rfl (by kernel_rfl) (by kernel_rfl) (by kernel_rfl) (fun _ _ _ h => h) (Or.inl ⟨by rfl, ?_⟩) (by assumption) ?_
    · intro w hSw; go_simp
    try simp only [List.getElem_toArray, List.getElem_cons_succ, List.getElem_cons_zero, Act.put, List.setIfInBounds_toArray, List.set_cons_zero, List.set_cons_succ]
    refine wpAnyH_take (i := 1) (v := .agg #[.int .i64 c, .int .i64 e, .int .i64 s]) rfl (by kernel_rfl) (by kernel_rfl) (by kernel_rfl) (fun _ _ _ h => h) (Or.inl ⟨by rfl, ?_⟩) (by assumption) ?_
    · intro w hSw; go_simp
    try simp only [List.getElem_toArray, List.getElem_cons_succ, List.getElem_cons_zero, Act.put, List.setIfInBounds_toArray, List.set_cons_zero, List.set_cons_succ]
    refine wpAnyH_ready (rs := [2]) (by kernel_rfl) (by simp) (AllReadyH.cons rfl (fun K hK => ?_) AllReadyH.nil)
    go_simp
    refine (CM.out _).mono ?_
    rintro r w2 ⟨rfl, hb⟩
    refine hK.out _ _ (hH0.2.2.2.2.bel hb).s (fun hH1 => ?_)
    clear hK K
    try simp only [List.getElem_toArray, List.getElem_cons_succ, List.getElem_cons_zero, Act.put, List.setIfInBounds_toArray, List.set_cons_zero, List.set_cons_succ]
    refine wpAnyH_take (i := 3) (v := .bool true) rfl (by kernel_rfl) (by kernel_rfl) (by kernel_rfl) (fun _ _ _ h => h) (Or.inl ⟨by rfl, ?_⟩) (by assumption) ?_
    · intro w hSw; go_simp
    try simp only [List.getElem_toArray, List.getElem_cons_succ, List.getElem_cons_zero, Act.put, List.setIfInBounds_toArray, List.set_cons_zero, List.set_cons_succ]
    refine wpAnyH_take (i := 4) (v := .bool true) rfl (by kernel_rfl) (by kernel_rfl) (by kernel_rfl) (fun _ _ _ h => h) (Or.inl ⟨by rfl, ?_⟩) (by assumption) ?_
    · intro w hSw; go_simp
    try simp only [List.getElem_toArray, List.getElem_cons_succ, List.getElem_cons_zero, Act.put, List.setIfInBounds_toArray, List.set_cons_zero, List.set_cons_succ]
    refine wpAnyH_take (i := 5) (v := undef) rfl (by kernel_rfl) (by kernel_rfl) (by kernel_rfl) (fun _ _ _ h => h) (Or.inr ⟨by rfl, rfl⟩) (by assumption) ?_
    try simp only [List.getElem_toArray, List.getElem_cons_succ, List.getElem_cons_zero, Act.put, List.setIfInBounds_toArray, List.set_cons_zero, List.set_cons_succ]
    refine wpAnyH_take (i := 6) (v := undef) rfl (by kernel_rfl) (by kernel_rfl) (by kernel_rfl) (fun _ _ _ h => h) (Or.inr ⟨by rfl, rfl⟩) (by assumption) ?_
    try simp only [List.getElem_toArray, List.getElem_cons_succ, List.getElem_cons_zero, Act.put, List.setIfInBounds_toArray, List.set_cons_zero, List.set_cons_succ]
    refine wpAnyH_take (i := 7) (v := undef) rfl (by kernel_rfl) (by kernel_rfl) (by kernel_rfl) (fun _ _ _ h => h) (Or.inr ⟨by rfl, rfl⟩) (by assumption) ?_
    try simp only [List.getElem_toArray, List.getElem_cons_succ, List.getElem_cons_zero, Act.put, List.setIfInBounds_toArray, List.set_cons_zero, List.set_cons_succ]
    refine wpAnyH_take (i := 8) (v := undef) rfl (by kernel_rfl) (by kernel_rfl) (by kernel_rfl) (fun _ _ _ h => h) (Or.inr ⟨by rfl, rfl⟩) (by assumption) ?_
    try simp only [List.getElem_toArray, List.getElem_cons_succ, List.getElem_cons_zero, Act.put, List.setIfInBounds_toArray, List.set_cons_zero, List.set_cons_succ]
    refine wpAnyH_take (i := 9) (v := undef) rfl (by kernel_rfl) (by kernel_rfl) (by kernel_rfl) (fun _ _ _ h => h) (Or.inr ⟨by rfl, rfl⟩) (by assumption) ?_
    try simp only [List.getElem_toArray, List.getElem_cons_succ, List.getElem_cons_zero, Act.put, List.setIfInBounds_toArray, List.set_cons_zero, List.set_cons_succ]
    refine wpAnyH_take (i := 10) (v := undef) rfl (by kernel_rfl) (by kernel_rfl) (by kernel_rfl) (fun _ _ _ h => h) (Or.inr ⟨by rfl, rfl⟩) (by assumption) ?_
    try simp only [List.getElem_toArray, List.getElem_cons_succ, List.getElem_cons_zero, Act.put, List.setIfInBounds_toArray, List.set_cons_zero, List.set_cons_succ]
    refine wpAnyH_take (i := 11) (v := undef) rfl (by kernel_rfl) (by kernel_rfl) (by kernel_rfl) (fun _ _ _ h => h) (Or.inr ⟨by rfl, rfl⟩) (by assumption) ?_
    try simp only [List.getElem_toArray, List.getElem_cons_succ, List.getElem_cons_zero, Act.put, List.setIfInBounds_toArray, List.set_cons_zero, List.set_cons_succ]
    refine wpAnyH_take (i := 12) (v := undef) rfl (by kernel_rfl) (by kernel_rfl) (by kernel_rfl) (fun _ _ _ h => h) (Or.inr ⟨by rfl, rfl⟩) (by assumption) ?_
    try simp only [List.getElem_toArray, List.getElem_cons_succ, List.getElem_cons_zero, Act.put, List.setIfInBounds_toArray, List.set_cons_zero, List.set_cons_succ]
    refine wpAnyH_take (i := 13) (v := .bool true) rfl (by kernel_rfl) (by kernel_rfl) (by kernel_rfl) (fun _ _ _ h => h) (Or.inl ⟨by rfl, ?_⟩) (by assumption) ?_
    · intro w hSw; go_simp
    try simp only [List.getElem_toArray, List.getElem_cons_succ, List.getElem_cons_zero, Act.put, List.setIfInBounds_toArray, List.set_cons_zero, List.set_cons_succ]
    refine wpAnyH_take (i := 14) (v := .bool true) rfl (by kernel_rfl) (by kernel_rfl) (by kernel_rfl) (fun _ _ _ h => h) (Or.inl ⟨by rfl, ?_⟩) (by assumption) ?_
    · intro w hSw; go_simp
    try simp only [List.getElem_toArray, List.getElem_cons_succ, List.getElem_cons_zero, Act.put, List.setIfInBounds_toArray, List.set_cons_zero, List.set_cons_succ]
    refine wpAnyH_done (by kernel_rfl) ?_ _
    have TB := Lib.hid hH1.2.2.2.2.b
    clear hH0 hH1 hb
    go_wp2_with fail
    go_ret
    have hr : R = false := by rw [← HR.out]; simp []
    rw [hr]
    exact ⟨rfl, TB.out⟩
  have hc := HC.out rfl
  have CI2 := Lib.hid (CI.out hc)
  have CJ2 := Lib.hid (CJ.out hc)
  clear CI CJ HC
  cases ib
  rotate_left
  · go_region_held3 (fun W => W.cell? ⟨w.heap.size, 1, none⟩ = some (.int .i64 c) ∧ W.cell? ⟨w.heap.size, 2, none⟩ = some (.int .i64 e) ∧ W.cell? ⟨w.heap.size, 3, none⟩ = some (.int .i64 s) ∧ W.cell? ⟨gb, 0, none⟩ = some (.int .u8 (bad : Int)) ∧ Mbm w w.heap.size kb gb kind c e s org yes orgs bad false false true W)
      (first | assumption | exact (T0.out.draw).s | exact ((by assumption : _ ∧ _ ∧ _ ∧ _ ∧ Mbm w w.heap.size kb gb kind c e s org yes orgs bad false false true _).2.2.2.2.bel hb).s)
      (first | (go_at_call 40; (with_reducible refine (CM.out _).mono ?_); rintro r w2 ⟨rfl, hb⟩) | (go_at_call 41; (with_reducible refine (CI2.out _).mono ?_); rintro r w2 ⟨rfl, rfl⟩))
    rename_i hS
    have TB := Lib.hid hS.2.2.2.2.b
    clear hS
    go_wp2_with fail
    go_ret
    have hr : R = false := by rw [← HR.out]; simp []
    rw [hr]
    exact ⟨rfl, TB.out⟩
  go_region_held3 (fun W => W.cell? ⟨w.heap.size, 1, none⟩ = some (.int .i64 c) ∧ W.cell? ⟨w.heap.size, 2, none⟩ = some (.int .i64 e) ∧ W.cell? ⟨w.heap.size, 3, none⟩ = some (.int .i64 s) ∧ W.cell? ⟨gb, 0, none⟩ = some (.int .u8 (bad : Int)) ∧ Mbm w w.heap.size kb gb kind c e s org yes orgs bad false false true W)
      (first | assumption | exact (T0.out.draw).s | exact ((by assumption : _ ∧ _ ∧ _ ∧ _ ∧ Mbm w w.heap.size kb gb kind c e s org yes orgs bad false false true _).2.2.2.2.bel hb).s)
      (first | (go_at_call 40; (with_reducible refine (CM.out _).mono ?_); rintro r w2 ⟨rfl, hb⟩) | (go_at_call 41; (with_reducible refine (CI2.out _).mono ?_); rintro r w2 ⟨rfl, rfl⟩))
  rename_i hS
  have T2 := Lib.hid hS.2.2.2.2
  clear hS a0 a1 a2 a3 a4 a5 a6 k0 k1 k2 g T0
  rename_i w3 _ _
  obtain ⟨a0, a1, a2, a3, a4, a5, a6, k0, k1, k2, g, lt, b⟩ := T2.out
  have TB := Lib.hid b
  clear lt b CI2 CM T2
  clear CJ2
  by_cases n1 : n = 0
  rotate_left
  · have e1 : decide (0 < (n : Int)) = true := by simp; omega
    have e0 : decide (n = 0) = false := by simp; omega
    go_wp2_with fail
    go_ret
    have hr : R = false := by rw [← HR.out]; simp [e0]
    rw [hr]
    exact ⟨rfl, TB.out⟩
  have e1 : decide (0 < (n : Int)) = false := by simp; omega
  have e0 : decide (n = 0) = true := by simp; omega
  by_cases g1 : org = 0
  · have f1 : (org != 0) = false := by simpa using g1
    have f0 : decide (org = 0) = true := by simpa using g1
    go_upto_region 5 with fail
    go_quiet (fail)
    go_wp2_with fail
    go_ret
    have hr : R = true := by rw [← HR.out]; simp [e0, f0]
    rw [hr]
    exact ⟨rfl, below_drewN TB.out _⟩
  · have f1 : (org != 0) = true := by simpa using g1
    have f0 : decide (org = 0) = false := by simpa using g1
    go_upto_region 5 with fail
    go_quiet (fail)
    go_wp2_with fail
    go_ret
    have hr : R = false := by rw [← HR.out]; simp [e0, f0]
    rw [hr]
    exact ⟨rfl, below_drewN TB.out _⟩

set_option maxHeartbeats 8000000 in
theorem mayBe_2 (gb bad kind : Nat) (c e s org : Int) (yes : Bool) (orgs : Nat) (x y : Value) (w : World) (hg : w.cell? ⟨gb, 0, none⟩ = some (.int .u8 (bad : Int))) (hbad : bad < 256) (horgs : orgs < 256) :
    Calls Try.prog 26 #[.pointer (some ⟨gb, 0, none⟩), .agg #[.int .u8 (kind : Int), .int .i64 c, .int .i64 e, .int .i64 s, .int .i64 org, .bool yes, .int .u8 (orgs : Int)], .agg #[.bool false, .bool true, .bool true, x, y]] w
      fun r w' => r = .returned (.bool (mayTx ⟨c, e, s⟩ && !inS bad c && (decide (ones orgs = 0) && orgB org && decide (org ≠ c) && !inS bad org))) ∧ Below w.heap.size w w' := by
  have T0 := Lib.hid (Mbm.new hg kind c e s org yes orgs false true true x y)
  have CN := Lib.hid (fun W => ones_any orgs horgs W)
  have CM : Hid (∀ W, Calls Try.prog 40 #[.agg #[.int .i64 c, .int .i64 e, .int .i64 s]] W fun r w' => r = .returned (.bool (mayTx ⟨c, e, s⟩)) ∧ Below W.heap.size W w') := fun W => (mayTxn_any ⟨c, e, s⟩ W).mono fun r w' ⟨h1, h2⟩ => ⟨h1, by rw [h2]; exact (Below.refl _ W).alloc (Nat.le_refl _) _⟩
  have HC : Hid (mayTx ⟨c, e, s⟩ = true → 0 ≤ c ∧ c < 8) := fun h => by
    unfold mayTx orgB at h
    simp only [Bool.and_eq_true, decide_eq_true_eq] at h
    exact h.1
  have CI : Hid (0 ≤ c ∧ c < 8 → ∀ W, Calls Try.prog 41 #[.int .u8 (bad : Int), .int .i64 c] W fun e w' => e = .returned (.bool (inS bad c)) ∧ W = w') := fun hc W => in_any bad hbad c hc.1 (by omega) W
  have CJ : Hid (0 ≤ c ∧ c < 8 → ∀ W, Calls Try.prog 41 #[.int .u8 (orgs : Int), .int .i64 c] W fun e w' => e = .returned (.bool (inS orgs c)) ∧ W = w') := fun hc W => in_any orgs horgs c hc.1 (by omega) W
  have CO : Hid (0 ≤ org ∧ org < 8 → ∀ W, Calls Try.prog 41 #[.int .u8 (bad : Int), .int .i64 org] W fun e w' => e = .returned (.bool (inS bad org)) ∧ W = w') := fun hc W => in_any bad hbad org hc.1 (by omega) W
  clear hg
  generalize hmt : mayTx ⟨c, e, s⟩ = mt at CM HC ⊢
  generalize hn : ones orgs = n at CN ⊢
  generalize hib : inS bad c = ib at CI ⊢
  generalize hio : inS orgs c = io at CJ ⊢
  generalize hi2 : inS bad org = i2 at CO ⊢
  generalize hR : (mt && !ib && (decide (n = 0) && orgB org && decide (org ≠ c) && !i2)) = R
  have HR := Lib.hid hR
  clear hR hmt hn hib hio hi2
  go_enter Try.func26, Try.ntmps26
  go_upto_region 1 with (fail)
  generalize ((w.alloc (.cells #[.int .u8 (kind : Int), .int .i64 c, .int .i64 e, .int .i64 s, .int .i64 org, .bool yes, .int .u8 (orgs : Int)] 35 (0, 0))).alloc (.cells #[.bool false, .bool true, .bool true, x, y] 58 (0, 0))) = w1 at T0 ⊢
  generalize w.heap.size + 1 = kb at T0 ⊢
  obtain ⟨a0, a1, a2, a3, a4, a5, a6, k0, k1, k2, g, lt, b⟩ := T0.out
  clear lt b
  go_upto_region 2 with (go_at_call 39; refine (CN.out _).mono ?_; rintro r w2 ⟨rfl, rfl⟩)
  cases mt
  · refine wp_region_held_drew (S := (fun W => W.cell? ⟨w.heap.size, 1, none⟩ = some (.int .i64 c) ∧ W.cell? ⟨w.heap.size, 2, none⟩ = some (.int .i64 e) ∧ W.cell? ⟨w.heap.size, 3, none⟩ = some (.int .i64 s) ∧ W.cell? ⟨gb, 0, none⟩ = some (.int .u8 (bad : Int)) ∧ Mbm w w.heap.size kb gb kind c e s org yes orgs bad false true true W)) (by kernel_rfl) (T0.out.draw).s (fun hH0 => ?_)
    refine wpAnyH_take (i := 0) (v := .pointer (some ⟨w.heap.size, 1, none⟩)) rfl (by kernel_rfl) (by kernel_rfl) (by kernel_rfl) (fun _ _ _ h => h) (Or.inl ⟨by rfl, ?_⟩) (by assumption) ?_
    · intro w hSw; go_simp
    try simp only [List.getElem_toArray, List.getElem_cons_succ, List.getElem_cons_zero, Act.put, List.setIfInBounds_toArray, List.set_cons_zero, List.set_cons_succ]
    refine wpAnyH_take (i := 1) (v := .agg #[.int .i64 c, .int .i64 e, .int .i64 s]) rfl (by kernel_rfl) (by kernel_rfl) (by kernel_rfl) (fun _ _ _ h => h) (Or.inl ⟨by rfl, ?_⟩) (by assumption) ?_
    · intro w hSw; go_simp
    try simp only [List.getElem_toArray, List.getElem_cons_succ, List.getElem_cons_zero, Act.put, List.setIfInBounds_toArray, List.set_cons_zero, List.set_cons_succ]
    refine wpAnyH_ready (rs := [2]) (by kernel_rfl) (by simp) (AllReadyH.cons rfl (fun K hK => ?_) AllReadyH.nil)
    go_simp
    refine (CM.out _).mono ?_
    rintro r w2 ⟨rfl, hb⟩
    refine hK.out _ _ (hH0.2.2.2.2.bel hb).s (fun hH1 => ?_)
    clear hK K
    try simp only [List.getElem_toArray, List.getElem_cons_succ, List.getElem_cons_zero, Act.put, List.setIfInBounds_toArray, List.set_cons_zero, List.set_cons_succ]
    refine wpAnyH_take (i := 3) (v := .bool true) rfl (by kernel_rfl) (by kernel_rfl) (by kernel_rfl) (fun _ _ _ h => h) (Or.inl ⟨by rfl, ?_⟩) (by assumption) ?_
    · intro w hSw; go_simp
    try simp only [List.getElem_toArray, List.getElem_cons_succ, List.getElem_cons_zero, Act.put, List.setIfInBounds_toArray, List.set_cons_zero, List.set_cons_succ]
    refine wpAnyH_take (i := 4) (v := .bool true) rfl (by kernel_rfl) (by kernel_rfl) (by kernel_rfl) (fun _ _ _ h => h) (Or.inl ⟨by rfl, ?_⟩) (by assumption) ?_
    · intro w hSw; go_simp
    try simp only [List.getElem_toArray, List.getElem_cons_succ, List.getElem_cons_zero, Act.put, List.setIfInBounds_toArray, List.set_cons_zero, List.set_cons_succ]
    refine wpAnyH_take (i := 5) (v := undef) rfl (by kernel_rfl) (by kernel_rfl) (by kernel_rfl) (fun _ _ _ h => h) (Or.inr ⟨by rfl, rfl⟩) (by assumption) ?_
    try simp only [List.getElem_toArray, List.getElem_cons_succ, List.getElem_cons_zero, Act.put, List.setIfInBounds_toArray, List.set_cons_zero, List.set_cons_succ]
    refine wpAnyH_take (i := 6) (v := undef) rfl (by kernel_rfl) (by kernel_rfl) (by kernel_rfl) (fun _ _ _ h => h) (Or.inr ⟨by rfl, rfl⟩) (by assumption) ?_
    try simp only [List.getElem_toArray, List.getElem_cons_succ, List.getElem_cons_zero, Act.put, List.setIfInBounds_toArray, List.set_cons_zero, List.set_cons_succ]
    refine wpAnyH_take (i := 7) (v := undef) rfl (by kernel_rfl) (by kernel_rfl) (by kernel_rfl) (fun _ _ _ h => h) (Or.inr ⟨by rfl, rfl⟩) (by assumption) ?_
    try simp only [List.getElem_toArray, List.getElem_cons_succ, List.getElem_cons_zero, Act.put, List.setIfInBounds_toArray, List.set_cons_zero, List.set_cons_succ]
    refine wpAnyH_take (i := 8) (v := undef) rfl (by kernel_rfl) (by kernel_rfl) (by kernel_rfl) (fun _ _ _ h => h) (Or.inr ⟨by rfl, rfl⟩) (by assumption) ?_
    try simp only [List.getElem_toArray, List.getElem_cons_succ, List.getElem_cons_zero, Act.put, List.setIfInBounds_toArray, List.set_cons_zero, List.set_cons_succ]
    refine wpAnyH_take (i := 9) (v := undef) rfl (by kernel_rfl) (by kernel_rfl) (by kernel_rfl) (fun _ _ _ h => h) (Or.inr ⟨by rfl, rfl⟩) (by assumption) ?_
    try simp only [List.getElem_toArray, List.getElem_cons_succ, List.getElem_cons_zero, Act.put, List.setIfInBounds_toArray, List.set_cons_zero, List.set_cons_succ]
    refine wpAnyH_take (i := 10) (v := undef) rfl (by kernel_rfl) (by kernel_rfl) (by kernel_rfl) (fun _ _ _ h => h) (Or.inr ⟨by rfl, rfl⟩) (by assumption) ?_
    try simp only [List.getElem_toArray, List.getElem_cons_succ, List.getElem_cons_zero, Act.put, List.setIfInBounds_toArray, List.set_cons_zero, List.set_cons_succ]
    refine wpAnyH_take (i := 11) (v := undef) rfl (by kernel_rfl) (by kernel_rfl) (by kernel_rfl) (fun _ _ _ h => h) (Or.inr ⟨by rfl, rfl⟩) (by assumption) ?_
    try simp only [List.getElem_toArray, List.getElem_cons_succ, List.getElem_cons_zero, Act.put, List.setIfInBounds_toArray, List.set_cons_zero, List.set_cons_succ]
    refine wpAnyH_take (i := 12) (v := undef) rfl (by kernel_rfl) (by kernel_rfl) (by kernel_rfl) (fun _ _ _ h => h) (Or.inr ⟨by rfl, rfl⟩) (by assumption) ?_
    try simp only [List.getElem_toArray, List.getElem_cons_succ, List.getElem_cons_zero, Act.put, List.setIfInBounds_toArray, List.set_cons_zero, List.set_cons_succ]
    refine wpAnyH_take (i := 13) (v := .bool true) rfl (by kernel_rfl) (by kernel_rfl) (by kernel_rfl) (fun _ _ _ h => h) (Or.inl ⟨by rfl, ?_⟩) (by assumption) ?_
    · intro w hSw; go_simp
    try simp only [List.getElem_toArray, List.getElem_cons_succ, List.getElem_cons_zero, Act.put, List.setIfInBounds_toArray, List.set_cons_zero, List.set_cons_succ]
    refine wpAnyH_take (i := 14) (v := .bool true) rfl (by kernel_rfl) (by kernel_rfl) (by kernel_rfl) (fun _ _ _ h => h) (Or.inl ⟨by rfl, ?_⟩) (by assumption) ?_
    · intro w hSw; go_simp
    try simp only [List.getElem_toArray, List.getElem_cons_succ, List.getElem_cons_zero, Act.put, List.setIfInBounds_toArray, List.set_cons_zero, List.set_cons_succ]
    refine wpAnyH_done (by kernel_rfl) ?_ _
    have TB := Lib.hid hH1.2.2.2.2.b
    clear hH0 hH1 hb
    go_wp2_with fail
    go_ret
    have hr : R = false := by rw [← HR.out]; simp []
    rw [hr]
    exact ⟨rfl, TB.out⟩
  have hc := HC.out rfl
  have CI2 := Lib.hid (CI.out hc)
  have CJ2 := Lib.hid (CJ.out hc)
  clear CI CJ HC
  cases ib
  rotate_left
  · go_region_held3 (fun W => W.cell? ⟨w.heap.size, 1, none⟩ = some (.int .i64 c) ∧ W.cell? ⟨w.heap.size, 2, none⟩ = some (.int .i64 e) ∧ W.cell? ⟨w.heap.size, 3, none⟩ = some (.int .i64 s) ∧ W.cell? ⟨gb, 0, none⟩ = some (.int .u8 (bad : Int)) ∧ Mbm w w.heap.size kb gb kind c e s org yes orgs bad false true true W)
      (first | assumption | exact (T0.out.draw).s | exact ((by assumption : _ ∧ _ ∧ _ ∧ _ ∧ Mbm w w.heap.size kb gb kind c e s org yes orgs bad false true true _).2.2.2.2.bel hb).s)
      (first | (go_at_call 40; (with_reducible refine (CM.out _).mono ?_); rintro r w2 ⟨rfl, hb⟩) | (go_at_call 41; (with_reducible refine (CI2.out _).mono ?_); rintro r w2 ⟨rfl, rfl⟩))
    rename_i hS
    have TB := Lib.hid hS.2.2.2.2.b
    clear hS
    go_wp2_with fail
    go_ret
    have hr : R = false := by rw [← HR.out]; simp []
    rw [hr]
    exact ⟨rfl, TB.out⟩
  go_region_held3 (fun W => W.cell? ⟨w.heap.size, 1, none⟩ = some (.int .i64 c) ∧ W.cell? ⟨w.heap.size, 2, none⟩ = some (.int .i64 e) ∧ W.cell? ⟨w.heap.size, 3, none⟩ = some (.int .i64 s) ∧ W.cell? ⟨gb, 0, none⟩ = some (.int .u8 (bad : Int)) ∧ Mbm w w.heap.size kb gb kind c e s org yes orgs bad false true true W)
      (first | assumption | exact (T0.out.draw).s | exact ((by assumption : _ ∧ _ ∧ _ ∧ _ ∧ Mbm w w.heap.size kb gb kind c e s org yes orgs bad false true true _).2.2.2.2.bel hb).s)
      (first | (go_at_call 40; (with_reducible refine (CM.out _).mono ?_); rintro r w2 ⟨rfl, hb⟩) | (go_at_call 41; (with_reducible refine (CI2.out _).mono ?_); rintro r w2 ⟨rfl, rfl⟩))
  rename_i hS
  have T2 := Lib.hid hS.2.2.2.2
  clear hS a0 a1 a2 a3 a4 a5 a6 k0 k1 k2 g T0
  rename_i w3 _ _
  obtain ⟨a0, a1, a2, a3, a4, a5, a6, k0, k1, k2, g, lt, b⟩ := T2.out
  have TB := Lib.hid b
  clear lt b CI2 CM T2
  clear CJ2
  by_cases n1 : n = 0
  rotate_left
  · have e1 : decide (0 < (n : Int)) = true := by simp; omega
    have e0 : decide (n = 0) = false := by simp; omega
    go_wp2_with fail
    go_ret
    have hr : R = false := by rw [← HR.out]; simp [e0]
    rw [hr]
    exact ⟨rfl, TB.out⟩
  have e1 : decide (0 < (n : Int)) = false := by simp; omega
  have e0 : decide (n = 0) = true := by simp; omega
  by_cases g1 : org < 0
  · have f1 : decide (org < 0) = true := by simpa using g1
    have f0 : orgB org = false := by unfold orgB; rw [decide_eq_false (p := 0 ≤ org) (by omega)]; rfl
    go_upto_region 5 with fail
    go_quiet (fail)
    go_wp2_with fail
    go_ret
    have hr : R = false := by rw [← HR.out]; simp [e0, f0]
    rw [hr]
    exact ⟨rfl, below_drewN TB.out _⟩
  have f1 : decide (org < 0) = false := by simpa using g1
  by_cases g2 : 8 ≤ org
  · have f2 : decide (8 ≤ org) = true := by simpa using g2
    have f0 : orgB org = false := by unfold orgB; rw [decide_eq_false (p := org < 8) (by omega), Bool.and_false]
    go_upto_region 5 with fail
    go_quiet (fail)
    go_wp2_with fail
    go_ret
    have hr : R = false := by rw [← HR.out]; simp [e0, f0]
    rw [hr]
    exact ⟨rfl, below_drewN TB.out _⟩
  have f2 : decide (8 ≤ org) = false := by simpa using g2
  have f0 : orgB org = true := by unfold orgB; rw [decide_eq_true (p := 0 ≤ org) (by omega), decide_eq_true (p := org < 8) (by omega)]; rfl
  have CO2 := CO.out ⟨by omega, by omega⟩
  have QO := Lib.hid (fun (W : World) n => calls_quiet (CO2 (W.drewN n)) ⟨n, rfl⟩)
  clear CO CO2
  by_cases g3 : org = c
  · have f3 : (org == c) = true := by simpa using g3
    have f4 : decide (org = c) = true := by simpa using g3
    have HR2 : Hid ((true && !false && (decide (n = 0) && orgB org && !decide (org = c) && !i2)) = R) := by
      have h := HR.out
      show _ = R
      simpa [g3] using h
    clear g3
    go_upto_region 5 with fail
    go_quiet (fail)
    go_wp2_with fail
    go_ret
    have hr : R = false := by rw [← HR2.out]; simp [e0, f0, f4]
    rw [hr]
    exact ⟨rfl, below_drewN TB.out _⟩
  have f3 : (org == c) = false := by simpa using g3
  have f4 : decide (org = c) = false := by simpa using g3
  have HR2 : Hid ((true && !false && (decide (n = 0) && orgB org && !decide (org = c) && !i2)) = R) := by
    have h := HR.out
    show _ = R
    simpa using h
  clear g3
  cases i2
  · go_upto_region 5 with fail
    go_quiet ((go_at_call 41; with_reducible exact QO.out _ _))
    go_wp2_with fail
    go_ret
    have hr : R = true := by rw [← HR2.out]; simp [e0, f0, f4]
    rw [hr]
    exact ⟨rfl, below_drewN TB.out _⟩
  · go_upto_region 5 with fail
    go_quiet ((go_at_call 41; with_reducible exact QO.out _ _))
    go_wp2_with fail
    go_ret
    have hr : R = false := by rw [← HR2.out]; simp [e0, f0, f4]
    rw [hr]
    exact ⟨rfl, below_drewN TB.out _⟩

end Go.Proofs.Ythdmjeoldnehcaa
