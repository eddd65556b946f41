/- The walks of ledger's in, of OnesCount8, of wire's org and MayTxn. Condition: none. -/
import Derived.Test.YthdmjeoldnehcaaLgp
namespace Go.Proofs.Ythdmjeoldnehcaa
open Go.RowKit
set_option linter.unusedVariables false
set_option linter.unusedSimpArgs false

theorem org_any (k : Int) (w : World) : Calls Try.prog 47 #[.int .i64 k] w fun e w' => e = .returned (.bool (orgB k)) ∧ w = w' := by
  by_cases h1 : 0 ≤ k
  · have d1 : decide (0 ≤ k) = true := by simpa using h1
    have e : orgB k = decide (k < 8) := by rw [orgB, d1, Bool.true_and]
    rw [e]
    clear e
    cases d2 : decide (k < 8)
    all_goals
      go_enter Try.func47, Try.ntmps47
      go_wp2_with fail
      go_ret
      exact ⟨rfl, rfl⟩
  · have d1 : decide (0 ≤ k) = false := by simpa using h1
    have e : orgB k = false := by rw [orgB, d1, Bool.false_and]
    rw [e]
    clear e
    go_enter Try.func47, Try.ntmps47
    go_wp2_with fail
    go_ret
    exact ⟨rfl, rfl⟩

theorem in_tab : ∀ n : Nat, n < 256 → ∀ j : Nat, j ≤ 8 → (bits BinOp.and IntKind.u8 ((n : Int) / 2 ^ j) 1 == 1) = n.testBit j := by
  have h : ∀ n : Fin 256, ∀ j : Fin 9, (bits BinOp.and IntKind.u8 ((n.val : Int) / 2 ^ j.val) 1 == 1) = n.val.testBit j.val := by decide +kernel
  intro n hn j hj
  exact h ⟨n, hn⟩ ⟨j, by omega⟩
theorem in_is (n : Nat) (hn : n < 256) (k : Int) (hk : 0 ≤ k) : (bits BinOp.and IntKind.u8 ((n : Int) / 2 ^ min k.toNat 8) 1 == 1) = inS n k := by
  have d : decide (0 ≤ k) = true := by simpa using hk
  rw [inS, d, Bool.true_and]
  by_cases h8 : k.toNat ≤ 8
  · rw [Nat.min_eq_left h8]; exact in_tab n hn _ h8
  · rw [Nat.min_eq_right (by omega), in_tab n hn 8 (Nat.le_refl _)]
    have e1 : n.testBit 8 = false := Nat.testBit_lt_two_pow hn
    have e2 : n.testBit k.toNat = false := Nat.testBit_lt_two_pow (Nat.lt_of_lt_of_le hn (Nat.pow_le_pow_right (n := 2) (by omega) (show 8 ≤ k.toNat by omega)))
    rw [e1, e2]
theorem in_any (n : Nat) (hn : n < 256) (k : Int) (hk : 0 ≤ k) (hk2 : k ≤ 9223372036854775807) (w : World) : Calls Try.prog 41 #[.int .u8 (n : Int), .int .i64 k] w fun e w' => e = .returned (.bool (inS n k)) ∧ w = w' := by
  have h := in_is n hn k hk
  rw [← h]
  clear h
  go_enter Try.func41, Try.ntmps41
  go_wp2_with fail
  go_ret
  exact ⟨rfl, rfl⟩
def popT : List UInt8 := [0, 1, 1, 2, 1, 2, 2, 3, 1, 2, 2, 3, 2, 3, 3, 4, 1, 2, 2, 3, 2, 3, 3, 4, 2, 3, 3, 4, 3, 4, 4, 5, 1, 2, 2, 3, 2, 3, 3, 4, 2, 3, 3, 4, 3, 4, 4, 5, 2, 3, 3, 4, 3, 4, 4, 5, 3, 4, 4, 5, 4, 5, 5, 6, 1, 2, 2, 3, 2, 3, 3, 4, 2, 3, 3, 4, 3, 4, 4, 5, 2, 3, 3, 4, 3, 4, 4, 5, 3, 4, 4, 5, 4, 5, 5, 6, 2, 3, 3, 4, 3, 4, 4, 5, 3, 4, 4, 5, 4, 5, 5, 6, 3, 4, 4, 5, 4, 5, 5, 6, 4, 5, 5, 6, 5, 6, 6, 7, 1, 2, 2, 3, 2, 3, 3, 4, 2, 3, 3, 4, 3, 4, 4, 5, 2, 3, 3, 4, 3, 4, 4, 5, 3, 4, 4, 5, 4, 5, 5, 6, 2, 3, 3, 4, 3, 4, 4, 5, 3, 4, 4, 5, 4, 5, 5, 6, 3, 4, 4, 5, 4, 5, 5, 6, 4, 5, 5, 6, 5, 6, 6, 7, 2, 3, 3, 4, 3, 4, 4, 5, 3, 4, 4, 5, 4, 5, 5, 6, 3, 4, 4, 5, 4, 5, 5, 6, 4, 5, 5, 6, 5, 6, 6, 7, 3, 4, 4, 5, 4, 5, 5, 6, 4, 5, 5, 6, 5, 6, 6, 7, 4, 5, 5, 6, 5, 6, 6, 7, 5, 6, 6, 7, 6, 7, 7, 8]
theorem popT_len : popT.length = 256 := by decide +kernel
theorem pop_is : ∀ n : Fin 256, ((popT.getD n.val 0).toNat : Int) = (ones n.val : Int) ∧ ones n.val ≤ 8 := by decide +kernel
set_option maxRecDepth 100000 in
theorem ones_any (n : Nat) (hn : n < 256) (w : World) : Calls Try.prog 39 #[.int .u8 (n : Int)] w fun e w' => e = .returned (.int .i64 (ones n : Int)) ∧ w = w' := by
  have h1 := pop_is ⟨n, hn⟩
  simp only at h1
  obtain ⟨h1, h2⟩ := h1
  have e : popT.getD n 0 = popT[n]'(by rw [popT_len]; exact hn) := by rw [List.getD_eq_getElem?_getD, List.getElem?_eq_getElem (by rw [popT_len]; exact hn)]; rfl
  rw [e] at h1
  have hw : wrap64 ((popT[n]'(by rw [popT_len]; exact hn)).toNat : Int) = (ones n : Int) := by
    rw [h1]
    have : IntKind.i64.wrap (ones n : Int) = (ones n : Int) := IntWalk.i64_in _ (by omega)
    first | exact this | (unfold wrap64; omega)
  have HW := Lib.hid hw
  clear hw h1 h2 e
  go_enter Try.func39, Try.ntmps39
  go_wp2_with fail
  go_ret
  exact ⟨by rw [← HW.out]; rfl, rfl⟩
theorem mayTxn_any (t : Tx) (w : World) : Calls Try.prog 40 #[.agg t.cells.toArray] w fun e w' => e = .returned (.bool (mayTx t)) ∧ w' = w.alloc (.cells t.cells.toArray 33 (0, 0)) := by
  have CO := Lib.hid (fun W => org_any t.c W)
  obtain ⟨c, e, s⟩ := t
  unfold mayTx Tx.cells
  simp only at CO ⊢
  generalize orgB c = b0 at CO ⊢
  cases b0
  · go_enter Try.func40, Try.ntmps40
    go_wp2_with (go_at_call 47; refine (CO.out _).mono ?_; rintro e w1 ⟨rfl, rfl⟩)
    go_ret
    exact ⟨rfl, rfl⟩
  cases d1 : decide (1 ≤ e)
  · go_enter Try.func40, Try.ntmps40
    go_wp2_with (go_at_call 47; refine (CO.out _).mono ?_; rintro e w1 ⟨rfl, rfl⟩)
    go_ret
    exact ⟨rfl, rfl⟩
  cases d2 : decide (e ≤ 255)
  · go_enter Try.func40, Try.ntmps40
    go_wp2_with (go_at_call 47; refine (CO.out _).mono ?_; rintro e w1 ⟨rfl, rfl⟩)
    go_ret
    exact ⟨rfl, rfl⟩
  cases d3 : decide (1 ≤ s)
  · go_enter Try.func40, Try.ntmps40
    go_wp2_with (go_at_call 47; refine (CO.out _).mono ?_; rintro e w1 ⟨rfl, rfl⟩)
    go_ret
    exact ⟨rfl, rfl⟩
  cases d4 : decide (s ≤ 65535)
  all_goals
    go_enter Try.func40, Try.ntmps40
    go_wp2_with (go_at_call 47; refine (CO.out _).mono ?_; rintro e w1 ⟨rfl, rfl⟩)
    go_ret
    exact ⟨rfl, rfl⟩
end Go.Proofs.Ythdmjeoldnehcaa
