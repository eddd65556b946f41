/- The walks of the reference's In, size, Org and MayTxn. Condition: none. -/
import Derived.Test.YthdmjeoldnehcaaLgw
namespace Go.Proofs.Ythdmjeoldnehcaa
open Go.RowKit
set_option linter.unusedVariables false
set_option linter.unusedSimpArgs false

theorem in_big {n : Nat} (hn : n < 256) {k : Int} (hk : 8 ≤ k) : inS n k = false := by
  have : n.testBit k.toNat = false := Nat.testBit_lt_two_pow (Nat.lt_of_lt_of_le hn (Nat.pow_le_pow_right (n := 2) (by omega) (show 8 ≤ k.toNat by omega)))
  rw [inS, this, Bool.and_false]
theorem in_neg (n : Nat) {k : Int} (hk : k < 0) : inS n k = false := by
  have d : decide (0 ≤ k) = false := by simpa using hk
  rw [inS, d, Bool.false_and]
theorem rIn_any (n : Nat) (hn : n < 256) (k : Int) (w : World) : Calls Try.prog 29 #[.int .u8 (n : Int), .int .i64 k] w fun e w' => e = .returned (.bool (inS n k)) ∧ w = w' := by
  by_cases h1 : 0 ≤ k
  · have d1 : decide (0 ≤ k) = true := by simpa using h1
    by_cases h2 : k < 8
    · have d2 : decide (k < 8) = true := by simpa using h2
      have h := in_is n hn k h1
      rw [Nat.min_eq_left (by omega)] at h
      rw [← h]
      clear h
      have hw : IntKind.u64.wrap k = k := IntWalk.u64_in _ (by omega)
      go_enter Try.func29, Try.ntmps29
      go_wp2_with fail
      go_ret
      exact ⟨rfl, rfl⟩
    · have d2 : decide (k < 8) = false := by simpa using h2
      rw [in_big hn (by omega)]
      go_enter Try.func29, Try.ntmps29
      go_wp2_with fail
      go_ret
      exact ⟨rfl, rfl⟩
  · have d1 : decide (0 ≤ k) = false := by simpa using h1
    rw [in_neg n (by omega)]
    go_enter Try.func29, Try.ntmps29
    go_wp2_with fail
    go_ret
    exact ⟨rfl, rfl⟩
theorem rOrg_any (k : Int) (w : World) : Calls Try.prog 45 #[.int .i64 k] w fun e w' => e = .returned (.bool (orgB k)) ∧ w = w' := by
  by_cases h1 : 0 ≤ k
  · have d1 : decide (0 ≤ k) = true := by simpa using h1
    have e : orgB k = decide (k < 8) := by rw [orgB, d1, Bool.true_and]
    rw [e]
    clear e
    cases d2 : decide (k < 8)
    all_goals
      go_enter Try.func45, Try.ntmps45
      go_wp2_with fail
      go_ret
      exact ⟨rfl, rfl⟩
  · have d1 : decide (0 ≤ k) = false := by simpa using h1
    have e : orgB k = false := by rw [orgB, d1, Bool.false_and]
    rw [e]
    clear e
    go_enter Try.func45, Try.ntmps45
    go_wp2_with fail
    go_ret
    exact ⟨rfl, rfl⟩
theorem rMayTxn_any (t : Tx) (w : World) : Calls Try.prog 43 #[.agg t.cells.toArray] w fun e w' => e = .returned (.bool (mayTx t)) ∧ w' = w.alloc (.cells t.cells.toArray 33 (0, 0)) := by
  have CO := Lib.hid (fun W => rOrg_any t.c W)
  obtain ⟨c, e, s⟩ := t
  unfold mayTx Tx.cells
  simp only at CO ⊢
  generalize orgB c = b0 at CO ⊢
  cases b0
  · go_enter Try.func43, Try.ntmps43
    go_wp2_with (go_at_call 45; refine (CO.out _).mono ?_; rintro e w1 ⟨rfl, rfl⟩)
    go_ret
    exact ⟨rfl, rfl⟩
  cases d1 : decide (1 ≤ e)
  · go_enter Try.func43, Try.ntmps43
    go_wp2_with (go_at_call 45; refine (CO.out _).mono ?_; rintro e w1 ⟨rfl, rfl⟩)
    go_ret
    exact ⟨rfl, rfl⟩
  cases d2 : decide (e ≤ 255)
  · go_enter Try.func43, Try.ntmps43
    go_wp2_with (go_at_call 45; refine (CO.out _).mono ?_; rintro e w1 ⟨rfl, rfl⟩)
    go_ret
    exact ⟨rfl, rfl⟩
  cases d3 : decide (1 ≤ s)
  · go_enter Try.func43, Try.ntmps43
    go_wp2_with (go_at_call 45; refine (CO.out _).mono ?_; rintro e w1 ⟨rfl, rfl⟩)
    go_ret
    exact ⟨rfl, rfl⟩
  cases d4 : decide (s ≤ 65535)
  all_goals
    go_enter Try.func43, Try.ntmps43
    go_wp2_with (go_at_call 45; refine (CO.out _).mono ?_; rintro e w1 ⟨rfl, rfl⟩)
    go_ret
    exact ⟨rfl, rfl⟩
/-- How many of the first k are in a set. -/
def onesTo (n k : Nat) : Nat := ((List.range k).filter fun j => n.testBit j).length
theorem onesTo_succ (n k : Nat) : onesTo n (k + 1) = onesTo n k + if n.testBit k then 1 else 0 := by
  unfold onesTo
  rw [List.range_succ, List.filter_append, List.length_append]
  congr 1
  by_cases h : n.testBit k = true
  · simp [h]
  · simp [h]
theorem onesTo_le (n : Nat) : ∀ k, onesTo n k ≤ k
  | 0 => by simp [onesTo]
  | k + 1 => by
    rw [onesTo_succ]
    have := onesTo_le n k
    split <;> omega
theorem in_nat (n k : Nat) : inS n (k : Int) = n.testBit k := by
  rw [inS, decide_eq_true (p := 0 ≤ (k : Int)) (by omega), Bool.true_and]
  rfl
theorem size_any (n : Nat) (hn : n < 256) (w : World) : Calls Try.prog 44 #[.int .u8 (n : Int)] w fun e w' => e = .returned (.int .i64 (ones n : Int)) ∧ w = w' := by
  have CI := Lib.hid (fun (k : Nat) (W : World) => rIn_any n hn k W)
  go_enter Try.func44, Try.ntmps44
  go_wp2_with fail
  go_loop [3, 4] (fun c i => ∃ k m : Nat, c = .int .i64 (m : Int) ∧ i = .int .i64 (k : Int) ∧ k ≤ 8 ∧ m ≤ k ∧ Hid (m = onesTo n k)) (fun _ i => 8 - (intOf i).toNat)
  case atStart => exact ⟨0, 0, rfl, rfl, by omega, by omega, rfl⟩
  case round =>
    obtain ⟨k, m, rfl, rfl, hk, hmk, hm⟩ := hrel
    by_cases h8 : k < 8
    · have CK := CI.out k
      rw [in_nat] at CK
      have st := onesTo_succ n k
      have kw : IntKind.i64.wrap ((k : Int) + 1) = (k : Int) + 1 := IntWalk.i64_in _ (by omega)
      have mw : IntKind.i64.wrap ((m : Int) + 1) = (m : Int) + 1 := IntWalk.i64_in _ (by omega)
      rw [← hm.out] at st
      cases hb : n.testBit k
      · rw [hb] at CK st
        have ST := Lib.hid st
        have CK := Lib.hid CK
        clear st hb
        go_wp2_with (go_at_call 29; refine (CK.out _).mono ?_; rintro e w1 ⟨rfl, rfl⟩)
        go_round
        case rel => exact ⟨k + 1, m, rfl, by go_num, by omega, by omega, by rw [ST.out]; rfl⟩
        case measure => simp [intOf]; omega
      · rw [hb] at CK st
        have ST := Lib.hid st
        have CK := Lib.hid CK
        clear st hb
        go_wp2_with (go_at_call 29; refine (CK.out _).mono ?_; rintro e w1 ⟨rfl, rfl⟩)
        go_round
        case rel => exact ⟨k + 1, m + 1, by go_num, by go_num, by omega, by omega, by rw [ST.out]; rfl⟩
        case measure => simp [intOf]; omega
    · obtain rfl : k = 8 := by omega
      have e : Hid (m = ones n) := hm.out
      clear hm CI h8
      go_wp2_with fail
      go_ret
      exact ⟨by rw [← e.out]; rfl, rfl⟩
end Go.Proofs.Ythdmjeoldnehcaa
