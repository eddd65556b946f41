/- The walks of the turns of a word: the reference's turn, bits.RotateLeft32, right. Condition: from 1 to 31 places. -/
import Derived.Test.YtnmkinihkgdkgaaDoorShl
namespace Go.Proofs.YtnmkinihkgdkgaaDoor
open Go.RowKit
set_option linter.unusedVariables false

theorem turn_any (x : UInt32) (n : Nat) (h0 : 1 ≤ n) (h1 : n ≤ 31) (w : World) :
    Calls Tryd.prog 43 #[wv x, .int .u64 (n : Int)] w fun e w' => e = .returned (wv (rot x n)) ∧ w = w' := by
  have k1 := lift_shr x n (by omega)
  have k2 := lift_shl x (32 - n) (by omega)
  have k3 : ((32 : Int) - (n : Int)).toNat = 32 - n := by omega
  have k4 := lift_or (sr x n) (sl x (32 - n))
  go_enter Tryd.func43, Tryd.ntmps43
  go_wp2_with fail
  go_ret
  exact ⟨rfl, rfl⟩

theorem and31 (n : Nat) (h0 : 1 ≤ n) (h1 : n ≤ 31) : bits .and .u64 (IntKind.u64.wrap (-(n : Int))) 31 = (32 : Int) - n := by
  have e : IntKind.u64.wrap (-(n : Int)) = ((18446744073709551616 - n : Nat) : Int) := by
    rw [IntKind.wrap_u64]; omega
  rw [e]
  have := u64_and_nat (18446744073709551616 - n) 31 (by omega) (by omega)
  rw [show ((31 : Nat) : Int) = 31 from rfl] at this
  rw [this, nat_mask5]
  omega

theorem rotl_any (x : UInt32) (n : Nat) (h0 : 1 ≤ n) (h1 : n ≤ 31) (w : World) :
    Calls Tryd.prog 49 #[wv x, .int .i64 (-(n : Int))] w fun e w' => e = .returned (wv (rot x n)) ∧ w = w' := by
  have k1 := lift_shr x n (by omega)
  have k2 := lift_shl x (32 - n) (by omega)
  have k3 : ((32 : Int) - (n : Int)).toNat = 32 - n := by omega
  have k4 := lift_or (sl x (32 - n)) (sr x n)
  have k5 := and31 n h0 h1
  have k6 : ((32 : Int) - ((32 : Int) - (n : Int))).toNat = n := by omega
  rw [show rot x n = oo (sl x (32 - n)) (sr x n) from oo_comm _ _]
  go_enter Tryd.func49, Tryd.ntmps49
  go_wp2_with fail
  go_ret
  exact ⟨rfl, rfl⟩

theorem right_any (x : UInt32) (n : Nat) (h0 : 1 ≤ n) (h1 : n ≤ 31) (w : World) :
    Calls Tryd.prog 48 #[wv x, .int .i64 (n : Int)] w fun e w' => e = .returned (wv (rot x n)) ∧ w = w' := by
  go_enter Tryd.func48, Tryd.ntmps48
  go_wp2_with fail
  refine (rotl_any x n h0 h1 _).mono ?_
  rintro e w1 ⟨rfl, rfl⟩
  go_wp2_with fail
  go_ret
  exact ⟨rfl, rfl⟩
end Go.Proofs.YtnmkinihkgdkgaaDoor
