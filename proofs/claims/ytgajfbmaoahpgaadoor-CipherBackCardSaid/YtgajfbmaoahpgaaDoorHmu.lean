/- The walk of hmac's Same. Condition: sizes that a machine has. -/
import Derived.Test.YtgajfbmaoahpgaaDoorHmx
namespace Go.Proofs.YtgajfbmaoahpgaaDoor
open Go.RowKit
set_option linter.unusedVariables false

def bo (x y : UInt8) : UInt8 := x ||| y
@[go_sem] theorem lift_bo (x y : UInt8) : bits .or .u8 (x.toNat : Int) (y.toNat : Int) = ((bo x y).toNat : Int) := by
  rw [u8_or_nat _ _ (b_lt x) (b_lt y)]; rfl
/-- In what the first k bytes differ. -/
def df (a b : List UInt8) : Nat → UInt8
  | 0 => 0
  | k + 1 => bo (df a b k) (bx (byt a k) (byt b k))
theorem df_succ (a b : List UInt8) (k : Nat) : df a b (k + 1) = bo (df a b k) (bx (byt a k) (byt b k)) := rfl
theorem bo_zero (x y : UInt8) : bo x y = 0 ↔ x = 0 ∧ y = 0 := by
  unfold bo
  rw [← UInt8.toBitVec_inj, ← UInt8.toBitVec_inj, ← UInt8.toBitVec_inj, UInt8.toBitVec_or]
  exact BitVec.or_eq_zero_iff
theorem bx_zero (x y : UInt8) : bx x y = 0 ↔ x = y := by
  unfold bx
  exact UInt8.xor_eq_zero_iff
theorem df_zero (a b : List UInt8) (k : Nat) : df a b k = 0 ↔ ∀ j, j < k → byt a j = byt b j := by
  induction k with
  | zero => exact ⟨fun _ j h => by omega, fun _ => rfl⟩
  | succ k ih =>
    rw [df_succ, bo_zero, bx_zero, ih]
    constructor
    · rintro ⟨h1, h2⟩ j hj
      by_cases e : j = k
      · subst e; exact h2
      · exact h1 j (by omega)
    · intro h
      exact ⟨fun j hj => h j (by omega), h k (by omega)⟩
theorem df_all (a b : List UInt8) (h : a.length = b.length) : ((df a b a.length).toNat : Int) = 0 ↔ a = b := by
  have e : ((df a b a.length).toNat : Int) = 0 ↔ df a b a.length = 0 := by
    rw [← UInt8.toNat_inj]; show _ ↔ _ = 0; omega
  rw [e, df_zero]
  constructor
  · intro hj
    apply List.ext_getElem h
    intro i h1 h2
    rw [byt_getElem a i h1, byt_getElem b i h2]; exact hj i h1
  · rintro rfl j _; rfl
theorem df_bool (a b : List UInt8) (h : a.length = b.length) : ((((df a b a.length).toNat : Int) == 0) : Bool) = (a == b) := by
  rw [Bool.eq_iff_iff, beq_iff_eq, beq_iff_eq]
  exact df_all a b h

set_option maxRecDepth 100000 in
set_option maxHeartbeats 4000000 in
theorem hSame_any (a b : List UInt8) (w : World) (ha : a.length ≤ 9223372036854775807) (hb : b.length ≤ 9223372036854775807) :
    Calls Tryd.prog 19 #[str a, str b] w fun e w' => e = .returned (.bool (a == b)) ∧ Below w.heap.size w w' := by
  by_cases h : a.length = b.length
  · have d1 : ((a.length : Int) != (b.length : Int)) = false := by simp [h]
    have HB := Lib.hid (df_bool a b h)
    have HL := Lib.hid h
    clear h
    go_enter Tryd.func19, Tryd.ntmps19
    go_wp2_with fail
    go_loopw [5, 14] (fun d k wr => ∃ i : Nat, i ≤ a.length ∧ d = bv (df a b i) ∧ k = .int .i64 i ∧ Below w.heap.size w wr) (fun _ k _ => a.length - (intOf k).toNat)
    case atStart => exact ⟨0, by omega, rfl, rfl, Below.refl _ _⟩
    case round =>
      obtain ⟨i, hi, rfl, rfl, B⟩ := hrel
      have hlb : a.length ≤ b.length := Nat.le_of_eq HL.out
      by_cases hk : i < a.length
      · have q0 := run_index_str a i (i : Int) rfl hk
        have q1 := run_index_str b i (i : Int) rfl (by omega)
        go_wp2_with fail
        go_quiet (fail)
        go_wp2_with fail
        go_roundw
        case rel => exact ⟨i + 1, by omega, rfl, by go_num, below_step B (Below.refl _ _) ⟨rfl, rfl, rfl, rfl⟩⟩
        case measure => simp [intOf]; omega
      · obtain rfl : i = a.length := by omega
        go_wp2_with fail
        go_ret
        exact ⟨congrArg (fun x => Ending.returned (.bool x)) HB.out, B⟩
  · have d1 : ((a.length : Int) != (b.length : Int)) = true := by simp; omega
    have e : (a == b) = false := by
      rw [beq_eq_false_iff_ne]; rintro rfl; exact h rfl
    rw [e]
    clear h e
    go_enter Tryd.func19, Tryd.ntmps19
    go_wp2_with fail
    go_ret
    exact ⟨rfl, Below.refl _ _⟩
end Go.Proofs.YtgajfbmaoahpgaaDoor
