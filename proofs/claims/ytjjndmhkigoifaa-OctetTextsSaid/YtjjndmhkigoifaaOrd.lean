/- The plain law of layer 1's order: numbers stand in the same order as their bytes, whatever stands behind these. Plain Lean; the order of texts is the model's. No condition. -/
import Derived.Test.YtjjndmhkigoifaaOct
import Derived.WalkKit
namespace Go.Proofs.Ytjjndmhkigoifaa

theorem less_cons (a b : UInt8) (x y : List UInt8) : Op.bytesLess (a :: x) (b :: y) = (decide (a.toNat < b.toNat) || (decide (a.toNat = b.toNat) && Op.bytesLess x y)) := by
  rw [Op.bytesLess]
  congr 1
  congr 1
  by_cases h : a = b
  · subst h; simp
  · have : a.toNat ≠ b.toNat := fun e => h (UInt8.toNat_inj.1 e)
    simp [h, this]

/-- Two rows of as many digits. -/
theorem less_same (n : Nat) : ∀ x y s t : List UInt8, x.length = n → y.length = n → (val x < val y → Op.bytesLess (x ++ s) (y ++ t) = true) ∧ (val y < val x → Op.bytesLess (x ++ s) (y ++ t) = false) := by
  have hv : ∀ (a : UInt8) (x : List UInt8), val (a :: x) = a.toNat * 256 ^ x.length + val x := by
    intro a x
    have h : ∀ (l : List UInt8) (k : Nat), l.foldl (fun a b => a * 256 + b.toNat) k = k * 256 ^ l.length + val l := by
      intro l
      induction l with
      | nil => intro k; simp [val]
      | cons c l ih =>
        intro k
        simp only [List.foldl_cons, val, List.length_cons]
        rw [ih, ih (0 * 256 + c.toNat), Nat.pow_succ, Nat.zero_mul, Nat.zero_add, Nat.add_mul, Nat.mul_assoc, Nat.mul_comm 256, Nat.add_assoc]
    simp only [val, List.foldl_cons]
    rw [h]
    simp [val]
  induction n with
  | zero =>
    intro x y s t hx hy
    rw [List.eq_nil_of_length_eq_zero hx, List.eq_nil_of_length_eq_zero hy]
    simp
  | succ n ih =>
    intro x y s t hx hy
    cases x with
    | nil => simp at hx
    | cons a x =>
      cases y with
      | nil => simp at hy
      | cons b y =>
        simp only [List.length_cons, Nat.add_right_cancel_iff] at hx hy
        rw [hv, hv, hx, hy, List.cons_append, List.cons_append, less_cons]
        have h1 := val_lt x
        have h2 := val_lt y
        rw [hx] at h1
        rw [hy] at h2
        obtain ⟨i1, i2⟩ := ih x y s t hx hy
        rcases Nat.lt_trichotomy a.toNat b.toNat with h | h | h
        · refine ⟨fun _ => by simp [h], fun e => ?_⟩
          have : (a.toNat + 1) * 256 ^ n ≤ b.toNat * 256 ^ n := Nat.mul_le_mul_right _ h
          rw [Nat.add_mul] at this
          omega
        · rw [h]
          constructor
          · intro e; rw [i1 (by omega)]; simp
          · intro e; rw [i2 (by omega)]; simp
        · refine ⟨fun e => ?_, fun _ => by simp; omega⟩
          have : (b.toNat + 1) * 256 ^ n ≤ a.toNat * 256 ^ n := Nat.mul_le_mul_right _ h
          rw [Nat.add_mul] at this
          omega

theorem dig_len_mono {v w : Nat} (h : (dig v).length < (dig w).length) : v < w := by
  rcases Nat.lt_or_ge v w with h1 | h1
  · exact h1
  · exfalso
    have h2 := dig_len_le (dig v).length w (Nat.lt_of_le_of_lt h1 (by have := val_lt (dig v); rwa [val_dig] at this))
    omega

theorem less_num_lt {v w : Nat} (hw : w < 18446744073709551616) (h : v < w) (s t : List UInt8) : Op.bytesLess (num v ++ s) (num w ++ t) = true := by
  unfold num
  by_cases h1 : w < 248
  · rw [if_pos h1, if_pos (by omega)]
    simp only [List.cons_append, less_cons]
    rw [u8_ofNat _ (by omega), u8_ofNat _ (by omega)]
    simp [h]
  · rw [if_neg h1]
    have hl := dig_len8 hw
    have hp := dig_len_pos (v := w) (by omega)
    by_cases h2 : v < 248
    · rw [if_pos h2]
      simp only [List.cons_append, less_cons]
      rw [u8_ofNat _ (by omega), u8_ofNat _ (by omega), decide_eq_true (by omega)]
      rfl
    · rw [if_neg h2]
      have hl2 := dig_len8 (Nat.lt_trans h hw)
      simp only [List.cons_append, less_cons]
      rw [u8_ofNat _ (by omega), u8_ofNat _ (by omega)]
      have hle : (dig v).length ≤ (dig w).length := by
        rcases Nat.lt_or_ge (dig w).length (dig v).length with e | e
        · have := dig_len_mono e; omega
        · exact e
      by_cases h3 : (dig v).length < (dig w).length
      · rw [decide_eq_true (show 247 + (dig v).length < 247 + (dig w).length by omega)]; rfl
      · have h4 := (less_same (dig v).length (dig v) (dig w) s t rfl (by omega)).1 (by rw [val_dig, val_dig]; exact h)
        rw [h4, decide_eq_true (show 247 + (dig v).length = 247 + (dig w).length by omega)]
        simp

theorem less_asymm : ∀ x y : List UInt8, Op.bytesLess x y = true → Op.bytesLess y x = false
  | [], [], h => by simp [Op.bytesLess] at h
  | [], _ :: _, _ => by simp [Op.bytesLess]
  | _ :: _, [], h => by simp [Op.bytesLess] at h
  | a :: x, b :: y, h => by
    rw [less_cons] at h ⊢
    by_cases hab : a.toNat < b.toNat
    · simp; omega
    · by_cases he : a.toNat = b.toNat
      · have h2 : Op.bytesLess x y = true := by simpa [he] using h
        rw [less_asymm x y h2]
        simp; omega
      · simp [hab, he] at h

theorem less_refl : ∀ x : List UInt8, Op.bytesLess x x = false
  | [] => by simp [Op.bytesLess]
  | a :: x => by rw [less_cons, less_refl x]; simp

/-- The order of numbers is that of their bytes, whatever stands behind. -/
theorem less_num {v w : Nat} (hv : v < 18446744073709551616) (hw : w < 18446744073709551616) (hne : v ≠ w) (s t : List UInt8) : Op.bytesLess (num v ++ s) (num w ++ t) = decide (v < w) := by
  rcases Nat.lt_or_ge v w with h | h
  · rw [less_num_lt hw h, decide_eq_true h]
  · rw [less_asymm _ _ (less_num_lt hv (show w < v by omega) t s), decide_eq_false (by omega)]
theorem less_num_bare {v w : Nat} (hv : v < 18446744073709551616) (hw : w < 18446744073709551616) : Op.bytesLess (num v) (num w) = decide (v < w) := by
  by_cases h : v = w
  · subst h; rw [less_refl]; simp
  · have := less_num hv hw h [] []
    simpa using this
end Go.Proofs.Ytjjndmhkigoifaa
