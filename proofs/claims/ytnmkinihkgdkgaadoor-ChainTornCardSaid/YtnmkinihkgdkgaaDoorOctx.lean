/- The walks of layer 1, second part: what each of octet.Num, ReadNum, Text, ReadText and the reference's answers, in one word each. Condition: lengths that a machine has. -/
import Derived.Test.YtnmkinihkgdkgaaDoorOctw
namespace Go.Proofs.YtnmkinihkgdkgaaDoor
open Go.RowKit

theorem ReadNum_any (l : List UInt8) (hl : l.length ≤ 9223372036854775800) (w : World) :
    Calls Tryd.prog 44 #[str l] w fun e w' => e = .returned (.tuple #[.int .u64 (readNum l).1, .int .i64 (readNum l).2.1, .int .i64 (readNum l).2.2]) ∧ w = w' := by
  cases l with
  | nil => exact readNum_nil w
  | cons b r =>
    simp only [List.length_cons] at hl
    by_cases h1 : b.toNat ≤ 247
    · refine (readNum_short b r h1 w).mono fun e w' ⟨he, hw⟩ => ⟨?_, hw⟩
      rw [he]; simp only [readNum]; rw [if_pos h1]; rfl
    · by_cases h2 : r.length + 247 < b.toNat
      · refine (readNum_few' b r (by omega) h2 w).mono fun e w' ⟨he, hw⟩ => ⟨?_, hw⟩
        rw [he, readNum_few (by omega) h2]; rfl
      · cases r with
        | nil => have := b.toNat_lt; simp at h2; omega
        | cons c r =>
          simp only [List.length_cons] at hl h2
          exact readNum_long b c r (by omega) (by omega) (by omega) w

set_option maxRecDepth 20000 in
set_option maxHeartbeats 400000 in
theorem refNum_any (v : Int) (w : World) (h0 : 0 ≤ v) (h : v ≤ 18446744073709551615) :
    Calls Tryd.prog 36 #[.int .u64 v] w fun e w' => e = .returned (str (num v.toNat)) ∧ Below w.heap.size w w' := by
  have hk := fun w b n => conv_one w b n
  by_cases hs : v < 248
  · go_enter Tryd.func36, Tryd.ntmps36
    go_wp2_with fail
    go_ret
    exact ⟨ret_str (by rw [num, if_pos (by omega)]), (Below.refl _ _).alloc (Nat.le_refl _) _⟩
  · have hl := dig_len8 (v := v.toNat) (by omega)
    have hn : num v.toNat = UInt8.ofNat (247 + (dig v.toNat).length) :: dig v.toNat := by rw [num, if_neg (by omega)]
    have Hn := Lib.hid hn
    clear hn
    have hadd := fun (x : UInt8) (W : World) => str_add (P := Tryd.prog) [x] (dig v.toNat) (by simp; omega) W
    have e1 : (247 + ((dig v.toNat).length : Int)).toNat = 247 + (dig v.toNat).length := by omega
    go_enter Tryd.func36, Tryd.ntmps36
    go_wp2_with (go_at_call 45; refine (digits_any 8 v _ h0 (by omega) h).mono ?_; rintro e w1 ⟨rfl, hb⟩)
    go_ret
    refine ⟨ret_str (by rw [Hn.out]; simp), hb.alloc hb.size _⟩

theorem tuple3' {a a' b b' c c' : Int} (h1 : a = a') (h2 : b = b') (h3 : c = c') : Ending.returned (.tuple #[.int .u64 a, .int .i64 b, .int .i64 c]) = .returned (.tuple #[.int .u64 a', .int .i64 b', .int .i64 c']) := by rw [h1, h2, h3]

set_option maxRecDepth 20000 in
set_option maxHeartbeats 400000 in
theorem refReadNum_few (b : UInt8) (r : List UInt8) (h : 248 ≤ b.toNat) (h2 : r.length + 247 < b.toNat) (w : World) :
    Calls Tryd.prog 35 #[str (b :: r)] w fun e w' => e = .returned (.tuple #[.int .u64 0, .int .i64 0, .int .i64 6]) ∧ Below w.heap.size w w' := by
  have hb := b.toNat_lt
  go_enter Tryd.func35, Tryd.ntmps35
  go_wp2_with fail
  go_ret3
  exact ⟨rfl, Below.refl _ _⟩

set_option maxRecDepth 20000 in
set_option maxHeartbeats 400000 in
theorem refReadNum_short (b : UInt8) (r : List UInt8) (h : b.toNat ≤ 247) (w : World) :
    Calls Tryd.prog 35 #[str (b :: r)] w fun e w' => e = .returned (.tuple #[.int .u64 b.toNat, .int .i64 1, .int .i64 0]) ∧ Below w.heap.size w w' := by
  go_enter Tryd.func35, Tryd.ntmps35
  go_wp2_with fail
  go_ret3
  exact ⟨rfl, Below.refl _ _⟩

set_option maxRecDepth 20000 in
set_option maxHeartbeats 800000 in
theorem refReadNum_long (b c : UInt8) (r : List UInt8) (h : 248 ≤ b.toNat) (h2 : b.toNat ≤ r.length + 247 + 1) (hl : r.length ≤ 9223372036854775800) (w : World) :
    Calls Tryd.prog 35 #[str (b :: c :: r)] w fun e w' => e = .returned (.tuple #[.int .u64 (readNum (b :: c :: r)).1, .int .i64 (readNum (b :: c :: r)).2.1, .int .i64 (readNum (b :: c :: r)).2.2]) ∧ Below w.heap.size w w' := by
  have hb := b.toNat_lt
  go_enter Tryd.func35, Tryd.ntmps35
  go_wp2_with fail
  go_loop [6, 7] (fun v k => ∃ i : Nat, i + 247 ≤ b.toNat ∧ v = .int .u64 (val ((c :: r).take i)) ∧ k = .int .i64 (1 + i)) (fun _ k => 9 - (intOf k).toNat)
  case atStart => exact ⟨0, by omega, by simp [val], rfl⟩
  case round =>
    obtain ⟨i, hi, rfl, rfl⟩ := hrel
    have hv : val ((c :: r).take i) < 256 ^ i := by
      have := val_lt ((c :: r).take i); rwa [List.length_take, Nat.min_eq_left (by simp; omega)] at this
    by_cases hlt : i + 247 < b.toNat
    · have hi7 : i ≤ 7 := by omega
      have hv7 : val ((c :: r).take i) < 72057594037927936 := Nat.lt_of_lt_of_le hv (by
        have := Nat.pow_le_pow_right (n := 256) (by omega) hi7; simpa using this)
      clear hv
      have hlr : i < r.length + 1 := by omega
      have hg : ∀ hh : 1 + i < (b :: c :: r).length, (b :: c :: r)[1 + i]'hh = (c :: r)[i]'(by simp; omega) := by
        intro hh; simp [Nat.add_comm 1 i]
      have hu : ((c :: r)[i]'(by simp; omega)).toNat < 256 := UInt8.toNat_lt _
      go_wp2_with fail
      go_round
      case rel =>
        refine ⟨i + 1, by omega, ?_, by go_num⟩
        rw [val_take_succ _ _ (by simp; omega)]
        exact congrArg (Value.int .u64) (by omega)
      case measure => simp [intOf]; omega
    · have hx : i + 247 = b.toNat := by omega
      have Hx := Lib.hid hx
      clear hx
      have hv9 : val ((c :: r).take i) < 18446744073709551616 := Nat.lt_of_lt_of_le hv (by
        have := Nat.pow_le_pow_right (n := 256) (by omega) (show i ≤ 8 by omega); simpa using this)
      clear hv
      have hn : (1 + (b.toNat : Int) - 247).toNat = i + 1 := by have := Hx.out; omega
      have Hc : Hid (num (val ((c :: r).take i)) = b :: (c :: r).take i ↔ c ≠ 0 ∧ 247 < val ((c :: r).take i)) := num_is (b := b) (c := c) (r := r) Hx.out (by omega) (by omega)
      have hp : 1 + (b.toNat : Int) - 247 = ((i + 1 : Nat) : Int) := by have := Hx.out; omega
      go_wp2_with fail
      go_region_with (go_at_call 36; refine (refNum_any _ _ (by omega) (by omega)).mono ?_; rintro e w1 ⟨rfl, hb1⟩)
      all_goals
        have hb2 : Below w.heap.size w w1 := drew_below hb1
        clear hb1 hp hn
        go_wp2
        · have hq1 : (!(num (val ((c :: r).take i)) == b :: (c :: r).take i)) = true := by assumption
          have hq : ¬ num (val ((c :: r).take i)) = b :: (c :: r).take i := by simpa using hq1
          go_ret3
          by_cases hc : c = 0
          · subst hc
            rw [readNum_zero h h2]
            exact ⟨rfl, hb2⟩
          · have hv : ¬ 247 < val ((c :: r).take i) := fun hv => hq (Hc.out.2 ⟨hc, hv⟩)
            rw [readNum_low i h h2 Hx.out (by omega)]
            exact ⟨rfl, hb2⟩
        · have hq1 : (!(num (val ((c :: r).take i)) == b :: (c :: r).take i)) = false := by assumption
          have hq : num (val ((c :: r).take i)) = b :: (c :: r).take i := by simpa using hq1
          go_ret3
          obtain ⟨hc, hv⟩ := Hc.out.1 hq
          rw [readNum_good i h h2 Hx.out hc hv]
          exact ⟨tuple3' rfl (show (i : Int) + 1 = ((i + 1 : Nat) : Int) from by omega) rfl, hb2⟩

set_option maxHeartbeats 400000 in
theorem refReadNum_any (l : List UInt8) (hl : l.length ≤ 9223372036854775800) (w : World) :
    Calls Tryd.prog 35 #[str l] w fun e w' => e = .returned (.tuple #[.int .u64 (readNum l).1, .int .i64 (readNum l).2.1, .int .i64 (readNum l).2.2]) ∧ Below w.heap.size w w' := by
  cases l with
  | nil =>
    go_enter Tryd.func35, Tryd.ntmps35
    go_wp2_with fail
    go_ret3
    exact ⟨rfl, Below.refl _ _⟩
  | cons b r =>
    simp only [List.length_cons] at hl
    by_cases h1 : b.toNat ≤ 247
    · refine (refReadNum_short b r h1 w).mono fun e w' ⟨he, hw⟩ => ⟨?_, hw⟩
      rw [he]; simp only [readNum]; rw [if_pos h1]; rfl
    · by_cases h2 : r.length + 247 < b.toNat
      · refine (refReadNum_few b r (by omega) h2 w).mono fun e w' ⟨he, hw⟩ => ⟨?_, hw⟩
        rw [he, readNum_few (by omega) h2]; rfl
      · cases r with
        | nil => have := b.toNat_lt; simp at h2; omega
        | cons c r =>
          simp only [List.length_cons] at hl h2
          exact refReadNum_long b c r (by omega) (by omega) (by omega) w

set_option maxHeartbeats 400000 in
theorem Text_any (l : List UInt8) (hl : l.length ≤ 9223372036854775700) (w : World) :
    Calls Tryd.prog 30 #[str l] w fun e w' => e = .returned (str (text l)) ∧ Below w.heap.size w w' := by
  have hn := num_len (v := l.length) (by omega)
  have hadd := fun (W : World) => str_add (P := Tryd.prog) (num l.length) l (by omega) W
  go_enter Tryd.func30, Tryd.ntmps30
  go_wp2_with (go_at_call 40; refine (Num_any l.length _ (by omega) (by omega)).mono ?_; rintro e w1 ⟨rfl, hb⟩)
  go_ret
  exact ⟨rfl, hb⟩

set_option maxHeartbeats 400000 in
theorem refText_any (l : List UInt8) (hl : l.length ≤ 9223372036854775700) (w : World) :
    Calls Tryd.prog 27 #[str l] w fun e w' => e = .returned (str (text l)) ∧ Below w.heap.size w w' := by
  have hn := num_len (v := l.length) (by omega)
  have hadd := fun (W : World) => str_add (P := Tryd.prog) (num l.length) l (by omega) W
  go_enter Tryd.func27, Tryd.ntmps27
  go_wp2_with (go_at_call 36; refine (refNum_any l.length _ (by omega) (by omega)).mono ?_; rintro e w1 ⟨rfl, hb⟩)
  go_ret
  exact ⟨rfl, hb⟩
end Go.Proofs.YtnmkinihkgdkgaaDoor
