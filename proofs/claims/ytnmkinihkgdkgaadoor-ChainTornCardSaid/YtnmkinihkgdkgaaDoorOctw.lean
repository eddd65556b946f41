/- The walks of layer 1: octet.Num, ReadNum, Text, ReadText and the reference's, each by what it computes. Condition: lengths that a machine has. -/
import Derived.Test.YtnmkinihkgdkgaaDoorStr
import Derived.Test.YtnmkinihkgdkgaaDoorOct
namespace Go.Proofs.YtnmkinihkgdkgaaDoor
open Go.RowKit

theorem conv_one (w : World) (b : Nat) (n : Int) (h : w.cell? ⟨b, 0, none⟩ = some (.int .u8 n)) : (convert 44 9 (.slice (some ⟨b, 0, none⟩) 1 1)).run Tryd.prog w = .ok (.string ⟨#[UInt8.ofNat n.toNat]⟩) w := by
  have h := run_convert_bytes_arg (P := Tryd.prog) w 44 5 Tryd.underlying44 Tryd.underlying5 b 0 1 1 [n] rfl
    (fun i hi => by
      obtain rfl : i = 0 := by omega
      exact h) 9 Tryd.underlying9
  rw [h]
  simp [strOfNums]

set_option maxHeartbeats 400000 in
theorem num_small (v : Int) (h0 : 0 ≤ v) (h : v ≤ 247) (w : World) :
    Calls Tryd.prog 40 #[.int .u64 v] w fun e w' => e = .returned (.string ⟨#[UInt8.ofNat v.toNat]⟩) ∧ Below w.heap.size w w' := by
  have hc := fun w n => conv_one w n
  go_enter Tryd.func40, Tryd.ntmps40
  go_wp2
  go_ret
  exact ⟨rfl, (Below.refl _ _).alloc (Nat.le_refl _) _⟩

def arr (a : Nat) (l : List UInt8) : Array Value := (List.replicate a (Value.int .u8 0) ++ l.map (fun b => Value.int .u8 (b.toNat : Int))).toArray

theorem arr_size (a : Nat) (l : List UInt8) : (arr a l).size = a + l.length := by simp [arr]
theorem arr_zero {a : Nat} (l : List UInt8) (i : Nat) (h : i < a) : (arr a l)[i]? = some (.int .u8 0) := by
  simp [arr, List.getElem?_append, h]
theorem arr_set (c : Nat) (l : List UInt8) (n : Nat) (hn : n < 256) : (arr (c + 1) l).setIfInBounds c (.int .u8 (n : Int)) = arr c (UInt8.ofNat n :: l) := by
  simp [arr, List.replicate_succ', Nat.mod_eq_of_lt hn]

theorem slice9 (W : World) (b i : Nat) (hi : i ≤ 8) : (Instr.sliceAt 75 (.pointer (some ⟨b, 0, none⟩)) (some (.int .i64 (i : Int))) none none).run Tryd.prog W = .ok (.slice (some ⟨b, i, none⟩) (9 - i) (9 - i)) W := by
  have hp : Tryd.prog.arrayLen 75 = 9 := by kernel_rfl
  have hs : (sizeOf (Tryd.prog.elem 75)).run Tryd.prog W = .ok 1 W := by kernel_rfl
  rw [run_sliceAt_array_l (P := Tryd.prog) W 75 ⟨b, 0, none⟩ (by kernel_rfl) .i64 i (by omega) (by rw [hp]; omega), hs, hp]
  have : ¬ (9 = i) := by omega
  simp [slicedAt, Addr.add, this]
  exact fun h => h.symm

theorem arr_str (w : World) (c : Nat) (l : List UInt8) : (convert 44 9 (.slice (some ⟨w.heap.size, c, none⟩) l.length l.length)).run Tryd.prog (w.alloc (.cells (arr c l) 75)) = .ok (.string ⟨l.toArray⟩) (w.alloc (.cells (arr c l) 75)) := by
  refine run_convert_bytes_back (P := Tryd.prog) _ 44 9 5 ⟨w.heap.size, c, none⟩ l.length l Tryd.underlying44 Tryd.underlying5 Tryd.underlying9 (fun j hj => ?_)
  have : (⟨w.heap.size, c, none⟩ : Addr).add j = ⟨w.heap.size, c + j, none⟩ := by unfold Addr.add; split <;> simp_all
  rw [this, World.cell?_alloc_mark]
  simp [arr, hj]

set_option maxHeartbeats 400000 in
theorem num_big (v : Nat) (h0 : 248 ≤ v) (h : v ≤ 18446744073709551615) (w : World) :
    Calls Tryd.prog 40 #[.int .u64 v] w fun e w' => e = .returned (.string ⟨(num v).toArray⟩) ∧ Below w.heap.size w w' := by
  go_enter Tryd.func40, Tryd.ntmps40
  go_wp2
  go_loopw [0, 4] (fun u i wr => ∃ (n a : Nat) (l : List UInt8), n ≤ 18446744073709551615 ∧ a + l.length = 9 ∧ dig v = dig n ++ l ∧ u = .int .u64 n ∧ i = .int .i64 a ∧ wr = w.alloc (.cells (arr a l) 75)) (fun u _ _ => (intOf u).toNat)
  case atStart =>
    exact ⟨v, 9, [], h, rfl, by simp, rfl, rfl, rfl⟩
  case round =>
    obtain ⟨n, a, l, hn, hal, hd, rfl, rfl, rfl⟩ := hrel
    have Hd := Lib.hid hd
    have Ha := Lib.hid hal
    have hlen := dig_len8 (v := v) (by omega)
    have hap : 1 ≤ a := by rw [hd] at hlen; simp at hlen; omega
    obtain ⟨c, rfl⟩ : ∃ c, a = c + 1 := ⟨a - 1, by omega⟩
    have ha : c ≤ 8 := by omega
    have hsz : (arr (c + 1) l).size = 9 := by rw [arr_size]; exact hal
    have hz1 := arr_zero l c (by omega : c < c + 1)
    have hb : (UInt8.ofNat (255 - c)) = UInt8.ofNat (247 + l.length) := by congr 1; omega
    clear hd hal hlen
    by_cases hz : n = 0
    · subst hz
      have hs := fun W b => slice9 W b c ha
      have hx : (arr (c + 1) l).setIfInBounds c (.int .u8 (255 - (c : Int))) = arr c (UInt8.ofNat (255 - c) :: l) := by
        rw [← arr_set c l (255 - c) (by omega)]; congr 2; omega
      have hk : (convert 44 9 (.slice (some ⟨w.heap.size, c, none⟩) (9 - c) (9 - c))).run Tryd.prog (w.alloc (.cells (arr c (UInt8.ofNat (255 - c) :: l)) 75)) = .ok (.string ⟨(UInt8.ofNat (255 - c) :: l).toArray⟩) (w.alloc (.cells (arr c (UInt8.ofNat (255 - c) :: l)) 75)) := by
        have := arr_str w c (UInt8.ofNat (255 - c) :: l)
        rwa [show (UInt8.ofNat (255 - c) :: l).length = 9 - c by simp; have := Ha.out; omega] at this
      have Hb := Lib.hid hb
      clear hb
      go_wp2
      go_ret
      refine ⟨?_, (Below.refl _ _).alloc (Nat.le_refl _) _⟩
      have hd := Hd.out
      rw [dig_zero, List.nil_append] at hd
      rw [num, if_neg (by omega), hd, Hb.out]
      rfl
    · have hp : 0 < n := by omega
      go_wp2
      go_roundw
      case rel =>
        refine ⟨n / 256, c, UInt8.ofNat (n % 256) :: l, by omega, by have := Ha.out; simp; omega, ?_, by go_num, by go_num, ?_⟩
        · rw [Hd.out, dig_pos hz]; simp
        · rw [← arr_set c l (n % 256) (by omega)]; rfl
      case measure => simp [intOf]; omega

theorem Num_any (v : Int) (w : World) (h0 : 0 ≤ v) (h : v ≤ 18446744073709551615) :
    Calls Tryd.prog 40 #[.int .u64 v] w fun e w' => e = .returned (str (num v.toNat)) ∧ Below w.heap.size w w' := by
  by_cases hs : v ≤ 247
  · refine (num_small v h0 hs w).mono fun e w' ⟨he, hb⟩ => ⟨?_, hb⟩
    rw [he, num, if_pos (by omega)]
  · have := num_big v.toNat (by omega) (by omega) w
    rwa [show ((v.toNat : Nat) : Int) = v by omega] at this

set_option maxHeartbeats 400000 in
theorem digits_any (k : Nat) : ∀ (v : Int) (w : World), 0 ≤ v → v.toNat < 256 ^ k → v ≤ 18446744073709551615 →
    Calls Tryd.prog 45 #[.int .u64 v] w fun e w' => e = .returned (.string ⟨(dig v.toNat).toArray⟩) ∧ Below w.heap.size w w' := by
  induction k with
  | zero =>
    intro v w h0 h h2
    obtain rfl : v = 0 := by simp at h; omega
    go_enter Tryd.func45, Tryd.ntmps45
    go_wp2_with fail
    go_ret
    exact ⟨by simp [dig_zero], Below.refl _ _⟩
  | succ k ih =>
    intro v w h0 h h2
    by_cases hv : v = 0
    · subst hv
      go_enter Tryd.func45, Tryd.ntmps45
      go_wp2_with fail
      go_ret
      exact ⟨by simp [dig_zero], Below.refl _ _⟩
    · have hlt : (v / 256).toNat < 256 ^ k := by
        rw [Nat.pow_succ] at h
        have : (v / 256).toNat = v.toNat / 256 := by omega
        omega
      have hv0 : (v == 0) = false := by simpa using hv
      have hk := fun w b n => conv_one w b n
      have e1 : IntKind.u64.wrap (v.tdiv 256) = v / 256 := by rw [Int.tdiv_eq_ediv_of_nonneg h0]; exact IntWalk.u64_in _ (by omega)
      have e2 : IntKind.u8.wrap (v.tmod 256) = v % 256 := by rw [Int.tmod_eq_emod_of_nonneg h0]; exact IntWalk.u8_in _ (by omega)
      have hl8 : (dig (v / 256).toNat).length ≤ 8 := dig_len8 (by omega)
      have hd : dig v.toNat = dig (v / 256).toNat ++ [UInt8.ofNat (v % 256).toNat] := by
        rw [dig_pos (by omega)]
        have a1 : v.toNat / 256 = (v / 256).toNat := by omega
        have a2 : v.toNat % 256 = (v % 256).toNat := by omega
        rw [a1, a2]
      have hadd : ∀ W, (Op.stringOp .add ⟨(dig (v / 256).toNat).toArray⟩ ⟨#[UInt8.ofNat (v % 256).toNat]⟩).run Tryd.prog W = .ok (.string ⟨(dig v.toNat).toArray⟩) W := by
        intro W
        rw [run_string_add_sum W _ _ (by simp [ByteArray.size]; omega)]
        rw [hd]
        exact congrArg (fun x => Result.ok (Value.string x) W) (ByteArray.mk_append_mk _ [UInt8.ofNat (v % 256).toNat])
      clear hd hl8
      go_enter Tryd.func45, Tryd.ntmps45
      go_wp2_with fail
      go_region_with (go_at_call 45; refine (ih (v / 256) _ (by omega) hlt (by omega)).mono ?_; rintro e w' ⟨rfl, hb⟩; have hc := bcell hb)
      all_goals
        clear hadd e1 e2 hk
        go_wp2
        go_ret
      · exact ⟨rfl, (((Below.refl _ w).drew).trans hb).alloc hb.size _⟩
      · exact ⟨rfl, (((Below.refl _ w).drew).alloc (Nat.le_refl _) _).trans (hb.mono (by simp))⟩
      · exact ⟨rfl, (((Below.refl _ w).drew).alloc (Nat.le_refl _) _).trans (hb.mono (by simp))⟩

set_option maxHeartbeats 400000 in
theorem readNum_nil (w : World) :
    Calls Tryd.prog 44 #[.string ⟨([] : List UInt8).toArray⟩] w fun e w' => e = .returned (.tuple #[.int .u64 0, .int .i64 0, .int .i64 6]) ∧ w = w' := by
  go_enter Tryd.func44, Tryd.ntmps44
  go_wp2_with fail
  go_ret3
  exact ⟨rfl, rfl⟩

set_option maxHeartbeats 400000 in
theorem readNum_short (b : UInt8) (r : List UInt8) (h : b.toNat ≤ 247) (w : World) :
    Calls Tryd.prog 44 #[.string ⟨(b :: r).toArray⟩] w fun e w' => e = .returned (.tuple #[.int .u64 b.toNat, .int .i64 1, .int .i64 0]) ∧ w = w' := by
  go_enter Tryd.func44, Tryd.ntmps44
  go_wp2_with fail
  go_ret3
  exact ⟨rfl, rfl⟩


set_option maxHeartbeats 400000 in
theorem readNum_few' (b : UInt8) (r : List UInt8) (h : 248 ≤ b.toNat) (h2 : r.length + 247 < b.toNat) (w : World) :
    Calls Tryd.prog 44 #[.string ⟨(b :: r).toArray⟩] w fun e w' => e = .returned (.tuple #[.int .u64 0, .int .i64 0, .int .i64 6]) ∧ w = w' := by
  have hb := b.toNat_lt
  go_enter Tryd.func44, Tryd.ntmps44
  go_wp2_with fail
  go_ret3
  exact ⟨rfl, rfl⟩

theorem tuple3 {a a' b b' c c' : Int} (h1 : a = a') (h2 : b = b') (h3 : c = c') : Ending.returned (.tuple #[.int .u64 a, .int .i64 b, .int .i64 c]) = .returned (.tuple #[.int .u64 a', .int .i64 b', .int .i64 c']) := by rw [h1, h2, h3]

set_option maxHeartbeats 400000 in
theorem readNum_long (b c : UInt8) (r : List UInt8) (h : 248 ≤ b.toNat) (h2 : b.toNat ≤ r.length + 247 + 1) (hl : r.length ≤ 9223372036854775800) (w : World) :
    Calls Tryd.prog 44 #[.string ⟨(b :: c :: r).toArray⟩] w fun e w' => e = .returned (.tuple #[.int .u64 (readNum (b :: c :: r)).1, .int .i64 (readNum (b :: c :: r)).2.1, .int .i64 (readNum (b :: c :: r)).2.2]) ∧ w = w' := by
  have hb := b.toNat_lt
  go_enter Tryd.func44, Tryd.ntmps44
  go_wp2_with fail
  go_loop [2, 25] (fun v k => ∃ i : Nat, i + 247 ≤ b.toNat ∧ v = .int .u64 (val ((c :: r).take i)) ∧ k = .int .i64 i) (fun _ k => 8 - (intOf k).toNat)
  case atStart => exact ⟨0, by omega, by simp [val], rfl⟩
  case round =>
    obtain ⟨i, hi, rfl, rfl⟩ := hrel
    have hv : val ((c :: r).take i) < 256 ^ i := by
      have := val_lt ((c :: r).take i); rwa [List.length_take, Nat.min_eq_left (by simp; omega)] at this
    by_cases hlt : i + 247 < b.toNat
    · have hi7 : i ≤ 7 := by omega
      have hv7 : val ((c :: r).take i) < 72057594037927936 := Nat.lt_of_lt_of_le hv (by
        have := Nat.pow_le_pow_right (n := 256) (by omega) hi7; simpa using this)
      clear hv
      have hlr : i < r.length + 1 := by omega
      go_wp2_with fail
      go_round
      case rel =>
        refine ⟨i + 1, by omega, ?_, by go_num⟩
        rw [val_take_succ _ _ (by simp; omega)]
        exact congrArg (Value.int .u64) (or_byte _ _ hv7 (by exact UInt8.toNat_lt _))
      case measure => simp [intOf]; omega
    · clear hv
      have hx : i + 247 = b.toNat := by omega
      have Hx := Lib.hid hx
      clear hx
      have hr : 0 < r.length + 1 := by omega
      by_cases hc : c = 0
      · subst hc
        go_wp2_with fail
        go_ret3
        rw [readNum_zero h h2]
        exact ⟨rfl, rfl⟩
      · have hc' : ((c.toNat : Int) == 0) = false := by
          simp only [beq_eq_false_iff_ne, ne_eq]
          intro e
          exact hc (UInt8.toNat_inj.1 (by simpa using e))
        by_cases hv : val ((c :: r).take i) ≤ 247
        · go_wp2_with fail
          go_ret3
          rw [readNum_low i h h2 Hx.out hv]
          exact ⟨rfl, rfl⟩
        · go_wp2_with fail
          go_ret3
          rw [readNum_good i h h2 Hx.out hc (by omega)]
          exact ⟨tuple3 rfl (by have := Hx.out; show _ = ((i + 1 : Nat) : Int); omega) rfl, rfl⟩

end Go.Proofs.YtnmkinihkgdkgaaDoor
