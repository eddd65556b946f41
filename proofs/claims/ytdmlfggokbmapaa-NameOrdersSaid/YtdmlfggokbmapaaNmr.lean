/- The walks of cmp's isNaN, Compare, Or, of slices.Compare, and of name's Order. Condition: sizes that a machine has. -/
import Derived.Test.YtdmlfggokbmapaaNmq
import Derived.Test.YtdmlfggokbmapaaNmn
import Derived.Laws.IdiomStrings
namespace Go.Proofs.Ytdmlfggokbmapaa
open Go.RowKit
set_option linter.unusedVariables false
set_option linter.unusedSimpArgs false

theorem isNaN_any (r : Int) (w : World) : Calls Try.prog 35 #[.int .i32 r] w fun e w' => e = .returned (.bool false) ∧ w = w' := by
  go_enter Try.func35, Try.ntmps35
  go_wp2_with fail
  go_ret
  exact ⟨rfl, rfl⟩
def cmp1 (x y : Int) : Int := if x < y then -1 else if y < x then 1 else 0
theorem cmpR_any (x y : Int) (w : World) : Calls Try.prog 33 #[.int .i32 x, .int .i32 y] w fun e w' => e = .returned (.int .i64 (cmp1 x y)) ∧ w = w' := by
  have CN := Lib.hid (fun r W => isNaN_any r W)
  have HC : Hid (∀ d, d = cmp1 x y → d = cmp1 x y) := fun _ h => h
  by_cases h1 : x < y
  · have e : cmp1 x y = -1 := by rw [cmp1, if_pos h1]
    have d1 : decide (x < y) = true := by simpa using h1
    rw [e]
    clear e
    go_enter Try.func33, Try.ntmps33
    go_wp2_with (go_at_call 35; refine (CN.out _ _).mono ?_; rintro e w1 ⟨rfl, rfl⟩)
    go_ret
    exact ⟨rfl, rfl⟩
  · have d1 : decide (x < y) = false := by simpa using h1
    by_cases h2 : y < x
    · have e : cmp1 x y = 1 := by rw [cmp1, if_neg h1, if_pos h2]
      have d2 : decide (y < x) = true := by simpa using h2
      rw [e]
      clear e
      go_enter Try.func33, Try.ntmps33
      go_wp2_with (go_at_call 35; refine (CN.out _ _).mono ?_; rintro e w1 ⟨rfl, rfl⟩)
      go_ret
      exact ⟨rfl, rfl⟩
    · have e : cmp1 x y = 0 := by rw [cmp1, if_neg h1, if_neg h2]
      have d2 : decide (y < x) = false := by simpa using h2
      rw [e]
      clear e
      go_enter Try.func33, Try.ntmps33
      go_wp2_with (go_at_call 35; refine (CN.out _ _).mono ?_; rintro e w1 ⟨rfl, rfl⟩)
      go_ret
      exact ⟨rfl, rfl⟩
theorem cmpL_cons (x y : Int) (xs ys : List Int) : (cmp1 x y ≠ 0 → cmpL (x :: xs) (y :: ys) = cmp1 x y) ∧ (cmp1 x y = 0 → cmpL (x :: xs) (y :: ys) = cmpL xs ys) := by
  rw [cmpL, cmp1]
  by_cases h1 : x < y
  · simp [h1]
  · by_cases h2 : y < x
    · simp [h1, h2]
    · simp [h1, h2]

set_option maxRecDepth 100000 in
set_option maxHeartbeats 2000000 in
theorem compare_any (A A' : Option Addr) (c c' : Nat) (xs ys : List Int) (hx : xs.length ≤ 1000000) (hy : ys.length ≤ 1000000) (w : World) (hT : Rns w A xs) (hU : Rns w A' ys) :
    Calls Try.prog 30 #[.slice A xs.length c, .slice A' ys.length c'] w fun e w' => e = .returned (.int .i64 (cmpL xs ys)) ∧ w = w' := by
  have CC := Lib.hid (fun x y W => cmpR_any x y W)
  have HT := Lib.hid hT
  have HU := Lib.hid hU
  go_enter Try.func30, Try.ntmps30
  go_wp2_with fail
  clear hT hU
  go_loopw [11] (fun k wr => ∃ i : Nat, i ≤ xs.length ∧ Hid (cmpL xs ys = cmpL (xs.drop i) (ys.drop i)) ∧ k = .int .i64 (i : Int) ∧ wr = w) (fun k _ => xs.length - (intOf k).toNat)
  case atStart => exact ⟨0, by omega, rfl, rfl, rfl⟩
  case round =>
    obtain ⟨i, hi, hE, rfl, rfl⟩ := hrel
    by_cases hlt : i < xs.length
    · obtain ⟨b, o, hA, _, hc⟩ := HT.out i hlt
      have hd := hE.out
      rw [List.drop_eq_getElem_cons hlt] at hd
      have kb : 0 ≤ (i : Int) ∧ (i : Int) < (xs.length : Int) := by omega
      have d0 : decide ((i : Int) < (xs.length : Int)) = true := by simp; omega
      by_cases hly : i < ys.length
      · obtain ⟨b2, o2, hA2, _, hc2⟩ := HU.out i hly
        have kb2 : 0 ≤ (i : Int) ∧ (i : Int) < (ys.length : Int) := by omega
        have d1 : decide ((ys.length : Int) ≤ (i : Int)) = false := by simp; omega
        rw [List.drop_eq_getElem_cons hly] at hd
        obtain ⟨k1, k2⟩ := cmpL_cons xs[i] ys[i] (xs.drop (i + 1)) (ys.drop (i + 1))
        subst hA hA2
        generalize xs[i] = x at hc hd k1 k2
        generalize ys[i] = y at hc2 hd k1 k2
        have HD := Lib.hid hd
        have K1 := Lib.hid k1
        have K2 := Lib.hid k2
        have CX := Lib.hid (fun W => CC.out x y W)
        clear hd k1 k2 hE HT HU CC
        by_cases h0 : cmp1 x y = 0
        · have HR : Hid (cmpL xs ys = cmpL (xs.drop (i + 1)) (ys.drop (i + 1))) := by
            show cmpL xs ys = _
            rw [HD.out, K2.out h0]
          rw [h0] at CX
          clear K1 K2 HD h0
          go_wp2_with (go_at_call 33; (with_reducible refine (CX.out _).mono ?_); rintro e w1 ⟨rfl, rfl⟩)
          go_roundw
          case rel => exact ⟨i + 1, by omega, HR, by go_num, by first | rfl | trivial⟩
          case measure => simp [intOf]; omega
        · have HR : Hid (cmpL xs ys = cmp1 x y) := by
            show cmpL xs ys = _
            rw [HD.out, K1.out h0]
          have d2 : (cmp1 x y != 0) = true := by rw [bne_iff_ne]; exact h0
          clear K1 K2 HD
          generalize cmp1 x y = z at CX HR d2 h0
          go_wp2_with (go_at_call 33; (with_reducible refine (CX.out _).mono ?_); rintro e w1 ⟨rfl, rfl⟩)
          go_ret
          exact ⟨by rw [HR.out]; rfl, rfl⟩
      · have d1 : decide ((ys.length : Int) ≤ (i : Int)) = true := by simp; omega
        rw [List.drop_of_length_le (show ys.length ≤ i by omega)] at hd
        have HR : Hid (cmpL xs ys = 1) := hd
        subst hA
        generalize xs[i] = x at hc
        clear hd hE HT HU CC
        go_wp2_with fail
        go_ret
        exact ⟨by rw [HR.out]; rfl, rfl⟩
    · obtain rfl : i = xs.length := by omega
      have hd := hE.out
      rw [List.drop_length] at hd
      clear HT HU CC hE
      by_cases hly : xs.length < ys.length
      · rw [List.drop_eq_getElem_cons hly] at hd
        have HR : Hid (cmpL xs ys = -1) := hd
        have d1 : decide ((xs.length : Int) < (ys.length : Int)) = true := by simp; omega
        clear hd
        go_wp2_with fail
        go_ret
        exact ⟨by rw [HR.out]; rfl, rfl⟩
      · rw [List.drop_of_length_le (show ys.length ≤ xs.length by omega)] at hd
        have HR : Hid (cmpL xs ys = 0) := hd
        have d1 : decide ((xs.length : Int) < (ys.length : Int)) = false := by simp; omega
        clear hd
        go_wp2_with fail
        go_ret
        exact ⟨by rw [HR.out]; rfl, rfl⟩

theorem or_any (b : Nat) (x y : Int) (w : World) (h0 : w.cell? ⟨b, 0, none⟩ = some (.int .i64 x)) (h1 : w.cell? ⟨b, 1, none⟩ = some (.int .i64 y)) :
    Calls Try.prog 29 #[.slice (some ⟨b, 0, none⟩) 2 2] w fun e w' => e = .returned (.int .i64 (orP x y)) ∧ w = w' := by
  by_cases hx : x = 0
  · subst hx
    by_cases hy : y = 0
    · subst hy
      go_enter Try.func29, Try.ntmps29
      go_wp2_with fail
      refine wp_loop_rounds 3 ?_
      rw [rounds_succ]
      go_wp2_with fail
      rw [rounds_succ]
      go_wp2_with fail
      rw [rounds_succ]
      go_wp2_with fail
      go_ret
      exact ⟨rfl, rfl⟩
    · have e : orP 0 y = y := by rw [orP, if_neg (by simp), if_pos hy]
      have d1 : (y != 0) = true := by rw [bne_iff_ne]; exact hy
      rw [e]
      clear e
      go_enter Try.func29, Try.ntmps29
      go_wp2_with fail
      refine wp_loop_rounds 3 ?_
      rw [rounds_succ]
      go_wp2_with fail
      rw [rounds_succ]
      go_wp2_with fail
      go_ret
      exact ⟨rfl, rfl⟩
  · have e : orP x y = x := by rw [orP, if_pos hx]
    have d1 : (x != 0) = true := by rw [bne_iff_ne]; exact hx
    rw [e]
    clear e
    go_enter Try.func29, Try.ntmps29
    go_wp2_with fail
    refine wp_loop_rounds 3 ?_
    rw [rounds_succ]
    go_wp2_with fail
    go_ret
    exact ⟨rfl, rfl⟩

/-! ### '[]rune(s)' -/
theorem runesFrom_is (s : ByteArray) : ∀ (f p : Nat) (acc : Array Value), Conv.runesFrom s f p acc = acc ++ ((rnF s f p).map (fun (r : Int) => Value.int .i32 r)).toArray
  | 0, p, acc => by simp [Conv.runesFrom, rnF]
  | f + 1, p, acc => by
    rw [Conv.runesFrom, rnF]
    split
    · simp only
      rw [runesFrom_is s f]
      simp
    · simp
theorem runesFrom_rn (l : List UInt8) : Conv.runesFrom (ba l) (ba l).size 0 #[] = ((rn l).map (fun (r : Int) => Value.int .i32 r)).toArray := by
  rw [runesFrom_is]
  simp [rn, rnAt]
def rnCap (W : World) (l : List UInt8) : Nat := grownCap W (rn l).length 0 21
def rnW (W : World) (l : List UInt8) : World := W.drew.alloc (.cells (((rn l).map (fun (r : Int) => Value.int .i32 r)).toArray ++ Array.replicate (rnCap W l - (rn l).length) (.int .i32 0)) 21 (0, 0))
theorem conv_to (l : List UInt8) (hl : l.length ≤ 100000) (W : World) : (convert 9 36 (str l)).run Try.prog W = .ok (.slice (some ⟨W.heap.size, 0, none⟩) (rn l).length (rnCap W l)) (rnW W l) := by
  have hr := rn_len l
  have := run_runes_of_string (P := Try.prog) W 9 36 21 (ba l) Try.underlying9 Try.underlying36 Try.underlying21 (by rw [runesFrom_rn]; simp; omega)
  rw [this, runesFrom_rn]
  simp [rnCap, rnW]
theorem rnW_rns (l : List UInt8) (W : World) : Rns (rnW W l) (some ⟨W.heap.size, 0, none⟩) (rn l) := fun i hi => by
  refine ⟨W.heap.size, 0, rfl, by show _ < (W.drew.alloc _).heap.size; rw [World.size_alloc]; exact Nat.lt_succ_self _, ?_⟩
  unfold rnW
  rw [Nat.zero_add, cell_of_row _ W.heap.size i _ _ (0, 0) (heap_alloc_new W.drew _)]
  simp [Array.getElem?_append, hi]
theorem rnW_below (l : List UInt8) (W : World) : Below W.heap.size W (rnW W l) := ((Below.refl _ W).drew).alloc (Nat.le_refl _) _
end Go.Proofs.Ytdmlfggokbmapaa
