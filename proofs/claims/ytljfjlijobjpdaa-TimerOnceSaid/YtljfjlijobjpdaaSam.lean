/- Same: two rows of texts. Condition: the numbers fit. -/
import Derived.Test.YtljfjlijobjpdaaTxt
namespace Go.Proofs.Ytljfjlijobjpdaa
open Go.RowKit
set_option linter.unusedVariables false

/-! ### Same -/
set_option maxHeartbeats 1000000 in
theorem Same_any (A A' : Option Addr) (c c' : Nat) (ls ms : List (List UInt8)) (hl : ls.length ≤ 9223372036854775807) (hm : ms.length ≤ 9223372036854775807) (B : Nat) (w : World) (hT : Txt w B A ls) (hU : Txt w B A' ms) :
    Calls Try.prog 11 #[.slice A ls.length c, .slice A' ms.length c'] w fun e w' => e = .returned (.bool (decide (ls = ms))) ∧ ∃ n, w' = w.drewN n := by
  by_cases he : ls.length = ms.length
  · have hne : ((ls.length : Int) != (ms.length : Int)) = false := by simp [he]
    have He := Lib.hid he
    clear he
    go_enter Try.func11, Try.ntmps11
    go_wp2_with fail
    go_loopw [5] (fun k wr => ∃ i n : Nat, i ≤ ls.length ∧ ls.take i = ms.take i ∧ k = .int .i64 i ∧ wr = w.drewN n) (fun k _ => ls.length - (intOf k).toNat)
    case atStart => exact ⟨0, 0, by omega, rfl, rfl, rfl⟩
    case round =>
      obtain ⟨i, n, hi, ht, rfl, rfl⟩ := hrel
      by_cases hk : i < ls.length
      · have hk' : i < ms.length := by have := He.out; omega
        obtain ⟨b, o, rfl, _, hc⟩ := hT i hk
        obtain ⟨b', o', rfl, _, hc'⟩ := hU i hk'
        have hs : ls.take (i + 1) = ls.take i ++ [ls[i]] := List.take_succ_eq_append_getElem hk
        have hs' : ms.take (i + 1) = ms.take i ++ [ms[i]] := List.take_succ_eq_append_getElem hk'
        have hq : ls = ms → ls[i] = ms[i] := by rintro rfl; rfl
        have Hs := Lib.hid hs
        have Hs' := Lib.hid hs'
        have Hq := Lib.hid hq
        have Ht := Lib.hid ht
        clear hs hs' hT hU ht hq
        generalize ls[i] = x at hc Hs Hq
        generalize ms[i] = y at hc' Hs' Hq
        have kb : 0 ≤ (i : Int) ∧ (i : Int) < (ls.length : Int) := by omega
        have kb' : 0 ≤ (i : Int) ∧ (i : Int) < (ms.length : Int) := by omega
        go_wp2_with fail
        go_quiet (fail)
        cases hxy : (x == y)
        · go_wp2
          go_ret
          have hne2 : ¬ ls = ms := fun e => by have h1 := Hq.out e; subst h1; simp at hxy
          exact ⟨ret_bool (by simp [hne2]), _, World.drewN_drewN _ _ _⟩
        · obtain rfl : x = y := by simpa using hxy
          clear hxy
          go_wp2
          go_roundw
          case rel => exact ⟨i + 1, n + nq, by omega, by rw [Hs.out, Hs'.out, Ht.out], by go_num, rfl⟩
          case measure => simp [intOf]; omega
      · have hil : ls.length ≤ i := by omega
        have hlm : ls = ms := by rw [List.take_of_length_le hil, List.take_of_length_le (by have := He.out; omega)] at ht; exact ht
        have Hlm := Lib.hid hlm
        clear hlm ht hT hU
        go_wp2_with fail
        go_ret
        exact ⟨ret_bool (by simp [Hlm.out]), n, rfl⟩
  · have hd : decide (ls = ms) = false := by
      rw [decide_eq_false_iff_not]
      rintro rfl
      exact he rfl
    rw [hd]
    have hne : ((ls.length : Int) != (ms.length : Int)) = true := by simp; omega
    clear he hd
    go_enter Try.func11, Try.ntmps11
    go_wp2_with fail
    go_ret
    exact ⟨rfl, 0, rfl⟩
end Go.Proofs.Ytljfjlijobjpdaa
