/- The walks of HmacKeys, HmacExamples. Condition: the table k reads as the standard's numbers. -/
import Derived.Test.YtgibonhlhpkfkaaDoorHma
namespace Go.Proofs.YtgibonhlhpkfkaaDoor
open Go.RowKit
set_option linter.unusedVariables false

theorem hm_long (key s : List UInt8) (h : 64 < key.length) : hm (sum key) s = hm key s := by
  have e1 : keyOf (sum key) = sum key := by rw [keyOf, if_neg (by rw [sum_len]; omega)]
  have e2 : keyOf key = sum key := by rw [keyOf, if_pos h]
  unfold hm
  rw [e1, e2]
theorem hm_more (key s : List UInt8) (m : Nat) (h : key.length + m ≤ 64) : hm (key ++ List.replicate m 0) s = hm key s := by
  have e1 : keyOf (key ++ List.replicate m 0) = key ++ List.replicate m 0 := by rw [keyOf, if_neg (by simp; omega)]
  have e2 : keyOf key = key := by rw [keyOf, if_neg (by omega)]
  have e3 : bk (key ++ List.replicate m 0) = bk key := by
    unfold bk
    rw [List.append_assoc, List.replicate_append_replicate]
    congr 2
    simp; omega
  unfold hm
  rw [e1, e2, e3]

set_option maxRecDepth 100000 in
set_option maxHeartbeats 8000000 in
theorem HmacKeys_walk (key s : List UInt8) (n : Nat) (hn : n ≤ 255) (w : World) (hK : KT w) (hk : key.length ≤ 9223372036854775807) (hs : s.length ≤ 9223372036854775807) :
    Calls Tryd.prog 6 #[str key, str s, .int .u8 (n : Int)] w fun e w' => e = .returned (.bool true) ∧ Below w.heap.size w w' := by
  have CA0 := Lib.hid (alive_any w hK)
  by_cases h1 : key.length ≤ 4096
  · have d1 : decide (4096 < (key.length : Int)) = false := by simp; omega
    by_cases h2 : s.length ≤ 4096
    · have d2 : decide (4096 < (s.length : Int)) = false := by simp; omega
      have HK := Lib.hid hK
      by_cases h3 : 64 < key.length
      · have d3 : decide (64 < (key.length : Int)) = true := by simp; omega
        have CS := Lib.hid (hSum_any key s w hK (by omega) (by omega))
        clear hK CA0
        go_enter Tryd.func6, Tryd.ntmps6
        go_wp2_with fail
        refine CS.out.mono ?_
        rintro e w1 ⟨rfl, b1⟩
        have B1 := Lib.hid b1
        clear b1 CS
        go_wp2_with fail
        refine (refSum_any key (by omega) w1).mono ?_
        rintro e w2 ⟨rfl, b2⟩
        have B2 := Lib.hid (below_acc B1.out b2)
        clear b2 B1
        go_wp2_with fail
        refine (hSum_any (sum key) s w2 (HK.out.below B2.out HK.out.lt) (by rw [sum_len]; omega) (by omega)).mono ?_
        rintro e w3 ⟨rfl, b3⟩
        rw [hm_long key s h3]
        have B3 := Lib.hid (below_acc B2.out b3)
        clear b3 B2
        generalize hm key s = t
        go_wp2_with fail
        refine (alive_on w w3 HK.out B3.out).mono ?_
        rintro e w4 ⟨rfl, b4⟩
        have B4 := Lib.hid b4
        clear b4 B3
        go_wp2_with fail
        go_ret
        exact ⟨rfl, B4.out⟩
      · have d3 : decide (64 < (key.length : Int)) = false := by simp; omega
        obtain ⟨m, hm1⟩ : ∃ m, m = n % (65 - key.length) := ⟨_, rfl⟩
        have hml : m < 65 - key.length := by rw [hm1]; exact Nat.mod_lt _ (by omega)
        obtain ⟨w1, z1, z2, z3⟩ := zero_bys w m (by omega)
        have he : ((m : Nat) : Int) = (n : Int) % (65 - (key.length : Int)) := by
          rw [hm1, Int.natCast_emod, Int.natCast_sub (by omega)]; rfl
        have hmm := hm_more key s m (by omega)
        rw [he] at z1
        have cv := conv_bys z2
        have hql : (key ++ List.replicate m (0 : UInt8)).length ≤ 64 := by simp; omega
        have sa := str_add (P := Tryd.prog) key (List.replicate m 0) (by simp; omega)
        generalize List.replicate m (0 : UInt8) = zs at cv sa hmm z2 hql
        have HMM := Lib.hid hmm
        have kb : 1 ≤ 65 - (key.length : Int) := by omega
        have n0 : 0 ≤ (n : Int) ∧ (n : Int) ≤ 255 := by omega
        have B1 := Lib.hid z3
        have CS := Lib.hid (hSum_any key s w1 (hK.bel z3) (by omega) (by omega))
        generalize key ++ zs = q at sa HMM hql
        have SA := Lib.hid sa
        clear hK CA0 hmm he hm1 z2 z3
        go_enter Tryd.func6, Tryd.ntmps6
        go_wp2_with fail
        refine CS.out.mono ?_
        rintro e w2 ⟨rfl, b2⟩
        have B2 := Lib.hid (below_acc B1.out b2)
        clear b2 CS B1 z1 cv sa SA
        go_wp2_with fail
        refine (hSum_any q s w2 (HK.out.below B2.out HK.out.lt) (by omega) (by omega)).mono ?_
        rintro e w3 ⟨rfl, b3⟩
        rw [HMM.out]
        have B3 := Lib.hid (below_acc B2.out b3)
        clear b3 B2
        generalize hm key s = t
        go_wp2_with fail
        refine (alive_on w w3 HK.out B3.out).mono ?_
        rintro e w4 ⟨rfl, b4⟩
        have B4 := Lib.hid b4
        clear b4 B3
        go_wp2_with fail
        go_ret
        exact ⟨rfl, B4.out⟩
    · have d2 : decide (4096 < (s.length : Int)) = true := by simp; omega
      clear hK
      go_enter Tryd.func6, Tryd.ntmps6
      go_wp2_with (first | (go_at_call 8; refine CA0.out.mono ?_; rintro e w3 ⟨rfl, b3⟩))
      go_ret
      exact ⟨rfl, b3⟩
  · have d1 : decide (4096 < (key.length : Int)) = true := by simp; omega
    clear hK
    go_enter Tryd.func6, Tryd.ntmps6
    go_wp2_with (first | (go_at_call 8; refine CA0.out.mono ?_; rintro e w3 ⟨rfl, b3⟩))
    go_ret
    exact ⟨rfl, b3⟩

def twenty : List UInt8 := List.replicate 20 11
def hiThere : List UInt8 := [72, 105, 32, 84, 104, 101, 114, 101]
def hiH : List UInt8 := [98, 48, 51, 52, 52, 99, 54, 49, 100, 56, 100, 98, 51, 56, 53, 51, 53, 99, 97, 56, 97, 102, 99, 101, 97, 102, 48, 98, 102, 49, 50, 98, 56, 56, 49, 100, 99, 50, 48, 48, 99, 57, 56, 51, 51, 100, 97, 55, 50, 54, 101, 57, 51, 55, 54, 99, 50, 101, 51, 50, 99, 102, 102, 55]
theorem hex_hi : hex (hm twenty hiThere) = hiH := by kernel_rfl
set_option maxRecDepth 100000 in
set_option maxHeartbeats 8000000 in
theorem HmacExamples_walk (w : World) (hK : KT w) :
    Calls Tryd.prog 4 #[] w fun e w' => e = .returned (.bool true) ∧ Below w.heap.size w w' := by
  have HK := Lib.hid hK
  clear hK
  go_enter Tryd.func4, Tryd.ntmps4
  go_wp2_with fail
  go_loop [2, 3] (fun s k => ∃ (i : Nat) (l : List UInt8), i ≤ 20 ∧ l.length ≤ 20 ∧ s = str l ∧ k = .int .i64 i ∧ Hid (l = List.replicate i 11)) (fun _ k => 20 - (intOf k).toNat)
  case atStart => exact ⟨0, [], by omega, by simp, rfl, rfl, rfl⟩
  case round =>
    obtain ⟨i, l, hi, hll, rfl, rfl, hl⟩ := hrel
    by_cases hk : i < 20
    · have s1 := str_add (P := Tryd.prog) l [11] (by simp; omega)
      have HL : Hid (l ++ [11] = List.replicate (i + 1) 11 ∧ (l ++ [11]).length ≤ 20) := by
        show _ ∧ _
        rw [hl.out, List.replicate_succ']
        simp; omega
      go_wp2_with fail
      go_round
      case rel => exact ⟨i + 1, l ++ [11], by omega, HL.out.2, rfl, by go_num, HL.out.1⟩
      case measure => simp [intOf]; omega
    · obtain rfl : i = 20 := by omega
      have ht : l = twenty := hl.out
      subst ht
      clear hk hl
      go_wp2_with (first | (go_at_call 11; refine (KSum_nil [97] _).mono ?_; rintro e w1 ⟨rfl, rfl⟩) | fail)
      refine (hSum_any twenty hiThere w HK.out (by simp [twenty]) (by simp [hiThere])).mono ?_
      rintro e w1 ⟨rfl, b1⟩
      have B1 := Lib.hid b1
      clear b1
      go_wp2_with fail
      refine (Hex_any (hm twenty hiThere) (by rw [hm_len]; omega) w1).mono ?_
      rintro e w2 ⟨rfl, b2⟩
      rw [hex_hi]
      have B2 := Lib.hid (below_acc B1.out b2)
      clear b2 B1
      have e1 : (hiH == hiH) = true := by simp
      go_wp2_with fail
      refine (alive_on w w2 HK.out B2.out).mono ?_
      rintro e w3 ⟨rfl, b3⟩
      have B3 := Lib.hid b3
      clear b3 B2
      go_wp2_with fail
      go_ret
      exact ⟨rfl, B3.out⟩
end Go.Proofs.YtgibonhlhpkfkaaDoor
