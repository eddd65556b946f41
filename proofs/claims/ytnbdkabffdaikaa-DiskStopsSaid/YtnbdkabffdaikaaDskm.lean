/- The walk of DiskStops: a disk that is armed does as many writes as it is armed with, and then none, till it crashes. Condition: the numbers fit. -/
import Derived.Test.YtnbdkabffdaikaaDskl
namespace Go.Proofs.Ytnbdkabffdaikaa
open Go.RowKit
set_option linter.unusedVariables false

/-- What the second loop keeps of the disk. -/
def Kept (n room : Int) (dn : Int) (s : DS) : Prop := 0 ≤ dn ∧ dn + s.left = n ∧ s.armed = true ∧ 0 ≤ s.left ∧ s.room = room ∧ (s.bytes.length : Int) ≤ room ∧ 0 ≤ s.synced ∧ s.synced ≤ s.bytes.length

theorem app_stop (s : DS) (x : List UInt8) (ha : s.armed = true) (h : s.left = 0) : appendS s x = ({ s with down := true }, 140) := if_pos ⟨ha, h⟩
theorem app_full (s : DS) (x : List UInt8) (h : s.left ≠ 0) (hf : s.room - s.bytes.length < x.length) : appendS s x = (s, 4) := by
  unfold appendS; rw [if_neg (fun e => h e.2), if_pos hf]
theorem app_ok (s : DS) (x : List UInt8) (ha : s.armed = true) (h : s.left ≠ 0) (hf : ¬ s.room - s.bytes.length < x.length) : appendS s x = ({ s with bytes := s.bytes ++ x, left := s.left - 1 }, 0) := by
  unfold appendS; rw [if_neg (fun e => h e.2), if_neg hf, ha]; rfl
theorem syn_stop (s : DS) (ha : s.armed = true) (h : s.left = 0) : syncS s = ({ s with down := true }, 140) := if_pos ⟨ha, h⟩
theorem syn_ok (s : DS) (ha : s.armed = true) (h : s.left ≠ 0) : syncS s = ({ s with synced := s.bytes.length, left := s.left - 1 }, 0) := by
  unfold syncS; rw [if_neg (fun e => h e.2), ha]; rfl

set_option maxRecDepth 20000 in
set_option maxHeartbeats 8000000 in
theorem DiskStops_walk (room : Int) (A : Option Addr) (c : Nat) (ls : List (List UInt8)) (n keep : Int) (n0 : 0 ≤ n) (n1 : n ≤ 255) (r0 : -9223372036854775808 ≤ room) (r1 : room ≤ 9223372036854775807) (hk : keep ≤ 9223372036854775807)
    (hl : ls.length ≤ 9223372036854775807) (hx : ∀ x ∈ ls, x.length ≤ 9223372036854775807) (w : World) (hT : Txt w w.heap.size A ls) :
    Calls Try.prog 3 #[.int .i64 room, .slice A ls.length c, .int .u8 n, .int .i64 keep] w fun e w' => e = .returned (.bool true) ∧ Below w.heap.size w w' := by
  by_cases h60 : 60 < ls.length
  · clear hx hT
    go_enter Try.func3, Try.ntmps3
    go_wp2_with (go_at_call 7; refine (alive_any _).mono ?_; rintro e w1 ⟨rfl, hb⟩)
    go_ret
    exact ⟨rfl, hb⟩
  · go_enter Try.func3, Try.ntmps3
    go_wp2_with fail
    go_loop [9] (fun k => ∃ i : Nat, i ≤ ls.length ∧ k = .int .i64 i ∧ Hid (∀ x ∈ ls.take i, x.length ≤ 256)) (fun k => ls.length - (intOf k).toNat)
    case atStart => exact ⟨0, by omega, rfl, fun x hx => by simp at hx⟩
    case round =>
      obtain ⟨i, hi, rfl, hsh⟩ := hrel
      by_cases hki : i < ls.length
      · obtain ⟨b, o, rfl, hbB, hc⟩ := hT i hki
        have hxi := hx ls[i] (List.getElem_mem hki)
        have hs : ls.take (i + 1) = ls.take i ++ [ls[i]] := List.take_succ_eq_append_getElem hki
        have Hs := Lib.hid hs
        clear hs hT hx
        generalize ls[i] = x at hc hxi Hs
        by_cases h256 : 256 < x.length
        · go_wp2_with (go_at_call 7; refine (alive_any _).mono ?_; rintro e w1 ⟨rfl, hb⟩)
          go_ret
          exact ⟨rfl, hb⟩
        · go_wp2_with fail
          go_round
          case rel =>
            refine ⟨i + 1, by omega, by go_num, ?_⟩
            intro y hy
            rw [Hs.out] at hy
            rcases List.mem_append.1 hy with hy | hy
            · exact hsh.out y hy
            · simp at hy; subst hy; omega
          case measure => simp [intOf]; omega
      · have hall : Hid (∀ x ∈ ls, x.length ≤ 256) := by
          have h := hsh.out
          rwa [List.take_of_length_le (by omega)] at h
        clear hsh hx
        by_cases hroom : room < 0 ∨ 1048576 < room
        · have NB := Lib.hid (New_bad room hroom)
          clear hT hroom
          go_wp2_with (first
            | (go_at_call 8; refine (NB.out _).mono ?_; rintro e w1 ⟨rfl, rfl⟩)
            | (go_at_call 7; refine (alive_any _).mono ?_; rintro e w1 ⟨rfl, hb⟩))
          go_ret
          exact ⟨rfl, hb⟩
        · go_wp2_with fail
          refine (New_fresh room (by omega) (by omega) _).mono ?_
          rintro e w1 ⟨rfl, D, B⟩
          go_wp2_with fail
          refine (Arm_any _ n _ w1 D).mono ?_
          rintro e w2 ⟨rfl, D2, G⟩
          have B2 := below_of_grown B G (Nat.le_refl _)
          have hmax : max n 0 = n := by omega
          rw [hmax] at D2
          clear hmax D B G
          go_wp2_with fail
          go_loopw [12, 13] (fun d k wr => ∃ (j : Nat) (dn : Int) (s : DS), j ≤ ls.length ∧ d = .int .i64 dn ∧ k = .int .i64 j ∧ Kept n room dn s ∧ DiskAt wr w.heap.size s ∧ Below w.heap.size w wr) (fun _ k _ => ls.length - (intOf k).toNat)
          case atStart => exact ⟨0, 0, _, by omega, rfl, rfl, ⟨by omega, by show (0 : Int) + n = n; omega, rfl, n0, rfl, by show ((0 : Nat) : Int) ≤ room; omega, Int.le_refl _, Int.le_refl _⟩, D2, B2⟩
          case round =>
            obtain ⟨j, dn, s, hj, rfl, rfl, hK, hD, hB⟩ := hrel
            clear D2 B2
            by_cases hkj : j < ls.length
            · obtain ⟨b, o, rfl, hbB, hc0⟩ := hT j hkj
              have hc := (hB.cell (p := ⟨b, o + j, none⟩) hbB).trans hc0
              have hxj := hall.out ls[j] (List.getElem_mem hkj)
              clear hT hc0 hall
              generalize ls[j] = x at hc hxj
              have HK := Lib.hid hK
              obtain ⟨d0, dl, harm, l0, hrm, hbl, s0, sl⟩ := hK
              have CB := Lib.hid (Bytes_any w.heap.size s wr hD)
              have CS := Lib.hid (Synced_any w.heap.size s wr hD)
              have CA := Append_any w.heap.size s x wr hD (by omega) (by omega) (by omega) (by omega)
              by_cases hl0 : s.left = 0
              · rw [app_stop s x harm hl0] at CA
                have HA := Lib.hid CA
                have hdn : decide (dn < n) = false := by simp; omega
                have Hl0 := Lib.hid hl0
                have Harm := Lib.hid harm
                clear CA hl0 harm hrm
                go_wp2_with fail
                refine CB.out.mono ?_
                rintro e w3 ⟨rfl, rfl⟩
                go_wp2_with fail
                refine CS.out.mono ?_
                rintro e w3 ⟨rfl, rfl⟩
                go_wp2_with fail
                refine HA.out.mono ?_
                rintro e w3 ⟨rfl, D3, G⟩
                have B3 := below_of_grown hB G (Nat.le_refl _)
                clear G hD CB CS HA hB
                go_wp2_with fail
                refine (Down_any _ _ w3 D3).mono ?_
                rintro e w4 ⟨rfl, rfl⟩
                go_wp2_with fail
                refine (Bytes_any _ _ w3 D3).mono ?_
                rintro e w4 ⟨rfl, rfl⟩
                go_wp2_with fail
                refine (Synced_any _ _ w3 D3).mono ?_
                rintro e w4 ⟨rfl, rfl⟩
                have CY := Sync_any _ _ w3 D3 ⟨l0, by show s.left ≤ _; omega⟩
                rw [syn_stop _ (show ({ s with down := true } : DS).armed = true from Harm.out) (show ({ s with down := true } : DS).left = 0 from Hl0.out)] at CY
                go_wp2_with fail
                refine CY.mono ?_
                rintro e w4 ⟨rfl, D4, G⟩
                have B4 := below_of_grown B3 G (Nat.le_refl _)
                clear G D3 CY B3
                go_wp2_with fail
                go_roundw
                case rel =>
                  refine ⟨j + 1, dn, _, by omega, rfl, by go_num, ?_, D4, B4⟩
                  exact ⟨HK.out.1, HK.out.2.1, HK.out.2.2.1, HK.out.2.2.2.1, HK.out.2.2.2.2.1, HK.out.2.2.2.2.2.1, HK.out.2.2.2.2.2.2.1, HK.out.2.2.2.2.2.2.2⟩
                case measure => simp [intOf]; omega
              · by_cases hfu : s.room - s.bytes.length < x.length
                · rw [app_full s x hl0 hfu] at CA
                  have HA := Lib.hid CA
                  have hdn : decide (dn < n) = true := by simp; omega
                  clear CA hl0 harm hrm hfu
                  go_wp2_with fail
                  refine CB.out.mono ?_
                  rintro e w3 ⟨rfl, rfl⟩
                  go_wp2_with fail
                  refine CS.out.mono ?_
                  rintro e w3 ⟨rfl, rfl⟩
                  go_wp2_with fail
                  refine HA.out.mono ?_
                  rintro e w3 ⟨rfl, D3, G⟩
                  have B3 := below_of_grown hB G (Nat.le_refl _)
                  clear G hD CB CS HA hB
                  go_wp2_with fail
                  go_roundw
                  case rel => exact ⟨j + 1, dn, s, by omega, rfl, by go_num, HK.out, D3, B3⟩
                  case measure => simp [intOf]; omega
                · rw [app_ok s x harm hl0 hfu] at CA
                  have HA := Lib.hid CA
                  have hdn : decide (dn < n) = true := by simp; omega
                  have Harm := Lib.hid harm
                  have Hfu := Lib.hid hfu
                  have hl1 : 1 ≤ s.left := by omega
                  clear CA hl0 harm hrm hfu
                  go_wp2_with fail
                  refine CB.out.mono ?_
                  rintro e w3 ⟨rfl, rfl⟩
                  go_wp2_with fail
                  refine CS.out.mono ?_
                  rintro e w3 ⟨rfl, rfl⟩
                  go_wp2_with fail
                  refine HA.out.mono ?_
                  rintro e w3 ⟨rfl, D3, G⟩
                  have B3 := below_of_grown hB G (Nat.le_refl _)
                  clear G hD CB CS HA hB
                  have CY := Sync_any _ _ w3 D3 ⟨by show 0 ≤ s.left - 1; omega, by show s.left - 1 ≤ _; omega⟩
                  have K2 := HK.out
                  obtain ⟨_, _, _, _, hrm, _, _, _⟩ := K2
                  have hb2 : (({ s with bytes := s.bytes ++ x, left := s.left - 1 } : DS).bytes.length : Int) ≤ room ∧ s.synced ≤ (({ s with bytes := s.bytes ++ x, left := s.left - 1 } : DS).bytes.length : Int) := by
                    have := Hfu.out
                    simp only [List.length_append]; omega
                  have Hb2 := Lib.hid hb2
                  have Hrm := Lib.hid hrm
                  clear hb2 hrm
                  by_cases hl2 : s.left = 1
                  · rw [syn_stop _ (show ({ s with bytes := s.bytes ++ x, left := s.left - 1 } : DS).armed = true from Harm.out) (show s.left - 1 = 0 by omega)] at CY
                    have HY := Lib.hid CY
                    have hdn2 : decide (dn + 1 < n) = false := by simp; omega
                    have Hl2 := Lib.hid hl2
                    clear CY D3 hl2
                    go_wp2_with fail
                    refine HY.out.mono ?_
                    rintro e w4 ⟨rfl, D4, G⟩
                    have B4 := below_of_grown B3 G (Nat.le_refl _)
                    clear G HY B3
                    go_wp2_with fail
                    go_roundw
                    case rel =>
                      refine ⟨j + 1, dn + 1, _, by omega, rfl, by go_num, ?_, D4, B4⟩
                      exact ⟨by omega, by show dn + 1 + (s.left - 1) = n; omega, Harm.out, by show 0 ≤ s.left - 1; omega, Hrm.out, Hb2.out.1, s0, Hb2.out.2⟩
                    case measure => simp [intOf]; omega
                  · rw [syn_ok _ (show ({ s with bytes := s.bytes ++ x, left := s.left - 1 } : DS).armed = true from Harm.out) (show s.left - 1 ≠ 0 by omega)] at CY
                    have HY := Lib.hid CY
                    have hdn2 : decide (dn + 1 < n) = true := by simp; omega
                    clear CY D3
                    go_wp2_with fail
                    refine HY.out.mono ?_
                    rintro e w4 ⟨rfl, D4, G⟩
                    have B4 := below_of_grown B3 G (Nat.le_refl _)
                    clear G HY B3
                    go_wp2_with fail
                    go_roundw
                    case rel =>
                      refine ⟨j + 1, dn + 1 + 1, _, by omega, rfl, by go_num, ?_, D4, B4⟩
                      exact ⟨by omega, by show dn + 1 + 1 + (s.left - 1 - 1) = n; omega, Harm.out, by show 0 ≤ s.left - 1 - 1; omega, Hrm.out, Hb2.out.1, by show (0 : Int) ≤ ((s.bytes ++ x).length : Int); omega, Int.le_refl _⟩
                    case measure => simp [intOf]; omega
            · obtain ⟨d0, dl, harm, l0, hrm, hbl, s0, sl⟩ := hK
              have CC := Lib.hid (Crash_any w.heap.size s keep wr hD ⟨s0, sl⟩ (by omega) hk)
              have hcl : ((crashS s keep).bytes.length : Int) ≤ room ∧ (crashS s keep).room = room ∧ (crashS s keep).armed = false ∧ (crashS s keep).left = 0 ∧ (crashS s keep).down = false := by
                refine ⟨?_, hrm, rfl, rfl, rfl⟩
                simp only [crashS, List.length_take]; omega
              have Hcl := Lib.hid hcl
              clear hcl hD hT hall hrm harm dl
              go_wp2_with fail
              refine CC.out.mono ?_
              rintro e w3 ⟨rfl, D3, G⟩
              have B3 := below_of_grown hB G (Nat.le_refl _)
              clear G CC hB
              obtain ⟨q1, q2, q3, q4, q5⟩ := Hcl.out
              generalize crashS s keep = z at D3 q1 q2 q3 q4 q5
              have CD := Lib.hid (Down_any _ _ w3 D3)
              have CY := Sync_any _ _ w3 D3 ⟨by rw [q4]; omega, by rw [q4]; omega⟩
              have hsy : syncS z = ({ z with synced := z.bytes.length, left := if z.armed then z.left - 1 else z.left }, 0) := by unfold syncS; rw [if_neg (by rw [q3]; simp)]
              rw [hsy] at CY
              have HY := Lib.hid CY
              have Q := Lib.hid (And.intro q1 (And.intro q2 (And.intro q3 (And.intro q4 q5))))
              clear CY hsy q1 q2 q3 q4 D3
              go_wp2_with fail
              refine CD.out.mono ?_
              rintro e w4 ⟨rfl, rfl⟩
              go_wp2_with fail
              refine HY.out.mono ?_
              rintro e w4 ⟨rfl, D4, G⟩
              have B4 := below_of_grown B3 G (Nat.le_refl _)
              clear G HY CD B3
              have Q1 := Q.out
              have CE := Append_any _ _ [] w4 D4 ⟨by show 0 ≤ z.room; omega, by show z.room ≤ _; omega⟩ (by show (z.bytes.length : Int) ≤ z.room; omega) ⟨by show 0 ≤ (if z.armed then z.left - 1 else z.left); rw [Q1.2.2.1, Q1.2.2.2.1]; simp, by show (if z.armed then z.left - 1 else z.left) ≤ _; rw [Q1.2.2.1, Q1.2.2.2.1]; simp⟩ (by simp)
              have hae : (appendS { z with synced := z.bytes.length, left := if z.armed then z.left - 1 else z.left } []).2 = 0 := by
                unfold appendS
                rw [if_neg (by show ¬ (z.armed = true ∧ _); rw [Q1.2.2.1]; simp), if_neg (by show ¬ (z.room - (z.bytes.length : Int) < (([] : List UInt8).length : Int)); simp; omega)]
              rw [hae] at CE
              have HE := Lib.hid CE
              clear CE hae Q1 D4 q5
              go_wp2_with fail
              refine HE.out.mono ?_
              rintro e w5 ⟨rfl, D5, G⟩
              have B5 := below_of_grown B4 G (Nat.le_refl _)
              clear G HE B4 D5
              go_wp2_with fail
              refine (alive_any _).mono ?_
              rintro e w6 ⟨rfl, hb⟩
              go_wp2_with fail
              go_ret
              exact ⟨rfl, below_acc B5 hb⟩
end Go.Proofs.Ytnbdkabffdaikaa
