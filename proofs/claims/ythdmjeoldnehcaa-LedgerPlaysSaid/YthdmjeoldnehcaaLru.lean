/- The walk of LedgerRuns. Condition: sizes that a machine has. -/
import Derived.Test.YthdmjeoldnehcaaLrk
namespace Go.Proofs.Ythdmjeoldnehcaa
open Go.RowKit
set_option linter.unusedVariables false
set_option linter.unusedSimpArgs false

theorem acc_succ (bad : Nat) (ls : List Ac) (k : Nat) (h : k < ls.length) : acc bad ls (k + 1) = if errOf bad (stp bad ls k) ls[k] = 0 then acc bad ls k ++ [ls[k]] else acc bad ls k := by
  rw [acc, dif_pos h]
theorem Rm.lift {w w1 W : World} {g m bad : Nat} {R : List Rw} (h : Rm w1 g m bad R W) (hb : Below w.heap.size w w1) : Rm w g m bad R W := by
  obtain ⟨⟨sl, hl⟩, h2⟩ := h
  exact ⟨⟨sl, hl.mono hb.size⟩, below_acc hb h2⟩
theorem Run_ok (A : Option Addr) (cap bad : Nat) (ls : List Ac) (w : World) (hT : Acts w w.heap.size A ls) (hl : ls.length ≤ 120) (hbad : bad < 256) (ho : ∀ a ∈ ls, a.orgs < 256) (hok : ∀ j (h : j < ls.length), errOf bad (stp bad ls j) ls[j] = 0) :
    Calls Try.prog 8 #[.int .u8 (bad : Int), .slice A ls.length cap] w fun e w' => ∃ g mb, e = .returned (.tuple #[.pointer (some ⟨g, 0, none⟩), .int .i64 (ls.length : Int), .int .i64 0]) ∧ Rm w g mb bad (stp bad ls ls.length) w' :=
  (Run_any A cap bad ls w hT hl hbad ho).mono fun e w' hh => by
    rcases hh with ⟨g, mb, h1, _, h3⟩ | ⟨k, hk, _, h2, _⟩
    · exact ⟨g, mb, h1, h3⟩
    · exact absurd (hok k hk) h2
theorem Run_bad (A : Option Addr) (cap bad : Nat) (ls : List Ac) (w : World) (hT : Acts w w.heap.size A ls) (hl : ls.length ≤ 120) (hbad : bad < 256) (ho : ∀ a ∈ ls, a.orgs < 256) (k : Nat) (hk : k < ls.length) (hok : ∀ j (h : j < k), errOf bad (stp bad ls j) (ls[j]'(by omega)) = 0) (hne : errOf bad (stp bad ls k) ls[k] ≠ 0) :
    Calls Try.prog 8 #[.int .u8 (bad : Int), .slice A ls.length cap] w fun e w' => e = .returned (.tuple #[.pointer none, .int .i64 (k : Int), .int .i64 (errOf bad (stp bad ls k) ls[k] : Int)]) ∧ Below w.heap.size w w' :=
  (Run_any A cap bad ls w hT hl hbad ho).mono fun e w' hh => by
    rcases hh with ⟨g, mb, h1, h2, _⟩ | ⟨j, hj, h1, h2, h3, h4⟩
    · exact absurd (h2 k hk) hne
    · have e2 : j = k := by
        rcases Nat.lt_trichotomy j k with q | q | q
        · exact absurd (hok j q) h2
        · exact q
        · exact absurd (h1 k q) hne
      subst e2
      exact ⟨h3, h4⟩
set_option maxRecDepth 100000 in
set_option maxHeartbeats 8000000 in
theorem LedgerRuns_walk (A : Option Addr) (cap bad : Nat) (ls : List Ac) (w : World) (hT : Acts w w.heap.size A ls) (hl : ls.length ≤ 9223372036854775807) (hbad : bad < 256) (ho : ∀ a ∈ ls, a.kind < 256 ∧ a.orgs < 256) :
    Calls Try.prog 3 #[.int .u8 (bad : Int), .slice A ls.length cap] w fun e w' => e = .returned (.bool true) ∧ Below w.heap.size w w' := by
  have AL := Lib.hid (fun (W : World) => alive_any W)
  have HT := Lib.hid hT
  have HO := Lib.hid ho
  clear hT ho
  by_cases h120 : 120 < ls.length
  · have d : decide (120 < (ls.length : Int)) = true := by simp; omega
    go_enter Try.func3, Try.ntmps3
    go_wp2_with (go_at_call 7; refine (AL.out _).mono ?_; rintro e w2 ⟨rfl, hb⟩; have TB := Lib.hid hb; clear hb)
    go_ret
    exact ⟨rfl, TB.out⟩
  have d120 : decide (120 < (ls.length : Int)) = false := by simp; omega
  have hs120 : ls.length ≤ 120 := by omega
  have BT := Lib.hid (fun k hk => acc_bt bad ls (fun a ha => (HO.out a ha).2) k hk)
  rcases first_bad (fun j => ∀ h : j < ls.length, errOf bad (stp bad ls j) ls[j] = 0) ls.length with hok | ⟨n, hn, hok, hne⟩
  · -- all can be done
    have OK : Hid (∀ j (h : j < ls.length), errOf bad (stp bad ls j) ls[j] = 0) := fun j h => hok j h h
    have CR := Lib.hid (fun (A' : Option Addr) (c' : Nat) (W : World) (hA : Acts W W.heap.size A' ls) => Run_ok A' c' bad ls W hA hs120 hbad (fun a ha => (HO.out a ha).2) OK.out)
    clear hok
    go_enter Try.func3, Try.ntmps3
    go_upto_region 4 with (first
      | (refine wpList_append_acopy rfl _ _ rfl (by rfl) A cap ls (by rfl) HT.out (by omega) ?_; intro A' c' w1 hA hb; have A1 := Lib.hid hA; have B1 := Lib.hid hb; clear hA hb)
      | (go_at_call 8; (with_reducible refine (CR.out _ _ _ A1.out).mono ?_); rintro e w2 ⟨g, mb, rfl, hR⟩; have R2 := Lib.hid (hR.lift B1.out); clear hR))
    clear CR A1 B1
    have R3 := Lib.hid (Bo.new R2.out)
    go_upto_region 5 with fail
    clear R2
    generalize w2.alloc (.cells #[.int .u8 (bad : Int), .slice none 0 0] 30 (0, 0)) = w3 at R3 ⊢
    generalize w2.heap.size = hp at R3 ⊢
    go_wp2_with fail
    go_loopw [9] (fun i wr => ∃ k : Nat, i = .int .i64 (k : Int) ∧ k ≤ ls.length ∧ Hid (Bo w g mb hp bad (stp bad ls ls.length) (acc bad ls k) wr)) (fun i _ => ls.length - (intOf i).toNat)
    case atStart => exact ⟨0, rfl, by omega, R3⟩
    case round =>
      clear R3
      obtain ⟨k, rfl, hk, H⟩ := hrel
      have hla := acc_len bad ls k
      by_cases hkl : k < ls.length
      · obtain ⟨b, o, rfl, hbl, hr⟩ := HT.out k hkl
        have hko := HO.out ls[k] (List.getElem_mem hkl)
        have HR : Hid (wr.rangeAt b (o + k * 7) (ls[k]).cells) := fun j v hv => (H.out.b.cell (p := ⟨b, _, none⟩) hbl).trans (hr j v hv)
        have kb : 0 ≤ (k : Int) ∧ (k : Int) < (ls.length : Int) := by omega
        have kw : IntKind.i64.wrap ((k : Int) + 1) = (k : Int) + 1 := IntWalk.i64_in _ (by omega)
        have CA : Hid (∀ W : World, Bo w g mb hp bad (stp bad ls ls.length) (acc bad ls k) W → Calls Try.prog 9 #[.pointer (some ⟨hp, 0, none⟩), .agg (ls[k]).cells.toArray] W fun r w' => r = .returned (.int .i64 0) ∧ Bo w g mb hp bad (stp bad ls ls.length) (acc bad ls (k + 1)) w') := fun W hW => by
          have := hW.rapply (BT.out k hk) ls[k] (by omega) hbad hko.2 hko.1
          rw [OK.out k hkl, if_pos rfl] at this
          rw [acc_succ bad ls k hkl, OK.out k hkl, if_pos rfl]
          exact this
        clear hr hko
        generalize ls[k] = x at HR CA
        go_wp2_with (first
          | (refine wpList_load_mid rfl 35 _ rfl b (o + k * 7) (by rfl) x.cells _ HR.out Try.underlying35 rfl (size_ac x) ?_)
          | (go_at_call 9; (with_reducible refine (CA.out _ H.out).mono ?_); rintro e W4 ⟨rfl, hR⟩; have R4 := Lib.hid hR; clear hR))
        go_roundw
        case rel => exact ⟨k + 1, by go_num, by omega, R4⟩
        case measure => simp [intOf]; omega
      · obtain rfl : k = ls.length := by omega
        have BTn := Lib.hid (BT.out ls.length (Nat.le_refl _))
        have hlr := stp_len bad ls ls.length (Nat.le_refl _)
        generalize acc bad ls ls.length = L at H BTn hla
        generalize stp bad ls ls.length = R at H BTn hlr
        clear hk hkl HT HO BT OK
        go_wp2_with (first
          | (go_at_call 11; (with_reducible refine (H.out.rows (by omega)).mono ?_); rintro e W5 ⟨o5, c5, rfl, hRA, hB⟩; have A5 := Lib.hid hRA; have H5 := Lib.hid hB; clear hRA hB)
          | (go_at_call 12; (with_reducible refine (H5.out.rrows BTn.out (by omega)).mono ?_); rintro e W6 ⟨o6, c6, rfl, hRA, hb⟩; have A6 := Lib.hid hRA; have A7 := Lib.hid (A5.out.bel hb); have B6 := Lib.hid (below_acc H5.out.b hb); clear hRA hb)
          | (go_at_call 10; (with_reducible refine (Same_any _ _ R R _ A7.out A6.out (by omega) (by omega)).mono ?_); rintro e W8 ⟨rfl, m8, rfl⟩; rw [decide_eq_true (rfl : R = R)])
          | (go_at_call 7; refine (AL.out _).mono ?_; rintro e W9 ⟨rfl, hb⟩; have TB := Lib.hid (below_acc (below_drewN B6.out m8) hb); clear hb))
        go_ret
        exact ⟨rfl, TB.out⟩
  · -- the n-th can't
    have OK : Hid (∀ j (h : j < n), errOf bad (stp bad ls j) (ls[j]'(by omega)) = 0) := fun j h => hok j h (by omega)
    have NE : Hid (errOf bad (stp bad ls n) ls[n] ≠ 0) := fun q => hne fun _ => q
    have CR := Lib.hid (fun (A' : Option Addr) (c' : Nat) (W : World) (hA : Acts W W.heap.size A' ls) => Run_bad A' c' bad ls W hA hs120 hbad (fun a ha => (HO.out a ha).2) n hn OK.out NE.out)
    generalize hern : errOf bad (stp bad ls n) ls[n] = er at CR NE
    have HER := Lib.hid hern
    clear hok hne hern
    go_enter Try.func3, Try.ntmps3
    go_upto_region 4 with (first
      | (refine wpList_append_acopy rfl _ _ rfl (by rfl) A cap ls (by rfl) HT.out (by omega) ?_; intro A' c' w1 hA hb; have A1 := Lib.hid hA; have B1 := Lib.hid hb; clear hA hb)
      | (go_at_call 8; (with_reducible refine (CR.out _ _ _ A1.out).mono ?_); rintro e w2 ⟨rfl, hR⟩; have R2 := Lib.hid (below_acc B1.out hR); clear hR))
    clear CR A1 B1
    have R3 := Lib.hid (Ra.new R2.out bad)
    go_upto_region 5 with fail
    clear R2
    generalize w2.alloc (.cells #[.int .u8 (bad : Int), .slice none 0 0] 30 (0, 0)) = w3 at R3 ⊢
    generalize w2.heap.size = hp at R3 ⊢
    go_wp2_with fail
    go_loopw [9] (fun i wr => ∃ k : Nat, i = .int .i64 (k : Int) ∧ k ≤ n ∧ Hid (Ra w hp bad (acc bad ls k) wr)) (fun i _ => ls.length - (intOf i).toNat)
    case atStart => exact ⟨0, rfl, by omega, R3⟩
    case round =>
      clear R3
      obtain ⟨k, rfl, hk, H⟩ := hrel
      have hla := acc_len bad ls k
      have hkl : k < ls.length := by omega
      obtain ⟨b, o, rfl, hbl, hr⟩ := HT.out k hkl
      have hko := HO.out ls[k] (List.getElem_mem hkl)
      have HR : Hid (wr.rangeAt b (o + k * 7) (ls[k]).cells) := fun j v hv => (H.out.b.cell (p := ⟨b, _, none⟩) hbl).trans (hr j v hv)
      have kb : 0 ≤ (k : Int) ∧ (k : Int) < (ls.length : Int) := by omega
      have kw : IntKind.i64.wrap ((k : Int) + 1) = (k : Int) + 1 := IntWalk.i64_in _ (by omega)
      have CB := fun (W : World) (hW : Ra w hp bad (acc bad ls k) W) => hW.apply (BT.out k (by omega)) ls[k] (by omega) hbad hko.2 hko.1
      by_cases hkn : k < n
      · have CA : Hid (∀ W : World, Ra w hp bad (acc bad ls k) W → Calls Try.prog 9 #[.pointer (some ⟨hp, 0, none⟩), .agg (ls[k]).cells.toArray] W fun r w' => r = .returned (.int .i64 0) ∧ Ra w hp bad (acc bad ls (k + 1)) w') := fun W hW => by
          have := CB W hW
          rw [OK.out k hkn, if_pos rfl] at this
          rw [acc_succ bad ls k hkl, OK.out k hkn, if_pos rfl]
          exact this
        clear hr hko CB
        generalize ls[k] = x at HR CA
        go_wp2_with (first
          | (refine wpList_load_mid rfl 35 _ rfl b (o + k * 7) (by rfl) x.cells _ HR.out Try.underlying35 rfl (size_ac x) ?_)
          | (go_at_call 9; (with_reducible refine (CA.out _ H.out).mono ?_); rintro e W4 ⟨rfl, hR⟩; have R4 := Lib.hid hR; clear hR))
        go_roundw
        case rel => exact ⟨k + 1, by go_num, by omega, R4⟩
        case measure => simp [intOf]; omega
      · obtain rfl : k = n := by omega
        have CA : Hid (∀ W : World, Ra w hp bad (acc bad ls k) W → Calls Try.prog 9 #[.pointer (some ⟨hp, 0, none⟩), .agg (ls[k]).cells.toArray] W fun r w' => r = .returned (.int .i64 (er : Int)) ∧ Below w.heap.size w w') := fun W hW => by
          have := CB W hW
          rw [HER.out] at this
          exact this.mono fun e w' ⟨q1, q2⟩ => ⟨q1, q2.b⟩
        have d1 : ((er : Int) != 0) = true := by have := NE.out; simp; omega
        clear hr hko CB OK NE HER
        generalize ls[k] = x at HR CA
        go_wp2_with (first
          | (refine wpList_load_mid rfl 35 _ rfl b (o + k * 7) (by rfl) x.cells _ HR.out Try.underlying35 rfl (size_ac x) ?_)
          | (go_at_call 9; (with_reducible refine (CA.out _ H.out).mono ?_); rintro e W4 ⟨rfl, hR⟩; have R4 := Lib.hid hR; clear hR)
          | (go_at_call 7; refine (AL.out _).mono ?_; rintro e W9 ⟨rfl, hb⟩; have TB := Lib.hid (below_acc R4.out hb); clear hb))
        go_ret
        exact ⟨rfl, TB.out⟩
end Go.Proofs.Ythdmjeoldnehcaa
