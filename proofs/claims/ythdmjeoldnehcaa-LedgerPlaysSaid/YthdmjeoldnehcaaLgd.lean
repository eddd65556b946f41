/- The walk of the ledger's iterator honest$1: it hands over the members that are not bad, over a letter J. Condition: none. -/
import Derived.Test.YthdmjeoldnehcaaLgm
import Derived.Test.YthdmjeoldnehcaaRnw
namespace Go.Proofs.Ythdmjeoldnehcaa
open Go.RowKit
set_option linter.unusedVariables false
set_option linter.unusedSimpArgs false

/-- The members of a set that are not in another. -/
def an (o b : Nat) : Nat := (BitVec.ofNat 8 o &&& ~~~(BitVec.ofNat 8 b)).toNat
theorem an_lt (o b : Nat) : an o b < 256 := (BitVec.ofNat 8 o &&& ~~~(BitVec.ofNat 8 b)).isLt
theorem an_is (o b : Nat) : bits BinOp.andNot IntKind.u8 (o : Int) (b : Int) = (an o b : Int) := by
  have e1 : IntKind.u8.bits = 8 := rfl
  have h := an_lt o b
  simp only [bits]
  rw [e1, show BitVec.ofInt 8 (o : Int) = BitVec.ofNat 8 o from BitVec.ofInt_natCast 8 o, show BitVec.ofInt 8 (b : Int) = BitVec.ofNat 8 b from BitVec.ofInt_natCast 8 b]
  exact IntWalk.u8_in _ (by unfold an at h; omega)
theorem an_bit (o b k : Nat) (hk : k < 8) : (an o b).testBit k = (o.testBit k && !b.testBit k) := by
  unfold an
  rw [← BitVec.getLsbD, BitVec.getLsbD_and, BitVec.getLsbD_not, BitVec.getLsbD_ofNat, BitVec.getLsbD_ofNat]
  simp [hk]
theorem inS_nat (n k : Nat) : inS n (k : Int) = n.testBit k := by simp [inS]

set_option maxRecDepth 100000 in
set_option maxHeartbeats 8000000 in
theorem honest_iter (b1 b2 rb ro gb l orgs bad : Nat) (ho : orgs < 256) (hb : bad < 256) (J : Nat → World → Prop) (Jx : World → Prop) (w : World)
    (hc : ∀ a W, J a W → W.cell? ⟨b1, 0, none⟩ = some (.pointer (some ⟨rb, ro, none⟩)) ∧ W.cell? ⟨b2, 0, none⟩ = some (.pointer (some ⟨gb, 0, none⟩)) ∧ W.cell? ⟨rb, ro + 4, none⟩ = some (.int .u8 (orgs : Int)) ∧ W.cell? ⟨gb, 0, none⟩ = some (.int .u8 (bad : Int)))
    (hd : ∀ a W n, J a W → J a (W.drewN n)) (hJ0 : J 0 w) (hs : ∀ k W, k < 8 → (an orgs bad).testBit k = false → J k W → J (k + 1) W)
    (hY : ∀ k W, k < 8 → (an orgs bad).testBit k = true → J k W → YieldAt Fence.wide 0 Try.prog l #[.int .i64 (k : Int)] W fun e W' => (e = .returned (.bool true) ∧ J (k + 1) W') ∨ (e = .returned (.bool false) ∧ Jx W')) :
    Calls Try.prog 48 #[.func (.yield l) #[] #[], .pointer (some ⟨b1, 0, none⟩), .pointer (some ⟨b2, 0, none⟩)] w fun e W' => (∃ v, e = .returned v) ∧ (J 8 W' ∨ Jx W') := by
  have HC := Lib.hid hc
  have HD := Lib.hid hd
  have HY := Lib.hid hY
  have H0 := Lib.hid hJ0
  have HS := Lib.hid hs
  have ea := an_is orgs bad
  clear hc hd hY hJ0 hs
  go_enter Try.func48, Try.ntmps48
  go_wp2_with fail
  go_loopw [5] (fun v wr => ∃ a : Nat, v = .int .i64 (a : Int) ∧ a ≤ 8 ∧ Hid (J a wr)) (fun v _ => 8 - (intOf v).toNat)
  case atStart => exact ⟨0, rfl, by omega, H0⟩
  case round =>
    clear H0
    obtain ⟨a, rfl, ha, hJ⟩ := hrel
    obtain ⟨c1, c2, c3, c4⟩ := HC.out a _ hJ.out
    by_cases h8 : a < 8
    · have CI := in_any (an orgs bad) (an_lt _ _) (a : Int) (by omega) (by omega)
      rw [inS_nat] at CI
      cases hbit : (an orgs bad).testBit a
      · rw [hbit] at CI
        have QI := Lib.hid (fun n => calls_quiet (CI (wr.drewN n)) ⟨n, rfl⟩)
        have J1 := Lib.hid (fun n => HS.out a (wr.drewN n) h8 hbit (HD.out _ _ n hJ.out))
        clear CI hbit HY HS
        go_wp2_with fail
        go_quiet ((go_at_call 41; with_reducible exact QI.out _))
        go_wp2_with fail
        go_roundw
        case rel => exact ⟨a + 1, by go_num, by omega, J1.out _⟩
        case measure => simp [intOf]; omega
      · rw [hbit] at CI
        have YY := Lib.hid (HY.out a wr.drew h8 hbit (HD.out _ _ 1 hJ.out))
        have CQ := Lib.hid ((CI wr.drew).mono fun e w' ⟨h1, h2⟩ => (And.intro h1 h2.symm))
        clear CI hbit HY HS hJ
        go_wp2_with fail
        go_upto_region 3 with (fail)
        refine (wpIn_wide (n := 0)).1 ?_
        refine wide_still_tail 14 (by kernel_rfl) (by kernel_rfl) ?_
        simp only [List.take_succ_cons, List.take_zero, List.drop_succ_cons, List.drop_zero]
        change wpStill _ _ wr.drew _ _ _
        iterate 10 (refine wpStill_step (fun K hK => ?_); go_simp; refine hK _ ?_; clear hK K)
        (refine wpStill_step (fun K hK => ?_); go_simp; refine ⟨_, CQ.out, hK _ ?_⟩; clear hK K)
        iterate 3 (refine wpStill_step (fun K hK => ?_); go_simp; refine hK _ ?_; clear hK K)
        refine wpStill_nil ?_
        change wpListIn _ _ _ _ _ _ _ wr.drew
        obtain ⟨fn, tmps, assign, body, hy, hR⟩ := YY.out
        have HR := Lib.hid hR
        clear hR YY CQ c1 c2 c3 c4
        generalize wr.drew = W5 at hy HR ⊢
        gi_wp2
        refine ⟨rfl, HR.out.mono ?_⟩
        rintro e W' (⟨rfl, hJ'⟩ | ⟨rfl, hJx⟩)
        · have HJ' := Lib.hid hJ'
          clear hJ' HR hy
          gi_wp2
          go_wp2_with fail
          go_roundw
          case rel => exact ⟨a + 1, by go_num, by omega, HJ'⟩
          case measure => simp [intOf]; omega
        · clear HR hy
          gi_wp2
          go_wp2_with fail
          refine bodyPost_ret (results_none rfl _ _ _) rfl ?_
          exact ⟨⟨_, rfl⟩, .inr hJx⟩
    · obtain rfl : a = 8 := by omega
      have J8 := Lib.hid hJ.out
      clear hJ HY HS HC
      go_wp2_with fail
      go_end0
      exact ⟨⟨_, rfl⟩, .inl J8.out⟩
end Go.Proofs.Ythdmjeoldnehcaa
