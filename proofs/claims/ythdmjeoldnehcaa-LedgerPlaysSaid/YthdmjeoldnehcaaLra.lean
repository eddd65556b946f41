/- The walk of the reference's Same: are two rows of rows the same? Condition: they lie in memory. -/
import Derived.Test.YthdmjeoldnehcaaLgv
namespace Go.Proofs.Ythdmjeoldnehcaa
open Go.RowKit
set_option linter.unusedVariables false
set_option linter.unusedSimpArgs false

/-- A slice of rows reads as l. -/
def RowsAt (W : World) (v : Value) (l : List Rw) : Prop := W.ownsRow 0 43 10 v l.length (flat l)
theorem RowsAt.of {W : World} {B : Nat} {v : Value} {n : Nat} {l : List Rw} (h : W.ownsRow B 43 10 v n (flat l)) (hn : n = l.length) : RowsAt W v l := by
  subst hn
  exact ⟨h.1, h.2.imp id fun ⟨g, cap, cur, e, h1, h2⟩ => ⟨g, cap, cur, e, Nat.zero_le _, h2⟩⟩
theorem RowsAt.bel {W W' : World} {v : Value} {l : List Rw} (h : RowsAt W v l) (hb : Below W.heap.size W W') : RowsAt W' v l :=
  ownsRow_same h fun k hk => hb.block k (own_range h k hk).2
theorem RowsAt.slice {W : World} {v : Value} {l : List Rw} (h : RowsAt W v l) : ∃ ob cap, v = .slice ob l.length cap := own_slice h
theorem RowsAt.row {W : World} {v : Value} {l : List Rw} (h : RowsAt W v l) {k : Nat} (hk : k < l.length) :
    ∃ rb cap, v = .slice (some ⟨rb, 0, none⟩) l.length cap ∧ ∀ k (hk : k < l.length), W.rangeAt rb (k * 10) (l[k]).cells := by
  obtain ⟨rb, cap, e, _, _, _, hr⟩ := own_row h hk
  exact ⟨rb, cap, e, hr⟩
theorem RwAt.of_range {W : World} {b o : Nat} {r : Rw} (h : W.rangeAt b o r.cells) : RwAt W b o r := by
  have e := fun j x hx => h j x hx
  have h0 := e 0 _ rfl
  exact ⟨h0, e 1 _ rfl, e 2 _ rfl, e 3 _ rfl, e 4 _ rfl, e 5 _ rfl, e 6 _ rfl, e 7 _ rfl, e 8 _ rfl, e 9 _ rfl, block_lt_of_cell h0⟩

theorem drewN2 (w : World) (m n : Nat) : (w.drewN m).drewN n = w.drewN (m + n) := by simp [World.drewN, Nat.add_assoc]
set_option maxHeartbeats 4000000 in
theorem Same_any (v1 v2 : Value) (l1 l2 : List Rw) (w : World) (h1 : RowsAt w v1 l1) (h2 : RowsAt w v2 l2) (hl : l1.length ≤ 100000) (hl2 : l2.length ≤ 100000) :
    Calls Try.prog 10 #[v1, v2] w fun e w' => e = .returned (.bool (decide (l1 = l2))) ∧ ∃ m, w' = w.drewN m := by
  obtain ⟨o1, c1, rfl⟩ := h1.slice
  obtain ⟨o2, c2, rfl⟩ := h2.slice
  by_cases hn : l1.length = l2.length
  rotate_left
  · have d : ((l1.length : Int) != (l2.length : Int)) = true := by simp; omega
    have hd : decide (l1 = l2) = false := decide_eq_false fun q => hn (by rw [q])
    rw [hd]
    clear h1 h2
    go_enter Try.func10, Try.ntmps10
    go_wp2_with fail
    go_ret
    exact ⟨rfl, 0, rfl⟩
  have d : ((l1.length : Int) != (l2.length : Int)) = false := by simp; omega
  have H1 := Lib.hid h1
  have H2 := Lib.hid h2
  clear h1 h2
  go_enter Try.func10, Try.ntmps10
  go_upto_region 4 with (fail)
  go_loopw [5] (fun i wr => ∃ (k m : Nat), i = .int .i64 (k : Int) ∧ k ≤ l1.length ∧ wr = w.drewN m ∧ Hid (∀ j (h : j < k) (h1 : j < l1.length) (h2 : j < l2.length), l1[j] = l2[j])) (fun i _ => l1.length - (intOf i).toNat)
  case atStart => exact ⟨0, 0, rfl, by omega, rfl, fun j h => by omega⟩
  case round =>
    obtain ⟨k, m, rfl, hk, hwr, hj⟩ := hrel
    by_cases hkl : k < l1.length
    · have hk2 : k < l2.length := by omega
      obtain ⟨b1, cap1, e1, hr1⟩ := H1.out.row hkl
      obtain ⟨b2, cap2, e2, hr2⟩ := H2.out.row hk2
      cases e1
      cases e2
      have r1 := (RwAt.of_range (hr1 k hkl)).bel (below_drewN (Below.refl _ w) m)
      have r2 := (RwAt.of_range (hr2 k hk2)).bel (below_drewN (Below.refl _ w) m)
      rw [← hwr] at r1 r2
      have step : Hid (l1[k] = l2[k] → ∀ j (h : j < k + 1) (h1 : j < l1.length) (h2 : j < l2.length), l1[j] = l2[j]) := fun he j hjk h1 h2 => by
        by_cases hjk' : j = k
        · subst hjk'; exact he
        · exact hj.out j (by omega) h1 h2
      have stop : Hid (l1[k] ≠ l2[k] → l1 ≠ l2) := fun hne q => hne (by subst q; rfl)
      generalize l1[k] = a at r1 step stop
      generalize l2[k] = b at r2 step stop
      have HW := Lib.hid hwr
      clear hr1 hr2 H1 H2 hj hwr
      have kb : 0 ≤ (k : Int) ∧ (k : Int) < (l1.length : Int) := by omega
      have kb2 : 0 ≤ (k : Int) ∧ (k : Int) < (l2.length : Int) := by omega
      have kw : IntKind.i64.wrap ((k : Int) + 1) = (k : Int) + 1 := IntWalk.i64_in _ (by omega)
      obtain ⟨x0, x1, x2, x3, x4, x5, x6, x7, x8, x9, -⟩ := r1
      obtain ⟨y0, y1, y2, y3, y4, y5, y6, y7, y8, y9, -⟩ := r2
      by_cases hab : a = b
      · have stp := Lib.hid (step.out hab)
        subst hab
        clear step stop
        obtain ⟨⟨ac, ae, ass⟩, a1, a2, a3, a4, a5, a6, a7⟩ := a
        simp only at x0 x1 x2 x3 x4 x5 x6 x7 x8 x9 y0 y1 y2 y3 y4 y5 y6 y7 y8 y9
        go_upto_region 6 with (fail)
        go_quiet (fail)
        go_wp2_with fail
        go_roundw
        case rel =>
          rw [HW.out]
          exact ⟨k + 1, _, by go_num, by omega, drewN2 _ _ _, stp⟩
        case measure => simp [intOf]; omega
      · have SP : Hid (decide (l1 = l2) = false) := decide_eq_false (stop.out hab)
        clear step stop
        obtain ⟨⟨ac, ae, ass⟩, a1, a2, a3, a4, a5, a6, a7⟩ := a
        obtain ⟨⟨bc, be, bss⟩, b1', b2', b3', b4', b5', b6', b7'⟩ := b
        simp only at x0 x1 x2 x3 x4 x5 x6 x7 x8 x9 y0 y1 y2 y3 y4 y5 y6 y7 y8 y9
        have HAB := Lib.hid hab
        clear hab
        by_cases f0 : ac = bc
        rotate_left
        · go_upto_region 6 with (fail)
          go_quiet (fail)
          go_wp2_with fail
          refine bodyPost_ret (results_tmp (t := 4) rfl _ _ _) rfl ⟨by rw [SP.out]; rfl, ?_⟩
          rw [HW.out]
          exact ⟨_, drewN2 _ _ _⟩
        subst f0
        by_cases f1 : ae = be
        rotate_left
        · go_upto_region 6 with (fail)
          go_quiet (fail)
          go_wp2_with fail
          refine bodyPost_ret (results_tmp (t := 4) rfl _ _ _) rfl ⟨by rw [SP.out]; rfl, ?_⟩
          rw [HW.out]
          exact ⟨_, drewN2 _ _ _⟩
        subst f1
        by_cases f2 : ass = bss
        rotate_left
        · go_upto_region 6 with (fail)
          go_quiet (fail)
          go_wp2_with fail
          refine bodyPost_ret (results_tmp (t := 4) rfl _ _ _) rfl ⟨by rw [SP.out]; rfl, ?_⟩
          rw [HW.out]
          exact ⟨_, drewN2 _ _ _⟩
        subst f2
        by_cases f3 : a1 = b1'
        rotate_left
        · go_upto_region 6 with (fail)
          go_quiet (fail)
          go_wp2_with fail
          refine bodyPost_ret (results_tmp (t := 4) rfl _ _ _) rfl ⟨by rw [SP.out]; rfl, ?_⟩
          rw [HW.out]
          exact ⟨_, drewN2 _ _ _⟩
        subst f3
        by_cases f4 : a2 = b2'
        rotate_left
        · have g4 : ¬ (a2 : Int) = (b2' : Int) := by omega
          go_upto_region 6 with (fail)
          go_quiet (fail)
          go_wp2_with fail
          refine bodyPost_ret (results_tmp (t := 4) rfl _ _ _) rfl ⟨by rw [SP.out]; rfl, ?_⟩
          rw [HW.out]
          exact ⟨_, drewN2 _ _ _⟩
        subst f4
        by_cases f5 : a3 = b3'
        rotate_left
        · have g5 : ¬ (a3 : Int) = (b3' : Int) := by omega
          go_upto_region 6 with (fail)
          go_quiet (fail)
          go_wp2_with fail
          refine bodyPost_ret (results_tmp (t := 4) rfl _ _ _) rfl ⟨by rw [SP.out]; rfl, ?_⟩
          rw [HW.out]
          exact ⟨_, drewN2 _ _ _⟩
        subst f5
        by_cases f6 : a4 = b4'
        rotate_left
        · have g6 : ¬ (a4 : Int) = (b4' : Int) := by omega
          go_upto_region 6 with (fail)
          go_quiet (fail)
          go_wp2_with fail
          refine bodyPost_ret (results_tmp (t := 4) rfl _ _ _) rfl ⟨by rw [SP.out]; rfl, ?_⟩
          rw [HW.out]
          exact ⟨_, drewN2 _ _ _⟩
        subst f6
        by_cases f7 : a5 = b5'
        rotate_left
        · go_upto_region 6 with (fail)
          go_quiet (fail)
          go_wp2_with fail
          refine bodyPost_ret (results_tmp (t := 4) rfl _ _ _) rfl ⟨by rw [SP.out]; rfl, ?_⟩
          rw [HW.out]
          exact ⟨_, drewN2 _ _ _⟩
        subst f7
        by_cases f8 : a6 = b6'
        rotate_left
        · go_upto_region 6 with (fail)
          go_quiet (fail)
          go_wp2_with fail
          refine bodyPost_ret (results_tmp (t := 4) rfl _ _ _) rfl ⟨by rw [SP.out]; rfl, ?_⟩
          rw [HW.out]
          exact ⟨_, drewN2 _ _ _⟩
        subst f8
        by_cases f9 : a7 = b7'
        rotate_left
        · have g9 : ¬ (a7 : Int) = (b7' : Int) := by omega
          go_upto_region 6 with (fail)
          go_quiet (fail)
          go_wp2_with fail
          refine bodyPost_ret (results_tmp (t := 4) rfl _ _ _) rfl ⟨by rw [SP.out]; rfl, ?_⟩
          rw [HW.out]
          exact ⟨_, drewN2 _ _ _⟩
        subst f9
        exact absurd rfl HAB.out
    · obtain rfl : k = l1.length := by omega
      have EQ : Hid (decide (l1 = l2) = true) := decide_eq_true (List.ext_getElem hn fun j h1 h2 => hj.out j h1 h1 h2)
      have HW := Lib.hid hwr
      clear hwr hj H1 H2
      go_wp2_with fail
      refine bodyPost_ret (results_tmp (t := 4) rfl _ _ _) rfl ⟨by rw [EQ.out]; rfl, ?_⟩
      rw [HW.out]
      exact ⟨m, rfl⟩
end Go.Proofs.Ythdmjeoldnehcaa
