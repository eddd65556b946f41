/- The reference's disk: the walks of Cut, Sync, Arm, Crash, New. Condition: the numbers fit. -/
import Derived.Test.YtnbdkabffdaikaaDskf
import Derived.BigRegion
namespace Go.Proofs.Ytnbdkabffdaikaa
open Go.RowKit
set_option linter.unusedVariables false

set_option maxHeartbeats 2000000 in
theorem rSync_any (g : Nat) (r : RS) (w : World) (h : RefAt w g r) (F : Fits r) :
    Calls Try.prog 31 #[.pointer (some ⟨g, 0, none⟩)] w fun e w' => e = .returned (.int .i64 (rSync r).2) ∧ RefAt w' g (rSync r).1 ∧ w.grownBy w' (some g) := by
  have CS := Lib.hid (stops_any g r w h)
  obtain ⟨m0, m1, l0, l1, hl⟩ := F
  clear h
  unfold rSync
  by_cases h0 : r.left = 0
  · rw [if_pos h0]
    have e0 : (r.left == 0) = true := by simpa using h0
    rw [e0] at CS
    clear h0 e0
    go_enter Try.func31, Try.ntmps31
    go_wp2_with fail
    refine CS.out.mono ?_
    rintro e w1 ⟨rfl, k⟩
    have K := Lib.hid k
    clear k CS
    go_wp2_with fail
    go_ret
    exact ⟨rfl, K.out⟩
  · rw [if_neg h0]
    have e0 : (r.left == 0) = false := by simpa using h0
    rw [e0] at CS
    clear h0 e0
    have a1 := fun W => str_add (P := Try.prog) r.good r.loose (by omega) W
    go_enter Try.func31, Try.ntmps31
    go_wp2_with fail
    refine CS.out.mono ?_
    rintro e w1 ⟨rfl, k⟩
    have c := ref_cells k.1
    simp only [Stops] at c
    obtain ⟨c0, c1, c2, c3, c4, hf, hlt⟩ := c
    have K : Hid (RefAt (((w1.setCell ⟨g, 2, none⟩ (str (r.good ++ r.loose))).drew).setCell ⟨g, 3, none⟩ (str [])) g { Stops r with good := r.good ++ r.loose, loose := [] } ∧ w.grownBy (((w1.setCell ⟨g, 2, none⟩ (str (r.good ++ r.loose))).drew).setCell ⟨g, 3, none⟩ (str [])) (some g)) :=
      ⟨RefAt.set (r := { Stops r with good := r.good ++ r.loose }) (RefAt.heap (RefAt.set k.1 rfl) rfl) rfl, (grown_drew (k.2.trans (grown_set _ _ _ _)) 1).trans (grown_set _ _ _ _)⟩
    clear k CS
    go_wp2_with fail
    go_region
    go_wp2_with fail
    refine (done_any g _ _ K.out.1 l1).mono ?_
    rintro e w2 ⟨rfl, k⟩
    have K2 := Lib.hid (And.intro k.1 (K.out.2.trans k.2))
    clear k K
    go_wp2_with fail
    go_ret
    exact ⟨rfl, K2.out⟩

set_option maxHeartbeats 2000000 in
theorem rCut_any (g : Nat) (r : RS) (n : Int) (w : World) (h : RefAt w g r) (F : Fits r) :
    Calls Try.prog 32 #[.pointer (some ⟨g, 0, none⟩), .int .i64 n] w fun e w' => e = .returned (.int .i64 (rCut r n).2) ∧ RefAt w' g (rCut r n).1 ∧ w.grownBy w' (some g) := by
  have CS := Lib.hid (stops_any g r w h)
  obtain ⟨m0, m1, l0, l1, hl⟩ := F
  clear h
  unfold rCut
  by_cases h0 : r.left = 0
  · rw [if_pos h0]
    have e0 : (r.left == 0) = true := by simpa using h0
    rw [e0] at CS
    clear h0 e0
    go_enter Try.func32, Try.ntmps32
    go_wp2_with fail
    refine CS.out.mono ?_
    rintro e w1 ⟨rfl, k⟩
    have K := Lib.hid k
    clear k CS
    go_wp2_with fail
    go_ret
    exact ⟨rfl, K.out⟩
  · rw [if_neg h0]
    have e0 : (r.left == 0) = false := by simpa using h0
    rw [e0] at CS
    clear h0 e0
    have a1 := fun W => str_add (P := Try.prog) r.good r.loose (by omega) W
    by_cases h1 : n < 0
    · rw [if_pos (.inl h1)]
      have d1 : decide (n < 0) = true := by simpa using h1
      go_enter Try.func32, Try.ntmps32
      go_wp2_with fail
      refine CS.out.mono ?_
      rintro e w1 ⟨rfl, k⟩
      have c := ref_cells k.1
      simp only [Stops] at c
      obtain ⟨c0, c1, c2, c3, c4, hf, hlt⟩ := c
      have K : Hid (∀ n, RefAt (w1.drewN n) g (Stops r) ∧ w.grownBy (w1.drewN n) (some g)) := fun n => ⟨k.1, grown_drew k.2 n⟩
      clear k CS
      go_wp2_with fail
      go_quiet (fail)
      go_wp2_with fail
      go_ret
      exact ⟨rfl, K.out _⟩
    have n0 : 0 ≤ n := by omega
    have d1 : decide (n < 0) = false := by simp; omega
    by_cases h2 : (r.good.length : Int) + r.loose.length < n
    · rw [if_pos (.inr h2)]
      have d2 : decide ((r.good.length : Int) + (r.loose.length : Int) < n) = true := by simpa using h2
      clear h1
      go_enter Try.func32, Try.ntmps32
      go_wp2_with fail
      refine CS.out.mono ?_
      rintro e w1 ⟨rfl, k⟩
      have c := ref_cells k.1
      simp only [Stops] at c
      obtain ⟨c0, c1, c2, c3, c4, hf, hlt⟩ := c
      have K : Hid (∀ n, RefAt (w1.drewN n) g (Stops r) ∧ w.grownBy (w1.drewN n) (some g)) := fun n => ⟨k.1, grown_drew k.2 n⟩
      clear k CS
      go_wp2_with fail
      go_quiet (fail)
      go_wp2_with fail
      go_ret
      exact ⟨rfl, K.out _⟩
    · rw [if_neg (by omega)]
      have d2 : decide ((r.good.length : Int) + (r.loose.length : Int) < n) = false := by simp; omega
      have h3 : n ≤ (r.good.length : Int) + r.loose.length := by omega
      clear h1 h2
      go_enter Try.func32, Try.ntmps32
      go_wp2_with fail
      refine CS.out.mono ?_
      rintro e w1 ⟨rfl, k⟩
      have c := ref_cells k.1
      simp only [Stops] at c
      obtain ⟨c0, c1, c2, c3, c4, hf, hlt⟩ := c
      have K : Hid (∀ m, RefAt (((w1.drewN m).setCell ⟨g, 2, none⟩ (str ((r.good ++ r.loose).take n.toNat))).setCell ⟨g, 3, none⟩ (str [])) g { Stops r with good := (r.good ++ r.loose).take n.toNat, loose := [] } ∧ w.grownBy (((w1.drewN m).setCell ⟨g, 2, none⟩ (str ((r.good ++ r.loose).take n.toNat))).setCell ⟨g, 3, none⟩ (str [])) (some g)) :=
        fun m => ⟨RefAt.set (r := { Stops r with good := (r.good ++ r.loose).take n.toNat }) (RefAt.set (RefAt.heap k.1 rfl) rfl) rfl, ((grown_drew k.2 m).trans (grown_set _ _ _ _)).trans (grown_set _ _ _ _)⟩
      clear k CS
      go_wp2_with fail
      go_quiet (fail)
      go_wp2_with fail
      refine (done_any g _ _ (K.out nq).1 l1).mono ?_
      rintro e w2 ⟨rfl, k⟩
      have K2 := Lib.hid (And.intro k.1 ((K.out nq).2.trans k.2))
      clear k K
      go_wp2_with fail
      go_ret
      exact ⟨rfl, K2.out⟩

theorem rArm_any (g : Nat) (r : RS) (n : Int) (w : World) (h : RefAt w g r) :
    Calls Try.prog 33 #[.pointer (some ⟨g, 0, none⟩), .int .i64 n] w fun e w' => e = .returned (.tuple #[]) ∧ RefAt w' g (rArm r n) ∧ w.grownBy w' (some g) := by
  have hr : ∀ m : Int, m = max n 0 → RefAt (w.setCell ⟨g, 1, none⟩ (.int .i64 m)) g (rArm r n) ∧ w.grownBy (w.setCell ⟨g, 1, none⟩ (.int .i64 m)) (some g) := by
    rintro m rfl; exact ⟨h.set rfl, grown_set _ _ _ _⟩
  have Hr := Lib.hid hr
  obtain ⟨c0, c1, c2, c3, c4, hf, hlt⟩ := ref_cells h
  clear h hr
  rcases Int.lt_or_le n 0 with hn | hn
  · go_enter Try.func33, Try.ntmps33
    go_wp2
    go_end0
    exact ⟨rfl, Hr.out 0 (by omega)⟩
  · go_enter Try.func33, Try.ntmps33
    go_wp2
    go_end0
    exact ⟨rfl, Hr.out n (by omega)⟩

theorem rNew_bad (room : Int) (h : room < 0 ∨ 1048576 < room) (w : World) :
    Calls Try.prog 21 #[.int .i64 room] w fun e w' => e = .returned (.pointer none) ∧ w = w' := by
  rcases h with h | h
  · go_enter Try.func21, Try.ntmps21
    go_wp2
    go_ret
    exact ⟨rfl, rfl⟩
  · have h0 : 0 ≤ room := by omega
    go_enter Try.func21, Try.ntmps21
    go_wp2
    go_ret
    exact ⟨rfl, rfl⟩

theorem rNew_good (room : Int) (h0 : 0 ≤ room) (h1 : room ≤ 1048576) (w : World) :
    Calls Try.prog 21 #[.int .i64 room] w fun e w' => e = .returned (.pointer (some ⟨w.heap.size, 0, none⟩)) ∧ RefAt w' w.heap.size ⟨room, -1, [], [], false⟩ ∧ Below w.heap.size w w' := by
  have hr : RefAt (w.alloc (.cells (rcells ⟨room, -1, [], [], false⟩) 57)) w.heap.size ⟨room, -1, [], [], false⟩ ∧ Below w.heap.size w (w.alloc (.cells (rcells ⟨room, -1, [], [], false⟩) 57)) :=
    ⟨heap_alloc_new w _, (Below.refl _ w).alloc (Nat.le_refl _) _⟩
  have Hr := Lib.hid hr
  clear hr
  go_enter Try.func21, Try.ntmps21
  go_wp2
  go_ret
  exact ⟨rfl, Hr.out⟩

set_option maxHeartbeats 2000000 in
theorem rCrash_any (g : Nat) (r : RS) (n : Int) (w : World) (h : RefAt w g r) (F : Fits r) (hn : n ≤ 9223372036854775807) :
    Calls Try.prog 34 #[.pointer (some ⟨g, 0, none⟩), .int .i64 n] w fun e w' => e = .returned (.tuple #[]) ∧ RefAt w' g (rCrash r n) ∧ w.grownBy w' (some g) := by
  obtain ⟨c0, c1, c2, c3, c4, hf, hlt⟩ := ref_cells h
  obtain ⟨m0, m1, l0, l1, hl⟩ := F
  have K : Hid (∀ G, G = r.good ++ r.loose.take (min (max n 0) r.loose.length).toNat → RefAt (((((w.setCell ⟨g, 2, none⟩ (str G)).drew).setCell ⟨g, 3, none⟩ (str [])).setCell ⟨g, 1, none⟩ (.int .i64 (-1))).setCell ⟨g, 4, none⟩ (.bool false)) g (rCrash r n) ∧
      w.grownBy (((((w.setCell ⟨g, 2, none⟩ (str G)).drew).setCell ⟨g, 3, none⟩ (str [])).setCell ⟨g, 1, none⟩ (.int .i64 (-1))).setCell ⟨g, 4, none⟩ (.bool false)) (some g)) := by
    rintro G rfl
    refine ⟨?_, (((grown_drew (grown_set _ _ _ _) 1).trans (grown_set _ _ _ _)).trans (grown_set _ _ _ _)).trans (grown_set _ _ _ _)⟩
    have h1 : RefAt ((w.setCell ⟨g, 2, none⟩ (str (r.good ++ r.loose.take (min (max n 0) r.loose.length).toNat))).drew) g { r with good := r.good ++ r.loose.take (min (max n 0) r.loose.length).toNat } := RefAt.heap (RefAt.set h rfl) rfl
    have h2 := RefAt.set (i := 3) (u := str []) (r' := { r with good := r.good ++ r.loose.take (min (max n 0) r.loose.length).toNat, loose := [] }) h1 rfl
    have h3 := RefAt.set (i := 1) (u := .int .i64 (-1)) (r' := { r with good := r.good ++ r.loose.take (min (max n 0) r.loose.length).toNat, loose := [], left := -1 }) h2 rfl
    exact RefAt.set (i := 4) (u := .bool false) (r' := rCrash r n) h3 rfl
  clear h
  have hln : (r.loose.length : Int) ≤ 1048576 := by omega
  rcases Int.lt_or_le n 0 with hn0 | hn0
  · go_enter Try.func34, Try.ntmps34
    go_wp2
    go_region
    go_wp2
    go_end0
    exact ⟨rfl, K.out _ (by rw [show (min (max n 0) (r.loose.length : Int)).toNat = 0 by omega]; simp)⟩
  rcases Int.lt_or_le (r.loose.length : Int) n with hn1 | hn1
  · have a1 := fun W => str_add (P := Try.prog) r.good r.loose (by omega) W
    go_enter Try.func34, Try.ntmps34
    go_wp2
    go_region
    go_wp2
    go_end0
    exact ⟨rfl, K.out _ (by rw [show (min (max n 0) (r.loose.length : Int)).toNat = r.loose.length by omega]; simp)⟩
  · have a1 := fun W => str_add (P := Try.prog) r.good (r.loose.take n.toNat) (by simp; omega) W
    have dn : decide ((r.loose.length : Int) < n) = false := by simp; omega
    go_enter Try.func34, Try.ntmps34
    go_wp2
    go_region
    go_wp2
    go_end0
    exact ⟨rfl, K.out _ (by rw [show (min (max n 0) (r.loose.length : Int)).toNat = n.toNat by omega])⟩
end Go.Proofs.Ytnbdkabffdaikaa
