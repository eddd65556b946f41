/- One step of a script on a disk: does. Condition: the numbers fit. -/
import Derived.Test.YtnbdkabffdaikaaStp
import Derived.Test.YtnbdkabffdaikaaDskc
namespace Go.Proofs.Ytnbdkabffdaikaa
open Go.RowKit
set_option linter.unusedVariables false

/-- What holds of every disk that New made. -/
structure Good (s : DS) : Prop where
  r0 : 0 ≤ s.room
  r1 : s.room ≤ 1048576
  hl : (s.bytes.length : Int) ≤ s.room
  l0 : 0 ≤ s.left
  l1 : s.left ≤ 9223372036854775807
  y0 : 0 ≤ s.synced
  y1 : s.synced ≤ s.bytes.length

def stepS (s : DS) (x : Stp) : DS × Int :=
  if x.act = 0 then appendS s x.s else if x.act = 1 then syncS s else if x.act = 2 then cutS s x.n
  else if x.act = 3 then ({ s with armed := true, left := max x.n 0 }, 0) else if x.act = 4 then (crashS s x.n, 0) else (s, 0)

theorem good_append {s : DS} (h : Good s) (t : List UInt8) : Good (appendS s t).1 := by
  obtain ⟨r0, r1, hl, l0, l1, y0, y1⟩ := h
  unfold appendS
  by_cases ha : s.armed = true ∧ s.left = 0
  · rw [if_pos ha]; exact ⟨r0, r1, hl, l0, l1, y0, y1⟩
  · rw [if_neg ha]
    by_cases hf : s.room - s.bytes.length < t.length
    · rw [if_pos hf]; exact ⟨r0, r1, hl, l0, l1, y0, y1⟩
    · rw [if_neg hf]
      cases hb : s.armed
      · exact ⟨r0, r1, by simp; omega, by simpa using l0, by simpa using l1, y0, by simp; omega⟩
      · have hne : s.left ≠ 0 := fun e => ha ⟨hb, e⟩
        exact ⟨r0, r1, by simp; omega, by simp; omega, by simp; omega, y0, by simp; omega⟩

theorem good_sync {s : DS} (h : Good s) : Good (syncS s).1 := by
  obtain ⟨r0, r1, hl, l0, l1, y0, y1⟩ := h
  unfold syncS
  by_cases ha : s.armed = true ∧ s.left = 0
  · rw [if_pos ha]; exact ⟨r0, r1, hl, l0, l1, y0, y1⟩
  · rw [if_neg ha]
    cases hb : s.armed
    · exact ⟨r0, r1, hl, by simpa using l0, by simpa using l1, by simp, by simp⟩
    · have hne : s.left ≠ 0 := fun e => ha ⟨hb, e⟩
      exact ⟨r0, r1, hl, by simp; omega, by simp; omega, by simp, by simp⟩

theorem good_cut {s : DS} (h : Good s) (n : Int) : Good (cutS s n).1 := by
  obtain ⟨r0, r1, hl, l0, l1, y0, y1⟩ := h
  unfold cutS
  by_cases ha : s.armed = true ∧ s.left = 0
  · rw [if_pos ha]; exact ⟨r0, r1, hl, l0, l1, y0, y1⟩
  · rw [if_neg ha]
    by_cases hf : n < 0 ∨ s.bytes.length < n
    · rw [if_pos hf]; exact ⟨r0, r1, hl, l0, l1, y0, y1⟩
    · rw [if_neg hf]
      cases hb : s.armed
      · exact ⟨r0, r1, by simp; omega, by simpa using l0, by simpa using l1, by simp; omega, by simp; omega⟩
      · have hne : s.left ≠ 0 := fun e => ha ⟨hb, e⟩
        exact ⟨r0, r1, by simp; omega, by simp; omega, by simp; omega, by simp; omega, by simp; omega⟩

theorem good_crash {s : DS} (h : Good s) (n : Int) : Good (crashS s n) := by
  obtain ⟨r0, r1, hl, l0, l1, y0, y1⟩ := h
  have hk : crashN s n ≤ s.bytes.length := by unfold crashN; split <;> omega
  exact ⟨r0, r1, by simp [crashS]; omega, by simp [crashS], by simp [crashS], by simp [crashS], by simp [crashS]; omega⟩

theorem good_step {s : DS} (h : Good s) (x : Stp) (hn : x.n ≤ 9223372036854775807) : Good (stepS s x).1 := by
  unfold stepS
  split
  · exact good_append h _
  split
  · exact good_sync h
  split
  · exact good_cut h _
  split
  · obtain ⟨r0, r1, hl, l0, l1, y0, y1⟩ := h
    exact ⟨r0, r1, hl, by show 0 ≤ max x.n 0; omega, by show max x.n 0 ≤ _; omega, y0, y1⟩
  split
  · exact good_crash h _
  · exact h

set_option maxHeartbeats 2000000 in
theorem does_any (g : Nat) (s : DS) (x : Stp) (w : World) (hD : DiskAt w g s) (hG : Good s) (h0 : 0 ≤ x.act) (h1 : x.act ≤ 255) (hn : x.n ≤ 9223372036854775807) (ht : x.s.length ≤ 9223372036854775807) :
    Calls Try.prog 18 #[.pointer (some ⟨g, 0, none⟩), .agg #[.int .u8 x.act, .int .i64 x.n, str x.s]] w fun e w' => e = .returned (.int .i64 (stepS s x).2) ∧ DiskAt w' g (stepS s x).1 ∧ w.grownBy w' (some g) := by
  have hB1 : Below w.heap.size w (w.alloc (.cells #[.int .u8 x.act, .int .i64 x.n, str x.s] 37)) := (Below.refl _ w).alloc (Nat.le_refl _) _
  have hD1 := Lib.hid (hD.below hB1)
  have HG := Lib.hid (grown_of_below (g := g) hB1)
  have Hg := Lib.hid hG
  clear hB1 hD hG
  unfold stepS
  by_cases a0 : x.act = 0
  · rw [if_pos a0]
    rw [a0] at hD1 HG ⊢
    clear a0 h0 h1
    go_enter Try.func18, Try.ntmps18
    go_wp2_with fail
    refine (Append_any g s x.s _ hD1.out ⟨Hg.out.r0, Hg.out.r1⟩ Hg.out.hl ⟨Hg.out.l0, Hg.out.l1⟩ ht).mono ?_
    rintro e w1 ⟨rfl, k1, k2⟩
    have Hq := Lib.hid (And.intro k1 (HG.out.trans k2))
    clear k1 k2 HG hD1
    go_wp2_with fail
    go_ret
    exact ⟨rfl, Hq.out⟩
  rw [if_neg a0]
  by_cases a1 : x.act = 1
  · rw [if_pos a1]
    rw [a1] at hD1 HG ⊢
    clear a0 a1 h0 h1
    go_enter Try.func18, Try.ntmps18
    go_wp2_with fail
    refine (Sync_any g s _ hD1.out ⟨Hg.out.l0, Hg.out.l1⟩).mono ?_
    rintro e w1 ⟨rfl, k1, k2⟩
    have Hq := Lib.hid (And.intro k1 (HG.out.trans k2))
    clear k1 k2 HG hD1
    go_wp2_with fail
    go_ret
    exact ⟨rfl, Hq.out⟩
  rw [if_neg a1]
  by_cases a2 : x.act = 2
  · rw [if_pos a2]
    rw [a2] at hD1 HG ⊢
    clear a0 a1 a2 h0 h1
    go_enter Try.func18, Try.ntmps18
    go_wp2_with fail
    refine (Cut_any g s x.n _ hD1.out (by have := Hg.out.hl; have := Hg.out.r1; omega) ⟨Hg.out.l0, Hg.out.l1⟩).mono ?_
    rintro e w1 ⟨rfl, k1, k2⟩
    have Hq := Lib.hid (And.intro k1 (HG.out.trans k2))
    clear k1 k2 HG hD1
    go_wp2_with fail
    go_ret
    exact ⟨rfl, Hq.out⟩
  rw [if_neg a2]
  by_cases a3 : x.act = 3
  · rw [if_pos a3]
    rw [a3] at hD1 HG ⊢
    clear a0 a1 a2 a3 h0 h1
    go_enter Try.func18, Try.ntmps18
    go_wp2_with fail
    refine (Arm_any g x.n s _ hD1.out).mono ?_
    rintro e w1 ⟨rfl, k1, k2⟩
    have Hq := Lib.hid (And.intro k1 (HG.out.trans k2))
    clear k1 k2 HG hD1
    go_wp2_with fail
    go_ret
    exact ⟨rfl, Hq.out⟩
  rw [if_neg a3]
  by_cases a4 : x.act = 4
  · rw [if_pos a4]
    rw [a4] at hD1 HG ⊢
    clear a0 a1 a2 a3 a4 h0 h1
    go_enter Try.func18, Try.ntmps18
    go_wp2_with fail
    refine (Crash_any g s x.n _ hD1.out ⟨Hg.out.y0, Hg.out.y1⟩ (by have := Hg.out.hl; have := Hg.out.r1; omega) hn).mono ?_
    rintro e w1 ⟨rfl, k1, k2⟩
    have Hq := Lib.hid (And.intro k1 (HG.out.trans k2))
    clear k1 k2 HG hD1
    go_wp2_with fail
    go_ret
    exact ⟨rfl, Hq.out⟩
  rw [if_neg a4]
  have b0 : (x.act == 0) = false := by simpa using a0
  have b1 : (x.act == 1) = false := by simpa using a1
  have b2 : (x.act == 2) = false := by simpa using a2
  have b3 : (x.act == 3) = false := by simpa using a3
  have b4 : (x.act == 4) = false := by simpa using a4
  have Hq := Lib.hid (And.intro hD1.out HG.out)
  clear a0 a1 a2 a3 a4 hD1 HG
  go_enter Try.func18, Try.ntmps18
  go_wp2_with fail
  go_ret
  exact ⟨rfl, Hq.out⟩
end Go.Proofs.Ytnbdkabffdaikaa
