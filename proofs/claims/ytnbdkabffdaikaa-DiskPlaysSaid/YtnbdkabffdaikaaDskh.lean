/- A disk and the reference's disk, step by step: would, alike, the simulation. Condition: the numbers fit. -/
import Derived.Test.YtnbdkabffdaikaaDskg
namespace Go.Proofs.Ytnbdkabffdaikaa
open Go.RowKit
set_option linter.unusedVariables false

def refStep (r : RS) (x : Stp) : RS × Int :=
  if x.act = 0 then rAppend r x.s else if x.act = 1 then rSync r else if x.act = 2 then rCut r x.n
  else if x.act = 3 then (rArm r x.n, 0) else if x.act = 4 then (rCrash r x.n, 0) else (r, 0)

structure Sim (s : DS) (r : RS) : Prop where
  bytes : s.bytes = r.good ++ r.loose
  syn : s.synced = r.good.length
  down : s.down = r.down
  room : r.most = s.room
  left : r.left = if s.armed then s.left else -1

theorem sim_fits {s : DS} {r : RS} (S : Sim s r) (G : Good s) : Fits r := by
  obtain ⟨b, y, d, m, l⟩ := S
  obtain ⟨r0, r1, hl, l0, l1, y0, y1⟩ := G
  rw [b, List.length_append] at hl
  refine ⟨by omega, by omega, ?_, ?_, by omega⟩ <;> rw [l] <;> split <;> omega

theorem sim_step {s : DS} {r : RS} (S : Sim s r) (G : Good s) (x : Stp) : Sim (stepS s x).1 (refStep r x).1 ∧ (stepS s x).2 = (refStep r x).2 := by
  obtain ⟨b, y, d, m, l⟩ := S
  obtain ⟨r0, r1, hl, l0, l1, y0, y1⟩ := G
  have hb : s.bytes.length = r.good.length + r.loose.length := by rw [b, List.length_append]
  have hst : (s.armed = true ∧ s.left = 0) ↔ r.left = 0 := by
    rw [l]
    cases s.armed
    · simp
    · simp
  have hdn : ∀ (r' : RS), r'.left = r.left → ¬ r.left = 0 → (Done r').left = if s.armed then (if s.armed then s.left - 1 else s.left) else -1 := by
    intro r' h3 h4
    unfold Done
    rw [h3, l]
    rw [l] at h4
    cases ha : s.armed
    · simp
    · rw [ha] at h4
      simp at h4
      simp; omega
  unfold stepS refStep
  by_cases a0 : x.act = 0
  · rw [if_pos a0, if_pos a0]
    unfold appendS rAppend
    by_cases h : r.left = 0
    · rw [if_pos (hst.2 h), if_pos h]
      refine ⟨⟨b, y, ?_, m, l⟩, rfl⟩
      simp [Stops, h]
    · rw [if_neg (fun e => h (hst.1 e)), if_neg h]
      by_cases hf : s.room - s.bytes.length < x.s.length
      · rw [if_pos hf, if_pos (by omega)]
        refine ⟨⟨b, y, ?_, m, l⟩, rfl⟩
        simp [Stops, h, d]
      · rw [if_neg hf, if_neg (show ¬ (r.most - r.good.length - r.loose.length < x.s.length) by omega)]
        refine ⟨⟨?_, y, ?_, m, ?_⟩, rfl⟩
        · simp [Done, Stops, b]
        · simp [Done, Stops, h, d]
        · exact hdn _ rfl h
  rw [if_neg a0, if_neg a0]
  by_cases a1 : x.act = 1
  · rw [if_pos a1, if_pos a1]
    unfold syncS rSync
    by_cases h : r.left = 0
    · rw [if_pos (hst.2 h), if_pos h]
      refine ⟨⟨b, y, ?_, m, l⟩, rfl⟩
      simp [Stops, h]
    · rw [if_neg (fun e => h (hst.1 e)), if_neg h]
      refine ⟨⟨?_, ?_, ?_, m, ?_⟩, rfl⟩
      · simp [Done, Stops, b]
      · simp [Done, Stops, hb]
      · simp [Done, Stops, h, d]
      · exact hdn _ rfl h
  rw [if_neg a1, if_neg a1]
  by_cases a2 : x.act = 2
  · rw [if_pos a2, if_pos a2]
    unfold cutS rCut
    by_cases h : r.left = 0
    · rw [if_pos (hst.2 h), if_pos h]
      refine ⟨⟨b, y, ?_, m, l⟩, rfl⟩
      simp [Stops, h]
    · rw [if_neg (fun e => h (hst.1 e)), if_neg h]
      by_cases hf : x.n < 0 ∨ s.bytes.length < x.n
      · rw [if_pos hf, if_pos (by omega)]
        refine ⟨⟨b, y, ?_, m, l⟩, rfl⟩
        simp [Stops, h, d]
      · rw [if_neg hf, if_neg (show ¬ (x.n < 0 ∨ (r.good.length : Int) + r.loose.length < x.n) by omega)]
        refine ⟨⟨?_, ?_, ?_, m, ?_⟩, rfl⟩
        · simp [Done, Stops, b]
        · simp [Done, Stops]; omega
        · simp [Done, Stops, h, d]
        · exact hdn _ rfl h
  rw [if_neg a2, if_neg a2]
  by_cases a3 : x.act = 3
  · rw [if_pos a3, if_pos a3]
    exact ⟨⟨b, y, d, m, rfl⟩, rfl⟩
  rw [if_neg a3, if_neg a3]
  by_cases a4 : x.act = 4
  · rw [if_pos a4, if_pos a4]
    refine ⟨⟨?_, ?_, rfl, m, rfl⟩, rfl⟩
    · simp only [crashS, rCrash, List.append_nil]
      rw [b, List.take_append, show crashN s x.n - r.good.length = (min (max x.n 0) (r.loose.length : Int)).toNat by unfold crashN; split <;> omega, List.take_of_length_le (by unfold crashN; split <;> omega)]
    · simp only [crashS, rCrash, List.length_append, List.length_take]
      unfold crashN; split <;> omega
  rw [if_neg a4, if_neg a4]
  exact ⟨⟨b, y, d, m, l⟩, rfl⟩

set_option maxHeartbeats 2000000 in
theorem would_any (g : Nat) (r : RS) (x : Stp) (w : World) (hD : RefAt w g r) (F : Fits r) (h0 : 0 ≤ x.act) (h1 : x.act ≤ 255) (hn : x.n ≤ 9223372036854775807) (ht : x.s.length ≤ 9223372036854775807) :
    Calls Try.prog 23 #[.pointer (some ⟨g, 0, none⟩), .agg #[.int .u8 x.act, .int .i64 x.n, str x.s]] w fun e w' => e = .returned (.int .i64 (refStep r x).2) ∧ RefAt w' g (refStep r x).1 ∧ w.grownBy w' (some g) := by
  have hB1 : Below w.heap.size w (w.alloc (.cells #[.int .u8 x.act, .int .i64 x.n, str x.s] 37)) := (Below.refl _ w).alloc (Nat.le_refl _) _
  have hD1 : Hid (RefAt (w.alloc (.cells #[.int .u8 x.act, .int .i64 x.n, str x.s] 37)) g r) := (hB1.block g (ref_cells hD).2.2.2.2.2.2).trans hD
  have HG := Lib.hid (grown_of_below (g := g) hB1)
  have HF := Lib.hid F
  clear hB1 hD F
  unfold refStep
  by_cases a0 : x.act = 0
  · rw [if_pos a0]
    rw [a0] at hD1 HG ⊢
    clear a0 h0 h1
    go_enter Try.func23, Try.ntmps23
    go_wp2_with fail
    refine (rAppend_any g r x.s _ hD1.out HF.out ht).mono ?_
    rintro e w1 ⟨rfl, k1, k2⟩
    have Hq := Lib.hid (And.intro k1 (HG.out.trans k2))
    clear k1 k2 HG hD1
    go_wp2_with fail
    go_ret
    exact ⟨rfl, Hq.out⟩
  rw [if_neg a0]
  by_cases a1 : x.act = 1
  · rw [if_pos a1]
    rw [a1] at hD1 HG ⊢
    clear a0 a1 h0 h1
    go_enter Try.func23, Try.ntmps23
    go_wp2_with fail
    refine (rSync_any g r _ hD1.out HF.out).mono ?_
    rintro e w1 ⟨rfl, k1, k2⟩
    have Hq := Lib.hid (And.intro k1 (HG.out.trans k2))
    clear k1 k2 HG hD1
    go_wp2_with fail
    go_ret
    exact ⟨rfl, Hq.out⟩
  rw [if_neg a1]
  by_cases a2 : x.act = 2
  · rw [if_pos a2]
    rw [a2] at hD1 HG ⊢
    clear a0 a1 a2 h0 h1
    go_enter Try.func23, Try.ntmps23
    go_wp2_with fail
    refine (rCut_any g r x.n _ hD1.out HF.out).mono ?_
    rintro e w1 ⟨rfl, k1, k2⟩
    have Hq := Lib.hid (And.intro k1 (HG.out.trans k2))
    clear k1 k2 HG hD1
    go_wp2_with fail
    go_ret
    exact ⟨rfl, Hq.out⟩
  rw [if_neg a2]
  by_cases a3 : x.act = 3
  · rw [if_pos a3]
    rw [a3] at hD1 HG ⊢
    clear a0 a1 a2 a3 h0 h1
    go_enter Try.func23, Try.ntmps23
    go_wp2_with fail
    refine (rArm_any g r x.n _ hD1.out).mono ?_
    rintro e w1 ⟨rfl, k1, k2⟩
    have Hq := Lib.hid (And.intro k1 (HG.out.trans k2))
    clear k1 k2 HG hD1
    go_wp2_with fail
    go_ret
    exact ⟨rfl, Hq.out⟩
  rw [if_neg a3]
  by_cases a4 : x.act = 4
  · rw [if_pos a4]
    rw [a4] at hD1 HG ⊢
    clear a0 a1 a2 a3 a4 h0 h1
    go_enter Try.func23, Try.ntmps23
    go_wp2_with fail
    refine (rCrash_any g r x.n _ hD1.out HF.out hn).mono ?_
    rintro e w1 ⟨rfl, k1, k2⟩
    have Hq := Lib.hid (And.intro k1 (HG.out.trans k2))
    clear k1 k2 HG hD1
    go_wp2_with fail
    go_ret
    exact ⟨rfl, Hq.out⟩
  rw [if_neg a4]
  have b0 : (x.act == 0) = false := by simpa using a0
  have b1 : (x.act == 1) = false := by simpa using a1
  have b2 : (x.act == 2) = false := by simpa using a2
  have b3 : (x.act == 3) = false := by simpa using a3
  have b4 : (x.act == 4) = false := by simpa using a4
  have Hq := Lib.hid (And.intro hD1.out HG.out)
  clear a0 a1 a2 a3 a4 hD1 HG
  go_enter Try.func23, Try.ntmps23
  go_wp2_with fail
  go_ret
  exact ⟨rfl, Hq.out⟩
end Go.Proofs.Ytnbdkabffdaikaa
