/- The walks of a disk's Cut. Condition: the numbers fit. -/
import Derived.Test.YtnbdkabffdaikaaDsks
import Derived.BigRegion
namespace Go.Proofs.Ytnbdkabffdaikaa
open Go.RowKit
set_option linter.unusedVariables false

def cutS (s : DS) (n : Int) : DS × Int :=
  if s.armed = true ∧ s.left = 0 then ({ s with down := true }, 140)
  else if n < 0 ∨ s.bytes.length < n then (s, 2)
  else ({ s with bytes := s.bytes.take n.toNat, synced := n, left := if s.armed then s.left - 1 else s.left }, 0)

set_option maxHeartbeats 1000000 in
theorem Cut_bad (b1 b2 g : Nat) (s : DS) (n : Int) (w : World) (hD : DiskAt w g s)
    (h1 : w.cell? ⟨b1, 0, none⟩ = some (.int .i64 n)) (h2 : w.cell? ⟨b2, 0, none⟩ = some (.pointer (some ⟨g, 0, none⟩))) (hf : n < 0 ∨ s.bytes.length < n) :
    Calls Try.prog 35 #[.pointer (some ⟨b1, 0, none⟩), .pointer (some ⟨b2, 0, none⟩)] w fun e w' => e = .returned (.int .i64 2) ∧ ∃ n, w' = w.drewN n := by
  obtain ⟨A, c, h, k2, k3, k4⟩ := hD
  obtain ⟨c0, c1, c2, c3, c4, c5, hfr, hlt⟩ := disk_cells h
  clear h k4
  by_cases hn : n < 0
  · have d1 : decide (n < 0) = true := by simpa using hn
    clear hf
    go_enter Try.func35, Try.ntmps35
    go_wp2
    go_quiet (fail)
    go_wp2
    go_ret
    exact ⟨rfl, _, rfl⟩
  · have d1 : decide (n < 0) = false := by simp; omega
    have d2 : decide ((s.bytes.length : Int) < n) = true := by simp; omega
    clear hf
    go_enter Try.func35, Try.ntmps35
    go_wp2
    go_quiet (fail)
    go_wp2
    go_ret
    exact ⟨rfl, _, rfl⟩

theorem cut_end {w : World} {g : Nat} {s : DS} {n : Int} {A : Option Addr} {c : Nat} (h : w.heap[g]? = some (.cells (dcells A s.bytes.length c s) 53 (0, 0))) (hB : Bs w A s.bytes) (hl : s.bytes.length ≤ 1048576) (n0 : 0 ≤ n) (n1 : n ≤ s.bytes.length) :
    DiskAt ((w.setCell ⟨g, 0, none⟩ (.slice A n.toNat n.toNat)).setCell ⟨g, 1, none⟩ (.int .i64 n)) g { s with bytes := s.bytes.take n.toNat, synced := n } ∧
    w.grownBy ((w.setCell ⟨g, 0, none⟩ (.slice A n.toNat n.toNat)).setCell ⟨g, 1, none⟩ (.int .i64 n)) (some g) := by
  have h5 := heap_set_same (i := 1) (heap_set_same (i := 0) h (.slice A n.toNat n.toNat)) (.int .i64 n)
  have hg := (grown_set w g 0 (.slice A n.toNat n.toNat)).trans (grown_set _ g 1 (.int .i64 n))
  have hlen : (s.bytes.take n.toNat).length = n.toNat := by simp; omega
  refine ⟨⟨A, n.toNat, ?_, by rw [hlen]; omega, by unfold maxLen; omega, (hB.kept hg h).take _⟩, hg⟩
  rw [h5]
  show some (Obj.cells _ _ _) = some (.cells (dcells A (s.bytes.take n.toNat).length n.toNat { s with bytes := s.bytes.take n.toNat, synced := n }) _ _)
  rw [hlen]
  simp [dcells]

set_option maxHeartbeats 2000000 in
theorem Cut_ok (b1 b2 g : Nat) (s : DS) (n : Int) (w : World) (hD : DiskAt w g s) (hlen : s.bytes.length ≤ 1048576)
    (h1 : w.cell? ⟨b1, 0, none⟩ = some (.int .i64 n)) (h2 : w.cell? ⟨b2, 0, none⟩ = some (.pointer (some ⟨g, 0, none⟩))) (n0 : 0 ≤ n) (n1 : n ≤ s.bytes.length) :
    Calls Try.prog 35 #[.pointer (some ⟨b1, 0, none⟩), .pointer (some ⟨b2, 0, none⟩)] w fun e w' => e = .returned (.int .i64 0) ∧ DiskAt w' g { s with bytes := s.bytes.take n.toNat, synced := n } ∧ w.grownBy w' (some g) := by
  obtain ⟨A, c, h, k2, k3, k4⟩ := hD
  obtain ⟨c0, c1, c2, c3, c4, c5, hfr, hlt⟩ := disk_cells h
  have HH := Lib.hid (And.intro h k4)
  have hne : b2 ≠ g := by
    rintro rfl
    rw [c0] at h2
    simp at h2
  have hne1 : b1 ≠ g := by
    rintro rfl
    rw [c0] at h1
    simp at h1
  have far1 : ∀ (W : World) u i, (W.setCell ⟨g, i, none⟩ u).cell? ⟨b1, 0, none⟩ = W.cell? ⟨b1, 0, none⟩ := fun W u i => World.cell?_setCell_other W _ _ u (by simp)
  have far2 : ∀ (W : World) u i, (W.setCell ⟨g, i, none⟩ u).cell? ⟨b2, 0, none⟩ = W.cell? ⟨b2, 0, none⟩ := fun W u i => World.cell?_setCell_other W _ _ u (by simp)
  have d1 : decide (n < 0) = false := by simp; omega
  have d2 : decide ((s.bytes.length : Int) < n) = false := by simp; omega
  have hsl : ∀ W : World, (Instr.slice 47 (.slice A s.bytes.length c) none (some (.int .i64 n)) (some (.int .i64 n))).run Try.prog W = .ok (.slice A n.toNat n.toNat) W := by
    intro W
    have hz : (sizeOf (Try.prog.elem 47)).run Try.prog W = .ok 1 W := by kernel_rfl
    rw [run_slice_hm (P := Try.prog) W 47 A s.bytes.length c (by kernel_rfl) .i64 .i64 n n n0 (Int.le_refl _) (by omega), hz]
    cases A with
    | none => simp [sliced]
    | some a => simp [sliced, Addr.add]
  clear h k4 hne hne1 c2 c3 c4 c5
  go_enter Try.func35, Try.ntmps35
  go_wp2
  go_quiet (fail)
  go_wp2
  have x0 : (w.drewN nq).cell? ⟨g, 0, none⟩ = some (.slice A s.bytes.length c) := c0
  have x1 : (w.drewN nq).cell? ⟨g, 1, none⟩ = some (.int .i64 s.synced) := c1
  have x2 : (w.drewN nq).cell? ⟨b1, 0, none⟩ = some (.int .i64 n) := h1
  have x3 : (w.drewN nq).cell? ⟨b2, 0, none⟩ = some (.pointer (some ⟨g, 0, none⟩)) := h2
  have x4 : ∀ i, (w.drewN nq).frozen? ⟨g, i, none⟩ = false := hfr
  have HH2 : Hid ((w.drewN nq).heap[g]? = some (.cells (dcells A s.bytes.length c s) 53 (0, 0)) ∧ Bs (w.drewN nq) A s.bytes ∧ w.grownBy (w.drewN nq) (some g)) := ⟨HH.out.1, HH.out.2, grown_drew (World.grownBy.refl _ _) _⟩
  clear c0 c1 h1 h2 hfr hlt HH
  generalize w.drewN nq = W at x0 x1 x2 x3 x4 HH2 ⊢
  go_region
  go_wp2
  go_ret
  obtain ⟨H1, H2, H3⟩ := HH2.out
  obtain ⟨E1, E2⟩ := cut_end (n := n) H1 H2 hlen n0 n1
  exact ⟨rfl, E1, grown_drew1 (H3.trans E2)⟩

set_option maxHeartbeats 2000000 in
theorem Cut_any (g : Nat) (s : DS) (n : Int) (w : World) (hD : DiskAt w g s) (hl : s.bytes.length ≤ 1048576) (hle : 0 ≤ s.left ∧ s.left ≤ 9223372036854775807) :
    Calls Try.prog 29 #[.pointer (some ⟨g, 0, none⟩), .int .i64 n] w fun e w' => e = .returned (.int .i64 (cutS s n).2) ∧ DiskAt w' g (cutS s n).1 ∧ w.grownBy w' (some g) := by
  have hB1 : Below w.heap.size w ((w.alloc (.cells #[.pointer (some ⟨g, 0, none⟩)] 24)).alloc (.cells #[.int .i64 n] 3)) := ((Below.refl _ w).alloc (Nat.le_refl _) _).alloc (by simp) _
  have hD1 := hD.below hB1
  have x1 : ((w.alloc (.cells #[.pointer (some ⟨g, 0, none⟩)] 24)).alloc (.cells #[.int .i64 n] 3)).cell? ⟨w.heap.size + 1, 0, none⟩ = some (.int .i64 n) := by simp
  have x2 : ((w.alloc (.cells #[.pointer (some ⟨g, 0, none⟩)] 24)).alloc (.cells #[.int .i64 n] 3)).cell? ⟨w.heap.size, 0, none⟩ = some (.pointer (some ⟨g, 0, none⟩)) := by simp
  have hG := grown_of_below (g := g) hB1
  have hcf : ∀ (W : World), (callFunc 35 #[.pointer (some ⟨w.heap.size + 1, 0, none⟩), .pointer (some ⟨w.heap.size, 0, none⟩)]).run Try.prog W = .ok (.enter 35 #[.pointer (some ⟨w.heap.size + 1, 0, none⟩), .pointer (some ⟨w.heap.size, 0, none⟩)]) W := fun _ => by kernel_rfl
  have hw : Calls Try.prog 26 #[.pointer (some ⟨g, 0, none⟩), .func (.func 35) #[] #[.pointer (some ⟨w.heap.size + 1, 0, none⟩), .pointer (some ⟨w.heap.size, 0, none⟩)]] ((w.alloc (.cells #[.pointer (some ⟨g, 0, none⟩)] 24)).alloc (.cells #[.int .i64 n] 3))
      fun e w' => e = .returned (.int .i64 (cutS s n).2) ∧ DiskAt w' g (cutS s n).1 ∧ w.grownBy w' (some g) := by
    unfold cutS
    by_cases hst : s.armed = true ∧ s.left = 0
    · rw [if_pos hst]
      exact (write_stop g s _ _ _ hD1 hst.1 hst.2).mono fun e w' ⟨h1, h2, h3⟩ => ⟨h1, h2, hG.trans h3⟩
    · rw [if_neg hst]
      by_cases hfu : n < 0 ∨ s.bytes.length < n
      · rw [if_pos hfu]
        refine (write_err g s s 2 _ _ _ hD1 hst (by omega) hcf ?_).mono fun e w' ⟨h1, h2, h3⟩ => ⟨h1, h2, hG.trans h3⟩
        exact (Cut_bad _ _ g s n _ hD1 x1 x2 hfu).mono fun e w' ⟨h1, n, h2⟩ => ⟨h1, by rw [h2]; exact hD1.drewN n, by rw [h2]; exact grown_drew (World.grownBy.refl _ _) n⟩
      · rw [if_neg hfu]
        refine (write_ok g s { s with bytes := s.bytes.take n.toNat, synced := n } _ _ _ hD1 hst hle rfl rfl hcf ?_).mono fun e w' ⟨h1, h2, h3⟩ => ⟨h1, h2, hG.trans h3⟩
        exact Cut_ok _ _ g s n _ hD1 hl x1 x2 (by omega) (by omega)
  have Hw := Lib.hid hw
  clear hw hcf hD1 x1 x2 hD hG
  go_enter Try.func29, Try.ntmps29
  go_wp2_with fail
  refine Hw.out.mono ?_
  rintro e w1 ⟨rfl, hq⟩
  have Hq := Lib.hid hq
  clear hq Hw
  go_wp2_with fail
  go_ret
  exact ⟨rfl, Hq.out⟩
end Go.Proofs.Ytnbdkabffdaikaa
