/- The walks of a disk's Sync and Crash. Condition: the numbers fit. -/
import Derived.Test.YtnbdkabffdaikaaDska
namespace Go.Proofs.Ytnbdkabffdaikaa
open Go.RowKit
set_option linter.unusedVariables false

theorem grown_drew1 {w w' : World} {r : Option Nat} (h : w.grownBy w' r) : w.grownBy w'.drew r := ⟨h.os, h.tape, h.output, h.size, h.block⟩

set_option maxHeartbeats 2000000 in
theorem Sync_clos (b2 g : Nat) (s : DS) (w : World) (hD : DiskAt w g s) (h2 : w.cell? ⟨b2, 0, none⟩ = some (.pointer (some ⟨g, 0, none⟩))) :
    Calls Try.prog 28 #[.pointer (some ⟨b2, 0, none⟩)] w fun e w' => e = .returned (.int .i64 0) ∧ DiskAt w' g { s with synced := s.bytes.length } ∧ w.grownBy w' (some g) := by
  have hset := hD.set (i := 1) (u := .int .i64 s.bytes.length) (s' := { s with synced := s.bytes.length }) rfl (fun A c => by simp [dcells])
  have Hset := Lib.hid hset
  clear hset
  obtain ⟨A, c, h, k2, k3, k4⟩ := hD
  obtain ⟨c0, c1, c2, c3, c4, c5, hfr, hlt⟩ := disk_cells h
  have hne : b2 ≠ g := by
    rintro rfl
    rw [c0] at h2
    simp at h2
  have far1 : ∀ (W : World) u, (W.setCell ⟨g, 1, none⟩ u).cell? ⟨b2, 0, none⟩ = W.cell? ⟨b2, 0, none⟩ := fun W u => World.cell?_setCell_other W _ _ u (by simp)
  have far2 : ∀ (W : World) u, (W.setCell ⟨g, 1, none⟩ u).cell? ⟨g, 0, none⟩ = W.cell? ⟨g, 0, none⟩ := fun W u => World.cell?_setCell_other W _ _ u (by simp)
  clear h k4 c2 c3 c4 c5 hne
  go_enter Try.func28, Try.ntmps28
  go_wp2
  go_region_held3 (fun w' => w'.cell? ⟨b2, 0, none⟩ = some (.pointer (some ⟨g, 0, none⟩)) ∧ w'.cell? ⟨g, 0, none⟩ = some (.slice A s.bytes.length c)) (go_keep) (first | fail)
  rename_i hS
  clear hS far1 far2 c0 c1
  go_wp2
  go_ret
  exact ⟨rfl, Hset.out.1, grown_drew1 Hset.out.2⟩

set_option maxHeartbeats 2000000 in
theorem Sync_any (g : Nat) (s : DS) (w : World) (hD : DiskAt w g s) (hle : 0 ≤ s.left ∧ s.left ≤ 9223372036854775807) :
    Calls Try.prog 14 #[.pointer (some ⟨g, 0, none⟩)] w fun e w' => e = .returned (.int .i64 (syncS s).2) ∧ DiskAt w' g (syncS s).1 ∧ w.grownBy w' (some g) := by
  have hB1 : Below w.heap.size w (w.alloc (.cells #[.pointer (some ⟨g, 0, none⟩)] 24)) := (Below.refl _ w).alloc (Nat.le_refl _) _
  have hD1 := hD.below hB1
  have x2 : (w.alloc (.cells #[.pointer (some ⟨g, 0, none⟩)] 24)).cell? ⟨w.heap.size, 0, none⟩ = some (.pointer (some ⟨g, 0, none⟩)) := by simp
  have hG := grown_of_below (g := g) hB1
  have hcf : ∀ (W : World), (callFunc 28 #[.pointer (some ⟨w.heap.size, 0, none⟩)]).run Try.prog W = .ok (.enter 28 #[.pointer (some ⟨w.heap.size, 0, none⟩)]) W := fun _ => by kernel_rfl
  have hw : Calls Try.prog 26 #[.pointer (some ⟨g, 0, none⟩), .func (.func 28) #[] #[.pointer (some ⟨w.heap.size, 0, none⟩)]] (w.alloc (.cells #[.pointer (some ⟨g, 0, none⟩)] 24))
      fun e w' => e = .returned (.int .i64 (syncS s).2) ∧ DiskAt w' g (syncS s).1 ∧ w.grownBy w' (some g) := by
    unfold syncS
    by_cases hst : s.armed = true ∧ s.left = 0
    · rw [if_pos hst]
      exact (write_stop g s _ _ _ hD1 hst.1 hst.2).mono fun e w' ⟨h1, h2, h3⟩ => ⟨h1, h2, hG.trans h3⟩
    · rw [if_neg hst]
      refine (write_ok g s { s with synced := s.bytes.length } _ _ _ hD1 hst hle rfl rfl hcf ?_).mono fun e w' ⟨h1, h2, h3⟩ => ⟨h1, h2, hG.trans h3⟩
      exact Sync_clos _ g s _ hD1 x2
  have Hw := Lib.hid hw
  clear hw hcf hD1 x2 hD hG
  go_enter Try.func14, Try.ntmps14
  go_wp2_with fail
  refine Hw.out.mono ?_
  rintro e w1 ⟨rfl, hq⟩
  have Hq := Lib.hid hq
  clear hq Hw
  go_wp2_with fail
  go_ret
  exact ⟨rfl, Hq.out⟩

/-! ### Crash -/
def crashN (s : DS) (keep : Int) : Nat := if max keep 0 < s.bytes.length - s.synced then (s.synced + max keep 0).toNat else s.bytes.length
def crashS (s : DS) (keep : Int) : DS := { bytes := s.bytes.take (crashN s keep), synced := crashN s keep, armed := false, down := false, left := 0, room := s.room }

theorem Bs.take {w : World} {A : Option Addr} {l : List UInt8} (h : Bs w A l) (n : Nat) : Bs w A (l.take n) := fun i hi => by
  have hi2 : i < l.length := by simp at hi; omega
  obtain ⟨b, o, cs, e, hb, hc⟩ := h i hi2
  exact ⟨b, o, cs, e, hb, by rw [hc]; simp⟩

theorem crash_end {w : World} {g : Nat} {s : DS} {keep : Int} {A : Option Addr} {c : Nat} (h : w.heap[g]? = some (.cells (dcells A s.bytes.length c s) 53 (0, 0))) (hB : Bs w A s.bytes) (hl : (s.bytes.length : Int) ≤ 1048576)
    (k : Nat) (N : Int) (hk : crashN s keep = k) (hN : N = k) (hle : k ≤ s.bytes.length) :
    DiskAt (((((w.setCell ⟨g, 0, none⟩ (.slice A k k)).setCell ⟨g, 1, none⟩ (.int .i64 N)).setCell ⟨g, 2, none⟩ (.bool false)).setCell ⟨g, 3, none⟩ (.bool false)).setCell ⟨g, 4, none⟩ (.int .i64 0)) g (crashS s keep) ∧
    w.grownBy (((((w.setCell ⟨g, 0, none⟩ (.slice A k k)).setCell ⟨g, 1, none⟩ (.int .i64 N)).setCell ⟨g, 2, none⟩ (.bool false)).setCell ⟨g, 3, none⟩ (.bool false)).setCell ⟨g, 4, none⟩ (.int .i64 0)) (some g) := by
  subst hN
  have h5 := heap_set_same (i := 4) (heap_set_same (i := 3) (heap_set_same (i := 2) (heap_set_same (i := 1) (heap_set_same (i := 0) h (.slice A k k)) (.int .i64 k)) (.bool false)) (.bool false)) (.int .i64 0)
  have hg := ((((grown_set w g 0 (.slice A k k)).trans (grown_set _ g 1 (.int .i64 k))).trans (grown_set _ g 2 (.bool false))).trans (grown_set _ g 3 (.bool false))).trans (grown_set _ g 4 (.int .i64 0))
  have hlen : (crashS s keep).bytes.length = k := by simp [crashS, hk]; omega
  refine ⟨⟨A, k, ?_, by omega, by unfold maxLen; omega, ?_⟩, hg⟩
  · rw [h5, hlen]
    simp [dcells, crashS, hk]
  · exact (hB.kept hg h).take _

set_option maxHeartbeats 2000000 in
theorem Crash_any (g : Nat) (s : DS) (keep : Int) (w : World) (hD : DiskAt w g s) (hs : 0 ≤ s.synced ∧ s.synced ≤ s.bytes.length) (hl : (s.bytes.length : Int) ≤ 1048576) (hk : keep ≤ 9223372036854775807) :
    Calls Try.prog 15 #[.pointer (some ⟨g, 0, none⟩), .int .i64 keep] w fun e w' => e = .returned (.tuple #[]) ∧ DiskAt w' g (crashS s keep) ∧ w.grownBy w' (some g) := by
  obtain ⟨A, c, h, k2, k3, k4⟩ := hD
  obtain ⟨c0, c1, c2, c3, c4, c5, hfr, hlt⟩ := disk_cells h
  have E := fun k N => crash_end (keep := keep) h k4 hl k N
  have HE := Lib.hid E
  clear E h k4
  by_cases h1 : max keep 0 < s.bytes.length - s.synced
  · have hn : crashN s keep = (s.synced + max keep 0).toNat := if_pos h1
    rcases Int.lt_or_le keep 0 with hk0 | hk0
    · have hm : max keep 0 = 0 := by omega
      rw [hm] at h1 hn
      have Hn := Lib.hid hn
      clear hn hm
      go_enter Try.func15, Try.ntmps15
      go_wp2
      go_end0
      exact ⟨rfl, HE.out s.synced.toNat s.synced (by rw [Hn.out]; omega) (by omega) (by omega)⟩
    · have hm : max keep 0 = keep := by omega
      rw [hm] at h1 hn
      have Hn := Lib.hid hn
      clear hn hm
      go_enter Try.func15, Try.ntmps15
      go_wp2
      go_end0
      exact ⟨rfl, HE.out (s.synced + keep).toNat (s.synced + keep) (by rw [Hn.out]) (by omega) (by omega)⟩
  · have hn : crashN s keep = s.bytes.length := if_neg h1
    have Hn := Lib.hid hn
    clear hn
    rcases Int.lt_or_le keep 0 with hk0 | hk0
    · have h2 : (s.bytes.length : Int) - s.synced ≤ 0 := by omega
      clear h1
      go_enter Try.func15, Try.ntmps15
      go_wp2
      go_end0
      exact ⟨rfl, HE.out s.bytes.length s.bytes.length Hn.out rfl (Nat.le_refl _)⟩
    · have h2 : (s.bytes.length : Int) - s.synced ≤ keep := by omega
      clear h1
      go_enter Try.func15, Try.ntmps15
      go_wp2
      go_end0
      exact ⟨rfl, HE.out s.bytes.length s.bytes.length Hn.out rfl (Nat.le_refl _)⟩
end Go.Proofs.Ytnbdkabffdaikaa
