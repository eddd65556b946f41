/- The walks of a disk's methods: Append, Sync, Crash, each by what it makes of a disk. Condition: the numbers fit. -/
import Derived.Test.YtnbdkabffdaikaaDskw
namespace Go.Proofs.Ytnbdkabffdaikaa
open Go.RowKit
set_option linter.unusedVariables false

def appendS (s : DS) (t : List UInt8) : DS × Int :=
  if s.armed = true ∧ s.left = 0 then ({ s with down := true }, 140)
  else if s.room - s.bytes.length < t.length then (s, 4)
  else ({ s with bytes := s.bytes ++ t, left := if s.armed then s.left - 1 else s.left }, 0)
def syncS (s : DS) : DS × Int :=
  if s.armed = true ∧ s.left = 0 then ({ s with down := true }, 140)
  else ({ s with synced := s.bytes.length, left := if s.armed then s.left - 1 else s.left }, 0)

theorem DiskAt.below {w w' : World} {g : Nat} {s : DS} (h : DiskAt w g s) (hb : Below w.heap.size w w') : DiskAt w' g s := by
  obtain ⟨A, c, h1, h2, h3, h4⟩ := h
  exact ⟨A, c, (hb.block g (Array.getElem?_eq_some_iff.1 h1).1).trans h1, h2, h3, h4.below hb⟩
theorem DiskAt.drewN {w : World} {g : Nat} {s : DS} (h : DiskAt w g s) (n : Nat) : DiskAt (w.drewN n) g s := h
/-- A store into a disk's own block. -/
theorem DiskAt.set {w : World} {g i : Nat} {s s' : DS} {u : Value} (h : DiskAt w g s) (hb : s'.bytes = s.bytes) (hc : ∀ A c, (dcells A s.bytes.length c s).setIfInBounds i u = dcells A s.bytes.length c s') :
    DiskAt (w.setCell ⟨g, i, none⟩ u) g s' ∧ w.grownBy (w.setCell ⟨g, i, none⟩ u) (some g) := by
  obtain ⟨A, c, h1, h2, h3, h4⟩ := h
  refine ⟨⟨A, c, ?_, by rw [hb]; exact h2, h3, by rw [hb]; exact h4.kept (grown_set w g i u) h1⟩, grown_set w g i u⟩
  rw [heap_set_same h1, hc, hb]

theorem cells_of {w : World} {g : Nat} {s : DS} (h : DiskAt w g s) : w.cell? ⟨g, 1, none⟩ = some (.int .i64 s.synced) ∧ w.cell? ⟨g, 2, none⟩ = some (.bool s.armed) ∧ w.cell? ⟨g, 3, none⟩ = some (.bool s.down) ∧ w.cell? ⟨g, 4, none⟩ = some (.int .i64 s.left) ∧ w.cell? ⟨g, 5, none⟩ = some (.int .i64 s.room) ∧ (∀ i, w.frozen? ⟨g, i, none⟩ = false) ∧ g < w.heap.size := by
  obtain ⟨A, c, h1, _⟩ := h
  exact (disk_cells h1).2

/-! ### write -/
set_option maxHeartbeats 1000000 in
theorem write_stop (g : Nat) (s : DS) (fn : Nat) (caps : Array Value) (w : World) (hD : DiskAt w g s) (ha : s.armed = true) (h0 : s.left = 0) :
    Calls Try.prog 26 #[.pointer (some ⟨g, 0, none⟩), .func (.func fn) #[] caps] w fun e w' => e = .returned (.int .i64 140) ∧ DiskAt w' g { s with down := true } ∧ w.grownBy w' (some g) := by
  obtain ⟨c1, c2, c3, c4, c5, hf, hlt⟩ := cells_of hD
  have hfin := hD.set (i := 3) (u := .bool true) (s' := { s with down := true }) rfl (fun A c => by simp [dcells])
  have Hfin := Lib.hid hfin
  rw [ha] at c2
  rw [h0] at c4
  clear hfin hD ha h0
  go_enter Try.func26, Try.ntmps26
  go_wp2_with fail
  go_ret
  exact ⟨rfl, Hfin.out⟩

set_option maxHeartbeats 1000000 in
theorem write_err (g : Nat) (s s1 : DS) (r : Int) (fn : Nat) (caps : Array Value) (w : World) (hD : DiskAt w g s) (hgo : ¬ (s.armed = true ∧ s.left = 0)) (hr : r ≠ 0) (hcf : ∀ W, (callFunc fn caps).run Try.prog W = .ok (.enter fn caps) W)
    (hc : Calls Try.prog fn caps w fun e w' => e = .returned (.int .i64 r) ∧ DiskAt w' g s1 ∧ w.grownBy w' (some g)) :
    Calls Try.prog 26 #[.pointer (some ⟨g, 0, none⟩), .func (.func fn) #[] caps] w fun e w' => e = .returned (.int .i64 r) ∧ DiskAt w' g s1 ∧ w.grownBy w' (some g) := by
  obtain ⟨c1, c2, c3, c4, c5, hf, hlt⟩ := cells_of hD
  have hr0 : (r == 0) = false := by simpa using hr
  have Hc := Lib.hid hc
  clear hc hr
  cases ha : s.armed
  · rw [ha] at c2
    clear hD hgo ha
    go_enter Try.func26, Try.ntmps26
    go_wp2_with fail
    refine Hc.out.mono ?_
    rintro e w1 ⟨rfl, hD1, hg1⟩
    have Hq := Lib.hid (And.intro hD1 hg1)
    clear hD1 hg1
    go_wp2_with fail
    go_ret
    exact ⟨rfl, Hq.out⟩
  · have h0 : (s.left == 0) = false := by
      simp only [beq_eq_false_iff_ne]; exact fun e => hgo ⟨ha, e⟩
    rw [ha] at c2
    clear hD hgo ha
    go_enter Try.func26, Try.ntmps26
    go_wp2_with fail
    refine Hc.out.mono ?_
    rintro e w1 ⟨rfl, hD1, hg1⟩
    have Hq := Lib.hid (And.intro hD1 hg1)
    clear hD1 hg1
    go_wp2_with fail
    go_ret
    exact ⟨rfl, Hq.out⟩

set_option maxHeartbeats 1000000 in
theorem write_ok (g : Nat) (s s1 : DS) (fn : Nat) (caps : Array Value) (w : World) (hD : DiskAt w g s) (hgo : ¬ (s.armed = true ∧ s.left = 0)) (hle : 0 ≤ s.left ∧ s.left ≤ 9223372036854775807) (e1 : s1.armed = s.armed) (e2 : s1.left = s.left) (hcf : ∀ W, (callFunc fn caps).run Try.prog W = .ok (.enter fn caps) W)
    (hc : Calls Try.prog fn caps w fun e w' => e = .returned (.int .i64 0) ∧ DiskAt w' g s1 ∧ w.grownBy w' (some g)) :
    Calls Try.prog 26 #[.pointer (some ⟨g, 0, none⟩), .func (.func fn) #[] caps] w fun e w' => e = .returned (.int .i64 0) ∧ DiskAt w' g { s1 with left := if s.armed then s.left - 1 else s.left } ∧ w.grownBy w' (some g) := by
  obtain ⟨c1, c2, c3, c4, c5, hf, hlt⟩ := cells_of hD
  have Hc := Lib.hid hc
  clear hc
  cases ha : s.armed
  · rw [ha] at c2 e1
    have hs1 : { s1 with left := if false = true then s.left - 1 else s.left } = s1 := by cases s1; simp at e2; simp [e2]
    rw [hs1]
    clear hs1 hD hgo ha e2
    go_enter Try.func26, Try.ntmps26
    go_wp2_with fail
    refine Hc.out.mono ?_
    rintro e w1 ⟨rfl, hD1, hg1⟩
    obtain ⟨b1, b2, b3, b4, b5, bf, blt⟩ := cells_of hD1
    have Hq := Lib.hid (And.intro hD1 hg1)
    rw [e1] at b2
    clear hD1 hg1 c1 c2 c3 c4 c5 hf hlt e1 b1 b3 b4 b5 bf
    go_wp2_with fail
    go_ret
    exact ⟨rfl, Hq.out⟩
  · have h0 : (s.left == 0) = false := by
      simp only [beq_eq_false_iff_ne]; exact fun e => hgo ⟨ha, e⟩
    rw [ha] at c2 e1
    have hs1 : { s1 with left := if true = true then s.left - 1 else s.left } = { s1 with left := s.left - 1 } := by simp
    rw [hs1]
    clear hs1 hD hgo ha
    go_enter Try.func26, Try.ntmps26
    go_wp2_with fail
    refine Hc.out.mono ?_
    rintro e w1 ⟨rfl, hD1, hg1⟩
    obtain ⟨b1, b2, b3, b4, b5, bf, blt⟩ := cells_of hD1
    have hset := hD1.set (i := 4) (u := .int .i64 (s.left - 1)) (s' := { s1 with left := s.left - 1 }) rfl (fun A c => by simp [dcells])
    have Hq := Lib.hid (And.intro hset.1 (hg1.trans hset.2))
    rw [e1] at b2
    rw [e2] at b4
    clear hset hD1 hg1 c1 c2 c3 c4 c5 hf hlt e1 e2 b1 b3 b5
    go_wp2_with fail
    go_ret
    exact ⟨rfl, Hq.out⟩

/-! ### Append -/
set_option maxHeartbeats 2000000 in
theorem Append_any (g : Nat) (s : DS) (t : List UInt8) (w : World) (hD : DiskAt w g s) (hr : 0 ≤ s.room ∧ s.room ≤ 1048576) (hl : (s.bytes.length : Int) ≤ s.room) (hle : 0 ≤ s.left ∧ s.left ≤ 9223372036854775807) (ht : t.length ≤ 9223372036854775807) :
    Calls Try.prog 12 #[.pointer (some ⟨g, 0, none⟩), str t] w fun e w' => e = .returned (.int .i64 (appendS s t).2) ∧ DiskAt w' g (appendS s t).1 ∧ w.grownBy w' (some g) := by
  have hB1 : Below w.heap.size w ((w.alloc (.cells #[.pointer (some ⟨g, 0, none⟩)] 24)).alloc (.cells #[str t] 9)) := ((Below.refl _ w).alloc (Nat.le_refl _) _).alloc (by simp) _
  have hD1 := hD.below hB1
  have x1 : ((w.alloc (.cells #[.pointer (some ⟨g, 0, none⟩)] 24)).alloc (.cells #[str t] 9)).cell? ⟨w.heap.size + 1, 0, none⟩ = some (str t) := by simp
  have x2 : ((w.alloc (.cells #[.pointer (some ⟨g, 0, none⟩)] 24)).alloc (.cells #[str t] 9)).cell? ⟨w.heap.size, 0, none⟩ = some (.pointer (some ⟨g, 0, none⟩)) := by simp
  have hG := grown_of_below (g := g) hB1
  have hcf : ∀ (W : World), (callFunc 27 #[.pointer (some ⟨w.heap.size + 1, 0, none⟩), .pointer (some ⟨w.heap.size, 0, none⟩)]).run Try.prog W = .ok (.enter 27 #[.pointer (some ⟨w.heap.size + 1, 0, none⟩), .pointer (some ⟨w.heap.size, 0, none⟩)]) W := fun _ => by kernel_rfl
  have hw : Calls Try.prog 26 #[.pointer (some ⟨g, 0, none⟩), .func (.func 27) #[] #[.pointer (some ⟨w.heap.size + 1, 0, none⟩), .pointer (some ⟨w.heap.size, 0, none⟩)]] ((w.alloc (.cells #[.pointer (some ⟨g, 0, none⟩)] 24)).alloc (.cells #[str t] 9))
      fun e w' => e = .returned (.int .i64 (appendS s t).2) ∧ DiskAt w' g (appendS s t).1 ∧ w.grownBy w' (some g) := by
    unfold appendS
    by_cases hst : s.armed = true ∧ s.left = 0
    · rw [if_pos hst]
      exact (write_stop g s _ _ _ hD1 hst.1 hst.2).mono fun e w' ⟨h1, h2, h3⟩ => ⟨h1, h2, hG.trans h3⟩
    · rw [if_neg hst]
      by_cases hfu : s.room - s.bytes.length < t.length
      · rw [if_pos hfu]
        refine (write_err g s s 4 _ _ _ hD1 hst (by omega) hcf ?_).mono fun e w' ⟨h1, h2, h3⟩ => ⟨h1, h2, hG.trans h3⟩
        exact (App_full _ _ g s t _ hD1 hr hl ht x1 x2 hfu).mono fun e w' ⟨h1, n, h2⟩ => ⟨h1, by rw [h2]; exact hD1.drewN n, by rw [h2]; exact grown_drew (World.grownBy.refl _ _) n⟩
      · rw [if_neg hfu]
        refine (write_ok g s { s with bytes := s.bytes ++ t } _ _ _ hD1 hst hle rfl rfl hcf ?_).mono fun e w' ⟨h1, h2, h3⟩ => ⟨h1, h2, hG.trans h3⟩
        exact App_ok _ _ g s t _ hD1 hr hl ht x1 x2 (by omega)
  have Hw := Lib.hid hw
  clear hw hcf hD1 x1 x2 hD hG
  go_enter Try.func12, Try.ntmps12
  go_wp2_with fail
  refine Hw.out.mono ?_
  rintro e w1 ⟨rfl, hq⟩
  have Hq := Lib.hid hq
  clear hq Hw
  go_wp2_with fail
  go_ret
  exact ⟨rfl, Hq.out⟩
end Go.Proofs.Ytnbdkabffdaikaa
