/- The reference's disk: what its block holds; the walks of its methods. Condition: the numbers fit. -/
import Derived.Test.YtnbdkabffdaikaaDske
namespace Go.Proofs.Ytnbdkabffdaikaa
open Go.RowKit
set_option linter.unusedVariables false

structure RS where
  most : Int
  left : Int
  good : List UInt8
  loose : List UInt8
  down : Bool

def rcells (r : RS) : Array Value := #[.int .i64 r.most, .int .i64 r.left, str r.good, str r.loose, .bool r.down]
def RefAt (w : World) (g : Nat) (r : RS) : Prop := w.heap[g]? = some (.cells (rcells r) 57 (0, 0))

theorem ref_cells {w : World} {g : Nat} {r : RS} (h : RefAt w g r) :
    w.cell? ⟨g, 0, none⟩ = some (.int .i64 r.most) ∧ w.cell? ⟨g, 1, none⟩ = some (.int .i64 r.left) ∧ w.cell? ⟨g, 2, none⟩ = some (str r.good) ∧ w.cell? ⟨g, 3, none⟩ = some (str r.loose) ∧ w.cell? ⟨g, 4, none⟩ = some (.bool r.down) ∧ (∀ i, w.frozen? ⟨g, i, none⟩ = false) ∧ g < w.heap.size := by
  have h' : w.heap[g]? = some (.cells (rcells r) 57 (0, 0)) := h
  have hc : ∀ i, w.cell? ⟨g, i, none⟩ = (rcells r)[i]? := fun i => by simp [World.cell?, h']
  refine ⟨hc 0, hc 1, hc 2, hc 3, hc 4, fun i => by simp [World.frozen?, h'], (Array.getElem?_eq_some_iff.1 h').1⟩

/-- A store into one cell of it. -/
theorem RefAt.set {w : World} {g i : Nat} {r r' : RS} {u : Value} (h : RefAt w g r) (hc : (rcells r).setIfInBounds i u = rcells r') : RefAt (w.setCell ⟨g, i, none⟩ u) g r' := by
  unfold RefAt
  rw [heap_set_same h, hc]

def Stops (r : RS) : RS := { r with down := r.down || (r.left == 0) }
theorem stops_any (g : Nat) (r : RS) (w : World) (h : RefAt w g r) :
    Calls Try.prog 36 #[.pointer (some ⟨g, 0, none⟩)] w fun e w' => e = .returned (.bool ((r.left == 0))) ∧ RefAt w' g (Stops r) ∧ w.grownBy w' (some g) := by
  cases hd : r.down
  · have hr : RefAt (w.setCell ⟨g, 4, none⟩ (.bool (r.left == 0))) g (Stops r) ∧ w.grownBy (w.setCell ⟨g, 4, none⟩ (.bool (r.left == 0))) (some g) := ⟨h.set (by simp [Stops, rcells, hd]), grown_set _ _ _ _⟩
    have Hr := Lib.hid hr
    obtain ⟨c0, c1, c2, c3, c4, hf, hlt⟩ := ref_cells h
    rw [hd] at c4
    clear h hr hd
    go_enter Try.func36, Try.ntmps36
    go_wp2
    go_ret
    exact ⟨rfl, Hr.out⟩
  · have hr : RefAt (w.setCell ⟨g, 4, none⟩ (.bool true)) g (Stops r) ∧ w.grownBy (w.setCell ⟨g, 4, none⟩ (.bool true)) (some g) := ⟨h.set (by simp [Stops, rcells, hd]), grown_set _ _ _ _⟩
    have Hr := Lib.hid hr
    obtain ⟨c0, c1, c2, c3, c4, hf, hlt⟩ := ref_cells h
    rw [hd] at c4
    clear h hr hd
    go_enter Try.func36, Try.ntmps36
    go_wp2
    go_ret
    exact ⟨rfl, Hr.out⟩
def Done (r : RS) : RS := { r with left := if 0 < r.left then r.left - 1 else r.left }
theorem done_any (g : Nat) (r : RS) (w : World) (h : RefAt w g r) (hl : r.left ≤ 9223372036854775807) :
    Calls Try.prog 37 #[.pointer (some ⟨g, 0, none⟩)] w fun e w' => e = .returned (.int .i64 0) ∧ RefAt w' g (Done r) ∧ w.grownBy w' (some g) := by
  by_cases h0 : 0 < r.left
  · have hr : RefAt (w.setCell ⟨g, 1, none⟩ (.int .i64 (r.left - 1))) g (Done r) ∧ w.grownBy (w.setCell ⟨g, 1, none⟩ (.int .i64 (r.left - 1))) (some g) := ⟨h.set (by simp [Done, rcells, h0]), grown_set _ _ _ _⟩
    have Hr := Lib.hid hr
    obtain ⟨c0, c1, c2, c3, c4, hf, hlt⟩ := ref_cells h
    clear h hr
    go_enter Try.func37, Try.ntmps37
    go_wp2
    go_ret
    exact ⟨rfl, Hr.out⟩
  · have hr : RefAt w g (Done r) ∧ w.grownBy w (some g) := ⟨by unfold Done; rw [if_neg h0]; exact h, World.grownBy.refl _ _⟩
    have Hr := Lib.hid hr
    obtain ⟨c0, c1, c2, c3, c4, hf, hlt⟩ := ref_cells h
    clear h hr
    go_enter Try.func37, Try.ntmps37
    go_wp2
    go_ret
    exact ⟨rfl, Hr.out⟩

theorem RefAt.heap {W W' : World} {g : Nat} {r : RS} (h : RefAt W g r) (e : W'.heap = W.heap) : RefAt W' g r := by unfold RefAt; rw [e]; exact h

/-! ### What the reference's methods make of a disk -/
def rAppend (r : RS) (t : List UInt8) : RS × Int :=
  if r.left = 0 then (Stops r, 140) else if r.most - r.good.length - r.loose.length < t.length then (Stops r, 4) else (Done { Stops r with loose := r.loose ++ t }, 0)
def rCut (r : RS) (n : Int) : RS × Int :=
  if r.left = 0 then (Stops r, 140) else if n < 0 ∨ (r.good.length : Int) + r.loose.length < n then (Stops r, 2) else (Done { Stops r with good := (r.good ++ r.loose).take n.toNat, loose := [] }, 0)
def rSync (r : RS) : RS × Int :=
  if r.left = 0 then (Stops r, 140) else (Done { Stops r with good := r.good ++ r.loose, loose := [] }, 0)
def rArm (r : RS) (n : Int) : RS := { r with left := max n 0 }
def rCrash (r : RS) (keep : Int) : RS := { r with good := r.good ++ r.loose.take (min (max keep 0) r.loose.length).toNat, loose := [], left := -1, down := false }

theorem stops_left (r : RS) : (Stops r).left = r.left := rfl

/-- The numbers of a reference's disk fit. -/
structure Fits (r : RS) : Prop where
  m0 : 0 ≤ r.most
  m1 : r.most ≤ 1048576
  l0 : -1 ≤ r.left
  l1 : r.left ≤ 9223372036854775807
  hl : ((r.good.length + r.loose.length : Nat) : Int) ≤ r.most

set_option maxHeartbeats 2000000 in
theorem rAppend_any (g : Nat) (r : RS) (t : List UInt8) (w : World) (h : RefAt w g r) (F : Fits r) (ht : t.length ≤ 9223372036854775807) :
    Calls Try.prog 30 #[.pointer (some ⟨g, 0, none⟩), str t] w fun e w' => e = .returned (.int .i64 (rAppend r t).2) ∧ RefAt w' g (rAppend r t).1 ∧ w.grownBy w' (some g) := by
  have CS := Lib.hid (stops_any g r w h)
  obtain ⟨m0, m1, l0, l1, hl⟩ := F
  clear h
  unfold rAppend
  by_cases h0 : r.left = 0
  · rw [if_pos h0]
    have e0 : (r.left == 0) = true := by simpa using h0
    rw [e0] at CS
    clear h0 e0
    go_enter Try.func30, Try.ntmps30
    go_wp2_with fail
    refine CS.out.mono ?_
    rintro e w1 ⟨rfl, k⟩
    have K := Lib.hid k
    clear k CS
    go_wp2_with fail
    go_ret
    exact ⟨rfl, K.out⟩
  · rw [if_neg h0]
    have e0 : (r.left == 0) = false := by simpa using h0
    rw [e0] at CS
    clear h0 e0
    have e1 : IntKind.i64.wrap (r.most - (r.good.length : Int)) = r.most - (r.good.length : Int) := IntWalk.i64_in _ (by omega)
    have e2 : IntKind.i64.wrap (r.most - (r.good.length : Int) - (r.loose.length : Int)) = r.most - (r.good.length : Int) - (r.loose.length : Int) := IntWalk.i64_in _ (by omega)
    by_cases h1 : r.most - r.good.length - r.loose.length < t.length
    · rw [if_pos h1]
      have d1 : decide (r.most - (r.good.length : Int) - (r.loose.length : Int) < (t.length : Int)) = true := by simpa using h1
      clear h1
      go_enter Try.func30, Try.ntmps30
      go_wp2_with fail
      refine CS.out.mono ?_
      rintro e w1 ⟨rfl, k⟩
      have c := ref_cells k.1
      have K : Hid (∀ n, RefAt (w1.drewN n) g (Stops r) ∧ w.grownBy (w1.drewN n) (some g)) := fun n => ⟨k.1, grown_drew k.2 n⟩
      simp only [Stops] at c
      obtain ⟨c0, c1, c2, c3, c4, hf, hlt⟩ := c
      clear k CS
      go_wp2_with fail
      go_quiet (fail)
      go_wp2_with fail
      go_ret
      exact ⟨rfl, K.out _⟩
    · rw [if_neg h1]
      have d1 : decide (r.most - (r.good.length : Int) - (r.loose.length : Int) < (t.length : Int)) = false := by simp; omega
      have a1 := fun W => str_add (P := Try.prog) r.loose t (by omega) W
      clear h1
      go_enter Try.func30, Try.ntmps30
      go_wp2_with fail
      refine CS.out.mono ?_
      rintro e w1 ⟨rfl, k⟩
      have c := ref_cells k.1
      have K : Hid (∀ n, RefAt ((w1.drewN n).setCell ⟨g, 3, none⟩ (str (r.loose ++ t))) g { Stops r with loose := r.loose ++ t } ∧ w.grownBy ((w1.drewN n).setCell ⟨g, 3, none⟩ (str (r.loose ++ t))) (some g)) :=
        fun n => ⟨RefAt.set (RefAt.heap k.1 rfl) rfl, (grown_drew k.2 n).trans (grown_set _ _ _ _)⟩
      simp only [Stops] at c
      obtain ⟨c0, c1, c2, c3, c4, hf, hlt⟩ := c
      clear k CS
      go_wp2_with fail
      go_quiet (fail)
      go_wp2_with fail
      refine (done_any g _ _ (K.out _).1 l1).mono ?_
      rintro e w2 ⟨rfl, k⟩
      have K2 := Lib.hid (And.intro k.1 ((K.out nq).2.trans k.2))
      clear k K
      go_wp2_with fail
      go_ret
      exact ⟨rfl, K2.out⟩
end Go.Proofs.Ytnbdkabffdaikaa
