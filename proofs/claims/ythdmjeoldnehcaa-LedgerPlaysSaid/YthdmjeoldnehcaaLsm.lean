/- The walks of the law's more and sound, where they answer true. Condition: rows as the plain functions take them. -/
import Derived.Test.YthdmjeoldnehcaaLop
namespace Go.Proofs.Ythdmjeoldnehcaa
open Go.RowKit
set_option linter.unusedVariables false
set_option linter.unusedSimpArgs false

theorem and_is {a b : Nat} (ha : a < 256) (hb : b < 256) : bits BinOp.and IntKind.u8 (a : Int) (b : Int) = ((a &&& b : Nat) : Int) := by
  have hl : a &&& b < 256 := Nat.and_lt_two_pow (n := 8) a hb
  have e1 : IntKind.u8.bits = 8 := rfl
  have e2 : (BitVec.ofInt 8 (a : Int)).toNat = a := by rw [BitVec.toNat_ofInt]; omega
  have e3 : (BitVec.ofInt 8 (b : Int)).toNat = b := by rw [BitVec.toNat_ofInt]; omega
  simp only [bits]
  rw [e1, BitVec.toNat_and, e2, e3]
  exact IntWalk.u8_in _ (by omega)
theorem an_int {a b : Nat} (h : an a b = 0) : bits BinOp.andNot IntKind.u8 (a : Int) (b : Int) = 0 := by rw [an_is, h]; rfl
set_option maxHeartbeats 4000000 in
theorem more_true (a b : Rw) (h : moreB a b = true) (hb : b.yes < 256) (ha : a.voted < 256) (w : World) :
    Calls Try.prog 15 #[.agg a.cells.toArray, .agg b.cells.toArray] w fun e w' => e = .returned (.bool true) ∧ Below w.heap.size w w' := by
  unfold moreB at h
  simp only [Bool.and_eq_true, decide_eq_true_eq, Bool.or_eq_true, Bool.not_eq_true', beq_iff_eq] at h
  obtain ⟨⟨⟨⟨⟨h1, h2⟩, h3⟩, h4⟩, h5⟩, h6⟩ := h
  have z1 := an_int h3
  have z2 := an_int h6
  have z3 := and_is hb ha
  rw [← h4] at z3
  have B2 := Lib.hid (((Below.refl w.heap.size w).alloc (Nat.le_refl _) (.cells a.cells.toArray 43 (0, 0))).alloc (by simp) (.cells b.cells.toArray 43 (0, 0)))
  obtain ⟨⟨ac, ae, ass⟩, a1, a2, a3, a4, a5, a6, a7⟩ := a
  obtain ⟨t, b1, b2, b3, b4, b5, b6, b7⟩ := b
  simp only at h1
  subst h1
  simp only [Rw.cells] at *
  clear h3 h4 h6
  cases a1 <;> cases a5
  · clear h2 h5
    go_enter Try.func15, Try.ntmps15
    go_wp2_with fail
    go_ret
    exact ⟨rfl, B2.out⟩
  · rcases h5 with h5 | ⟨h5, h5'⟩
    · cases h5
    · subst h5 h5'
      clear h2
      go_enter Try.func15, Try.ntmps15
      go_wp2_with fail
      go_ret
      exact ⟨rfl, B2.out⟩
  · rcases h2 with h2 | ⟨h2, h2'⟩
    · cases h2
    · subst h2 h2'
      clear h5
      go_enter Try.func15, Try.ntmps15
      go_wp2_with fail
      go_ret
      exact ⟨rfl, B2.out⟩
  · rcases h2 with h2 | ⟨h2, h2'⟩
    · cases h2
    · rcases h5 with h5 | ⟨h5, h5'⟩
      · cases h5
      · subst h2 h2' h5 h5'
        go_enter Try.func15, Try.ntmps15
        go_wp2_with fail
        go_ret
        exact ⟨rfl, B2.out⟩
set_option maxHeartbeats 4000000 in
theorem sound_true (r : Rw) (bad : Nat) (h : soundB bad r = true) (w : World) :
    Calls Try.prog 16 #[.agg r.cells.toArray, .int .u8 (bad : Int)] w fun e w' => e = .returned (.bool true) ∧ Below w.heap.size w w' := by
  unfold soundB at h
  simp only [Bool.and_eq_true, decide_eq_true_eq, Bool.or_eq_true, Bool.not_eq_true'] at h
  obtain ⟨⟨⟨⟨h1, h2⟩, h3⟩, h4⟩, h5⟩ := h
  have z1 := an_int h1
  have z2 := an_int h2
  have B2 := Lib.hid ((Below.refl w.heap.size w).alloc (Nat.le_refl _) (.cells r.cells.toArray 43 (0, 0)))
  obtain ⟨⟨ac, ae, ass⟩, a1, a2, a3, a4, a5, a6, a7⟩ := r
  simp only [Rw.cells] at *
  clear h1 h2
  cases a6
  · clear h4 h5
    by_cases h7 : a7 = 0
    · subst h7
      clear h3
      go_enter Try.func16, Try.ntmps16
      go_wp2_with fail
      go_ret
      exact ⟨rfl, B2.out⟩
    · rcases h3 with h3 | h3
      · exact absurd h3 h7
      · subst h3
        have d7 : ((a7 : Int) != 0) = true := by simp; omega
        go_enter Try.func16, Try.ntmps16
        go_wp2_with fail
        go_ret
        exact ⟨rfl, B2.out⟩
  · rcases h4 with h4 | h4
    · cases h4
    · subst h4
      rcases h5 with h5 | ⟨⟨h5, h6⟩, h8⟩
      · cases h5
      · subst h5
        have y0 := an_is a2 bad
        have y1 := an_int h6
        have y2 := an_int h8
        clear h3 h6 h8
        by_cases h7 : a7 = 0
        · subst h7
          have y3 : bits BinOp.andNot IntKind.u8 0 (a4 : Int) = 0 := y2
          go_enter Try.func16, Try.ntmps16
          go_wp2_with fail
          go_ret
          exact ⟨rfl, B2.out⟩
        · have d7 : ((a7 : Int) != 0) = true := by simp; omega
          go_enter Try.func16, Try.ntmps16
          go_wp2_with fail
          go_ret
          exact ⟨rfl, B2.out⟩
end Go.Proofs.Ythdmjeoldnehcaa
