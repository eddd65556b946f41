/- Scripts of steps of layer 14: what a slice of steps reads as; heavy. No condition. -/
import Derived.Test.YtnbdkabffdaikaaDskl
namespace Go.Proofs.Ytnbdkabffdaikaa
open Go.RowKit
set_option linter.unusedVariables false

structure Stp where
  act : Int
  n : Int
  s : List UInt8

/-- A slice (its address A) holds the steps ls, all of them below block B. -/
def Steps (w : World) (B : Nat) (A : Option Addr) (ls : List Stp) : Prop :=
  ∀ (i : Nat) (h : i < ls.length), ∃ b o, A = some ⟨b, o, none⟩ ∧ b < B ∧ w.cell? ⟨b, o + i * 3, none⟩ = some (.int .u8 ls[i].act) ∧ w.cell? ⟨b, o + i * 3 + 1, none⟩ = some (.int .i64 ls[i].n) ∧ w.cell? ⟨b, o + i * 3 + 2, none⟩ = some (str ls[i].s)
theorem Steps.below {w w' : World} {B B' : Nat} {A : Option Addr} {ls : List Stp} (h : Steps w B A ls) (hb : Below B' w w') (hB : B ≤ B') : Steps w' B A ls := fun i hi => by
  obtain ⟨b, o, e, hl, h1, h2, h3⟩ := h i hi
  have hlt : b < B' := Nat.lt_of_lt_of_le hl hB
  exact ⟨b, o, e, hl, (hb.cell (p := ⟨b, _, none⟩) hlt).trans h1, (hb.cell (p := ⟨b, _, none⟩) hlt).trans h2, (hb.cell (p := ⟨b, _, none⟩) hlt).trans h3⟩

def heavyB (ls : List Stp) : Bool := decide (200 < ls.length) || ls.any (fun x => decide (256 < x.s.length))

set_option maxHeartbeats 400000 in
theorem heavy_any (A : Option Addr) (c : Nat) (ls : List Stp) (hl : ls.length ≤ 9223372036854775807) (hx : ∀ x ∈ ls, x.s.length ≤ 9223372036854775807) (B : Nat) (w : World) (hT : Steps w B A ls) :
    Calls Try.prog 16 #[.slice A ls.length c] w fun e w' => e = .returned (.bool (heavyB ls)) ∧ w = w' := by
  by_cases h200 : 200 < ls.length
  · have hh : heavyB ls = true := by simp [heavyB, h200]
    rw [hh]
    clear hx hT hh
    go_enter Try.func16, Try.ntmps16
    go_wp2_with fail
    go_ret
    exact ⟨rfl, rfl⟩
  · go_enter Try.func16, Try.ntmps16
    go_wp2_with fail
    go_loop [3] (fun k => ∃ i : Nat, i ≤ ls.length ∧ k = .int .i64 i ∧ Hid ((ls.take i).any (fun x => decide (256 < x.s.length)) = false)) (fun k => ls.length - (intOf k).toNat)
    case atStart => exact ⟨0, by omega, rfl, rfl⟩
    case round =>
      obtain ⟨i, hi, rfl, hsh⟩ := hrel
      by_cases hki : i < ls.length
      · obtain ⟨b, o, rfl, hbB, c0, c1, c2⟩ := hT i hki
        have hxi := hx ls[i] (List.getElem_mem hki)
        have hs : ls.take (i + 1) = ls.take i ++ [ls[i]] := List.take_succ_eq_append_getElem hki
        have hmem : ls[i] ∈ ls := List.getElem_mem hki
        have Hs := Lib.hid (And.intro hs hmem)
        clear hs hT hx hmem
        generalize ls[i] = x at c0 c1 c2 hxi Hs
        by_cases h256 : 256 < x.s.length
        · go_wp2_with fail
          go_ret
          refine ⟨ret_bool ?_, rfl⟩
          have : ls.any (fun x => decide (256 < x.s.length)) = true := List.any_eq_true.2 ⟨x, Hs.out.2, by simpa using h256⟩
          simp [heavyB, this]
        · go_wp2_with fail
          go_round
          case rel => exact ⟨i + 1, by omega, by go_num, by show _ = _; rw [Hs.out.1, List.any_append, hsh.out]; simpa using h256⟩
          case measure => simp [intOf]; omega
      · clear hT hx
        go_wp2_with fail
        go_ret
        refine ⟨ret_bool ?_, rfl⟩
        have h := hsh.out
        rw [List.take_of_length_le (by omega)] at h
        simp only [heavyB, h]; simp; omega
end Go.Proofs.Ytnbdkabffdaikaa
