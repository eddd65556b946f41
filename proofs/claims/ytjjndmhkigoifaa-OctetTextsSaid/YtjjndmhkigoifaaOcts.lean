/- Rows of texts: what a slice of strings reads as; the walks of long, Begins, Same, Row and the reference's Row; a copy of a row by append. Condition: sizes that a machine has. -/
import Derived.Test.YtjjndmhkigoifaaOca
import Derived.Test.YtjjndmhkigoifaaAcp
import Derived.Test.YtjjndmhkigoifaaTxt
import Derived.Test.YtjjndmhkigoifaaSam
namespace Go.Proofs.Ytjjndmhkigoifaa
open Go.RowKit
set_option linter.unusedVariables false

/-! ### long -/
def longGo : Nat → List (List UInt8) → Bool
  | _, [] => false
  | n, x :: r => decide (8192 < x.length) || (decide (8192 < n + x.length) || longGo (n + x.length) r)
def longB (ls : List (List UInt8)) : Bool := longGo 0 ls || decide (300 < ls.length)

theorem longGo_false : ∀ (ls : List (List UInt8)) (n : Nat), longGo n ls = false → (∀ x ∈ ls, x.length ≤ 8192) ∧ (ls = [] ∨ n + (ls.map List.length).sum ≤ 8192)
  | [], n, _ => by simp
  | x :: r, n, h => by
    simp only [longGo, Bool.or_eq_false_iff, decide_eq_false_iff_not] at h
    obtain ⟨h1, h2, h3⟩ := h
    obtain ⟨i1, i2⟩ := longGo_false r _ h3
    refine ⟨?_, .inr ?_⟩
    · intro y hy
      rcases List.mem_cons.1 hy with rfl | hy
      · omega
      · exact i1 y hy
    · rcases i2 with rfl | i2
      · simp; omega
      · simp only [List.map_cons, List.sum_cons]; omega
theorem longB_false {ls : List (List UInt8)} (h : longB ls = false) : (∀ x ∈ ls, x.length ≤ 8192) ∧ (ls.map List.length).sum ≤ 8192 ∧ ls.length ≤ 300 := by
  simp only [longB, Bool.or_eq_false_iff, decide_eq_false_iff_not] at h
  obtain ⟨h1, h2⟩ := longGo_false ls 0 h.1
  refine ⟨h1, ?_, by omega⟩
  rcases h2 with rfl | h2
  · simp
  · omega

set_option maxHeartbeats 400000 in
theorem long_any (A : Option Addr) (c : Nat) (ls : List (List UInt8)) (hl : ls.length ≤ 9223372036854775807) (hx : ∀ x ∈ ls, x.length ≤ 9223372036854775807) (B : Nat) (w : World) (hT : Txt w B A ls) :
    Calls Try.prog 4 #[.slice A ls.length c] w fun e w' => e = .returned (.bool (longB ls)) ∧ w = w' := by
  go_enter Try.func4, Try.ntmps4
  go_wp2_with fail
  go_loop [3, 4] (fun n k => ∃ i m : Nat, i ≤ ls.length ∧ m ≤ 8192 ∧ longGo 0 ls = longGo m (ls.drop i) ∧ n = .int .i64 m ∧ k = .int .i64 i) (fun _ k => ls.length - (intOf k).toNat)
  case atStart => exact ⟨0, 0, by omega, by omega, rfl, rfl, rfl⟩
  case round =>
    obtain ⟨i, m, hi, hm, hg, rfl, rfl⟩ := hrel
    by_cases hk : i < ls.length
    · have hd : ls.drop i = ls[i] :: ls.drop (i + 1) := List.drop_eq_getElem_cons hk
      rw [hd] at hg
      simp only [longGo] at hg
      obtain ⟨b, o, rfl, _, hc⟩ := hT i hk
      have hxi := hx ls[i] (List.getElem_mem hk)
      generalize ls[i] = x at hg hc hxi
      have Hg := Lib.hid hg
      clear hg hT hx hd
      by_cases h1 : 8192 < x.length
      · go_wp2_with fail
        go_ret
        exact ⟨ret_bool (by rw [longB, Hg.out]; simp [h1]), rfl⟩
      · by_cases h2 : 8192 < m + x.length
        · go_wp2_with fail
          go_ret
          exact ⟨ret_bool (by rw [longB, Hg.out]; simp [h2]), rfl⟩
        · go_wp2_with fail
          go_round
          case rel => exact ⟨i + 1, m + x.length, by omega, by omega, by rw [Hg.out]; simp [h1, h2], by go_num, by go_num⟩
          case measure => simp [intOf]; omega
    · have Hg := Lib.hid hg
      clear hg hT hx
      have he : ls.length ≤ i := by omega
      go_wp2_with fail
      go_ret
      refine ⟨ret_bool ?_, rfl⟩
      rw [longB, Hg.out, List.drop_eq_nil_of_le he]
      simp [longGo]; omega

/-! ### Row -/
def row (ls : List (List UInt8)) : List UInt8 := (ls.map text).flatten
theorem row_snoc (ls : List (List UInt8)) (i : Nat) (h : i < ls.length) : row (ls.take (i + 1)) = row (ls.take i) ++ text ls[i] := by
  rw [List.take_succ_eq_append_getElem h]
  simp only [row, List.map_append, List.flatten_append, List.map_cons, List.map_nil, List.flatten_cons, List.flatten_nil, List.append_nil]
theorem row_take_le (ls : List (List UInt8)) (i : Nat) : (row (ls.take i)).length ≤ (row ls).length := by
  have : row ls = row (ls.take i) ++ row (ls.drop i) := by
    conv => lhs; rw [← List.take_append_drop i ls]
    simp only [row, List.map_append, List.flatten_append]
  rw [this, List.length_append]; omega

set_option maxHeartbeats 1000000 in
theorem Row_any (A : Option Addr) (c : Nat) (ls : List (List UInt8)) (hl : ls.length ≤ 9223372036854775807) (hx : ∀ x ∈ ls, x.length ≤ 9223372036854775700) (hr : (row ls).length ≤ 9223372036854775807) (w : World) (hT : Txt w w.heap.size A ls) :
    Calls Try.prog 10 #[.slice A ls.length c] w fun e w' => e = .returned (str (row ls)) ∧ Below w.heap.size w w' := by
  go_enter Try.func10, Try.ntmps10
  go_wp2_with fail
  go_loopw [3, 8] (fun s k wr => ∃ i : Nat, i ≤ ls.length ∧ s = str (row (ls.take i)) ∧ k = .int .i64 i ∧ Below w.heap.size w wr) (fun _ k _ => ls.length - (intOf k).toNat)
  case atStart => exact ⟨0, by omega, rfl, rfl, Below.refl _ _⟩
  case round =>
    obtain ⟨i, hi, rfl, rfl, hB⟩ := hrel
    by_cases hk : i < ls.length
    · obtain ⟨b, o, rfl, _, hc⟩ := (hT.below hB (Nat.le_refl _)) i hk
      have hxi := hx ls[i] (List.getElem_mem hk)
      have hs := row_snoc ls i hk
      have hle := row_take_le ls (i + 1)
      generalize ls[i] = x at hs hc hxi
      rw [hs] at hle
      have a1 := fun W => str_add (P := Try.prog) (row (ls.take i)) (text x) (by simp at hle; omega) W
      have Hs := Lib.hid hs
      clear hs hT hx hle
      go_wp2_with (go_at_call 6; refine (Text_any x hxi _).mono ?_; rintro e w1 ⟨rfl, hb⟩)
      go_roundw
      case rel => exact ⟨i + 1, by omega, by rw [Hs.out], by go_num, below_step hB hb ⟨rfl, rfl, rfl, rfl⟩⟩
      case measure => simp [intOf]; omega
    · have he : ls.take i = ls := List.take_of_length_le (by omega)
      clear hT hx
      rw [he]
      go_wp2_with fail
      go_ret
      exact ⟨rfl, hB⟩

set_option maxHeartbeats 1000000 in
theorem refRow_any (A : Option Addr) (c : Nat) (ls : List (List UInt8)) (hl : ls.length ≤ 9223372036854775807) (hx : ∀ x ∈ ls, x.length ≤ 9223372036854775700) (hr : (row ls).length ≤ 9223372036854775807) (w : World) (hT : Txt w w.heap.size A ls) :
    Calls Try.prog 11 #[.slice A ls.length c] w fun e w' => e = .returned (str (row ls)) ∧ Below w.heap.size w w' := by
  go_enter Try.func11, Try.ntmps11
  go_wp2_with fail
  go_loopw [3, 4] (fun s k wr => ∃ i : Nat, i ≤ ls.length ∧ s = str (row (ls.take i)) ∧ k = .int .i64 i ∧ Below w.heap.size w wr) (fun _ k _ => ls.length - (intOf k).toNat)
  case atStart => exact ⟨0, by omega, rfl, rfl, Below.refl _ _⟩
  case round =>
    obtain ⟨i, hi, rfl, rfl, hB⟩ := hrel
    by_cases hk : i < ls.length
    · obtain ⟨b, o, rfl, _, hc⟩ := (hT.below hB (Nat.le_refl _)) i hk
      have hxi := hx ls[i] (List.getElem_mem hk)
      have hs := row_snoc ls i hk
      have hle := row_take_le ls (i + 1)
      generalize ls[i] = x at hs hc hxi
      rw [hs] at hle
      have a1 := fun W => str_add (P := Try.prog) (row (ls.take i)) (text x) (by simp at hle; omega) W
      have Hs := Lib.hid hs
      clear hs hT hx hle
      go_wp2_with (go_at_call 7; refine (refText_any x hxi _).mono ?_; rintro e w1 ⟨rfl, hb⟩)
      go_roundw
      case rel => exact ⟨i + 1, by omega, by rw [Hs.out], by go_num, below_step hB hb ⟨rfl, rfl, rfl, rfl⟩⟩
      case measure => simp [intOf]; omega
    · have he : ls.take i = ls := List.take_of_length_le (by omega)
      clear hT hx
      rw [he]
      go_wp2_with fail
      go_ret
      exact ⟨rfl, hB⟩

theorem row_inj : ∀ a b : List (List UInt8), a.length = b.length → (∀ x ∈ a, x.length < 18446744073709551616) → (∀ x ∈ b, x.length < 18446744073709551616) → row a = row b → a = b
  | [], [], _, _, _, _ => rfl
  | [], _ :: _, h, _, _, _ => by simp at h
  | _ :: _, [], h, _, _, _ => by simp at h
  | x :: a, y :: b, h, ha, hb, e => by
    have e2 : text x ++ row a = text y ++ row b := e
    obtain ⟨rfl, e3⟩ := text_begins x y (ha x (by simp)) (hb y (by simp)) _ _ e2
    rw [row_inj a b (by simpa using h) (fun z hz => ha z (by simp [hz])) (fun z hz => hb z (by simp [hz])) e3]
theorem text_len_le (x : List UInt8) (h : x.length < 18446744073709551616) : (text x).length ≤ x.length + 9 := by
  have := num_len h
  simp [text]; omega
theorem row_len_le : ∀ ls : List (List UInt8), (∀ x ∈ ls, x.length < 18446744073709551616) → (row ls).length ≤ (ls.map List.length).sum + 9 * ls.length
  | [], _ => by simp [row]
  | x :: r, h => by
    have h1 := text_len_le x (h x (by simp))
    have h2 := row_len_le r (fun y hy => h y (by simp [hy]))
    have h3 : (row (x :: r)).length = (text x).length + (row r).length := by simp [row]
    rw [h3]; simp only [List.map_cons, List.sum_cons, List.length_cons]; omega

end Go.Proofs.Ytjjndmhkigoifaa
