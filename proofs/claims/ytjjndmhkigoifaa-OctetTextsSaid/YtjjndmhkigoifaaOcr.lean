/- Rows that bytes begin with, plainly; the walk of the reference's ReadRow. Condition: sizes that a machine has. -/
import Derived.Test.YtjjndmhkigoifaaStl
import Derived.Test.YtjjndmhkigoifaaOcty
namespace Go.Proofs.Ytjjndmhkigoifaa
open Go.RowKit
set_option linter.unusedVariables false

theorem readText_fits (l : List UInt8) (most : Int) : (readText l most).2.1 ≤ l.length ∧ ((readText l most).2.2 = 0 → 1 ≤ (readText l most).2.1) := by
  have hf := readNum_fits l
  unfold readText
  split
  · exact ⟨Nat.zero_le _, fun h => by simp_all⟩
  · split
    · exact ⟨Nat.zero_le _, fun h => by simp at h⟩
    · split
      · exact ⟨Nat.zero_le _, fun h => by simp at h⟩
      · rename_i h1 _ h3
        simp only
        have := hf.2.2.2 (by simpa using h1)
        exact ⟨by omega, fun _ => by omega⟩
/-- k texts more, behind those that were read. -/
def rr (s : List UInt8) (most : Int) : Nat → List (List UInt8) → Nat → List (List UInt8) × Nat × Nat
  | 0, acc, at' => (acc, at', 0)
  | k + 1, acc, at' => if (readText (s.drop at') most).2.2 = 0 then rr s most k (acc ++ [(readText (s.drop at') most).1]) (at' + (readText (s.drop at') most).2.1) else ([], 0, (readText (s.drop at') most).2.2)
theorem rr_ok {s : List UInt8} {most : Int} {k at' : Nat} {acc : List (List UInt8)} (h : (readText (s.drop at') most).2.2 = 0) : rr s most (k + 1) acc at' = rr s most k (acc ++ [(readText (s.drop at') most).1]) (at' + (readText (s.drop at') most).2.1) := by rw [rr, if_pos h]
theorem rr_no {s : List UInt8} {most : Int} {k at' : Nat} {acc : List (List UInt8)} (h : (readText (s.drop at') most).2.2 ≠ 0) : rr s most (k + 1) acc at' = ([], 0, (readText (s.drop at') most).2.2) := by rw [rr, if_neg h]

theorem run_slice_from (l : List UInt8) (a : Nat) (za : Int) (ea : za = (a : Int)) (hl : a ≤ l.length) (W : World) :
    (Instr.sliceAt 9 (str l) (some (.int .i64 za)) none none).run Try.prog W = .ok (str (l.drop a)) W := by
  subst ea
  have hs : (ByteArray.mk l.toArray).size = l.length := by simp [ByteArray.size]
  rw [run_sliceAt_string W 9 _ _ _ _ Try.underlying9, run_slice_string_l W 9 _ Try.underlying9 .i64 (a : Int) (by omega) (by rw [hs]; omega)]
  simp [extract_list, hs]

set_option maxRecDepth 100000 in
set_option maxHeartbeats 8000000 in
theorem refReadRow_any (s : List UInt8) (count most : Int) (hs : s.length ≤ 1099511627776) (hc : count ≤ 10000) (hm : most ≤ 9223372036854775807) (w : World) :
    Calls Try.prog 13 #[str s, .int .i64 count, .int .i64 most] w fun e w' => ∃ v, e = .returned (.tuple #[v, .int .i64 ((rr s most count.toNat [] 0).2.1 : Int), .int .i64 ((rr s most count.toNat [] 0).2.2 : Int)]) ∧ SlS w' w.heap.size v (rr s most count.toNat [] 0).1 ∧ Below w.heap.size w w' := by
  obtain ⟨n, hn⟩ : ∃ n, n = count.toNat := ⟨_, rfl⟩
  rw [← hn]
  generalize hR : rr s most n [] 0 = R
  have HR := Lib.hid hR
  have HN := Lib.hid hn
  have hn2 : n ≤ 10000 := by omega
  have S0 : Hid (SlS w w.heap.size (.slice none 0 0) [] ∧ Below w.heap.size w w) := ⟨SlS.nil _ _, Below.refl _ _⟩
  clear hR hn
  go_enter Try.func13, Try.ntmps13
  go_wp2_with fail
  go_loopw [9, 10, 11] (fun v p k wr => ∃ (i at' : Nat) (acc : List (List UInt8)), i ≤ n ∧ at' ≤ s.length ∧ acc.length ≤ 10000 ∧ p = .int .i64 (at' : Int) ∧ k = .int .i64 (i : Int) ∧ Hid (acc.length = i ∧ rr s most (n - i) acc at' = R) ∧ Hid (SlS wr w.heap.size v acc ∧ Below w.heap.size w wr)) (fun _ _ k _ => n - (intOf k).toNat)
  case atStart => exact ⟨0, 0, [], by omega, by omega, by simp, rfl, rfl, ⟨rfl, HR.out⟩, S0⟩
  case round =>
    clear S0
    obtain ⟨i, at', acc, hi, hat, hacc, rfl, rfl, hE, hS⟩ := hrel
    by_cases hlt : i < n
    · have d1 : decide ((i : Int) < count) = true := by have := HN.out; simp; omega
      have q := run_slice_from s at' (at' : Int) rfl hat
      have CT := Lib.hid (refReadText_any (s.drop at') (by rw [List.length_drop]; omega) most hm wr)
      have hf := readText_fits (s.drop at') most
      rw [List.length_drop] at hf
      have HE : Hid (((readText (s.drop at') most).2.2 = 0 → rr s most (n - (i + 1)) (acc ++ [(readText (s.drop at') most).1]) (at' + (readText (s.drop at') most).2.1) = R) ∧ ((readText (s.drop at') most).2.2 ≠ 0 → R = ([], 0, (readText (s.drop at') most).2.2))) := by
        have e := hE.out.2
        rw [show n - i = (n - (i + 1)) + 1 by omega] at e
        exact ⟨fun h => by rw [← e, rr_ok h], fun h => by rw [← e, rr_no h]⟩
      generalize readText (s.drop at') most = r at CT hf HE
      generalize s.drop at' = sd at q CT
      obtain ⟨t, m, er⟩ := r
      simp only at CT hf HE
      have kb : 0 ≤ (at' : Int) ∧ (at' : Int) ≤ (s.length : Int) := by omega
      by_cases he : er = 0
      · subst he
        have hm1 := hf.2 rfl
        have hm2 := hf.1
        go_wp2_with fail
        refine CT.out.mono ?_
        rintro e w1 ⟨rfl, b1⟩
        have S1 := Lib.hid (And.intro (hS.out.1.bel b1) (below_acc hS.out.2 b1))
        clear b1 CT hS q
        have hsz := S1.out.2.size
        have Z := acc
        go_wp2_with (at_builtin; refine wpList_append_str rfl (.tmp 32) (.tmp 34) rfl w.heap.size u9 acc t (by rfl) S1.out.1 hsz (by rfl) (by omega) ?_; intro v' w2 g1 g2 g3 g4 g5)
        have T2 : Hid (SlS w2 w.heap.size v' (acc ++ [t]) ∧ Below w.heap.size w w2) := ⟨g1, S1.out.2.trans g4⟩
        have HLA : Hid ((acc ++ [t]).length = i + 1) := by show _ = _; rw [List.length_append, hE.out.1]; rfl
        clear g1 g2 g3 g4 g5 S1
        go_wp2_with fail
        go_roundw
        case rel => exact ⟨i + 1, at' + m, acc ++ [t], by omega, by omega, by rw [HLA.out]; omega, by go_num, by go_num, ⟨HLA.out, HE.out.1 (by first | trivial | rfl)⟩, T2⟩
        case measure => simp [intOf]; omega
      · have d2 : ((er : Int) != 0) = true := by simp; omega
        have hRe := HE.out.2 he
        go_wp2_with fail
        refine CT.out.mono ?_
        rintro e w1 ⟨rfl, b1⟩
        have B1 := Lib.hid (below_acc hS.out.2 b1)
        clear b1 CT hS q
        subst hRe
        go_wp2_with fail
        go_ret3
        exact ⟨_, rfl, SlS.nil _ _, B1.out⟩
    · obtain rfl : i = n := by omega
      have d1 : decide ((i : Int) < count) = false := by have := HN.out; simp; omega
      have hRe : (acc, at', 0) = R := by have := hE.out.2; rw [Nat.sub_self] at this; exact this
      subst hRe
      go_wp2_with fail
      go_ret3
      exact ⟨_, rfl, hS.out.1, hS.out.2⟩
end Go.Proofs.Ytjjndmhkigoifaa
