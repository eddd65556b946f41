/- Names plainly: a text's runes, their scripts, what they look like. No program in it. No condition. -/
import Derived.Test.YtdmlfggokbmapaaStr
import Derived.Test.YtdmlfggokbmapaaTxt
import Derived.Lib.OthersKept
import Derived.Lib.RuneCount
import Derived.Laws.Cover4
namespace Go.Proofs.Ytdmlfggokbmapaa
open Go.RowKit
set_option linter.unusedVariables false

abbrev ba (l : List UInt8) : ByteArray := ⟨l.toArray⟩
theorem ba_size (l : List UInt8) : (ba l).size = l.length := by simp [ByteArray.size]
def rnF (s : ByteArray) : Nat → Nat → List Int
  | 0, _ => []
  | f + 1, p => if p < s.size then ((Utf8.decode s p).1 : Int) :: rnF s f (p + (Utf8.decode s p).2) else []
theorem rnF_fuel (s : ByteArray) : ∀ (f f' p : Nat), s.size ≤ p + f → s.size ≤ p + f' → rnF s f p = rnF s f' p
  | 0, 0, _, _, _ => rfl
  | 0, f' + 1, p, h, _ => by rw [rnF, rnF, if_neg (by omega)]
  | f + 1, 0, p, _, h => by rw [rnF, rnF, if_neg (by omega)]
  | f + 1, f' + 1, p, h, h' => by
    rw [rnF, rnF]
    split
    · rename_i hp
      have := Lib.decode_width_pos s p hp
      rw [rnF_fuel s f f' _ (by omega) (by omega)]
    · rfl
/-- The runes from a place on. -/
def rnAt (s : ByteArray) (p : Nat) : List Int := rnF s (s.size - p) p
theorem rnAt_more (s : ByteArray) (p : Nat) (h : p < s.size) : rnAt s p = ((Utf8.decode s p).1 : Int) :: rnAt s (p + (Utf8.decode s p).2) := by
  have hw := Lib.decode_width_pos s p h
  unfold rnAt
  obtain ⟨f, hf⟩ : ∃ f, s.size - p = f + 1 := ⟨s.size - p - 1, by omega⟩
  rw [hf, rnF, if_pos h, rnF_fuel s f (s.size - (p + (Utf8.decode s p).2)) _ (by omega) (by omega)]
theorem rnAt_end (s : ByteArray) (p : Nat) (h : ¬ p < s.size) : rnAt s p = [] := by
  unfold rnAt
  rw [show s.size - p = 0 by omega]; rfl
theorem rnAt_len (s : ByteArray) : ∀ f p, (rnF s f p).length ≤ f
  | 0, _ => by simp [rnF]
  | f + 1, p => by
    rw [rnF]
    split
    · have := rnAt_len s f (p + (Utf8.decode s p).2); simp; omega
    · simp
def rn (l : List UInt8) : List Int := rnAt (ba l) 0
theorem rn_len (l : List UInt8) : (rn l).length ≤ l.length := by
  have := rnAt_len (ba l) ((ba l).size - 0) 0
  rw [ba_size] at this
  unfold rn rnAt
  rw [ba_size]; simpa using this
theorem decode_range (s : ByteArray) (p : Nat) : (Utf8.decode s p).1 ≤ 2147483647 := decode_le s p
theorem rnF_range (s : ByteArray) : ∀ f p, ∀ r ∈ rnF s f p, 0 ≤ r ∧ r ≤ 2147483647
  | 0, _, r, h => by simp [rnF] at h
  | f + 1, p, r, h => by
    rw [rnF] at h
    split at h
    · rcases List.mem_cons.1 h with rfl | h
      · have := decode_le s p; omega
      · exact rnF_range s f _ r h
    · simp at h
theorem rn_range (l : List UInt8) : ∀ r ∈ rn l, 0 ≤ r ∧ r ≤ 2147483647 := rnF_range _ _ _

/-- A letter's script. -/
def kd (r : Int) : Nat := if 97 ≤ r ∧ r ≤ 122 then 1 else if 945 ≤ r ∧ r ≤ 969 then 2 else if 1072 ≤ r ∧ r ≤ 1103 then 3 else 0
def bad (r : Int) : Bool := kd r == 0 && (r != 45 && (decide (r < 48) || decide (57 < r)))
/-- The script of the first letter, and the error. -/
def fs : List Int → Nat → Nat → Nat × Nat
  | [], sc, e => (sc, e)
  | r :: x, sc, e => if bad r = true then (sc, 7) else if sc = 0 then fs x (kd r) e else if kd r ≠ 0 ∧ kd r ≠ sc then fs x sc 50 else fs x sc e
theorem kd_le (r : Int) : kd r ≤ 3 := by unfold kd; (repeat' split) <;> omega
/-- The first byte, or the last one, is '-', or there is none. -/
def edge (l : List UInt8) : Bool := l.isEmpty || (l.getD 0 0 == 45 || l.getD (l.length - 1) 0 == 45)
def firstP (l : List UInt8) : Nat × Nat :=
  if 24 < (rn l).length then (0, 5) else if edge l = true then (0, 7) else if (fs (rn l) 0 0).2 ≠ 0 then (0, (fs (rn l) 0 0).2) else ((fs (rn l) 0 0).1, 0)
def ck (l : List UInt8) : Nat := (firstP l).2

/-- What a rune looks like. -/
def pairs : List (Int × Int) := [(48, 111), (49, 108), (945, 97), (1072, 97), (1074, 98), (1089, 99), (1077, 101), (953, 105), (954, 107), (1082, 107), (1084, 109), (951, 110), (1085, 110), (959, 111), (1086, 111), (961, 112), (1088, 112), (964, 116), (1090, 116), (965, 117), (957, 118), (967, 120), (1093, 120), (947, 121), (1091, 121)]
def lk (r : Int) : Int := ((pairs.find? (fun p => p.1 == r)).map (·.2)).getD r
def lks (l : List UInt8) : List Int := (rn l).map lk
def enc (x : List Int) : List UInt8 := (runesBytes x).data.toList
def skel (l : List UInt8) : List UInt8 := if ck l = 0 then enc (lks l) else []
/-- Two names look alike. -/
def clash (a b : List UInt8) : Bool := (ck a == 0) && ((ck b == 0) && ((a != b) && (skel a == skel b)))
theorem lk_lk (r : Int) : lk (lk r) = lk r := by
  by_cases h : r ∈ pairs.map (·.1)
  · have : ∀ r ∈ pairs.map (·.1), lk (lk r) = lk r := by decide +kernel
    exact this r h
  · have e : lk r = r := by
      unfold lk
      rw [List.find?_eq_none.2]
      · rfl
      · intro p hp hq
        apply h
        simp at hq
        rw [← hq]
        exact List.mem_map_of_mem hp
    rw [e, e]
theorem clash_symm (a b : List UInt8) : clash a b = clash b a := by
  rw [Bool.eq_iff_iff]
  simp only [clash, Bool.and_eq_true, beq_iff_eq, bne_iff_ne]
  constructor
  · rintro ⟨h1, h2, h3, h4⟩; exact ⟨h2, h1, fun e => h3 e.symm, h4.symm⟩
  · rintro ⟨h1, h2, h3, h4⟩; exact ⟨h2, h1, fun e => h3 e.symm, h4.symm⟩
theorem clash_self (a : List UInt8) : clash a a = false := by simp [clash]
theorem clash_trans (a b c : List UInt8) (h1 : clash a b = true) (h2 : clash b c = true) (h : a ≠ c) : clash a c = true := by
  simp only [clash, Bool.and_eq_true, beq_iff_eq, bne_iff_ne] at h1 h2 ⊢
  exact ⟨h1.1, h2.2.1, h, h1.2.2.2.trans h2.2.2.2⟩
theorem clash_is (a b : List UInt8) : clash a b = ((ck a == 0) && ((ck b == 0) && ((a != b) && (skel a == skel b)))) := rfl
end Go.Proofs.Ytdmlfggokbmapaa
