/- Names plainly: rows of runes compared; a name's runes give its bytes. No program in it. No condition. -/
import Derived.Test.YtdmlfggokbmapaaNmp
namespace Go.Proofs.Ytdmlfggokbmapaa
open Go.RowKit
set_option linter.unusedVariables false
set_option linter.unusedSimpArgs false

/-- Two rows of runes compared. -/
def cmpL : List Int → List Int → Int
  | [], [] => 0
  | [], _ :: _ => -1
  | _ :: _, [] => 1
  | x :: xs, y :: ys => if x < y then -1 else if y < x then 1 else cmpL xs ys
theorem cmpL_range : ∀ x y : List Int, cmpL x y = -1 ∨ cmpL x y = 0 ∨ cmpL x y = 1
  | [], [] => .inr (.inl rfl)
  | [], _ :: _ => .inl rfl
  | _ :: _, [] => .inr (.inr rfl)
  | x :: xs, y :: ys => by
    rw [cmpL]
    split
    · exact .inl rfl
    · split
      · exact .inr (.inr rfl)
      · exact cmpL_range xs ys
theorem cmpL_neg : ∀ x y : List Int, cmpL y x = -cmpL x y
  | [], [] => rfl
  | [], _ :: _ => rfl
  | _ :: _, [] => rfl
  | x :: xs, y :: ys => by
    rw [cmpL, cmpL]
    by_cases h1 : x < y
    · rw [if_pos h1, if_neg (by omega), if_pos h1]; rfl
    · by_cases h2 : y < x
      · rw [if_pos h2, if_neg h1, if_pos h2]
      · rw [if_neg h2, if_neg h1, if_neg h1, if_neg h2, cmpL_neg xs ys]
theorem cmpL_self : ∀ x : List Int, cmpL x x = 0
  | [] => rfl
  | x :: xs => by rw [cmpL, if_neg (by omega), if_neg (by omega), cmpL_self xs]
theorem cmpL_zero : ∀ x y : List Int, cmpL x y = 0 → x = y
  | [], [], _ => rfl
  | [], _ :: _, h => by simp [cmpL] at h
  | _ :: _, [], h => by simp [cmpL] at h
  | x :: xs, y :: ys, h => by
    rw [cmpL] at h
    split at h
    · omega
    · split at h
      · omega
      · rw [cmpL_zero xs ys h, show x = y by omega]
theorem cmpL_trans : ∀ x y z : List Int, cmpL x y ≤ 0 → cmpL y z ≤ 0 → cmpL x z ≤ 0 ∧ (cmpL x y < 0 ∨ cmpL y z < 0 → cmpL x z < 0)
  | [], [], z, _, h => ⟨h, fun h' => h'.elim (fun h => by simp [cmpL] at h) id⟩
  | [], _ :: _, [], _, h => by simp [cmpL] at h
  | [], _ :: _, _ :: _, _, _ => by simp [cmpL]
  | _ :: _, [], _, h, _ => by simp [cmpL] at h
  | _ :: _, _ :: _, [], _, h => by simp [cmpL] at h
  | x :: xs, y :: ys, z :: zs, h1, h2 => by
    have ih := cmpL_trans xs ys zs
    rw [cmpL] at h1 h2 ⊢
    have e1 : cmpL (x :: xs) (y :: ys) = if x < y then -1 else if y < x then 1 else cmpL xs ys := rfl
    have e2 : cmpL (y :: ys) (z :: zs) = if y < z then -1 else if z < y then 1 else cmpL ys zs := rfl
    rw [e1, e2]
    by_cases a1 : x < y
    · by_cases b1 : y < z
      · rw [if_pos (show x < z by omega)]; exact ⟨by omega, fun _ => by omega⟩
      · by_cases b2 : z < y
        · rw [if_neg b1, if_pos b2] at h2; omega
        · rw [if_pos (show x < z by omega)]; exact ⟨by omega, fun _ => by omega⟩
    · by_cases a2 : y < x
      · rw [if_neg a1, if_pos a2] at h1; omega
      · have hxy : x = y := by omega
        subst hxy
        rw [if_neg a1, if_neg a1] at h1
        by_cases b1 : x < z
        · rw [if_pos b1]; exact ⟨by omega, fun _ => by omega⟩
        · by_cases b2 : z < x
          · rw [if_neg b1, if_pos b2] at h2; omega
          · rw [if_neg b1, if_neg b2] at h2
            rw [if_neg b1, if_neg b2, if_neg a1, if_neg a1, if_neg b1, if_neg b2]
            exact ih h1 h2

/-- Which of two names stands ahead. -/
def orP (a b : Int) : Int := if a ≠ 0 then a else if b ≠ 0 then b else 0
def order (a b : List UInt8) : Int := if ck a ≠ 0 ∨ ck b ≠ 0 then 0 else orP (cmpL (lks a) (lks b)) (cmpL (rn a) (rn b))

/-! ### A name's runes are small -/
theorem bad_small {r : Int} (h : bad r ≠ true) : 0 ≤ r ∧ r < 2048 := by
  unfold bad kd at h
  by_cases h1 : 97 ≤ r ∧ r ≤ 122
  · omega
  · by_cases h2 : 945 ≤ r ∧ r ≤ 969
    · omega
    · by_cases h3 : 1072 ≤ r ∧ r ≤ 1103
      · omega
      · rw [if_neg h1, if_neg h2, if_neg h3] at h
        by_cases h4 : r = 45
        · omega
        · by_cases h5 : r < 48
          · exfalso; apply h; simp [h4, h5]
          · by_cases h6 : 57 < r
            · exfalso; apply h; simp [h4, h6]
            · omega
theorem fs_bad : ∀ (x : List Int) (c e : Nat), (∃ r ∈ x, bad r = true) → (fs x c e).2 = 7
  | [], _, _, h => by obtain ⟨r, hr, _⟩ := h; simp at hr
  | y :: x, c, e, h => by
    rw [fs]
    by_cases hy : bad y = true
    · rw [if_pos hy]
    · have h' : ∃ r ∈ x, bad r = true := by
        obtain ⟨r, hr, hb⟩ := h
        rcases List.mem_cons.1 hr with rfl | hr
        · exact absurd hb hy
        · exact ⟨r, hr, hb⟩
      rw [if_neg hy]
      split
      · exact fs_bad x _ _ h'
      · split
        · exact fs_bad x _ _ h'
        · exact fs_bad x _ _ h'
theorem ck_small {l : List UInt8} (h : ck l = 0) : ∀ r ∈ rn l, 0 ≤ r ∧ r < 2048 := by
  intro r hr
  refine bad_small fun hb => ?_
  have h7 := fs_bad (rn l) 0 0 ⟨r, hr, hb⟩
  unfold ck firstP at h
  split at h
  · simp at h
  · split at h
    · simp at h
    · rw [h7] at h
      simp at h
theorem lk_small {r : Int} (h : 0 ≤ r ∧ r < 2048) : 0 ≤ lk r ∧ lk r < 2048 := by
  unfold lk
  cases hf : pairs.find? (fun p => p.1 == r) with
  | none => exact h
  | some p =>
    have hp := List.mem_of_find?_eq_some hf
    have : ∀ p ∈ pairs, 0 ≤ p.2 ∧ p.2 < 2048 := by decide +kernel
    exact this p hp

/-! ### Their bytes -/
def e8 (r : Int) : List UInt8 := (Utf8.encode r).data.toList
theorem foldl_enc : ∀ (ns : List Int) (s : ByteArray), (ns.foldl (fun r n => r ++ Utf8.encode n) s).data.toList = s.data.toList ++ enc ns
  | [], s => by simp [enc, runesBytes]
  | n :: ns, s => by
    have h1 := foldl_enc ns (s ++ Utf8.encode n)
    have h2 := foldl_enc ns (ByteArray.empty ++ Utf8.encode n)
    have h3 : enc (n :: ns) = (ns.foldl (fun r n => r ++ Utf8.encode n) (ByteArray.empty ++ Utf8.encode n)).data.toList := rfl
    rw [h3, h2]
    show (ns.foldl (fun r n => r ++ Utf8.encode n) (s ++ Utf8.encode n)).data.toList = _
    rw [h1]
    simp
theorem enc_cons (r : Int) (x : List Int) : enc (r :: x) = e8 r ++ enc x := by
  have h := foldl_enc x (ByteArray.empty ++ Utf8.encode r)
  have h3 : enc (r :: x) = (x.foldl (fun r n => r ++ Utf8.encode n) (ByteArray.empty ++ Utf8.encode r)).data.toList := rfl
  rw [h3, h]
  simp [e8]
theorem e8_one {r : Int} (h0 : 0 ≤ r) (h : r < 128) : e8 r = [UInt8.ofNat r.toNat] := by
  have hv : Utf8.valid r = true := by simp [Utf8.valid]; omega
  unfold e8 Utf8.encode
  simp only [hv, if_true]
  rw [if_pos (by omega)]
theorem e8_two {r : Int} (h0 : 128 ≤ r) (h : r < 2048) : e8 r = [UInt8.ofNat (192 + r.toNat / 64), UInt8.ofNat (128 + r.toNat % 64)] := by
  have hv : Utf8.valid r = true := by simp [Utf8.valid]; omega
  unfold e8 Utf8.encode
  simp only [hv, if_true]
  rw [if_neg (by omega), if_pos (by omega)]
theorem ofNat_inj {a b : Nat} (ha : a < 256) (hb : b < 256) (h : UInt8.ofNat a = UInt8.ofNat b) : a = b := by
  have := congrArg UInt8.toNat h
  simp at this
  omega
theorem enc_inj : ∀ (x y : List Int), (∀ r ∈ x, 0 ≤ r ∧ r < 2048) → (∀ r ∈ y, 0 ≤ r ∧ r < 2048) → enc x = enc y → x = y
  | [], [], _, _, _ => rfl
  | [], r :: y, _, hy, h => by
    have h1 := hy r (by simp)
    rw [enc_cons] at h
    have h2 := congrArg List.length h
    by_cases hr : r < 128
    · rw [e8_one h1.1 hr] at h2; simp [enc, runesBytes] at h2
    · rw [e8_two (by omega) h1.2] at h2; simp [enc, runesBytes] at h2
  | r :: x, [], hx, _, h => by
    have h1 := hx r (by simp)
    rw [enc_cons] at h
    have h2 := congrArg List.length h
    by_cases hr : r < 128
    · rw [e8_one h1.1 hr] at h2; simp [enc, runesBytes] at h2
    · rw [e8_two (by omega) h1.2] at h2; simp [enc, runesBytes] at h2
  | r :: x, q :: y, hx, hy, h => by
    have h1 := hx r (by simp)
    have h2 := hy q (by simp)
    rw [enc_cons, enc_cons] at h
    have fin : r = q ∧ enc x = enc y := by
      by_cases hr : r < 128
      · by_cases hq : q < 128
        · rw [e8_one h1.1 hr, e8_one h2.1 hq] at h
          simp only [List.cons_append, List.nil_append, List.cons.injEq] at h
          have := ofNat_inj (by omega) (by omega) h.1
          exact ⟨by omega, h.2⟩
        · rw [e8_one h1.1 hr, e8_two (by omega) h2.2] at h
          simp only [List.cons_append, List.nil_append, List.cons.injEq] at h
          have := ofNat_inj (by omega) (by omega) h.1
          omega
      · by_cases hq : q < 128
        · rw [e8_two (by omega) h1.2, e8_one h2.1 hq] at h
          simp only [List.cons_append, List.nil_append, List.cons.injEq] at h
          have := ofNat_inj (by omega) (by omega) h.1
          omega
        · rw [e8_two (by omega) h1.2, e8_two (by omega) h2.2] at h
          simp only [List.cons_append, List.nil_append, List.cons.injEq] at h
          have a1 := ofNat_inj (by omega) (by omega) h.1
          have a2 := ofNat_inj (by omega) (by omega) h.2.1
          exact ⟨by omega, h.2.2⟩
    rw [fin.1, enc_inj x y (fun s hs => hx s (by simp [hs])) (fun s hs => hy s (by simp [hs])) fin.2]
theorem get_lt (s : ByteArray) (p : Nat) (h : p < s.size) : s.get! p = s[p]'h := by
  simp [ByteArray.get!, getElem!_pos, h]
  rfl
/-- What is read of a small rune. -/
theorem decode_small (l : List UInt8) (p : Nat) (hp : p < l.length) (hs : (Utf8.decode (ba l) p).1 < 2048) :
    l.drop p = e8 ((Utf8.decode (ba l) p).1 : Int) ++ l.drop (p + (Utf8.decode (ba l) p).2) := by
  have h0 : (ba l).get! (p + 0) = l[p] := by rw [Nat.add_zero, get_lt _ p (by rw [ba_size]; exact hp)]; rfl
  have hb := (l[p]).toNat_lt
  have hd0 : l.drop p = l[p] :: l.drop (p + 1) := List.drop_eq_getElem_cons hp
  unfold Utf8.decode at hs ⊢
  simp only [h0] at hs ⊢
  by_cases a : (l[p]).toNat < 128
  · rw [if_pos a] at hs ⊢
    rw [e8_one (by omega) (by omega), hd0]
    simp
  · rw [if_neg a] at hs ⊢
    split at hs
    · rename_i hc
      rw [if_pos hc]
      simp only [Bool.and_eq_true, beq_iff_eq, decide_eq_true_eq] at hc
      obtain ⟨hc1, hc2, hc3⟩ := hc
      rw [ba_size] at hc2
      have h1 : (ba l).get! (p + 1) = l[p + 1] := by rw [get_lt _ (p + 1) (by rw [ba_size]; exact hc2)]; rfl
      rw [h1] at hs hc3 ⊢
      have hb1 := (l[p + 1]).toNat_lt
      split at hs
      · rename_i hge
        rw [if_pos hge]
        simp only
        rw [e8_two (by omega) (by omega), hd0, List.drop_eq_getElem_cons hc2]
        simp only [List.cons_append, List.nil_append, List.cons.injEq, Nat.add_assoc, Nat.reduceAdd, and_true]
        refine ⟨?_, ?_⟩
        · apply UInt8.toNat_inj.1; simp; omega
        · apply UInt8.toNat_inj.1; simp; omega
      · simp [Utf8.runeError] at hs
    · rename_i hc
      exfalso
      split at hs
      · split at hs
        · rename_i h3; simp only [Bool.and_eq_true, decide_eq_true_eq] at h3; omega
        · simp [Utf8.runeError] at hs
      · split at hs
        · split at hs
          · rename_i h3; simp only [Bool.and_eq_true, decide_eq_true_eq] at h3; omega
          · simp [Utf8.runeError] at hs
        · simp [Utf8.runeError] at hs
theorem rn_back (l : List UInt8) : ∀ (f p : Nat), l.length ≤ p + f → (∀ r ∈ rnAt (ba l) p, 0 ≤ r ∧ r < 2048) → l.drop p = enc (rnAt (ba l) p)
  | 0, p, hf, _ => by
    rw [rnAt_end _ _ (by rw [ba_size]; omega), List.drop_of_length_le (by omega)]
    simp [enc, runesBytes]
  | f + 1, p, hf, h => by
    by_cases hp : p < (ba l).size
    · have hw := Lib.decode_width_pos (ba l) p hp
      rw [rnAt_more _ _ hp] at h ⊢
      have hs := h _ (List.mem_cons_self ..)
      rw [enc_cons, ← rn_back l f (p + (Utf8.decode (ba l) p).2) (by omega) (fun r hr => h r (List.mem_cons_of_mem _ hr))]
      exact decode_small l p (by rw [ba_size] at hp; exact hp) (by omega)
    · rw [rnAt_end _ _ hp, List.drop_of_length_le (by rw [ba_size] at hp; omega)]
      simp [enc, runesBytes]
theorem rn_inj {a b : List UInt8} (ha : ck a = 0) (hb : ck b = 0) (h : rn a = rn b) : a = b := by
  have h1 := rn_back a a.length 0 (by omega) (ck_small ha)
  have h2 := rn_back b b.length 0 (by omega) (ck_small hb)
  have e : rnAt (ba a) 0 = rnAt (ba b) 0 := h
  rw [e, ← h2] at h1
  simpa using h1
theorem lks_small {l : List UInt8} (h : ck l = 0) : ∀ r ∈ lks l, 0 ≤ r ∧ r < 2048 := by
  intro r hr
  obtain ⟨q, hq, rfl⟩ := List.mem_map.1 hr
  exact lk_small (ck_small h q hq)
theorem skel_inj {a b : List UInt8} (ha : ck a = 0) (hb : ck b = 0) (h : skel a = skel b) : lks a = lks b := by
  rw [skel, if_pos ha, skel, if_pos hb] at h
  exact enc_inj _ _ (lks_small ha) (lks_small hb) h
end Go.Proofs.Ytdmlfggokbmapaa
