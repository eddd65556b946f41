/- Names plainly: the reference's Check and Script are the program's. No program in it. No condition. -/
import Derived.Test.YtdmlfggokbmapaaNmq
namespace Go.Proofs.Ytdmlfggokbmapaa
open Go.RowKit
set_option linter.unusedVariables false
set_option linter.unusedSimpArgs false

/-- The script of the first letter. -/
def fst0 : List Int → Nat
  | [] => 0
  | r :: x => if kd r ≠ 0 then kd r else fst0 x
/-- Do two runes mix? -/
def mx (a b : Int) : Bool := kd a != 0 && (kd b != 0 && kd a != kd b)
def mixIn (x : List Int) (a : Int) : Bool := x.any fun b => mx a b
/-- Is there one that mixes with one ahead of it? pre: what lies ahead. -/
def mixed (pre : List Int) : List Int → Bool
  | [] => false
  | r :: x => mixIn pre r || mixed (pre ++ [r]) x
theorem fs_no (f : Nat) : ∀ (x : List Int) (c : Nat) (e : Nat), (∀ r ∈ x, bad r ≠ true) → c ≠ 0 → fs x c e = (c, if x.any (fun r => kd r != 0 && kd r != c) = true then 50 else e)
  | [], c, e, _, _ => by simp [fs]
  | r :: x, c, e, h, hc => by
    have hr := h r (by simp)
    have hx : ∀ r ∈ x, bad r ≠ true := fun q hq => h q (by simp [hq])
    rw [fs, if_neg hr, if_neg hc]
    by_cases h1 : kd r ≠ 0 ∧ kd r ≠ c
    · rw [if_pos h1, fs_no f x c 50 hx hc]
      have : (List.any (r :: x) fun r => kd r != 0 && kd r != c) = true := by
        simp only [List.any_cons, Bool.or_eq_true, Bool.and_eq_true, bne_iff_ne]
        exact .inl h1
      rw [if_pos this]
      split <;> rfl
    · rw [if_neg h1, fs_no f x c e hx hc]
      have : (kd r != 0 && kd r != c) = false := by
        cases hh : (kd r != 0 && kd r != c)
        · rfl
        · simp only [Bool.and_eq_true, bne_iff_ne] at hh; exact absurd hh h1
      simp only [List.any_cons, this, Bool.false_or]
theorem fs_zero : ∀ (x : List Int), (∀ r ∈ x, bad r ≠ true) → fs x 0 0 = (fst0 x, if x.any (fun r => kd r != 0 && kd r != fst0 x) = true then 50 else 0)
  | [], _ => by simp [fs, fst0]
  | r :: x, h => by
    have hr := h r (by simp)
    have hx : ∀ r ∈ x, bad r ≠ true := fun q hq => h q (by simp [hq])
    rw [fs, if_neg hr, if_pos rfl]
    by_cases h1 : kd r = 0
    · have e : fst0 (r :: x) = fst0 x := by rw [fst0, if_neg (by simp [h1])]
      rw [e, h1, fs_zero x hx]
      have : (kd r != 0 && kd r != fst0 x) = false := by simp [h1]
      simp only [List.any_cons, this, Bool.false_or]
    · have e : fst0 (r :: x) = kd r := by rw [fst0, if_pos h1]
      rw [e, fs_no 0 x (kd r) 0 hx h1]
      have : (kd r != 0 && kd r != kd r) = false := by simp
      simp only [List.any_cons, this, Bool.false_or]
theorem fst0_app (a b : List Int) : fst0 (a ++ b) = if fst0 a ≠ 0 then fst0 a else fst0 b := by
  induction a with
  | nil => simp [fst0]
  | cons r a ih =>
    simp only [List.cons_append, fst0]
    by_cases h : kd r = 0
    · simp only [h, ne_eq, not_true_eq_false, if_false]; simpa using ih
    · simp [h]
theorem fst0_mem : ∀ (x : List Int), fst0 x ≠ 0 → ∃ r ∈ x, kd r = fst0 x
  | [], h => by simp [fst0] at h
  | r :: x, h => by
    rw [fst0] at h ⊢
    by_cases h1 : kd r ≠ 0
    · rw [if_pos h1]; exact ⟨r, by simp, rfl⟩
    · rw [if_neg h1] at h ⊢
      obtain ⟨q, hq, e⟩ := fst0_mem x h
      exact ⟨q, by simp [hq], e⟩
theorem fst0_zero : ∀ (x : List Int), fst0 x = 0 → ∀ r ∈ x, kd r = 0
  | [], _, r, h => by simp at h
  | q :: x, h0, r, h => by
    rw [fst0] at h0
    by_cases h1 : kd q ≠ 0
    · rw [if_pos h1] at h0; exact absurd h0 h1
    · rw [if_neg h1] at h0
      rcases List.mem_cons.1 h with rfl | h
      · simpa using h1
      · exact fst0_zero x h0 r h
/-- One that differs from the first letter's is one that mixes. -/
theorem mixed_is : ∀ (x pre : List Int), (∀ r ∈ pre, kd r = 0 ∨ kd r = fst0 pre) → mixed pre x = x.any (fun r => kd r != 0 && kd r != fst0 (pre ++ x))
  | [], pre, _ => rfl
  | r :: x, pre, hp => by
    rw [mixed, List.any_cons]
    by_cases hm : mixIn pre r = true
    · rw [hm, Bool.true_or]
      obtain ⟨q, hq, hmx⟩ := List.any_eq_true.1 hm
      simp only [mx, Bool.and_eq_true, bne_iff_ne] at hmx
      have hf : kd q = fst0 pre := (hp q hq).resolve_left hmx.2.1
      have hf0 : fst0 pre ≠ 0 := by rw [← hf]; exact hmx.2.1
      have e : fst0 (pre ++ r :: x) = fst0 pre := by rw [fst0_app, if_pos hf0]
      rw [e, ← hf]
      have : (kd r != 0 && kd r != kd q) = true := by simp only [Bool.and_eq_true, bne_iff_ne]; exact ⟨hmx.1, hmx.2.2⟩
      rw [this, Bool.true_or]
    · have hm0 : mixIn pre r = false := by simpa using hm
      rw [hm0, Bool.false_or]
      have hno : kd r = 0 ∨ fst0 pre = 0 ∨ kd r = fst0 pre := by
        by_cases h1 : kd r = 0
        · exact .inl h1
        · by_cases h2 : fst0 pre = 0
          · exact .inr (.inl h2)
          · refine .inr (.inr ?_)
            obtain ⟨q, hq, e⟩ := fst0_mem pre h2
            by_cases h3 : kd r = fst0 pre
            · exact h3
            · exfalso
              apply hm
              refine List.any_eq_true.2 ⟨q, hq, ?_⟩
              simp only [mx, Bool.and_eq_true, bne_iff_ne]
              rw [e]
              exact ⟨h1, h2, h3⟩
      have e1 : pre ++ r :: x = (pre ++ [r]) ++ x := by simp
      rw [e1, ← mixed_is x (pre ++ [r]) ?_]
      · have : (kd r != 0 && kd r != fst0 (pre ++ [r] ++ x)) = false := by
          rw [fst0_app, fst0_app]
          rcases hno with h | h | h
          · simp [h]
          · by_cases h1 : kd r = 0
            · simp [h1]
            · simp [h, fst0, h1]
          · by_cases h1 : kd r = 0
            · simp [h1]
            · have : fst0 pre ≠ 0 := by rw [← h]; exact h1
              simp [this, h]
        rw [this, Bool.false_or]
      · intro q hq
        rw [fst0_app]
        rcases List.mem_append.1 hq with hq | hq
        · rcases hp q hq with h | h
          · exact .inl h
          · by_cases h2 : fst0 pre = 0
            · exact .inl (by rw [h, h2])
            · exact .inr (by rw [if_pos h2, h])
        · obtain rfl : q = r := by simpa using hq
          rcases hno with h | h | h
          · exact .inl h
          · by_cases h1 : kd q = 0
            · exact .inl h1
            · exact .inr (by simp [h, fst0, h1])
          · by_cases h2 : fst0 pre = 0
            · exact .inl (by rw [h, h2])
            · exact .inr (by rw [if_pos h2, h])
/-- The document's Check on runes. -/
def edgeR (x : List Int) : Bool := x.isEmpty || (x.getD 0 0 == 45 || x.getD (x.length - 1) 0 == 45)
def ckR (x : List Int) : Nat := if 24 < x.length then 5 else if edgeR x = true then 7 else if x.any bad = true then 7 else if mixed [] x = true then 50 else 0
theorem dec_edge (l : List UInt8) (p : Nat) (hp : p < l.length) : p + (Utf8.decode (ba l) p).2 ≤ l.length ∧ (((Utf8.decode (ba l) p).1 : Int) = 45 ↔ l.getD p 0 = 45) ∧ (((Utf8.decode (ba l) p).1 : Int) = 45 ↔ l.getD (p + (Utf8.decode (ba l) p).2 - 1) 0 = 45) := by
  have hg : ∀ k, k < l.length → (ba l).get! k = l.getD k 0 := fun k hk => by
    rw [get_lt _ k (by rw [ba_size]; exact hk)]
    simp [List.getD_eq_getElem?_getD, List.getElem?_eq_getElem hk]
    rfl
  have h45 : ∀ u : UInt8, u = 45 ↔ u.toNat = 45 := fun u => by
    constructor
    · rintro rfl; rfl
    · intro h; apply UInt8.toNat_inj.1; simpa using h
  have h0 := hg p hp
  have hsz := ba_size l
  unfold Utf8.decode
  simp only [Nat.add_zero, h0]
  rw [h45 (l.getD p 0)]
  by_cases a : (l.getD p 0).toNat < 128
  · rw [if_pos a]
    simp only [Nat.add_sub_cancel]
    rw [h45 (l.getD p 0)]
    exact ⟨by omega, by omega, by omega⟩
  · rw [if_neg a]
    have one : p + 1 - 1 = p := by omega
    have bound : (l.getD p 0).toNat < 256 := (l.getD p 0).toNat_lt
    split
    · rename_i hc
      simp only [Bool.and_eq_true, beq_iff_eq, decide_eq_true_eq] at hc
      obtain ⟨c1, c2, c3⟩ := hc
      rw [hsz] at c2
      rw [hg _ c2] at c3 ⊢
      split
      · rename_i h1
        simp only
        rw [show p + 2 - 1 = p + 1 by omega, h45 (l.getD (p + 1) 0)]
        exact ⟨by omega, by omega, by omega⟩
      · simp only [Utf8.runeError]
        rw [one, h45 (l.getD p 0)]
        exact ⟨by omega, by omega, by omega⟩
    · split
      · rename_i hc
        simp only [Bool.and_eq_true, beq_iff_eq, decide_eq_true_eq] at hc
        obtain ⟨⟨c1, c2, c3⟩, c4, c5⟩ := hc
        rw [hsz] at c2 c4
        rw [hg _ c4] at c5 ⊢
        rw [hg _ c2] at c3 ⊢
        split
        · rename_i h1
          simp only [Bool.and_eq_true, decide_eq_true_eq] at h1
          simp only
          rw [show p + 3 - 1 = p + 2 by omega, h45 (l.getD (p + 2) 0)]
          exact ⟨by omega, by omega, by omega⟩
        · simp only [Utf8.runeError]
          rw [one, h45 (l.getD p 0)]
          exact ⟨by omega, by omega, by omega⟩
      · split
        · rename_i hc
          simp only [Bool.and_eq_true, beq_iff_eq, decide_eq_true_eq] at hc
          obtain ⟨⟨⟨c1, c2, c3⟩, c4, c5⟩, c6, c7⟩ := hc
          rw [hsz] at c2 c4 c6
          rw [hg _ c6] at c7 ⊢
          rw [hg _ c4] at c5 ⊢
          rw [hg _ c2] at c3 ⊢
          split
          · rename_i h1
            simp only [Bool.and_eq_true, decide_eq_true_eq] at h1
            simp only
            rw [show p + 4 - 1 = p + 3 by omega, h45 (l.getD (p + 3) 0)]
            exact ⟨by omega, by omega, by omega⟩
          · simp only [Utf8.runeError]
            rw [one, h45 (l.getD p 0)]
            exact ⟨by omega, by omega, by omega⟩
        · simp only [Utf8.runeError]
          rw [one, h45 (l.getD p 0)]
          exact ⟨by omega, by omega, by omega⟩
theorem last_is (l : List UInt8) : ∀ (f p : Nat), l.length ≤ p + f → p < l.length → ((rnAt (ba l) p).getD ((rnAt (ba l) p).length - 1) 0 = 45 ↔ l.getD (l.length - 1) 0 = 45)
  | 0, p, hf, hp => by omega
  | f + 1, p, hf, hp => by
    have hw := Lib.decode_width_pos (ba l) p (by rw [ba_size]; exact hp)
    obtain ⟨d1, d2, d3⟩ := dec_edge l p hp
    rw [rnAt_more _ _ (by rw [ba_size]; exact hp)]
    by_cases hq : p + (Utf8.decode (ba l) p).2 < l.length
    · have ih := last_is l f (p + (Utf8.decode (ba l) p).2) (by omega) hq
      rw [← ih]
      have hne : (rnAt (ba l) (p + (Utf8.decode (ba l) p).2)).length ≠ 0 := by
        rw [rnAt_more _ _ (by rw [ba_size]; exact hq)]; simp
      generalize rnAt (ba l) (p + (Utf8.decode (ba l) p).2) = y at hne
      obtain ⟨n, hn⟩ : ∃ n, y.length = n + 1 := ⟨y.length - 1, by omega⟩
      simp [hn]
    · rw [rnAt_end _ _ (by rw [ba_size]; exact hq)]
      have : p + (Utf8.decode (ba l) p).2 = l.length := by omega
      rw [this] at d3
      simpa using d3
theorem edge_is (l : List UInt8) : edge l = edgeR (rn l) := by
  cases l with
  | nil => rfl
  | cons u r =>
    have hp : 0 < (u :: r).length := by simp
    have h1 := last_is (u :: r) (u :: r).length 0 (by omega) hp
    have h2 := (dec_edge (u :: r) 0 hp).2.1
    have hm := rnAt_more (ba (u :: r)) 0 (by rw [ba_size]; exact hp)
    rw [Bool.eq_iff_iff]
    unfold edge edgeR rn
    have e0 : (rnAt (ba (u :: r)) 0).getD 0 0 = ((Utf8.decode (ba (u :: r)) 0).1 : Int) := by rw [hm]; simp
    have e1 : (rnAt (ba (u :: r)) 0).isEmpty = false := by rw [hm]; rfl
    rw [e0, e1]
    simp only [List.isEmpty_cons, Bool.false_or, Bool.or_eq_true, beq_iff_eq]
    rw [h1, h2]
theorem ck_is (l : List UInt8) : ck l = ckR (rn l) := by
  unfold ck firstP ckR
  rw [← edge_is]
  split
  · rfl
  · split
    · rfl
    · by_cases hb : ∃ r ∈ rn l, bad r = true
      · rw [fs_bad (rn l) 0 0 hb]
        have : (rn l).any bad = true := List.any_eq_true.2 hb
        rw [if_pos this]
        rfl
      · have hno : ∀ r ∈ rn l, bad r ≠ true := fun r hr h => hb ⟨r, hr, h⟩
        have : ¬ (rn l).any bad = true := fun h => hb (List.any_eq_true.1 h)
        rw [if_neg this, fs_zero (rn l) hno, mixed_is (rn l) [] (fun r hr => by simp at hr)]
        simp only [List.nil_append]
        split <;> rfl
theorem sp_is (l : List UInt8) : (firstP l).1 = if ck l = 0 then fst0 (rn l) else 0 := by
  unfold ck firstP
  split
  · simp
  · split
    · simp
    · by_cases hb : ∃ r ∈ rn l, bad r = true
      · rw [fs_bad (rn l) 0 0 hb]
        simp
      · have hno : ∀ r ∈ rn l, bad r ≠ true := fun r hr h => hb ⟨r, hr, h⟩
        rw [fs_zero (rn l) hno]
        split <;> simp_all
end Go.Proofs.Ytdmlfggokbmapaa
