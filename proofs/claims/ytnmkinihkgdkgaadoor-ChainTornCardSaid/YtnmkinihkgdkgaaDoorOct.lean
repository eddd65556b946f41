/- The plain law of layer 1: the bytes of numbers and texts, and what bytes begin with. Plain Lean, no program. No condition. -/
namespace Go.Proofs.YtnmkinihkgdkgaaDoor

/-- The digits of a number to the base 256, the highest first. -/
def dig (v : Nat) : List UInt8 := if v = 0 then [] else dig (v / 256) ++ [UInt8.ofNat (v % 256)]
termination_by v
decreasing_by omega

/-- A number of digits. -/
def val (l : List UInt8) : Nat := l.foldl (fun a b => a * 256 + b.toNat) 0

theorem val_snoc (l : List UInt8) (b : UInt8) : val (l ++ [b]) = val l * 256 + b.toNat := by simp [val]
theorem val_nil : val [] = 0 := rfl
theorem dig_zero : dig 0 = [] := by unfold dig; simp
theorem dig_pos {v : Nat} (h : v ≠ 0) : dig v = dig (v / 256) ++ [UInt8.ofNat (v % 256)] := by
  rw [dig]; simp [h]
theorem u8_ofNat (n : Nat) (h : n < 256) : (UInt8.ofNat n).toNat = n := by simp [UInt8.toNat_ofNat']; omega

theorem snoc_cases {α : Type} (l : List α) : l = [] ∨ ∃ a b, l = a ++ [b] := by
  by_cases h : l = []
  · exact .inl h
  · exact .inr ⟨l.dropLast, l.getLast h, (List.dropLast_concat_getLast h).symm⟩

theorem val_dig (v : Nat) : val (dig v) = v := by
  induction v using Nat.strongRecOn with
  | ind v ih =>
    by_cases h : v = 0
    · subst h; rw [dig_zero]; rfl
    · rw [dig_pos h, val_snoc, ih (v / 256) (by omega), u8_ofNat _ (by omega)]; omega

theorem dig_len_le (k : Nat) : ∀ v, v < 256 ^ k → (dig v).length ≤ k := by
  induction k with
  | zero =>
    intro v h
    have : v = 0 := by simpa using h
    subst this; simp [dig_zero]
  | succ k ih =>
    intro v h
    by_cases h0 : v = 0
    · subst h0; simp [dig_zero]
    · rw [dig_pos h0]; simp
      exact ih _ (by rw [Nat.pow_succ] at h; omega)

theorem dig_len_pos {v : Nat} (h : v ≠ 0) : 0 < (dig v).length := by rw [dig_pos h]; simp
theorem dig_len8 {v : Nat} (h : v < 18446744073709551616) : (dig v).length ≤ 8 := dig_len_le 8 v (by simpa using h)

theorem val_lt (l : List UInt8) : val l < 256 ^ l.length := by
  have h : ∀ n, ∀ l : List UInt8, l.length = n → val l < 256 ^ l.length := by
    intro n
    induction n with
    | zero => intro l h; rw [List.eq_nil_of_length_eq_zero h]; simp [val]
    | succ n ih =>
      intro l h
      have hne : l ≠ [] := by rintro rfl; simp at h
      obtain ⟨a, b, rfl⟩ : ∃ a b, l = a ++ [b] := ⟨l.dropLast, l.getLast hne, (List.dropLast_concat_getLast hne).symm⟩
      have := ih a (by simpa using h)
      have := b.toNat_lt
      rw [val_snoc]
      simp only [List.length_append, List.length_cons, List.length_nil, Nat.zero_add, Nat.pow_succ]
      omega
  exact h _ l rfl

/-- The first digit of a number is not 0. -/
theorem dig_head (v : Nat) : ∀ a t, dig v = a :: t → a ≠ 0 := by
  induction v using Nat.strongRecOn with
  | ind v ih =>
    intro a t h
    by_cases h0 : v = 0
    · subst h0; rw [dig_zero] at h; cases h
    · rw [dig_pos h0] at h
      by_cases h1 : v / 256 = 0
      · rw [h1, dig_zero] at h
        simp only [List.nil_append, List.cons.injEq] at h
        intro e
        have e2 := congrArg UInt8.toNat (h.1.trans e)
        rw [u8_ofNat _ (by omega)] at e2
        simp at e2
        omega
      · obtain ⟨a', t', h'⟩ : ∃ a' t', dig (v / 256) = a' :: t' := by
          cases hd : dig (v / 256) with
          | nil => have := dig_len_pos h1; rw [hd] at this; simp at this
          | cons x y => exact ⟨x, y, rfl⟩
        have := ih (v / 256) (by omega) a' t' h'
        rw [h'] at h
        simp only [List.cons_append, List.cons.injEq] at h
        rw [← h.1]; exact this

theorem dig_val_aux (n : Nat) : ∀ l : List UInt8, l.length = n → (∀ a t, l = a :: t → a ≠ 0) → dig (val l) = l ∧ (l ≠ [] → val l ≠ 0) := by
  induction n with
  | zero => intro l h _; rw [List.eq_nil_of_length_eq_zero h]; exact ⟨by rw [val_nil, dig_zero], fun h => absurd rfl h⟩
  | succ n ih =>
    intro l h hh
    have hne : l ≠ [] := by rintro rfl; simp at h
    obtain ⟨a, b, rfl⟩ : ∃ a b, l = a ++ [b] := ⟨l.dropLast, l.getLast hne, (List.dropLast_concat_getLast hne).symm⟩
    have hb := b.toNat_lt
    have hx : ∀ x t, a = x :: t → x ≠ 0 := fun x t e => hh x (t ++ [b]) (by rw [e]; rfl)
    obtain ⟨h1, h2⟩ := ih a (by simpa using h) hx
    have hv : val (a ++ [b]) ≠ 0 := by
      rw [val_snoc]
      by_cases ha : a = []
      · subst ha
        have hb0 := hh b [] rfl
        intro e
        rw [val_nil] at e
        exact hb0 (UInt8.toNat_inj.1 (by simp; omega))
      · have := h2 ha
        omega
    refine ⟨?_, fun _ => hv⟩
    rw [dig_pos hv, val_snoc]
    have e1 : (val a * 256 + b.toNat) / 256 = val a := by omega
    have e2 : (val a * 256 + b.toNat) % 256 = b.toNat := by omega
    rw [e1, e2, h1]
    congr 2
    exact UInt8.toNat_inj.1 (u8_ofNat _ (by omega))
theorem dig_val {a : UInt8} {t : List UInt8} (h : a ≠ 0) : dig (val (a :: t)) = a :: t :=
  (dig_val_aux _ (a :: t) rfl (by intro x y e; cases e; exact h)).1

/-- The bytes of a number. -/
def num (v : Nat) : List UInt8 := if v < 248 then [UInt8.ofNat v] else UInt8.ofNat (247 + (dig v).length) :: dig v

theorem num_len {v : Nat} (h : v < 18446744073709551616) : (num v).length ≤ 9 := by
  unfold num
  split
  · simp
  · have := dig_len8 h
    simp; omega
theorem num_pos (v : Nat) : 1 ≤ (num v).length := by unfold num; split <;> simp

/-- The number that bytes begin with: the number, how many bytes, the error. -/
def readNum : List UInt8 → Nat × Nat × Nat
  | [] => (0, 0, 6)
  | b :: r =>
    if b.toNat ≤ 247 then (b.toNat, 1, 0)
    else if r.length < b.toNat - 247 then (0, 0, 6)
    else if r.head? = some 0 ∨ val (r.take (b.toNat - 247)) ≤ 247 then (0, 0, 7)
    else (val (r.take (b.toNat - 247)), b.toNat - 246, 0)

theorem readNum_few {b : UInt8} {r : List UInt8} (h : 248 ≤ b.toNat) (h2 : r.length + 247 < b.toNat) : readNum (b :: r) = (0, 0, 6) := by
  simp only [readNum]; rw [if_neg (by omega), if_pos (by omega)]
theorem readNum_zero {b : UInt8} {r : List UInt8} (h : 248 ≤ b.toNat) (h2 : b.toNat ≤ r.length + 247 + 1) : readNum (b :: 0 :: r) = (0, 0, 7) := by
  simp only [readNum]; rw [if_neg (by omega), if_neg (by simp; omega), if_pos (by simp)]
theorem readNum_low {b c : UInt8} {r : List UInt8} (i : Nat) (h : 248 ≤ b.toNat) (h2 : b.toNat ≤ r.length + 247 + 1) (hi : i + 247 = b.toNat) (hv : val ((c :: r).take i) ≤ 247) : readNum (b :: c :: r) = (0, 0, 7) := by
  have e : b.toNat - 247 = i := by omega
  simp only [readNum]; rw [e, if_neg (by omega), if_neg (by simp; omega), if_pos (Or.inr hv)]
theorem readNum_good {b c : UInt8} {r : List UInt8} (i : Nat) (h : 248 ≤ b.toNat) (h2 : b.toNat ≤ r.length + 247 + 1) (hi : i + 247 = b.toNat) (hc : c ≠ 0) (hv : 247 < val ((c :: r).take i)) : readNum (b :: c :: r) = (val ((c :: r).take i), i + 1, 0) := by
  have e : b.toNat - 247 = i := by omega
  have e2 : b.toNat - 246 = i + 1 := by clear e hv hc h h2; omega
  simp only [readNum]; rw [e, e2, if_neg (by omega), if_neg (by simp; omega), if_neg (by simp [hc]; omega)]
theorem val_take_succ (r : List UInt8) (k : Nat) (h : k < r.length) : val (r.take (k + 1)) = val (r.take k) * 256 + (r[k]).toNat := by
  rw [List.take_succ_eq_append_getElem h, val_snoc]

/-- What the reference asks: are the bytes those of the number? -/
theorem num_is {b c : UInt8} {r : List UInt8} {i : Nat} (hi : i + 247 = b.toNat) (h1 : 1 ≤ i) (h2 : i ≤ r.length + 1) :
    num (val ((c :: r).take i)) = (b :: c :: r).take (i + 1) ↔ c ≠ 0 ∧ 247 < val ((c :: r).take i) := by
  obtain ⟨j, rfl⟩ : ∃ j, i = j + 1 := ⟨i - 1, by omega⟩
  have ht : (b :: c :: r).take (j + 1 + 1) = b :: c :: r.take j := rfl
  have ht2 : (c :: r).take (j + 1) = c :: r.take j := rfl
  have hlen : (c :: r.take j).length = j + 1 := by simp; omega
  rw [ht, ht2]
  constructor
  · intro e
    by_cases hv : val (c :: r.take j) < 248
    · rw [num, if_pos hv] at e
      have := congrArg List.length e
      simp at this
    · rw [num, if_neg hv] at e
      simp only [List.cons.injEq] at e
      exact ⟨dig_head _ _ _ e.2, by omega⟩
  · rintro ⟨hc, hv⟩
    rw [num, if_neg (by omega), dig_val hc, hlen]
    congr 1
    apply UInt8.toNat_inj.1
    have := b.toNat_lt
    rw [u8_ofNat _ (by omega)]
    omega

/-- What was put is read. -/
theorem readNum_num (v : Nat) (h : v < 18446744073709551616) (s : List UInt8) : readNum (num v ++ s) = (v, (num v).length, 0) := by
  unfold num
  by_cases hv : v < 248
  · rw [if_pos hv]
    simp only [List.cons_append, List.nil_append, readNum, List.length_cons, List.length_nil]
    rw [u8_ofNat _ (by omega), if_pos (by omega)]
  · rw [if_neg hv]
    have hl := dig_len8 h
    have hp := dig_len_pos (v := v) (by omega)
    cases hd : dig v with
    | nil => rw [hd] at hp; simp at hp
    | cons a t =>
      have hb : (UInt8.ofNat (247 + (a :: t).length)).toNat = 247 + (a :: t).length := u8_ofNat _ (by rw [← hd]; omega)
      have htk : (a :: (t ++ s)).take (t.length + 1) = dig v := by rw [hd]; simp
      have hvd : val ((a :: (t ++ s)).take (t.length + 1)) = v := by rw [htk, val_dig]
      have hn := dig_head v a t hd
      simp only [List.cons_append]
      rw [readNum_good (t.length + 1) (by rw [hb]; simp only [List.length_cons]; omega) (by rw [hb]; simp; omega) (by rw [hb]; simp; omega) hn (by rw [hvd]; omega), hvd]
      rfl

/-- What is read is what would be put. -/
theorem num_readNum (l : List UInt8) (h : (readNum l).2.2 = 0) : num (readNum l).1 = l.take (readNum l).2.1 ∧ 1 ≤ (readNum l).2.1 ∧ (readNum l).2.1 ≤ l.length ∧ (readNum l).1 < 18446744073709551616 := by
  cases l with
  | nil => simp [readNum] at h
  | cons b r =>
    have hb := b.toNat_lt
    by_cases h1 : b.toNat ≤ 247
    · have e : readNum (b :: r) = (b.toNat, 1, 0) := by simp only [readNum]; rw [if_pos h1]
      rw [e]
      refine ⟨?_, by simp, by simp, by simp; omega⟩
      simp only [num]
      rw [if_pos (by omega)]
      simp
    · by_cases h2 : r.length + 247 < b.toNat
      · rw [readNum_few (by omega) h2] at h; simp at h
      · cases r with
        | nil => simp at h2; omega
        | cons c r =>
          simp only [List.length_cons] at h2
          obtain ⟨i, hi⟩ : ∃ i, i + 247 = b.toNat := ⟨b.toNat - 247, by omega⟩
          by_cases hc : c = 0
          · subst hc; rw [readNum_zero (by omega) (by omega)] at h; simp at h
          · by_cases hv : val ((c :: r).take i) ≤ 247
            · rw [readNum_low i (by omega) (by omega) hi hv] at h; simp at h
            · rw [readNum_good i (by omega) (by omega) hi hc (by omega)]
              refine ⟨(num_is hi (by omega) (by omega)).2 ⟨hc, by omega⟩, by simp, by simp; omega, ?_⟩
              have h3 := val_lt ((c :: r).take i)
              have h4 : 256 ^ ((c :: r).take i).length ≤ 256 ^ 8 := Nat.pow_le_pow_right (by omega) (by rw [List.length_take]; omega)
              simp only
              have : (256 : Nat) ^ 8 = 18446744073709551616 := by decide
              omega

/-- The bytes of a text. -/
def text (l : List UInt8) : List UInt8 := num l.length ++ l

/-- The text that bytes begin with, of at most so many bytes: the text, how many bytes, the error. -/
def readText (l : List UInt8) (most : Int) : List UInt8 × Nat × Nat :=
  if (readNum l).2.2 ≠ 0 then ([], 0, (readNum l).2.2)
  else if max most 0 < ((readNum l).1 : Int) then ([], 0, 5)
  else if l.length < (readNum l).2.1 + (readNum l).1 then ([], 0, 6)
  else ((l.drop (readNum l).2.1).take (readNum l).1, (readNum l).2.1 + (readNum l).1, 0)

theorem readText_text (t s : List UInt8) (ht : t.length < 18446744073709551616) (most : Int) (hm : (t.length : Int) ≤ most) : readText (text t ++ s) most = (t, (text t).length, 0) := by
  have e := readNum_num t.length ht (t ++ s)
  unfold readText text
  rw [List.append_assoc, e]
  simp only
  rw [if_neg (by simp), if_neg (by omega), if_neg (by simp)]
  simp

theorem text_readText (l : List UInt8) (most : Int) (h : (readText l most).2.2 = 0) :
    text (readText l most).1 = l.take (readText l most).2.1 ∧ 1 ≤ (readText l most).2.1 ∧ (readText l most).2.1 ≤ l.length ∧ ((readText l most).1.length : Int) ≤ max most 0 := by
  unfold readText at h ⊢
  by_cases h1 : (readNum l).2.2 = 0
  · rw [if_neg (by simp [h1])] at h ⊢
    obtain ⟨a, b, c, _⟩ := num_readNum l h1
    by_cases h2 : max most 0 < ((readNum l).1 : Int)
    · rw [if_pos h2] at h; simp at h
    · rw [if_neg h2] at h ⊢
      by_cases h3 : l.length < (readNum l).2.1 + (readNum l).1
      · rw [if_pos h3] at h; simp at h
      · rw [if_neg h3]
        have hl : ((l.drop (readNum l).2.1).take (readNum l).1).length = (readNum l).1 := by simp; omega
        refine ⟨?_, by simp; omega, by simp; omega, by simp only; rw [hl]; omega⟩
        simp only [text]
        rw [hl, a, List.take_add]
  · rw [if_pos h1] at h; simp at h; exact absurd h h1

/-- Is the first the second's beginning? -/
theorem num_begins (v w : Nat) (hv : v < 18446744073709551616) (hw : w < 18446744073709551616) (s : List UInt8) (h : num v = num w ++ s) : v = w := by
  have e1 := readNum_num v hv []
  have e2 := readNum_num w hw s
  rw [List.append_nil, h, e2] at e1
  simp only [Prod.mk.injEq] at e1
  exact e1.1.symm
theorem num_inj (v w : Nat) (hv : v < 18446744073709551616) (hw : w < 18446744073709551616) (h : num v = num w) : v = w := num_begins v w hv hw [] (by simpa using h)
theorem text_begins (a b : List UInt8) (ha : a.length < 18446744073709551616) (hb : b.length < 18446744073709551616) (s t : List UInt8) (h : text a ++ s = text b ++ t) : a = b ∧ s = t := by
  have e1 := readText_text a s ha (max (a.length : Int) b.length) (by omega)
  have e2 := readText_text b t hb (max (a.length : Int) b.length) (by omega)
  rw [h, e2] at e1
  simp only [Prod.mk.injEq] at e1
  obtain ⟨rfl, _, _⟩ := e1
  exact ⟨rfl, List.append_cancel_left h⟩
end Go.Proofs.YtnmkinihkgdkgaaDoor
