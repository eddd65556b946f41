/- The plain laws of name's Order. Condition: sizes that a machine has. -/
import Derived.Test.YtdmlfggokbmapaaNmr
namespace Go.Proofs.Ytdmlfggokbmapaa
open Go.RowKit
set_option linter.unusedVariables false
set_option linter.unusedSimpArgs false

/-! ### plain laws -/
theorem order_is {a b : List UInt8} (ha : ck a = 0) (hb : ck b = 0) : order a b = orP (cmpL (lks a) (lks b)) (cmpL (rn a) (rn b)) := by rw [order, if_neg (by simp [ha, hb])]
theorem orP_cases (p q : Int) : (p ≠ 0 ∧ orP p q = p) ∨ (p = 0 ∧ orP p q = q) := by
  unfold orP
  by_cases h : p = 0
  · refine .inr ⟨h, ?_⟩
    rw [if_neg (by simp [h])]
    by_cases h2 : q = 0
    · rw [if_neg (by simp [h2]), h2]
    · rw [if_pos h2]
  · exact .inl ⟨h, if_pos h⟩
theorem order_range {a b : List UInt8} (ha : ck a = 0) (hb : ck b = 0) : order a b = -1 ∨ order a b = 0 ∨ order a b = 1 := by
  rw [order_is ha hb]
  rcases orP_cases (cmpL (lks a) (lks b)) (cmpL (rn a) (rn b)) with ⟨_, e⟩ | ⟨_, e⟩
  · rw [e]; exact cmpL_range _ _
  · rw [e]; exact cmpL_range _ _
theorem order_neg {a b : List UInt8} (ha : ck a = 0) (hb : ck b = 0) : order b a = -order a b := by
  rw [order_is ha hb, order_is hb ha, cmpL_neg (lks a) (lks b), cmpL_neg (rn a) (rn b)]
  rcases orP_cases (cmpL (lks a) (lks b)) (cmpL (rn a) (rn b)) with ⟨h, e⟩ | ⟨h, e⟩
  · rw [e]
    rcases orP_cases (-cmpL (lks a) (lks b)) (-cmpL (rn a) (rn b)) with ⟨_, e2⟩ | ⟨h2, _⟩
    · exact e2
    · omega
  · rw [e]
    rcases orP_cases (-cmpL (lks a) (lks b)) (-cmpL (rn a) (rn b)) with ⟨h2, _⟩ | ⟨_, e2⟩
    · omega
    · exact e2
theorem order_zero {a b : List UInt8} (ha : ck a = 0) (hb : ck b = 0) : order a b = 0 ↔ a = b := by
  rw [order_is ha hb]
  constructor
  · intro h
    rcases orP_cases (cmpL (lks a) (lks b)) (cmpL (rn a) (rn b)) with ⟨h1, e⟩ | ⟨h1, e⟩
    · omega
    · rw [e] at h
      exact rn_inj ha hb (cmpL_zero _ _ h)
  · rintro rfl
    rw [cmpL_self, cmpL_self]; rfl
theorem order_trans {a b c : List UInt8} (ha : ck a = 0) (hb : ck b = 0) (hc : ck c = 0) (h1 : order a b ≤ 0) (h2 : order b c ≤ 0) : order a c ≤ 0 ∧ (order a b < 0 ∨ order b c < 0 → order a c < 0) := by
  rw [order_is ha hb] at h1 ⊢
  rw [order_is hb hc] at h2 ⊢
  rw [order_is ha hc]
  have z1 := cmpL_zero (lks a) (lks b)
  have z2 := cmpL_zero (lks b) (lks c)
  have tl := cmpL_trans (lks a) (lks b) (lks c)
  have tr := cmpL_trans (rn a) (rn b) (rn c)
  have zz : cmpL (lks a) (lks b) = 0 → cmpL (lks b) (lks c) = 0 → cmpL (lks a) (lks c) = 0 := fun h h' => by rw [z1 h, z2 h', cmpL_self]
  rcases orP_cases (cmpL (lks a) (lks b)) (cmpL (rn a) (rn b)) with ⟨p1, e1⟩ | ⟨p1, e1⟩ <;>
  rcases orP_cases (cmpL (lks b) (lks c)) (cmpL (rn b) (rn c)) with ⟨p2, e2⟩ | ⟨p2, e2⟩ <;>
  rcases orP_cases (cmpL (lks a) (lks c)) (cmpL (rn a) (rn c)) with ⟨p3, e3⟩ | ⟨p3, e3⟩ <;>
  rw [e1] at h1 ⊢ <;> rw [e2] at h2 ⊢ <;> rw [e3]
  · exact tl h1 h2
  · have := (tl h1 h2).2; omega
  · have := (tl h1 (by omega)).2; omega
  · have := (tl h1 (by omega)).2; omega
  · have := (tl (by omega) h2).2; omega
  · have := (tl (by omega) h2).2; omega
  · exact absurd (zz p1 p2) p3
  · exact tr h1 h2
theorem order_mid {a b c : List UInt8} (ha : ck a = 0) (hb : ck b = 0) (hc : ck c = 0) (h1 : order a b < 0) (h2 : order b c < 0) (h : clash a c = true) : clash a b = true ∧ clash b c = true := by
  have hs : skel a = skel c := by
    simp only [clash, Bool.and_eq_true, beq_iff_eq] at h
    exact h.2.2.2
  have hl := skel_inj ha hc hs
  have n1 : a ≠ b := fun e => by have := (order_zero ha hb).2 e; omega
  have n2 : b ≠ c := fun e => by have := (order_zero hb hc).2 e; omega
  have tl := cmpL_trans (lks a) (lks b) (lks c)
  have hz : cmpL (lks a) (lks c) = 0 := by rw [hl, cmpL_self]
  rw [order_is ha hb] at h1
  rw [order_is hb hc] at h2
  have p1 : cmpL (lks a) (lks b) ≤ 0 := by
    rcases orP_cases (cmpL (lks a) (lks b)) (cmpL (rn a) (rn b)) with ⟨_, e⟩ | ⟨p, _⟩ <;> omega
  have p2 : cmpL (lks b) (lks c) ≤ 0 := by
    rcases orP_cases (cmpL (lks b) (lks c)) (cmpL (rn b) (rn c)) with ⟨_, e⟩ | ⟨p, _⟩ <;> omega
  have t := (tl p1 p2).2
  have z1 : lks a = lks b := cmpL_zero _ _ (by omega)
  have z2 : lks b = lks c := cmpL_zero _ _ (by omega)
  have sk : ∀ {x y : List UInt8}, ck x = 0 → ck y = 0 → lks x = lks y → skel x = skel y := fun hx hy e => by rw [skel, if_pos hx, skel, if_pos hy, e]
  simp only [clash, Bool.and_eq_true, beq_iff_eq, bne_iff_ne]
  exact ⟨⟨ha, hb, n1, sk ha hb z1⟩, ⟨hb, hc, n2, sk hb hc z2⟩⟩
end Go.Proofs.Ytdmlfggokbmapaa
