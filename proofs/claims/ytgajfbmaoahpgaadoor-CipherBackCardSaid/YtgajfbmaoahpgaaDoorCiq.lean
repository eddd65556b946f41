/- The plain laws of layer 4. No condition. -/
import Derived.Test.YtgajfbmaoahpgaaDoorCiy
namespace Go.Proofs.YtgajfbmaoahpgaaDoor
set_option linter.unusedVariables false

theorem bx_can (x y : UInt8) : bx (bx x y) y = x := by
  unfold bx; rw [UInt8.xor_assoc, UInt8.xor_self, UInt8.xor_zero]
theorem bx_two (x y s : UInt8) : bx (bx x s) (bx y s) = bx x y := by
  unfold bx; rw [UInt8.xor_assoc, UInt8.xor_comm y s, ← UInt8.xor_assoc s s y, UInt8.xor_self, UInt8.zero_xor]
theorem list_byt (l : List UInt8) : l = (List.range l.length).map (byt l) := by
  apply List.ext_getElem
  · simp
  · intro i h1 h2
    rw [List.getElem_map, List.getElem_range, byt_getElem l i h1]
theorem map_byt {n : Nat} {f g : Nat → UInt8} (h : ∀ j, j < n → f j = g j) : (List.range n).map f = (List.range n).map g :=
  List.map_congr_left fun j hj => h j (List.mem_range.1 hj)
theorem xst_twice (k n s : List UInt8) (m : Nat) (h : m = s.length) : xst k n (xst k n s m) m = s := by
  subst h
  conv => rhs; rw [list_byt s]
  unfold xst
  refine map_byt fun j hj => ?_
  have := xst_at k n s s.length j hj
  unfold xst at this
  rw [this, bx_can]
theorem byt_take (l : List UInt8) (n j : Nat) (h : j < n) : byt (l.take n) j = byt l j := by
  have e1 : byt (l.take n) j = (l.take n).getD j 0 := rfl
  have e2 : byt l j = l.getD j 0 := rfl
  rw [e1, e2, List.getD_eq_getElem?_getD, List.getD_eq_getElem?_getD, List.getElem?_take_of_lt h]

/-! ### What was sealed is opened -/
theorem sealed_take (key n s : List UInt8) : (sealed key n s).take ((sealed key n s).length - 32) = sealX key n s := by
  rw [sealed_len, ← sealX_len key n s, Nat.add_sub_cancel]
  unfold sealed
  exact List.take_left
theorem sealed_drop (key n s : List UInt8) : (sealed key n s).drop ((sealed key n s).length - 32) = hm (hm key tagT) (sealX key n s) := by
  rw [sealed_len, ← sealX_len key n s, Nat.add_sub_cancel]
  unfold sealed
  exact List.drop_left
theorem sealed_ok (key n s : List UInt8) : tagOk key (sealed key n s) = true := by
  unfold tagOk
  rw [sealed_take, sealed_drop]; simp
theorem sealed_nonce (key n s : List UInt8) (h : n.length = 12) : (sealed key n s).take 12 = n := by
  unfold sealed sealX
  rw [List.append_assoc, ← h]
  exact List.take_left
theorem sealed_cut (key n s : List UInt8) (h : n.length = 12) : cut (sealed key n s) = xst (hm key streamT) n s s.length := by
  unfold cut
  rw [sealed_take]
  unfold sealX
  rw [← h]
  exact List.drop_left
theorem sealed_open (key n s : List UInt8) (h : n.length = 12) : openT key (sealed key n s) = s := by
  unfold openT
  rw [sealed_nonce key n s h, sealed_cut key n s h, xst_len, xst_twice _ _ _ _ rfl]
/-! ### What is opened is what would be sealed -/
theorem open_sealed (key x : List UInt8) (h44 : 44 ≤ x.length) (ht : tagOk key x = true) : sealed key (x.take 12) (openT key x) = x := by
  have hx : sealX key (x.take 12) (openT key x) = x.take (x.length - 32) := by
    have hl : (openT key x).length = (cut x).length := xst_len _ _ _ _
    unfold sealX
    rw [hl]
    unfold openT
    rw [xst_twice _ _ _ _ rfl]
    unfold cut
    have : x.take 12 = (x.take (x.length - 32)).take 12 := by rw [List.take_take]; congr 1; omega
    rw [this, List.take_append_drop]
  unfold sealed
  rw [hx]
  have := eq_of_beq ht
  rw [this, List.take_append_drop]
/-! ### A tag that is changed -/
theorem xorT_map (a b : List UInt8) (h : a.length = b.length) : xorT a b = (List.range a.length).map fun j => bx (byt a j) (byt b j) := by
  unfold xorT
  rw [show min a.length b.length = a.length by omega, gp_all _ _ _ (Nat.le_refl _)]
theorem xorT_len (a b : List UInt8) (h : a.length = b.length) : (xorT a b).length = a.length := by rw [xorT_map a b h]; simp
def spoil (key n s ch : List UInt8) : List UInt8 := sealX key n s ++ xorT (hm (hm key tagT) (sealX key n s)) ch
theorem spoil_len (key n s ch : List UInt8) (h : ch.length = 32) : (spoil key n s ch).length = n.length + s.length + 32 := by
  unfold spoil
  rw [List.length_append, sealX_len, xorT_len _ _ (by rw [hm_len, h]), hm_len]
theorem spoil_tag (key n s ch : List UInt8) (h : ch.length = 32) : tagOk key (spoil key n s ch) = (spoil key n s ch == sealed key n s) := by
  have hl := spoil_len key n s ch h
  have ht : (spoil key n s ch).take ((spoil key n s ch).length - 32) = sealX key n s := by
    rw [hl, ← sealX_len key n s, Nat.add_sub_cancel]; unfold spoil; exact List.take_left
  have hd : (spoil key n s ch).drop ((spoil key n s ch).length - 32) = xorT (hm (hm key tagT) (sealX key n s)) ch := by
    rw [hl, ← sealX_len key n s, Nat.add_sub_cancel]; unfold spoil; exact List.drop_left
  unfold tagOk
  rw [ht, hd, Bool.eq_iff_iff, beq_iff_eq, beq_iff_eq]
  unfold spoil sealed
  constructor
  · intro e; rw [← e]
  · intro e; exact (List.append_cancel_left e).symm
/-! ### Two texts under one nonce -/
theorem sealed_mid (key nonce a : List UInt8) (n : Nat) (h : nonce.length = 12) (hn : n ≤ a.length) : ((sealed key nonce a).take (12 + n)).drop 12 = (xst (hm key streamT) nonce a a.length).take n := by
  rw [List.drop_take, Nat.add_sub_cancel_left]
  unfold sealed sealX
  rw [List.append_assoc, ← h, List.drop_left, List.take_append_of_le_length (by rw [xst_len]; exact hn)]
theorem sealed_two (key nonce a b : List UInt8) (n : Nat) (h : nonce.length = 12) (ha : n ≤ a.length) (hb : n ≤ b.length) :
    xorT (((sealed key nonce a).take (12 + n)).drop 12) (((sealed key nonce b).take (12 + n)).drop 12) = xorT (a.take n) (b.take n) := by
  rw [sealed_mid key nonce a n h ha, sealed_mid key nonce b n h hb]
  have l1 : ((xst (hm key streamT) nonce a a.length).take n).length = n := by rw [List.length_take, xst_len]; omega
  have l2 : ((xst (hm key streamT) nonce b b.length).take n).length = n := by rw [List.length_take, xst_len]; omega
  have l3 : (a.take n).length = n := by rw [List.length_take]; omega
  have l4 : (b.take n).length = n := by rw [List.length_take]; omega
  rw [xorT_map _ _ (by rw [l1, l2]), xorT_map _ _ (by rw [l3, l4]), l1, l3]
  refine map_byt fun j hj => ?_
  rw [byt_take _ _ _ hj, byt_take _ _ _ hj, byt_take _ _ _ hj, byt_take _ _ _ hj, xst_at _ _ _ _ _ (by omega), xst_at _ _ _ _ _ (by omega), bx_two]
end Go.Proofs.YtgajfbmaoahpgaaDoor
