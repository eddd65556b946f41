/- The walks of hmac's New, over, Key.Sum and Sum. Condition: the table k reads as the standard's numbers; sizes that a machine has. -/
import Derived.Test.YtgajfbmaoahpgaaDoorHmw
namespace Go.Proofs.YtgajfbmaoahpgaaDoor
open Go.RowKit
set_option linter.unusedVariables false

/-- Block g is a key that was made ready. -/
structure KeyAt (W : World) (g : Nat) (key : List UInt8) (h1 h2 : Nat) : Prop where
  row : W.heap[g]? = some (.cells #[.pointer (some ⟨h1, 0, none⟩), .pointer (some ⟨h2, 0, none⟩)] 47 (0, 0))
  i : HashAt W h1 (xrs (bk (keyOf key)) 54)
  o : HashAt W h2 (xrs (bk (keyOf key)) 92)
theorem KeyAt.lt {W : World} {g h1 h2 : Nat} {key : List UInt8} (h : KeyAt W g key h1 h2) : g < W.heap.size := (Array.getElem?_eq_some_iff.1 h.row).1
theorem KeyAt.bel {W W' : World} {g h1 h2 : Nat} {key : List UInt8} (h : KeyAt W g key h1 h2) (hb : Below W.heap.size W W') : KeyAt W' g key h1 h2 :=
  ⟨(hb.block g h.lt).trans h.row, h.i.bel hb, h.o.bel hb⟩
theorem KeyAt.heap {W W' : World} {g h1 h2 : Nat} {key : List UInt8} (h : KeyAt W g key h1 h2) (e : W'.heap = W.heap) : KeyAt W' g key h1 h2 := by
  obtain ⟨a, b1, b2⟩ := h.i
  obtain ⟨c, d1, d2⟩ := h.o
  exact ⟨by rw [e]; exact h.row, ⟨a, b1.heap e, b2⟩, ⟨c, d1.heap e, d2⟩⟩
theorem KT.bel {W W' : World} (h : KT W) (hb : Below W.heap.size W W') : KT W' := h.below hb h.lt

set_option maxRecDepth 100000 in
set_option maxHeartbeats 4000000 in
theorem hNew_any (key : List UInt8) (w : World) (hK : KT w) (hl : key.length ≤ 1099511627776) :
    Calls Tryd.prog 20 #[str key] w fun e w' => ∃ g h1 h2, e = .returned (.pointer (some ⟨g, 0, none⟩)) ∧ w.heap.size ≤ g ∧ KeyAt w' g key h1 h2 ∧ Below w.heap.size w w' := by
  have HK := Lib.hid hK
  have CS := Lib.hid (shaSum_any key w hK hl)
  have hk := keyOf_len key
  have HE : Hid (64 < key.length → sum key = keyOf key) := fun h => by rw [keyOf, if_pos h]
  have HF : Hid (¬ 64 < key.length → key = keyOf key) := fun h => by rw [keyOf, if_neg h]
  have B0 := Lib.hid (Below.refl w.heap.size w)
  have HX : Hid (∀ g h1 h2 W, W.heap[g]? = some (.cells #[.pointer (some ⟨h1, 0, none⟩), .pointer (some ⟨h2, 0, none⟩)] 47 (0, 0)) → HashAt W h1 (xrs (bk (keyOf key)) 54) → HashAt W h2 (xrs (bk (keyOf key)) 92) → KeyAt W g key h1 h2) := fun g h1 h2 W a b c => ⟨a, b, c⟩
  clear hK
  by_cases h : 64 < key.length
  · have d1 : decide (64 < (key.length : Int)) = true := by simp; omega
    have he := HE.out h
    rw [he] at CS
    generalize keyOf key = k at CS hk HX
    clear HE HF he
    go_enter Tryd.func20, Tryd.ntmps20
    go_wp2_with (go_at_call 25; refine CS.out.mono ?_; rintro e w1 ⟨rfl, b1⟩; have B1 := Lib.hid b1; clear b1)
    refine (by_any 54 54 (by decide) w1).mono ?_
    rintro e w2 ⟨rfl, c2, l2, b2⟩
    have B2 := Lib.hid (below_acc B1.out b2)
    have CW := Lib.hid (with_any k 54 _ w2 (HK.out.below B2.out HK.out.lt) hk l2 c2)
    clear c2 l2 b2 B1
    go_wp2_with fail
    refine CW.out.mono ?_
    rintro e w3 ⟨g1, rfl, hg1, n3, b3⟩
    have H3 := Lib.hid (And.intro n3 (below_acc B2.out b3))
    clear n3 b3 B2 CW
    go_wp2_with fail
    refine (by_any 92 92 (by decide) w3).mono ?_
    rintro e w4 ⟨rfl, c4, l4, b4⟩
    have H4 := Lib.hid (And.intro (H3.out.1.bel b4) (below_acc H3.out.2 b4))
    have CW := Lib.hid (with_any k 92 _ w4 (HK.out.below H4.out.2 HK.out.lt) hk l4 c4)
    clear c4 l4 b4 H3
    go_wp2_with fail
    refine CW.out.mono ?_
    rintro e w5 ⟨g2, rfl, hg2, n5, b5⟩
    have H5 := Lib.hid (And.intro (H4.out.1.bel b5) (And.intro n5 (below_acc H4.out.2 b5)))
    clear n5 b5 H4 CW
    go_wp2_with fail
    go_ret
    have ba : Below w5.heap.size w5 (w5.alloc (.cells #[.pointer (some ⟨g1, 0, none⟩), .pointer (some ⟨g2, 0, none⟩)] 47 (0, 0))) := (Below.refl _ _).alloc (Nat.le_refl _) _
    exact ⟨w5.heap.size, g1, g2, rfl, H5.out.2.2.size, HX.out _ _ _ _ (heap_alloc_new w5 _) (H5.out.1.bel ba) (H5.out.2.1.bel ba), below_acc H5.out.2.2 ba⟩
  · have d1 : decide (64 < (key.length : Int)) = false := by simp; omega
    have he := HF.out h
    have HQ := Lib.hid he
    generalize hk2 : keyOf key = k at he hk HX
    subst he
    clear HE HF HQ hk2 CS
    have B1 := B0
    go_enter Tryd.func20, Tryd.ntmps20
    go_wp2_with fail
    refine (by_any 54 54 (by decide) w).mono ?_
    rintro e w2 ⟨rfl, c2, l2, b2⟩
    have B2 := Lib.hid (below_acc B1.out b2)
    have CW := Lib.hid (with_any key 54 _ w2 (HK.out.below B2.out HK.out.lt) hk l2 c2)
    clear c2 l2 b2 B1
    go_wp2_with fail
    refine CW.out.mono ?_
    rintro e w3 ⟨g1, rfl, hg1, n3, b3⟩
    have H3 := Lib.hid (And.intro n3 (below_acc B2.out b3))
    clear n3 b3 B2 CW
    go_wp2_with fail
    refine (by_any 92 92 (by decide) w3).mono ?_
    rintro e w4 ⟨rfl, c4, l4, b4⟩
    have H4 := Lib.hid (And.intro (H3.out.1.bel b4) (below_acc H3.out.2 b4))
    have CW := Lib.hid (with_any key 92 _ w4 (HK.out.below H4.out.2 HK.out.lt) hk l4 c4)
    clear c4 l4 b4 H3
    go_wp2_with fail
    refine CW.out.mono ?_
    rintro e w5 ⟨g2, rfl, hg2, n5, b5⟩
    have H5 := Lib.hid (And.intro (H4.out.1.bel b5) (And.intro n5 (below_acc H4.out.2 b5)))
    clear n5 b5 H4 CW
    go_wp2_with fail
    go_ret
    have ba : Below w5.heap.size w5 (w5.alloc (.cells #[.pointer (some ⟨g1, 0, none⟩), .pointer (some ⟨g2, 0, none⟩)] 47 (0, 0))) := (Below.refl _ _).alloc (Nat.le_refl _) _
    exact ⟨w5.heap.size, g1, g2, rfl, H5.out.2.2.size, HX.out _ _ _ _ (heap_alloc_new w5 _) (H5.out.1.bel ba) (H5.out.2.1.bel ba), below_acc H5.out.2.2 ba⟩
end Go.Proofs.YtgajfbmaoahpgaaDoor
