/- The walks of cipher's of and Seal. Condition: at most 4096 bytes; sizes that a machine has; the table k reads as the standard's numbers. -/
import Derived.Test.YtgajfbmaoahpgaaDoorCit
namespace Go.Proofs.YtgajfbmaoahpgaaDoor
open Go.RowKit Go.Shelf
set_option linter.unusedVariables false
set_option linter.unusedSimpArgs false

def streamT : List UInt8 := [115, 116, 114, 101, 97, 109]
def tagT : List UInt8 := [116, 97, 103]
def sealX (key nonce s : List UInt8) : List UInt8 := nonce ++ xst (hm key streamT) nonce s s.length
def sealed (key nonce s : List UInt8) : List UInt8 := sealX key nonce s ++ hm (hm key tagT) (sealX key nonce s)
theorem sealX_len (key nonce s : List UInt8) : (sealX key nonce s).length = nonce.length + s.length := by simp [sealX, xst_len]
theorem sealed_len (key nonce s : List UInt8) : (sealed key nonce s).length = nonce.length + s.length + 32 := by simp [sealed, sealX_len, hm_len]

structure PairAt (W : World) (key : List UInt8) (g1 a1 b1 g2 a2 b2 : Nat) : Prop where
  s : KeyAt W g1 (hm key streamT) a1 b1
  t : KeyAt W g2 (hm key tagT) a2 b2
theorem PairAt.bel {W W' : World} {key : List UInt8} {g1 a1 b1 g2 a2 b2 : Nat} (h : PairAt W key g1 a1 b1 g2 a2 b2) (hb : Below W.heap.size W W') : PairAt W' key g1 a1 b1 g2 a2 b2 := ⟨h.s.bel hb, h.t.bel hb⟩
theorem PairAt.heap {W W' : World} {key : List UInt8} {g1 a1 b1 g2 a2 b2 : Nat} (h : PairAt W key g1 a1 b1 g2 a2 b2) (e : W'.heap = W.heap) : PairAt W' key g1 a1 b1 g2 a2 b2 := ⟨h.s.heap e, h.t.heap e⟩

theorem HashAt.other {w1 W : World} {g a : Nat} {cs old : Array Value} {t : List UInt8} (h : HashAt w1 a t) (P : Put w1 W g cs 36) (hg : w1.heap[g]? = some (.cells old 36 (0, 0))) : HashAt W a t := by
  obtain ⟨wt, h1, h2⟩ := h
  refine ⟨wt, ⟨(P.block a (fun e => ?_)).trans h1.row, h1.l8, h1.w64⟩, h2⟩
  have := h1.row
  rw [e, hg] at this
  cases this

set_option maxRecDepth 100000 in
set_option maxHeartbeats 8000000 in
theorem of_any (key : List UInt8) (w : World) (hK : KT w) (hl : key.length ≤ 1099511627000) :
    Calls Tryd.prog 14 #[str key] w fun e w' => ∃ g1 a1 b1 g2 a2 b2, e = .returned (.agg #[.pointer (some ⟨g1, 0, none⟩), .pointer (some ⟨g2, 0, none⟩)]) ∧ PairAt w' key g1 a1 b1 g2 a2 b2 ∧ Below w.heap.size w w' := by
  have HK := Lib.hid hK
  have b0 : Below w.heap.size w (w.alloc (.cells #[.pointer none, .pointer none] 36 (0, 0))) := (Below.refl _ _).alloc (Nat.le_refl _) _
  have h0 := heap_alloc_new w (.cells #[.pointer none, .pointer none] 36 (0, 0))
  have CS := Lib.hid (hSum_any key streamT _ (hK.bel b0) hl (by simp [streamT]))
  have HH := Lib.hid (And.intro b0 h0)
  have ST : Hid (streamT = [115, 116, 114, 101, 97, 109] ∧ tagT = [116, 97, 103]) := ⟨rfl, rfl⟩
  have hs := hm_len key streamT
  have ht := hm_len key tagT
  have HX : Hid (∀ W g1 a1 b1 g2 a2 b2, KeyAt W g1 (hm key streamT) a1 b1 → KeyAt W g2 (hm key tagT) a2 b2 → PairAt W key g1 a1 b1 g2 a2 b2) := fun W g1 a1 b1 g2 a2 b2 h k => ⟨h, k⟩
  clear hK b0 h0
  go_enter Tryd.func14, Tryd.ntmps14
  go_wp2_with fail
  generalize w.alloc (.cells #[.pointer none, .pointer none] 36 (0, 0)) = w0 at CS HH ⊢
  refine CS.out.mono ?_
  rintro e w1 ⟨rfl, b1⟩
  have hs2 : (hm key streamT).length ≤ 64 := by omega
  generalize hm key streamT = ks at HX hs2 ⊢
  have H1 := Lib.hid (And.intro (below_acc HH.out.1 b1) ((b1.block _ (Array.getElem?_eq_some_iff.1 HH.out.2).1).trans HH.out.2))
  clear b1 CS HH
  have CN := Lib.hid (hNew_any ks w1 (HK.out.bel H1.out.1) (by omega))
  go_wp2_with fail
  refine CN.out.mono ?_
  rintro e w2 ⟨g1, a1, b1, rfl, hg1, n2, q2⟩
  have H2 := Lib.hid (And.intro (below_acc H1.out.1 q2) (And.intro ((q2.block _ (Array.getElem?_eq_some_iff.1 H1.out.2).1).trans H1.out.2) n2))
  clear q2 n2 CN H1
  have CS := Lib.hid (hSum_any key tagT w2 (HK.out.bel H2.out.1) hl (by simp [tagT]))
  go_wp2_with fail
  refine CS.out.mono ?_
  rintro e w3 ⟨rfl, q3⟩
  have ht2 : (hm key tagT).length ≤ 64 := by omega
  generalize hm key tagT = kt at HX ht2 ⊢
  have H3 := Lib.hid (And.intro (below_acc H2.out.1 q3) (And.intro ((q3.block _ (Array.getElem?_eq_some_iff.1 H2.out.2.1).1).trans H2.out.2.1) (H2.out.2.2.bel q3)))
  clear q3 H2 CS
  have CN := Lib.hid (hNew_any kt w3 (HK.out.bel H3.out.1) (by omega))
  go_wp2_with fail
  refine CN.out.mono ?_
  rintro e w4 ⟨g2, a2, b2, rfl, hg2, n4, q4⟩
  have H4 := Lib.hid (And.intro (below_acc H3.out.1 q4) (And.intro ((q4.block _ (Array.getElem?_eq_some_iff.1 H3.out.2.1).1).trans H3.out.2.1) (And.intro (H3.out.2.2.bel q4) n4)))
  clear q4 n4 H3 CN
  have hsz : (Tryd.prog.info? 36).map (·.size) = some 2 := by kernel_rfl
  go_wp2_with (first
    | (refine wpList_store_put rfl 36 _ _ rfl w.heap.size #[.pointer (some ⟨g1, 0, none⟩), .pointer (some ⟨g2, 0, none⟩)] (by rfl) (by rfl) 36 _ H4.out.2.1 hsz rfl (by simp [Value.oneCell']) ?_; intro W2 P2))
  refine bodyPost_ret (results_cell_row rfl _ _ w.heap.size 36 #[.pointer (some ⟨g1, 0, none⟩), .pointer (some ⟨g2, 0, none⟩)] (0, 0) _ rfl P2.here Tryd.underlying36 rfl hsz) rfl ⟨g1, a1, b1, g2, a2, b2, rfl, ?_, P2.below H4.out.1 (Nat.le_refl _)⟩
  have hkey : ∀ g k a b, KeyAt w4 g k a b → KeyAt W2 g k a b := fun g k a b h =>
    ⟨(P2.block g (fun e => by have := h.row; rw [e, H4.out.2.1] at this; cases this)).trans h.row, h.i.other P2 H4.out.2.1, h.o.other P2 H4.out.2.1⟩
  exact HX.out _ _ _ _ _ _ _ (hkey _ _ _ _ H4.out.2.2.1) (hkey _ _ _ _ H4.out.2.2.2)
end Go.Proofs.YtgajfbmaoahpgaaDoor
