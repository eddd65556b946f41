/- The walk of cipher's Seal. Condition: at most 4096 bytes; sizes that a machine has; the table k reads as the standard's numbers. -/
import Derived.Test.YtgajfbmaoahpgaaDoorCiu
namespace Go.Proofs.YtgajfbmaoahpgaaDoor
open Go.RowKit Go.Shelf
set_option linter.unusedVariables false
set_option linter.unusedSimpArgs false

theorem Seal_bad (key nonce s : List UInt8) (w : World) (hn : nonce.length ≠ 12) :
    Calls Tryd.prog 9 #[str key, str nonce, str s] w fun e w' => e = .returned (.tuple #[str [], .int .i64 2]) ∧ Below w.heap.size w w' := by
  have d1 : ((nonce.length : Int) != 12) = true := by simp; omega
  clear hn
  go_enter Tryd.func9, Tryd.ntmps9
  go_wp2_with fail
  go_ret2
  exact ⟨rfl, Below.refl _ _⟩

set_option maxRecDepth 100000 in
set_option maxHeartbeats 8000000 in
theorem Seal_ok (key nonce s : List UInt8) (w : World) (hK : KT w) (hn : nonce.length = 12) (hk : key.length ≤ 1099511627000) (hs : s.length ≤ 4096) :
    Calls Tryd.prog 9 #[str key, str nonce, str s] w fun e w' => e = .returned (.tuple #[str (sealed key nonce s), .int .i64 0]) ∧ Below w.heap.size w w' := by
  have HK := Lib.hid hK
  have d1 : ((nonce.length : Int) != 12) = false := by simp; omega
  have d2 : decide (65536 < (s.length : Int)) = false := by simp; omega
  have CO := Lib.hid (of_any key w hK hk)
  have HS : Hid (sealed key nonce s = sealX key nonce s ++ hm (hm key tagT) (sealX key nonce s) ∧ sealX key nonce s = nonce ++ xst (hm key streamT) nonce s s.length) := ⟨rfl, rfl⟩
  have hx := xst_len (hm key streamT) nonce s s.length
  have hno : nonce.length ≤ 12 := by omega
  have hz := hm_len (hm key tagT) (sealX key nonce s)
  have hz2 := sealX_len key nonce s
  clear hK hn
  go_enter Tryd.func9, Tryd.ntmps9
  go_wp2_with fail
  refine CO.out.mono ?_
  rintro e w1 ⟨g1, a1, b1, g2, a2, b2, rfl, p1, q1⟩
  have H1 := Lib.hid (And.intro p1 q1)
  clear p1 q1 CO
  go_wp2_with fail
  have qa : Below w1.heap.size w1 (w1.alloc (.cells #[.pointer (some ⟨g1, 0, none⟩), .pointer (some ⟨g2, 0, none⟩)] 36 (0, 0))) := (Below.refl _ _).alloc (Nat.le_refl _) _
  have ra := heap_alloc_new w1 (.cells #[.pointer (some ⟨g1, 0, none⟩), .pointer (some ⟨g2, 0, none⟩)] 36 (0, 0))
  have HA := Lib.hid (And.intro ra (And.intro (H1.out.1.bel qa) (below_acc H1.out.2 qa)))
  clear qa ra
  have CT := Lib.hid (turned_any g1 a1 b1 ⟨g2, 0, none⟩ (hm key streamT) nonce s _ HA.out.2.1.s (HK.out.bel HA.out.2.2) hs (by omega))
  generalize w1.alloc (.cells #[.pointer (some ⟨g1, 0, none⟩), .pointer (some ⟨g2, 0, none⟩)] 36 (0, 0)) = w2 at HA CT ⊢
  refine CT.out.mono ?_
  rintro e w3 ⟨rfl, q3⟩
  have H3 := Lib.hid (And.intro ((q3.block _ (Array.getElem?_eq_some_iff.1 HA.out.1).1).trans HA.out.1) (And.intro (HA.out.2.1.bel q3) (below_acc HA.out.2.2 q3)))
  clear q3 CT HA H1
  have sa := str_add (P := Tryd.prog) nonce (xst (hm key streamT) nonce s s.length) (by omega)
  rw [← HS.out.2] at sa
  generalize xst (hm key streamT) nonce s s.length = x at sa hx ⊢
  have c1 := cell_of_row _ _ 1 _ _ (0, 0) H3.out.1
  have CK := Lib.hid (KSum_any g2 a2 b2 (hm key tagT) (sealX key nonce s) w3 H3.out.2.1.t (HK.out.bel H3.out.2.2) (by omega))
  have sb := str_add (P := Tryd.prog) (sealX key nonce s) (hm (hm key tagT) (sealX key nonce s)) (by omega)
  rw [← HS.out.1] at sb
  generalize hm (hm key tagT) (sealX key nonce s) = tg at sb CK hz ⊢
  generalize sealX key nonce s = sx at sa sb CK hz hz2 ⊢
  generalize hsd : sealed key nonce s = sd at sb ⊢
  have HD := Lib.hid hsd
  clear HS hsd
  go_wp2_with fail
  refine CK.out.mono ?_
  rintro e w4 ⟨rfl, q4⟩
  have H4 := Lib.hid (below_acc H3.out.2.2 q4)
  clear q4 CK H3 sa c1
  go_wp2_with fail
  go_ret2
  exact ⟨congrArg (fun x => Ending.returned (Value.tuple #[str x, .int .i64 0])) HD.out.symm, H4.out⟩
end Go.Proofs.YtgajfbmaoahpgaaDoor
