/- The walks of hmac's over, Key.Sum and Sum. Condition: the table k reads as the standard's numbers; sizes that a machine has. -/
import Derived.Test.YtgajfbmaoahpgaaDoorHms
namespace Go.Proofs.YtgajfbmaoahpgaaDoor
open Go.RowKit
set_option linter.unusedVariables false

set_option maxRecDepth 100000 in
set_option maxHeartbeats 4000000 in
theorem over_any (h : Nat) (t s : List UInt8) (w : World) (hA : HashAt w h t) (hK : KT w) (hl : t.length + s.length ≤ 1099511627776) :
    Calls Tryd.prog 23 #[.agg #[.pointer (some ⟨h, 0, none⟩)], str s] w fun e w' => e = .returned (str (sum (t ++ s))) ∧ Below w.heap.size w w' := by
  have b0 : Below w.heap.size w (w.alloc (.cells #[.pointer (some ⟨h, 0, none⟩)] 45 (0, 0))) := (Below.refl _ _).alloc (Nat.le_refl _) _
  have CC := Lib.hid (Copy_any h t _ (hA.bel b0))
  have HK := Lib.hid hK
  have B0 := Lib.hid b0
  have hhl := hA.lt
  clear b0 hA hK
  go_enter Tryd.func23, Tryd.ntmps23
  go_wp2_with fail
  refine CC.out.mono ?_
  rintro e w1 ⟨rfl, n1, b1⟩
  have B1 := Lib.hid (below_acc B0.out b1)
  have hc : w.heap.size ≤ (w.alloc (.cells #[.pointer (some ⟨h, 0, none⟩)] 45 (0, 0))).heap.size := B0.out.size
  have hlt := HK.out.lt
  simp only [World.size_alloc] at n1 hc
  have N1 := Lib.hid n1
  have CW := Lib.hid (Write_any _ t s w1 n1 (HK.out.below B1.out HK.out.lt) (by omega) (by omega))
  clear n1 b1 CC B0 hc hlt
  go_wp2_with fail
  refine CW.out.mono ?_
  rintro e w2 ⟨rfl, n2, g2⟩
  have B2 := Lib.hid (below_of_grown B1.out g2 (by omega) B1.out.size)
  have CS := Lib.hid (Sum_any _ (t ++ s) w2 n2 (HK.out.below B2.out HK.out.lt) (by simp; omega))
  clear n2 g2 CW B1 N1
  go_wp2_with fail
  refine CS.out.mono ?_
  rintro e w3 ⟨rfl, b3⟩
  have B3 := Lib.hid (below_acc B2.out b3)
  clear b3 CS B2
  go_wp2_with fail
  go_ret
  exact ⟨rfl, B3.out⟩

structure K3 (w W : World) (g : Nat) (key : List UInt8) (h1 h2 : Nat) : Prop where
  k : KeyAt W g key h1 h2
  t : KT W
  b : Below w.heap.size w W
theorem K3.bel {w W W' : World} {g h1 h2 : Nat} {key : List UInt8} (T : K3 w W g key h1 h2) (hb : Below W.heap.size W W') : K3 w W' g key h1 h2 := ⟨T.k.bel hb, T.t.bel hb, below_acc T.b hb⟩
theorem K3.draw {w W : World} {g h1 h2 : Nat} {key : List UInt8} (T : K3 w W g key h1 h2) : K3 w W.drew g key h1 h2 := ⟨T.k.heap rfl, T.t.heap rfl, T.b.drew⟩
theorem K3.s {w W : World} {g h1 h2 : Nat} {key : List UInt8} (T : K3 w W g key h1 h2) : W.cell? ⟨g, 0, none⟩ = some (.pointer (some ⟨h1, 0, none⟩)) ∧ W.cell? ⟨g, 1, none⟩ = some (.pointer (some ⟨h2, 0, none⟩)) ∧ K3 w W g key h1 h2 :=
  ⟨cell_of_row W g 0 _ _ (0, 0) T.k.row, cell_of_row W g 1 _ _ (0, 0) T.k.row, T⟩

set_option maxRecDepth 100000 in
set_option maxHeartbeats 4000000 in
theorem KSum_any (g h1 h2 : Nat) (key s : List UInt8) (w : World) (hA : KeyAt w g key h1 h2) (hK : KT w) (hl : s.length ≤ 1099511627000) :
    Calls Tryd.prog 16 #[.pointer (some ⟨g, 0, none⟩), str s] w fun e w' => e = .returned (str (hm key s)) ∧ Below w.heap.size w w' := by
  have T0 : Hid (K3 w w g key h1 h2) := ⟨hA, hK, Below.refl _ _⟩
  have HB := Lib.hid (bk_len _ (keyOf_len key))
  have HM : Hid (hm key s = sum (xrs (bk (keyOf key)) 92 ++ sum (xrs (bk (keyOf key)) 54 ++ s))) := rfl
  have g0 := T0.out.s.1
  have g1 := T0.out.s.2.1
  clear hA hK
  go_enter Tryd.func16, Tryd.ntmps16
  go_wp2_with fail
  go_region_held3 (fun w' => w'.cell? ⟨g, 0, none⟩ = some (.pointer (some ⟨h1, 0, none⟩)) ∧ w'.cell? ⟨g, 1, none⟩ = some (.pointer (some ⟨h2, 0, none⟩)) ∧ K3 w w' g key h1 h2)
    (first | assumption | exact (T0.out.draw).s | exact ((by assumption : _ ∧ _ ∧ K3 w _ g key h1 h2).2.2.bel hb).s)
    (first
      | (go_at_call 23; (with_reducible refine (over_any h1 (xrs (bk (keyOf key)) 54) s _ ?_ ?_ (by rw [xrs_len, HB.out]; omega)).mono ?_); exact (by assumption : _ ∧ _ ∧ K3 w _ g key h1 h2).2.2.k.i; exact (by assumption : _ ∧ _ ∧ K3 w _ g key h1 h2).2.2.t; rintro e w1 ⟨rfl, hb⟩)
      | (go_at_call 23; (with_reducible refine (over_any h2 (xrs (bk (keyOf key)) 92) (sum (xrs (bk (keyOf key)) 54 ++ s)) _ ?_ ?_ (by rw [xrs_len, HB.out, sum_len]; omega)).mono ?_); exact (by assumption : _ ∧ _ ∧ K3 w _ g key h1 h2).2.2.k.o; exact (by assumption : _ ∧ _ ∧ K3 w _ g key h1 h2).2.2.t; rintro e w1 ⟨rfl, hb⟩))
  rename_i hS
  have hB := hS.2.2.b
  clear hS
  go_wp2_with fail
  go_ret
  exact ⟨congrArg (fun x => Ending.returned (str x)) HM.out.symm, hB⟩

set_option maxRecDepth 100000 in
set_option maxHeartbeats 4000000 in
theorem KSum_nil (s : List UInt8) (w : World) :
    Calls Tryd.prog 16 #[.pointer none, str s] w fun e w' => e = .returned (str []) ∧ w = w' := by
  go_enter Tryd.func16, Tryd.ntmps16
  go_wp2_with fail
  go_ret
  exact ⟨rfl, rfl⟩

set_option maxRecDepth 100000 in
set_option maxHeartbeats 4000000 in
theorem hSum_any (key s : List UInt8) (w : World) (hK : KT w) (hk : key.length ≤ 1099511627000) (hl : s.length ≤ 1099511627000) :
    Calls Tryd.prog 21 #[str key, str s] w fun e w' => e = .returned (str (hm key s)) ∧ Below w.heap.size w w' := by
  have CN := Lib.hid (hNew_any key w hK (by omega))
  have HK := Lib.hid hK
  clear hK
  go_enter Tryd.func21, Tryd.ntmps21
  go_wp2_with fail
  refine CN.out.mono ?_
  rintro e w1 ⟨g, h1, h2, rfl, hg, n1, b1⟩
  have CS := Lib.hid (KSum_any g h1 h2 key s w1 n1 (HK.out.bel b1) hl)
  have B1 := Lib.hid b1
  clear n1 b1 CN
  go_wp2_with fail
  refine CS.out.mono ?_
  rintro e w2 ⟨rfl, b2⟩
  have B2 := Lib.hid (below_acc B1.out b2)
  clear b2 CS B1
  go_wp2_with fail
  go_ret
  exact ⟨rfl, B2.out⟩
end Go.Proofs.YtgajfbmaoahpgaaDoor
