/- The walks of the reference's xored, Block and Sum of layer 3. Condition: sizes that a machine has. -/
import Derived.Test.YtgajfbmaoahpgaaDoorHmp
import Derived.Test.YtgajfbmaoahpgaaDoorShs
namespace Go.Proofs.YtgajfbmaoahpgaaDoor
open Go.RowKit
set_option linter.unusedVariables false

@[go_sem] theorem lift_bx (x y : UInt8) : bits .xor .u8 (x.toNat : Int) (y.toNat : Int) = ((bx x y).toNat : Int) := by
  rw [u8_xor_nat _ _ (b_lt x) (b_lt y)]; rfl
theorem ByS.opened {W : World} {B g n c : Nat} {l : List UInt8} (h : ByS W B (.slice (some ⟨g, 0, none⟩) n c) l) :
    n = l.length ∧ B ≤ g ∧ g < W.heap.size ∧ ∀ k, k < l.length → W.cell? ⟨g, k, none⟩ = some (bv (byt l k)) ∧ W.frozen? ⟨g, k, none⟩ = false := by
  rcases h with ⟨h, _⟩ | ⟨g', cap, e, hB, hl, h1, h2, h3, h4⟩
  · cases h
  · injection e with e1 e2 e3
    injection e1 with e1
    injection e1 with e1
    subst e1 e2 e3
    refine ⟨rfl, hB, hl, fun k hk => ⟨?_, (h3 k (by omega)).2⟩⟩
    rw [h4 k hk, byt_getElem l k hk]
theorem ByS.put {W : World} {B g n c : Nat} {l : List UInt8} (h : ByS W B (.slice (some ⟨g, 0, none⟩) n c) l) (k : Nat) (hk : k < l.length) (x : UInt8) :
    ByS (W.setCell ⟨g, k, none⟩ (bv x)) B (.slice (some ⟨g, 0, none⟩) n c) (l.set k x) := by
  rcases h with ⟨h, _⟩ | ⟨g', cap, e, hB, hl, h1, h2, h3, h4⟩
  · cases h
  · injection e with e1 e2 e3
    injection e1 with e1
    injection e1 with e1
    subst e1 e2 e3
    refine .inr ⟨g, c, by simp, hB, by simpa using hl, by simpa using h1, h2, fun j hj => ?_, fun j hj => ?_⟩
    · by_cases e : k = j
      · subst e
        refine ⟨?_, by rw [World.frozen?_setCell]; exact (h3 k hj).2⟩
        rw [World.cell?_setCell_same' _ _ _ (h3 k hj).1]; rfl
      · rw [World.frozen?_setCell, cell_set_ne _ _ _ _ _ e]; exact h3 j hj
    · simp only [List.length_set] at hj
      by_cases e : k = j
      · subst e
        rw [World.cell?_setCell_same' _ _ _ (h3 k (by omega)).1]; simp
      · rw [cell_set_ne _ _ _ _ _ e, h4 j hj]; simp [e]

set_option maxRecDepth 100000 in
set_option maxHeartbeats 4000000 in
theorem xored_any (l : List UInt8) (n : UInt8) (z : Int) (hz : z = (n.toNat : Int)) (hl : l.length ≤ 1099511627776) (w : World) :
    Calls Tryd.prog 35 #[str l, .int .u8 z] w fun e w' => e = .returned (str (xrs l n)) ∧ Below w.heap.size w w' := by
  subst hz
  go_enter Tryd.func35, Tryd.ntmps35
  go_wp2_with (refine wpList_conv_bytes rfl _ rfl l rfl (by omega) ?_; intro c w1 hy1 hb1 hz1)
  have Y1 := Lib.hid (And.intro hy1 hb1)
  generalize hg : w.heap.size = g at *
  have HG := Lib.hid hg
  clear hy1 hb1 hz1 hg
  go_loopw [6] (fun k wr => ∃ i : Nat, i ≤ l.length ∧ k = .int .i64 i ∧ Hid (ByS wr g (.slice (some ⟨g, 0, none⟩) l.length c) (xk l n i) ∧ Below g w wr)) (fun k _ => l.length - (intOf k).toNat)
  case atStart => exact ⟨0, by omega, rfl, by show _ ∧ _; rw [xk_zero]; exact Y1.out⟩
  case round =>
    obtain ⟨i, hi, rfl, H⟩ := hrel
    clear Y1
    by_cases hk : i < l.length
    · obtain ⟨_, hB, hlt, ho⟩ := H.out.1.opened
      obtain ⟨c1, f1⟩ := ho i (by rw [xk_len]; exact hk)
      rw [xk_at l n i hk] at c1
      have kb : 0 ≤ (i : Int) ∧ (i : Int) < (l.length : Int) := by omega
      clear ho
      go_wp2_with fail
      go_roundw
      case rel =>
        refine ⟨i + 1, by omega, by go_num, ?_⟩
        show _ ∧ _
        rw [← xk_set l n i hk]
        exact ⟨H.out.1.put i (by rw [xk_len]; exact hk) _, H.out.2.setCell (p := ⟨g, i, none⟩) hB _⟩
      case measure => simp [intOf]; omega
    · have cv := conv_bys H.out.1
      rw [xk_all l n i (by omega)] at cv
      go_wp2_with fail
      go_ret
      exact ⟨rfl, by rw [HG.out]; exact H.out.2⟩

theorem zero_bys (W : World) (n : Nat) (hn : n ≤ 1099511627776) : ∃ W', (Instr.makeSlice 31 (.int .i64 (n : Int)) (.int .i64 (n : Int))).run Tryd.prog W = .ok (.slice (some ⟨W.heap.size, 0, none⟩) n n) W' ∧ ByS W' W.heap.size (.slice (some ⟨W.heap.size, 0, none⟩) n n) (List.replicate n 0) ∧ Below W.heap.size W W' := by
  obtain ⟨i0, hi, hz0, hz1, hz2⟩ := info_parts u8_info
  obtain ⟨W', h1, h2, h3⟩ := run_make_full (P := Tryd.prog) W W.heap.size 31 5 i0 _ 1 Tryd.underlying31 hi hz0 hz1 .i64 .i64 n (by rw [hz2]; omega) (by unfold maxLen; omega) (Nat.le_refl _)
  refine ⟨W', h1, ?_, (Below.refl _ W).grown h3 (Nat.le_refl _) (by simp)⟩
  have e : (madeCells (Value.int .u8 0).cells (n * 1)).toList = byc (List.replicate n 0) := by
    have : (Value.int .u8 0).cells = #[Value.int .u8 0] := rfl
    rw [this, toList_madeCells_one]; simp [byc]
  rw [e] at h2
  refine ByS.of_owns (l := List.replicate n 0) ?_ |> fun h => by simpa using h
  simpa using h2

set_option maxRecDepth 100000 in
set_option maxHeartbeats 4000000 in
theorem Block_any (key : List UInt8) (hl : key.length ≤ 1099511627776) (w : World) :
    Calls Tryd.prog 33 #[str key] w fun e w' => e = .returned (str (bk (keyOf key))) ∧ Below w.heap.size w w' := by
  have short : ∀ (k : List UInt8) (W : World), k.length ≤ 64 → ∃ W', (Instr.makeSlice 31 (.int .i64 (64 - (k.length : Int))) (.int .i64 (64 - (k.length : Int)))).run Tryd.prog W = .ok (.slice (some ⟨W.heap.size, 0, none⟩) (64 - k.length) (64 - k.length)) W' ∧
      (convert 31 9 (.slice (some ⟨W.heap.size, 0, none⟩) (64 - k.length) (64 - k.length))).run Tryd.prog W' = .ok (str (List.replicate (64 - k.length) 0)) W' ∧ (∀ W'', (Op.stringOp .add ⟨k.toArray⟩ ⟨(List.replicate (64 - k.length) (0 : UInt8)).toArray⟩).run Tryd.prog W'' = .ok (str (bk k)) W'') ∧ Below W.heap.size W W' := by
    intro k W hk
    obtain ⟨W', h1, h2, h3⟩ := zero_bys W (64 - k.length) (by omega)
    have e : ((64 - k.length : Nat) : Int) = 64 - (k.length : Int) := by omega
    rw [e] at h1
    exact ⟨W', h1, conv_bys h2, fun W'' => str_add k _ (by simp; omega) W'', h3⟩
  by_cases h : 64 < key.length
  · have e : keyOf key = sum key := by rw [keyOf, if_pos h]
    have d1 : decide (64 < (key.length : Int)) = true := by simp; omega
    have CS := Lib.hid (refSum_any key hl w)
    have SH := Lib.hid short
    rw [e]
    have hs : (sum key).length ≤ 64 := by rw [sum_len]; omega
    generalize sum key = k at CS hs ⊢
    clear short
    go_enter Tryd.func33, Tryd.ntmps33
    go_wp2_with fail
    refine CS.out.mono ?_
    rintro e w1 ⟨rfl, b1⟩
    have B1 := Lib.hid b1
    obtain ⟨w2, m1, m2, m3, m4⟩ := SH.out k w1 hs
    have B2 := Lib.hid (below_acc b1 m4)
    clear b1 m4 CS SH
    go_wp2_with fail
    go_ret
    exact ⟨rfl, B2.out⟩
  · have e : keyOf key = key := by rw [keyOf, if_neg h]
    have d1 : decide (64 < (key.length : Int)) = false := by simp; omega
    rw [e]
    obtain ⟨w2, m1, m2, m3, m4⟩ := short key w (by omega)
    have B2 := Lib.hid m4
    have hk : key.length ≤ 64 := by omega
    clear short m4
    go_enter Tryd.func33, Tryd.ntmps33
    go_wp2_with fail
    go_ret
    exact ⟨rfl, B2.out⟩

set_option maxRecDepth 100000 in
set_option maxHeartbeats 4000000 in
theorem refHm_any (key s : List UInt8) (hl : key.length ≤ 1099511627000) (hs : s.length ≤ 1099511627000) (w : World) :
    Calls Tryd.prog 24 #[str key, str s] w fun e w' => e = .returned (str (hm key s)) ∧ Below w.heap.size w w' := by
  have CB := Lib.hid (Block_any key (by omega) w)
  have hb := bk_len _ (keyOf_len key)
  have HM : Hid (hm key s = sum (xrs (bk (keyOf key)) 92 ++ sum (xrs (bk (keyOf key)) 54 ++ s))) := rfl
  generalize bk (keyOf key) = b at CB hb HM
  have hx1 := xrs_len b 92
  have hx2 := xrs_len b 54
  have hs2 := sum_len (xrs b 54 ++ s)
  have s1 := str_add (P := Tryd.prog) (xrs b 54) s (by omega)
  have s2 := str_add (P := Tryd.prog) (xrs b 92) (sum (xrs b 54 ++ s)) (by omega)
  go_enter Tryd.func24, Tryd.ntmps24
  go_wp2_with fail
  refine CB.out.mono ?_
  rintro e w1 ⟨rfl, b1⟩
  have B1 := Lib.hid b1
  clear b1 CB
  go_wp2_with fail
  refine (xored_any b 92 92 (by decide) (by omega) w1).mono ?_
  rintro e w2 ⟨rfl, b2⟩
  have B2 := Lib.hid (below_acc B1.out b2)
  clear b2 B1
  go_wp2_with fail
  refine (xored_any b 54 54 (by decide) (by omega) w2).mono ?_
  rintro e w3 ⟨rfl, b3⟩
  have B3 := Lib.hid (below_acc B2.out b3)
  clear b3 B2
  go_wp2_with fail
  refine (refSum_any (xrs b 54 ++ s) (by simp; omega) w3).mono ?_
  rintro e w4 ⟨rfl, b4⟩
  have B4 := Lib.hid (below_acc B3.out b4)
  clear b4 B3
  go_wp2_with fail
  refine (refSum_any (xrs b 92 ++ sum (xrs b 54 ++ s)) (by simp; omega) w4).mono ?_
  rintro e w5 ⟨rfl, b5⟩
  have B5 := Lib.hid (below_acc B4.out b5)
  clear b5 B4
  go_wp2_with fail
  go_ret
  exact ⟨congrArg (fun x => Ending.returned (str x)) HM.out.symm, B5.out⟩
end Go.Proofs.YtgajfbmaoahpgaaDoor
