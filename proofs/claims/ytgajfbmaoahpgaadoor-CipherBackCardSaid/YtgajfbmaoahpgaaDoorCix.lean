/- The walks of the reference of layer 4: Xored, Tag, Seal, Open, Xor. Condition: at most 4096 bytes; sizes that a machine has. -/
import Derived.Test.YtgajfbmaoahpgaaDoorCiw
namespace Go.Proofs.YtgajfbmaoahpgaaDoor
open Go.RowKit
set_option linter.unusedVariables false
set_option linter.unusedSimpArgs false

/-- The first m bytes turned. -/
def gp (f : Nat → UInt8) (l : List UInt8) (m : Nat) : List UInt8 := (List.range m).map f ++ l.drop m
theorem gp_zero (f : Nat → UInt8) (l : List UInt8) : gp f l 0 = l := by simp [gp]
theorem gp_len (f : Nat → UInt8) (l : List UInt8) (m : Nat) (h : m ≤ l.length) : (gp f l m).length = l.length := by simp [gp]; omega
theorem gp_at (f : Nat → UInt8) (l : List UInt8) (m : Nat) (h : m < l.length) : byt (gp f l m) m = byt l m := by
  have h1 : ((List.range m).map f).length = m := by simp
  have e1 : byt (gp f l m) m = (gp f l m).getD m 0 := rfl
  have e2 : byt l m = l.getD m 0 := rfl
  rw [e1, e2, gp, List.getD_eq_getElem?_getD, List.getD_eq_getElem?_getD, List.getElem?_append_right (by omega), h1, List.getElem?_drop]
  simp
theorem gp_set (f : Nat → UInt8) (l : List UInt8) (m : Nat) (h : m < l.length) : (gp f l m).set m (f m) = gp f l (m + 1) := by
  have h1 : ((List.range m).map f).length = m := by simp
  have hd : l.drop m = l[m] :: l.drop (m + 1) := List.drop_eq_getElem_cons h
  unfold gp
  rw [List.set_append_right _ _ (by omega), h1, Nat.sub_self, hd, List.set_cons_zero, List.range_succ, List.map_append, List.append_assoc]
  rfl
theorem gp_all (f : Nat → UInt8) (l : List UInt8) (m : Nat) (h : l.length ≤ m) : gp f l m = (List.range m).map f := by
  rw [gp, List.drop_eq_nil_of_le h, List.append_nil]
def xf (k nonce s : List UInt8) (j : Nat) : UInt8 := bx (byt s j) (stk k nonce j)
theorem xst_gp (k nonce s : List UInt8) : gp (xf k nonce s) s s.length = xst k nonce s s.length := gp_all _ _ _ (Nat.le_refl _)

theorem conv_atT (W : World) (g i : Nat) (T : TypeId) (hi : i < 256) (h : W.heap[g]? = some (.cells (atc i) T (0, 0))) :
    (convert 31 9 (.slice (some ⟨g, 0, none⟩) 4 4)).run Tryd.prog W = .ok (str (ctr i)) W := by
  refine run_convert_bytes_back (P := Tryd.prog) W 31 9 5 ⟨g, 0, none⟩ 4 (ctr i) Tryd.underlying31 Tryd.underlying5 Tryd.underlying9 (fun j hj => ?_)
  rw [Addr.add_lit, Nat.zero_add, cell_of_row W g j _ _ (0, 0) h]
  have hj4 : j < 4 := hj
  have : (UInt8.ofNat i).toNat = i := by simp; omega
  match j, hj4 with
  | 0, _ => rfl
  | 1, _ => rfl
  | 2, _ => rfl
  | 3, _ => simp [atc, ctr]; omega

set_option maxRecDepth 100000 in
set_option maxHeartbeats 8000000 in
theorem Xored_any (key nonce s : List UInt8) (w : World) (hk : key.length ≤ 1099511627000) (hn : nonce.length ≤ 1099511626000) (hs : s.length ≤ 4096) :
    Calls Tryd.prog 17 #[str key, str nonce, str s] w fun e w' => e = .returned (str (xst (hm key streamT) nonce s s.length)) ∧ Below w.heap.size w w' := by
  have CS := Lib.hid (refHm_any key streamT hk (by simp [streamT]) w)
  have HX := Lib.hid (xst_gp (hm key streamT) nonce s)
  have hkl := hm_len key streamT
  have hkl2 : (hm key streamT).length ≤ 64 := by omega
  generalize hm key streamT = k at CS HX hkl hkl2 ⊢
  clear hkl
  go_enter Tryd.func17, Tryd.ntmps17
  go_wp2_with fail
  refine CS.out.mono ?_
  rintro e w1 ⟨rfl, b1⟩
  have B1 := Lib.hid b1
  clear b1 CS
  go_wp2_with (refine wpList_conv_bytes rfl _ rfl s rfl (by omega) ?_; intro c w2 hy2 hb2 hz2)
  have Y2 : Hid (ByS w2 w1.heap.size (.slice (some ⟨w1.heap.size, 0, none⟩) s.length c) (gp (xf k nonce s) s 0) ∧ Below w.heap.size w w2 ∧ w.heap.size ≤ w1.heap.size) := by
    show _ ∧ _ ∧ _
    rw [gp_zero]
    exact ⟨hy2, below_acc B1.out hb2, B1.out.size⟩
  generalize w1.heap.size = g at Y2 ⊢
  clear hy2 hb2 hz2 B1
  go_loopw [9] (fun v wr => ∃ (i a m : Nat), v = .int .i64 (a : Int) ∧ Hid (a = 32 * i ∧ m = min a s.length) ∧ a ≤ s.length + 31 ∧ Hid (ByS wr g (.slice (some ⟨g, 0, none⟩) s.length c) (gp (xf k nonce s) s m) ∧ Below w.heap.size w wr ∧ w.heap.size ≤ g)) (fun v _ => s.length + 31 - (intOf v).toNat)
  case atStart => exact ⟨0, 0, 0, rfl, ⟨rfl, by omega⟩, by omega, Y2⟩
  case round =>
    clear Y2
    obtain ⟨i, a, m, rfl, hE, ha, T⟩ := hrel
    by_cases hlt : a < s.length
    · have hi : i < 200 := by have := hE.out.1; omega
      have e1 : (a : Int) / 32 = (i : Int) := by have := hE.out.1; omega
      have e2 : (i : Int) / 16777216 = 0 := by omega
      have e3 : (i : Int) / 65536 = 0 := by omega
      have e4 : (i : Int) / 256 = 0 := by omega
      have cv : (convert 31 9 (.slice (some ⟨wr.heap.size, 0, none⟩) 4 4)).run Tryd.prog (wr.alloc (.cells #[.int .u8 0, .int .u8 0, .int .u8 0, .int .u8 (i : Int)] 5 (0, 0))) = .ok (str (ctr i)) (wr.alloc (.cells #[.int .u8 0, .int .u8 0, .int .u8 0, .int .u8 (i : Int)] 5 (0, 0))) :=
        conv_atT _ wr.heap.size i 5 (by omega) (heap_alloc_new wr _)
      have ba : Below wr.heap.size wr (wr.alloc (.cells #[.int .u8 0, .int .u8 0, .int .u8 0, .int .u8 (i : Int)] 5 (0, 0))) := (Below.refl _ _).alloc (Nat.le_refl _) _
      have TA : Hid (ByS (wr.alloc (.cells #[.int .u8 0, .int .u8 0, .int .u8 0, .int .u8 (i : Int)] 5 (0, 0))) g (.slice (some ⟨g, 0, none⟩) s.length c) (gp (xf k nonce s) s m) ∧ Below w.heap.size w (wr.alloc (.cells #[.int .u8 0, .int .u8 0, .int .u8 0, .int .u8 (i : Int)] 5 (0, 0))) ∧ w.heap.size ≤ g) :=
        ⟨T.out.1.below ba, below_acc T.out.2.1 ba, T.out.2.2⟩
      have sa := str_add (P := Tryd.prog) nonce (ctr i) (by rw [ctr_len]; omega)
      have HS : Hid (hm k (nonce ++ ctr i) = blkS k nonce i ∧ ∀ q, q < 32 → stk k nonce (32 * i + q) = byt (blkS k nonce i) q) := ⟨rfl, fun q hq => stk_at k nonce i q hq⟩
      have pl := blkS_len k nonce i
      have hnl : (nonce ++ ctr i).length ≤ 1099511627000 := by rw [List.length_append, ctr_len]; omega
      generalize blkS k nonce i = p at HS pl
      generalize ctr i = ct at cv sa HS hnl
      generalize nonce ++ ct = nc at sa HS hnl
      have PL := Lib.hid pl
      clear ba T pl
      go_wp2_with fail
      refine (refHm_any k nc (by omega) hnl _).mono ?_
      rintro e w3 ⟨rfl, b3⟩
      rw [HS.out.1]
      have T3 : Hid (ByS w3 g (.slice (some ⟨g, 0, none⟩) s.length c) (gp (xf k nonce s) s (a + 0)) ∧ Below w.heap.size w w3 ∧ w.heap.size ≤ g) := by
        have hm0 : m = a + 0 := by have := hE.out.2; omega
        rw [hm0] at TA
        exact ⟨TA.out.1.below b3, below_acc TA.out.2.1 b3, TA.out.2.2⟩
      have pl : p.length ≤ 32 ∧ 32 ≤ p.length := by have := PL.out; omega
      clear b3 TA cv sa e1 e2 e3 e4
      go_wp2_with fail
      go_loopw [12] (fun v wr => ∃ q : Nat, v = .int .i64 (q : Int) ∧ q ≤ 32 ∧ a + q ≤ s.length ∧ Hid (ByS wr g (.slice (some ⟨g, 0, none⟩) s.length c) (gp (xf k nonce s) s (a + q)) ∧ Below w.heap.size w wr ∧ w.heap.size ≤ g)) (fun v _ => 32 - (intOf v).toNat)
      case atStart => exact ⟨0, rfl, by omega, by omega, T3⟩
      case round =>
        clear T3
        obtain ⟨q, rfl, hq, hqs, T⟩ := hrel
        by_cases h1 : q < 32
        · have d1 : decide ((q : Int) < 32) = true := by simp; omega
          by_cases h2 : a + q < s.length
          · have d2 : decide ((a : Int) + (q : Int) < (s.length : Int)) = true := by simp; omega
            obtain ⟨_, hgB, hgl, ho⟩ := T.out.1.opened
            obtain ⟨c1, f1⟩ := ho (a + q) (by rw [gp_len _ _ _ hqs]; exact h2)
            rw [gp_at _ _ _ h2] at c1
            have q0 := run_index_str p q (q : Int) rfl (by omega)
            have HG : Hid (gp (xf k nonce s) s (a + (q + 1)) = (gp (xf k nonce s) s (a + q)).set (a + q) (bx (byt s (a + q)) (byt p q))) := by
              show _ = _
              rw [← Nat.add_assoc, ← gp_set _ _ _ h2]
              have : xf k nonce s (a + q) = bx (byt s (a + q)) (byt p q) := by
                have := HS.out.2 q h1
                unfold xf
                rw [show a + q = 32 * i + q by have := hE.out.1; omega, this]
              rw [this]
            have kb : 0 ≤ (a : Int) + (q : Int) ∧ (a : Int) + (q : Int) < (s.length : Int) ∧ 0 ≤ (q : Int) ∧ (q : Int) < (p.length : Int) := by omega
            have x1 : ((a : Int) + (q : Int)).toNat = a + q := by omega
            have x2 : IntKind.i64.wrap ((a : Int) + (q : Int)) = (a : Int) + (q : Int) := IntWalk.i64_in _ (by omega)
            clear ho
            go_wp2_with fail
            go_region
            have T5 : Hid (ByS (wr.setCell ⟨g, a + q, none⟩ (bv (bx (byt s (a + q)) (byt p q)))).drew g (.slice (some ⟨g, 0, none⟩) s.length c) (gp (xf k nonce s) s (a + (q + 1))) ∧ Below w.heap.size w (wr.setCell ⟨g, a + q, none⟩ (bv (bx (byt s (a + q)) (byt p q)))).drew ∧ w.heap.size ≤ g) := by
              show _ ∧ _ ∧ _
              rw [HG.out]
              exact ⟨(T.out.1.put (a + q) (by rw [gp_len _ _ _ hqs]; exact h2) _).heap rfl, (T.out.2.1.setCell (p := ⟨g, a + q, none⟩) T.out.2.2 _).drew, T.out.2.2⟩
            clear x1 x2 c1 f1 q0 HG T
            go_wp2_with fail
            go_roundw
            case rel => exact ⟨q + 1, by go_num, by omega, by omega, T5⟩
            case measure => simp [intOf]; omega
          · have d2 : decide ((a : Int) + (q : Int) < (s.length : Int)) = false := by simp; omega
            go_wp2_with fail
            go_roundw
            case rel => exact ⟨i + 1, a + 32, a + q, by go_num, ⟨by have := hE.out.1; omega, by omega⟩, by omega, T⟩
            case measure => simp [intOf]; omega
        · obtain rfl : q = 32 := by omega
          have d1 : decide (((32 : Nat) : Int) < 32) = false := by simp
          go_wp2_with fail
          go_roundw
          case rel => exact ⟨i + 1, a + 32, a + 32, by go_num, ⟨by have := hE.out.1; omega, by omega⟩, by omega, T⟩
          case measure => simp [intOf]; omega
    · obtain rfl : m = s.length := by have := hE.out.2; omega
      have hy := T.out.1
      rw [HX.out] at hy
      have cv := conv_bys hy
      clear hy
      go_wp2_with fail
      go_ret
      exact ⟨rfl, T.out.2.1⟩

theorem Tag_any (key s : List UInt8) (w : World) (hk : key.length ≤ 1099511627000) (hs : s.length ≤ 1099511627000) :
    Calls Tryd.prog 18 #[str key, str s] w fun e w' => e = .returned (str (hm (hm key tagT) s)) ∧ Below w.heap.size w w' := by
  have CS := Lib.hid (refHm_any key tagT hk (by simp [tagT]) w)
  have hkl := hm_len key tagT
  have hkl2 : (hm key tagT).length ≤ 64 := by omega
  generalize hm key tagT = k at CS hkl hkl2 ⊢
  clear hkl
  go_enter Tryd.func18, Tryd.ntmps18
  go_wp2_with fail
  refine CS.out.mono ?_
  rintro e w1 ⟨rfl, b1⟩
  have B1 := Lib.hid b1
  clear b1 CS
  go_wp2_with fail
  refine (refHm_any k s (by omega) hs w1).mono ?_
  rintro e w2 ⟨rfl, b2⟩
  have B2 := Lib.hid (below_acc B1.out b2)
  clear b2 B1
  go_wp2_with fail
  go_ret
  exact ⟨rfl, B2.out⟩

theorem rSeal_bad (key nonce s : List UInt8) (w : World) (hn : nonce.length ≠ 12) :
    Calls Tryd.prog 10 #[str key, str nonce, str s] w fun e w' => e = .returned (.tuple #[str [], .int .i64 2]) ∧ Below w.heap.size w w' := by
  have d1 : ((nonce.length : Int) != 12) = true := by simp; omega
  clear hn
  go_enter Tryd.func10, Tryd.ntmps10
  go_wp2_with fail
  go_ret2
  exact ⟨rfl, Below.refl _ _⟩

set_option maxRecDepth 100000 in
set_option maxHeartbeats 8000000 in
theorem rSeal_ok (key nonce s : List UInt8) (w : World) (hn : nonce.length = 12) (hk : key.length ≤ 1099511627000) (hs : s.length ≤ 4096) :
    Calls Tryd.prog 10 #[str key, str nonce, str s] w fun e w' => e = .returned (.tuple #[str (sealed key nonce s), .int .i64 0]) ∧ Below w.heap.size w w' := by
  have d1 : ((nonce.length : Int) != 12) = false := by simp; omega
  have d2 : decide (65536 < (s.length : Int)) = false := by simp; omega
  have HS : Hid (sealed key nonce s = sealX key nonce s ++ hm (hm key tagT) (sealX key nonce s) ∧ sealX key nonce s = nonce ++ xst (hm key streamT) nonce s s.length) := ⟨rfl, rfl⟩
  have hx := xst_len (hm key streamT) nonce s s.length
  have hno : nonce.length ≤ 12 := by omega
  have hz := hm_len (hm key tagT) (sealX key nonce s)
  have hz2 := sealX_len key nonce s
  have CX := Lib.hid (Xored_any key nonce s w hk (by omega) hs)
  have sa := str_add (P := Tryd.prog) nonce (xst (hm key streamT) nonce s s.length) (by omega)
  rw [← HS.out.2] at sa
  have sb := str_add (P := Tryd.prog) (sealX key nonce s) (hm (hm key tagT) (sealX key nonce s)) (by omega)
  rw [← HS.out.1] at sb
  have CT : Hid (∀ W, Calls Tryd.prog 18 #[str key, str (sealX key nonce s)] W fun e w' => e = .returned (str (hm (hm key tagT) (sealX key nonce s))) ∧ Below W.heap.size W w') := fun W => Tag_any key _ W hk (by omega)
  generalize xst (hm key streamT) nonce s s.length = x at sa hx CX
  generalize hm (hm key tagT) (sealX key nonce s) = tg at sb CT hz
  generalize sealX key nonce s = sx at sa sb CT hz hz2
  generalize sealed key nonce s = sd at sb ⊢
  clear hn HS
  go_enter Tryd.func10, Tryd.ntmps10
  go_wp2_with fail
  refine CX.out.mono ?_
  rintro e w1 ⟨rfl, b1⟩
  have B1 := Lib.hid b1
  clear b1 CX
  go_wp2_with fail
  refine (CT.out w1).mono ?_
  rintro e w2 ⟨rfl, b2⟩
  have B2 := Lib.hid (below_acc B1.out b2)
  clear b2 CT B1 sa
  go_wp2_with fail
  go_ret2
  exact ⟨rfl, B2.out⟩
end Go.Proofs.YtgajfbmaoahpgaaDoor
