/- The walk of the reference's Rows. Condition: the reference lies at the pointer. -/
import Derived.Test.YthdmjeoldnehcaaLri
namespace Go.Proofs.Ythdmjeoldnehcaa
open Go.RowKit
set_option linter.unusedVariables false
set_option linter.unusedSimpArgs false

/-- The rows of the first n actions' transactions. -/
def rwTo (L : List Ac) (n : Nat) : List Rw := (txTo L n).map (fR L)
theorem rwTo_succ (L : List Ac) (n : Nat) (h : n < L.length) : rwTo L (n + 1) = if isR (L.take n) (L[n]).tx then rwTo L n else rwTo L n ++ [fR L (L[n]).tx] := by
  unfold rwTo
  rw [txTo_succ L n h]
  split <;> simp
theorem rwTo_len (L : List Ac) (n : Nat) : (rwTo L n).length ≤ n := by
  unfold rwTo
  rw [List.length_map]
  exact txTo_len L n
theorem isR_in {L : List Ac} {n : Nat} (h : n < L.length) : isR L (L[n]).tx = true := by
  unfold isR
  rw [List.any_eq_true]
  exact ⟨L[n], List.getElem_mem h, by simp⟩
theorem isR_zero (L : List Ac) (t : Tx) : isR (L.take 0) t = false := by simp [isR]
set_option maxRecDepth 100000 in
set_option maxHeartbeats 8000000 in
theorem rRows_any {B hp bad : Nat} {v : Value} {L : List Ac} {w : World} (h : Rf w B hp v bad L) (ok : ∀ a ∈ L, Okd bad a) (hlen : L.length ≤ 100000) :
    Calls Try.prog 12 #[.pointer (some ⟨hp, 0, none⟩)] w fun e w' => ∃ v', e = .returned v' ∧ w'.ownsRow w.heap.size 43 10 v' (rwTo L L.length).length (flat (rwTo L L.length)) ∧ Below w.heap.size w w' := by
  obtain ⟨ob, cap, rfl⟩ := h.slice
  have HF := Lib.hid h
  have CR := Lib.hid (fun (W : World) (hW : Rf W B hp (.slice ob L.length cap) bad L) (t : Tx) => rRow_any hW ok t hlen)
  clear h ok
  go_enter Try.func12, Try.ntmps12
  go_wp2_with fail
  go_loopw [3, 4] (fun lv i wr => ∃ (k : Nat) (o3 : Option Addr) (c3 : Nat), lv = .slice o3 (rwTo L k).length c3 ∧ i = .int .i64 (k : Int) ∧ k ≤ L.length ∧ Hid (wr.ownsRow w.heap.size 43 10 (.slice o3 (rwTo L k).length c3) (rwTo L k).length (flat (rwTo L k)) ∧ Below w.heap.size w wr)) (fun _ i _ => L.length - (intOf i).toNat)
  case atStart => exact ⟨0, none, 0, rfl, rfl, by omega, ⟨rfl, .inl ⟨rfl, rfl⟩⟩, Below.refl _ _⟩
  case round =>
    obtain ⟨k, o3, c3, rfl, rfl, hk, H⟩ := hrel
    obtain ⟨wo, rfl⟩ : ∃ wo, wo = wr := ⟨_, rfl⟩
    have g1 := cell_of_row _ _ 1 _ _ (0, 0) (HF.out.bel H.out.2).top
    simp only [List.getElem?_toArray, List.getElem?_cons_zero, List.getElem?_cons_succ] at g1
    by_cases hkl : k < L.length
    rotate_left
    · obtain rfl : k = L.length := by omega
      clear hk hkl CR
      go_wp2_with fail
      exact bodyPost_ret (results_tmp (t := 2) rfl _ _ _) rfl ⟨_, rfl, H.out.1, H.out.2⟩
    obtain ⟨ab, cap2, e2, hr2⟩ := own_act (HF.out.bel H.out.2).own hkl
    cases e2
    have HR := Lib.hid hr2
    have hx := hr2 k hkl
    have hs := rwTo_succ L k hkl
    have hln := rwTo_len L k
    have hin := isR_in hkl
    have CRk := CR.out
    clear hr2
    have HI0 := Lib.hid (fun (j : Nat) (hj : j < L.length) => (fR_succ L (L[k]).tx j hj).2)
    generalize htk : (L[k]).tx = t at hs hin HI0
    have x1 := hx 1 _ rfl
    have x2 := hx 2 _ rfl
    have x3 := hx 3 _ rfl
    rw [htk] at x1 x2 x3
    clear hx htk
    have HS := Lib.hid hs
    have HIN := Lib.hid hin
    clear hs hin CRk
    obtain ⟨c, e, s⟩ := t
    simp only at x1 x2 x3
    have kb : 0 ≤ (k : Int) ∧ (k : Int) < (L.length : Int) := by omega
    have kw : IntKind.i64.wrap ((k : Int) + 1) = (k : Int) + 1 := IntWalk.i64_in _ (by omega)
    generalize rwTo L k = R at H HS hln ⊢
    generalize hR1 : rwTo L (k + 1) = R1 at HS
    have HR1 := Lib.hid hR1
    clear hR1
    go_upto_region 7 with fail
    go_loopw [5, 6] (fun fv j wj => ∃ (n m : Nat) (fb : Bool), fv = .bool fb ∧ j = .int .i64 (n : Int) ∧ n ≤ k ∧ wj = wo.drewN m ∧ Hid (fb = !isR (L.take n) ⟨c, e, s⟩)) (fun _ j _ => k - (intOf j).toNat)
    case atStart => exact ⟨0, 0, true, rfl, rfl, by omega, rfl, by show _ = _; rw [isR_zero]; rfl⟩
    case round =>
      obtain ⟨n, m, fb, rfl, rfl, hn, hwj, hf⟩ := hrel
      have bj : Below wo.heap.size wo wr := by rw [hwj]; exact below_drewN (Below.refl _ wo) m
      have g2 := cell_kept bj g1
      have y1 := cell_kept bj x1
      have y2 := cell_kept bj x2
      have y3 := cell_kept bj x3
      have HW := Lib.hid hwj
      clear hwj
      by_cases hnk : n < k
      · have hnl : n < L.length := by omega
        have hz := HR.out n hnl
        have hi := HI0.out n hnl
        have z1 := cell_kept bj (hz 1 _ rfl)
        have z2 := cell_kept bj (hz 2 _ rfl)
        have z3 := cell_kept bj (hz 3 _ rfl)
        clear hz bj
        have nb : 0 ≤ (n : Int) ∧ (n : Int) < (L.length : Int) := by omega
        have nw : IntKind.i64.wrap ((n : Int) + 1) = (n : Int) + 1 := IntWalk.i64_in _ (by omega)
        generalize (L[n]).tx = u at hi z1 z2 z3
        have hdn := neq_tx u ⟨c, e, s⟩
        have ST : Hid ((!isR (L.take (n + 1)) ⟨c, e, s⟩) = (fb && !decide (u = ⟨c, e, s⟩))) := by
          show _ = _
          rw [hi, hf.out, Bool.not_or]
        clear hi hf
        generalize decide (u = (⟨c, e, s⟩ : Tx)) = db at hdn ST
        obtain ⟨cu, eu, su⟩ := u
        simp only [Tx.cells] at z1 z2 z3 hdn
        cases fb
        · go_upto_region 9 with fail
          go_quiet (fail)
          go_wp2_with fail
          go_roundw
          case rel => rw [HW.out]; exact ⟨n + 1, _, false, rfl, by go_num, by omega, drewN2 _ _ _, by show _ = _; rw [ST.out]; rfl⟩
          case measure => simp [intOf]; omega
        · go_upto_region 9 with fail
          go_quiet (fail)
          go_wp2_with fail
          go_roundw
          case rel => rw [HW.out]; exact ⟨n + 1, _, !db, rfl, by go_num, by omega, drewN2 _ _ _, by show _ = _; rw [ST.out]; rfl⟩
          case measure => simp [intOf]; omega
      · obtain rfl : n = k := by omega
        clear bj hn hnk HI0
        have ON := Lib.hid (ownsRow_same (W' := wr) H.out.1 (fun q hq => by rw [HW.out]; rfl))
        have BN : Hid (Below w.heap.size w wr) := by show Below _ _ _; rw [HW.out]; exact below_drewN H.out.2 m
        clear HW H
        cases fb
        · have EQ : Hid (R1 = R) := by
            have := HS.out
            rw [if_pos (by have := hf.out; simpa using this.symm)] at this
            exact this
          clear HS hf HIN CR
          go_wp2_with fail
          go_roundw
          case rel => exact ⟨n + 1, o3, c3, by rw [HR1.out, EQ.out], by go_num, by omega, by rw [HR1.out, EQ.out]; exact ⟨ON.out, BN.out⟩⟩
          case measure => simp [intOf]; omega
        have EQ : Hid (R1 = R ++ [fR L ⟨c, e, s⟩]) := by
          have := HS.out
          rw [if_neg (by have := hf.out; simpa using this.symm)] at this
          exact this
        have HF2 := Lib.hid (HF.out.bel BN.out)
        have CRt := Lib.hid (fun (W : World) hW => CR.out W hW ⟨c, e, s⟩)
        rw [HIN.out, rv_same.1 HIN.out] at CRt
        simp only [Tx.cells] at CRt
        clear HS hf HIN CR
        generalize fR L ⟨c, e, s⟩ = r at CRt EQ
        obtain ⟨⟨tc, te, ts⟩, b1, o1, v1, q1, d1, m1, l1⟩ := r
        simp only [Rw.cells] at CRt
        go_upto_region 12 with (go_at_call 19; (with_reducible refine (CRt.out _ HF2.out).mono ?_); rintro r3 W3 ⟨rfl, hb⟩; have O3 := Lib.hid (ownsRow_same (W' := W3) ON.out (fun q hq => hb.block q (own_range ON.out q hq).2)); have B3 := Lib.hid (below_acc BN.out hb); clear hb)
        clear g1 g2 x1 x2 x3 y1 y2 y3 CRt HF2 ON BN
        have b4 := (Below.refl W3.heap.size W3).alloc (Nat.le_refl _) (.cells #[.int .i64 tc, .int .i64 te, .int .i64 ts, .bool b1, .int .u8 (o1 : Int), .int .u8 (v1 : Int), .int .u8 (q1 : Int), .bool d1, .bool m1, .int .u8 (l1 : Int)] 43 (0, 0))
        have O4 := Lib.hid (ownsRow_same (W' := W3.alloc (.cells #[.int .i64 tc, .int .i64 te, .int .i64 ts, .bool b1, .int .u8 (o1 : Int), .int .u8 (v1 : Int), .int .u8 (q1 : Int), .bool d1, .bool m1, .int .u8 (l1 : Int)] 43 (0, 0))) O3.out (fun q hq => b4.block q (own_range O3.out q hq).2))
        have B4 := Lib.hid (below_acc B3.out b4)
        have p4 := heap_alloc_new W3 (.cells #[.int .i64 tc, .int .i64 te, .int .i64 ts, .bool b1, .int .u8 (o1 : Int), .int .u8 (v1 : Int), .int .u8 (q1 : Int), .bool d1, .bool m1, .int .u8 (l1 : Int)] 43 (0, 0))
        have P4 := Lib.hid p4
        clear b4 p4 O3 B3
        generalize W3.alloc (.cells #[.int .i64 tc, .int .i64 te, .int .i64 ts, .bool b1, .int .u8 (o1 : Int), .int .u8 (v1 : Int), .int .u8 (q1 : Int), .bool d1, .bool m1, .int .u8 (l1 : Int)] 43 (0, 0)) = W4 at O4 B4 P4 ⊢
        generalize W3.heap.size = rb at P4 ⊢
        have O5 : Hid ((W4.alloc (.cells #[.int .i64 tc, .int .i64 te, .int .i64 ts, .bool b1, .int .u8 (o1 : Int), .int .u8 (v1 : Int), .int .u8 (q1 : Int), .bool d1, .bool m1, .int .u8 (l1 : Int)] 43 (0, 0))).ownsRow w.heap.size 43 10 (.slice o3 R.length c3) R.length (flat R)) := ownsRow_same O4.out fun q hq => Below.heap_alloc W4 _ q (own_range O4.out q hq).2
        have B5 : Hid (Below w.heap.size w (W4.alloc (.cells #[.int .i64 tc, .int .i64 te, .int .i64 ts, .bool b1, .int .u8 (o1 : Int), .int .u8 (v1 : Int), .int .u8 (q1 : Int), .bool d1, .bool m1, .int .u8 (l1 : Int)] 43 (0, 0)))) := B4.out.alloc B4.out.size _
        have NW : Hid (∀ j u, (Rw.cells ⟨⟨tc, te, ts⟩, b1, o1, v1, q1, d1, m1, l1⟩)[j]? = some u → (W4.alloc (.cells #[.int .i64 tc, .int .i64 te, .int .i64 ts, .bool b1, .int .u8 (o1 : Int), .int .u8 (v1 : Int), .int .u8 (q1 : Int), .bool d1, .bool m1, .int .u8 (l1 : Int)] 43 (0, 0))).cell? ((⟨W4.heap.size, 0, none⟩ : Addr).add j) = some u) := by
          intro j u hu
          rw [Addr.add_mid, Nat.zero_add]
          refine (cell_of_row _ _ j _ _ (0, 0) (heap_alloc_new W4 _)).trans ?_
          rw [← hu]
          simp [Rw.cells]
        have hB4 := B4.out.size
        go_wp2_with (first
          | (refine wpList_load_row rfl 43 _ rfl rb (by rfl) 43 _ (0, 0) _ P4.out Try.underlying43 rfl (size_rw ⟨⟨tc, te, ts⟩, b1, o1, v1, q1, d1, m1, l1⟩) ?_)
          | (refine wpList_append_rows rfl _ _ rfl w.heap.size _ R.length (flat R) (by rfl) O5.out (by simp; omega) ⟨W4.heap.size, 0, none⟩ 1 1 (Rw.cells ⟨⟨tc, te, ts⟩, b1, o1, v1, q1, d1, m1, l1⟩) (by rfl) (by rfl) NW.out (fun u hu => flat_one [⟨⟨tc, te, ts⟩, b1, o1, v1, q1, d1, m1, l1⟩] u (by simpa [flat] using hu)) (by omega) ?_; intro v6 W6 OW6 G6 OB6; obtain ⟨o6, c6, rfl⟩ := own_slice OW6; have O6 := Lib.hid OW6; have B6 := Lib.hid (B5.out.grown G6 B5.out.size (fun r e => (own_range O5.out r e).1)); clear OW6 G6 OB6))
        have LN : Hid ((rwTo L (n + 1)).length = R.length + 1 ∧ flat (rwTo L (n + 1)) = flat R ++ Rw.cells ⟨⟨tc, te, ts⟩, b1, o1, v1, q1, d1, m1, l1⟩) := by
          rw [HR1.out, EQ.out]
          exact ⟨by simp, by rw [flat_app]; simp [flat]⟩
        go_roundw
        case rel => exact ⟨n + 1, o6, c6, by rw [LN.out.1], by go_num, by omega, by rw [LN.out.1, LN.out.2]; exact ⟨O6.out, B6.out⟩⟩
        case measure => simp [intOf]; omega
end Go.Proofs.Ythdmjeoldnehcaa
