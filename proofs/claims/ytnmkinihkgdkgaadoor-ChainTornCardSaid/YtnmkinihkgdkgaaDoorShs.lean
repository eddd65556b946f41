/- The walks of the reference's Padded, Sum and Hex. Condition: sizes that a machine has. -/
import Derived.Test.YtnmkinihkgdkgaaDoorShk
import Derived.Test.YtnmkinihkgdkgaaDoorByt
namespace Go.Proofs.YtnmkinihkgdkgaaDoor
open Go.RowKit
set_option linter.unusedVariables false

theorem be8_take (N q : Nat) (h : q < 8) : (be8 N).take (q + 1) = (be8 N).take q ++ [byt (be8 N) q] := by
  have hl : q < (be8 N).length := by rw [be8_len]; exact h
  rw [List.take_succ_eq_append_getElem hl, byt_getElem _ _ hl]
theorem padd_eq (s : List UInt8) : padd s = s ++ [128] ++ List.replicate (padz s.length) 0 ++ be8 (8 * s.length) := by unfold padd; rfl
def vlen : Value → Nat
  | .slice _ n _ => n
  | _ => 0
theorem byte_shift (N k : Nat) (hk : k < 8) : IntKind.u8.wrap ((N : Int) / 2 ^ (8 * (7 - k))) = ((byt (be8 N) k).toNat : Int) := by
  have h : byt (be8 N) k = UInt8.ofNat (N / 2 ^ (8 * (7 - k))) := be8_byt N k hk
  rw [h, IntKind.wrap_u8', UInt8.toNat_ofNat']
  simp

set_option maxRecDepth 100000 in
set_option maxHeartbeats 4000000 in
theorem Padded_any (s : List UInt8) (hs : s.length ≤ 1099511627776) (w : World) :
    Calls Tryd.prog 31 #[str s] w fun e w' => e = .returned (str (padd s)) ∧ Below w.heap.size w w' := by
  go_enter Tryd.func31, Tryd.ntmps31
  go_wp2_with (first
    | (refine wpList_conv_bytes rfl _ (by rfl) s (by rfl) (by omega) ?_; intro c w1 hT hb hsz; have hz := Lib.hid hsz; clear hsz)
    | (refine wpList_append_bys rfl _ _ (by rfl) w.heap.size _ s (by rfl) (hT.alloc _) (by have := hb.size; simp; omega) ⟨w1.heap.size, 0, none⟩ 1 1 [128] (by rfl) rfl (new_bytes w1 [128] (0, 0)) (by omega) ?_; intro v w2 hT2 hb2))
  have B2 : Below w.heap.size w w2 := (hb.alloc hb.size _).trans hb2
  have T2 := Lib.hid hT2
  clear hT hb hb2 hT2
  obtain ⟨g0, n0, c0, rfl, hn0⟩ := T2.out.shape2 (by simp)
  go_loopw [3] (fun v wr => ∃ k n g cap : Nat, v = .slice (some ⟨g, 0, none⟩) n cap ∧ k ≤ padz s.length ∧ Hid (n = s.length + 1 + k) ∧ Hid (ByS wr w.heap.size v (s ++ [128] ++ List.replicate k 0)) ∧ Below w.heap.size w wr) (fun v wr => s.length + 65 - vlen v)
  case atStart => exact ⟨0, n0, g0, c0, rfl, Nat.zero_le _, by have := hn0.out; simp at this; exact this, by simpa [Hid] using T2.out, B2⟩
  case round =>
    clear B2
    obtain ⟨k, n, g, cap, rfl, hk, hn, hT, hB⟩ := hrel
    have hpz : padz s.length < 64 := by unfold padz; omega
    by_cases hk2 : k < padz s.length
    · have d1 : ((n : Int) % 64 != 56) = true := by
        have := hn.out
        unfold padz at hk2
        simp; omega
      have hn1 : n ≤ 1099511627900 := by have := hn.out; omega
      have hn2 : s.length + 1 + k ≤ n := by have := hn.out; omega
      have HB := Lib.hid hB
      clear hB T2
      go_wp2_with (refine wpList_append_bys rfl _ _ (by rfl) w.heap.size _ (s ++ [128] ++ List.replicate k 0) (by rfl) (hT.out.alloc _) (by have := HB.out.size; simp; omega) ⟨wr.heap.size, 0, none⟩ 1 1 [0] (by rfl) rfl (new_bytes wr [0] (0, 0)) (by simp; omega) ?_; intro v w3 hT3 hb3; obtain ⟨g3, n3, c3, rfl, hn3⟩ := hT3.shape2 (by simp; omega); have T3 := Lib.hid hT3; have B3 := Lib.hid ((HB.out.alloc HB.out.size _).trans hb3); clear hT3 hb3)
      refine ⟨⟨k + 1, n3, g3, c3, rfl, by omega, ?_, ?_, B3.out⟩, ?_⟩
      · have := hn3.out; simp at this; show n3 = _; omega
      · have := T3.out
        rw [List.append_assoc, ← List.replicate_succ'] at this
        exact this
      · have h1 := hn3.out
        have h2 := hn.out
        simp at h1
        simp [vlen]; omega
    · have E := Lib.hid (show k = padz s.length by omega)
      have d1 : ((n : Int) % 64 != 56) = false := by
        have := hn.out
        have := E.out
        unfold padz at this
        simp; omega
      have HB := Lib.hid hB
      clear hB T2 hk2
      go_wp2_with fail
      go_loopw [3, 5] (fun v i wr => ∃ q n g cap : Nat, v = .slice (some ⟨g, 0, none⟩) n cap ∧ i = .int .i64 (7 - (q : Int)) ∧ q ≤ 8 ∧ Hid (n = s.length + 1 + padz s.length + q) ∧ Hid (ByS wr w.heap.size v (s ++ [128] ++ List.replicate (padz s.length) 0 ++ (be8 (8 * s.length)).take q)) ∧ Below w.heap.size w wr) (fun _ i _ => (intOf i + 1).toNat)
      case atStart => exact ⟨0, n, g, cap, rfl, rfl, by omega, by have := hn.out; have := E.out; show n = _; omega, by have := hT.out; rw [E.out] at this; simpa [Hid] using this, HB.out⟩
      case round =>
        clear HB hT hn E d1
        obtain ⟨q, n, g, cap, rfl, rfl, hq, hn, hT, hB⟩ := hrel
        by_cases hq8 : q < 8
        · have x1 := byte_shift (8 * s.length) q hq8
          rw [show ((8 * s.length : Nat) : Int) = 8 * (s.length : Int) by omega] at x1
          have x2 : (8 * (7 - (q : Int))).toNat = 8 * (7 - q) := by omega
          have x3 : (0 : Int) ≤ 7 - (q : Int) := by omega
          have x4 : 8 * (7 - (q : Int)) ≤ 56 := by omega
          have hn1 : n ≤ 1099511627900 := by have := hn.out; omega
          have hn2 : s.length + 1 + padz s.length + q ≤ n := by have := hn.out; omega
          have HB := Lib.hid hB
          clear hB
          go_wp2_with (refine wpList_append_bys rfl _ _ (by rfl) w.heap.size _ (s ++ [128] ++ List.replicate (padz s.length) 0 ++ (be8 (8 * s.length)).take q) (by rfl) (hT.out.alloc _) (by have := HB.out.size; simp; omega) ⟨wr.heap.size, 0, none⟩ 1 1 [byt (be8 (8 * s.length)) q] (by rfl) rfl (new_bytes wr [byt (be8 (8 * s.length)) q] (0, 0)) (by simp [be8_len]; omega) ?_; intro v w3 hT3 hb3; obtain ⟨g3, n3, c3, rfl, hn3⟩ := hT3.shape2 (by simp; omega); have T3 := Lib.hid hT3; have B3 := Lib.hid ((HB.out.alloc HB.out.size _).trans hb3); clear hT3 hb3)
          refine ⟨⟨q + 1, n3, g3, c3, rfl, by congr 1; omega, by omega, ?_, ?_, B3.out⟩, by simp [intOf]; omega⟩
          · have := hn3.out; simp [be8_len] at this; show n3 = _; omega
          · have := T3.out
            rw [List.append_assoc, ← be8_take _ _ hq8] at this
            exact this
        · obtain rfl : q = 8 := by omega
          have cv := conv_bys hT.out
          rw [List.take_of_length_le (by rw [be8_len]; exact Nat.le_refl _)] at cv
          rw [← padd_eq] at cv
          have HB := Lib.hid hB
          clear hB hT hn
          go_wp2_with fail
          go_ret
          exact ⟨rfl, HB.out⟩

theorem cell_up {B i : Nat} {W W' : World} {v : Value} (hb : Below (B + 1) W W') (h : W.cell? ⟨B, i, none⟩ = some v) : W'.cell? ⟨B, i, none⟩ = some v := (hb.cell (p := ⟨B, i, none⟩) (Nat.lt_succ_self _)).trans h
def outl (l : List UInt32) : List UInt8 := (l.map be4).flatten
theorem outl_snoc (l : List UInt32) (i : Nat) (h : i < l.length) : outl (l.take (i + 1)) = outl (l.take i) ++ be4 (wat l i) := by
  rw [List.take_succ_eq_append_getElem h, wat_getElem l i h]
  simp [outl]
theorem out_eq (s : St8) : out s = outl s.list := by unfold out outl St8.list; simp
theorem outl_len (l : List UInt32) : (outl l).length = 4 * l.length := by
  induction l with
  | nil => rfl
  | cons x r ih =>
    have : outl (x :: r) = be4 x ++ outl r := by simp [outl]
    rw [this, List.length_append, ih]; simp [be4]; omega
theorem init_list : init.list = [1779033703, 3144134277, 1013904242, 2773480762, 1359893119, 2600822924, 528734635, 1541459225] := by unfold init; rfl
theorem hs_zero (p : List UInt8) : hs p 0 = init := by unfold hs; rfl
theorem hs_succ (p : List UInt8) (n : Nat) : hs p (n + 1) = tk (hs p n) ((p.drop (64 * n)).take 64) := by rw [hs]
theorem sum_eq (s : List UInt8) : sum s = out (hs (padd s) ((padd s).length / 64)) := by unfold sum; rfl

set_option maxRecDepth 100000 in
set_option maxHeartbeats 4000000 in
theorem refSum_any (s : List UInt8) (hs' : s.length ≤ 1099511627776) (w : World) :
    Calls Tryd.prog 22 #[str s] w fun e w' => e = .returned (str (sum s)) ∧ Below w.heap.size w w' := by
  have CP := Lib.hid (Padded_any s hs' w)
  obtain ⟨p1, p2⟩ := padd_len s
  have HP : Hid ((padd s).length = 64 * ((padd s).length / 64)) := by show _ = _; omega
  have hp3 : (padd s).length ≤ 1099511627900 := by unfold padz at p1; omega
  clear p1 p2
  rw [sum_eq, out_eq]
  generalize (padd s).length / 64 = N at HP
  generalize padd s = p at CP HP hp3
  have A0 : ∀ W : World, Hid (Arr (W.alloc (.cells (init.list.map wv).toArray 57)) W.heap.size 57 init.list) := fun W => heap_alloc_new W _
  go_enter Tryd.func22, Tryd.ntmps22
  go_wp2_with fail
  refine CP.out.mono ?_
  rintro e w1 ⟨rfl, B1⟩
  go_wp2_with fail
  have B2 : Below w.heap.size w (w1.alloc (.cells (init.list.map wv).toArray 57)) := B1.alloc B1.size _
  rw [init_list] at B2
  go_loopw [5] (fun i wr => ∃ k q : Nat, k ≤ N ∧ i = .int .i64 (q : Int) ∧ Hid (q = 64 * k) ∧ Arr wr w1.heap.size 57 (hs p k).list ∧ Below w.heap.size w wr) (fun i _ => p.length - (intOf i).toNat)
  case atStart => exact ⟨0, 0, Nat.zero_le _, rfl, rfl, by rw [hs_zero]; have := (A0 w1).out; rw [init_list] at this ⊢; exact this, B2⟩
  case round =>
    clear B2 A0
    obtain ⟨k, q, hk, rfl, hq, hA, hB⟩ := hrel
    by_cases hkN : k < N
    · have hpl := HP.out
      have hqe := hq.out
      have z1 : (0 : Int) ≤ (q : Int) := by omega
      have z2 : (q : Int) + 64 ≤ (p.length : Int) := by omega
      have z3 : (q : Int) < (p.length : Int) := by omega
      have z4 : ((q : Int) + 64).toNat = q + 64 := by omega
      have z6 : IntKind.i64.wrap ((q : Int) + 64) = (q : Int) + 64 := IntWalk.i64_in _ (by omega)
      have z7 : (q : Int) ≤ (q : Int) + 64 := by omega
      have hlen : ((p.drop (64 * k)).take 64).length = 64 := by rw [List.length_take, List.length_drop]; omega
      have z5 : (p.take (q + 64)).drop q = (p.drop (64 * k)).take 64 := by rw [List.drop_take, hqe]; congr 1; omega
      clear hqe
      obtain ⟨c0, c1, c2, c3, c4, c5, c6, c7⟩ := st_cells hA
      have HA := Lib.hid hA
      have HB := Lib.hid hB
      have HL := Lib.hid hlen
      have HS := Lib.hid (hs_succ p k)
      clear hA hB hlen hpl
      go_wp2_with fail
      go_still_tail 6, (by kernel_rfl)
      change wpList _ _ _ _ _ wr.drew
      have HA2 : Hid (Arr wr.drew w1.heap.size 57 (hs p k).list ∧ Below w.heap.size w wr.drew ∧ w.heap.size ≤ w1.heap.size) := ⟨HA.out.heap rfl, HB.out.drew, B1.size⟩
      clear c0 c1 c2 c3 c4 c5 c6 c7 HA HB
      generalize wr.drew = w4 at HA2 ⊢
      have CT := Lib.hid (took_any (hs p k) ((p.drop (64 * k)).take 64) HL.out w4)
      go_wp2_with (first
        | (go_at_call 32; refine CT.out.mono ?_; rintro e w3 ⟨rfl, hb3⟩; have HA3 : Hid (Arr w3 w1.heap.size 57 (hs p k).list ∧ Below w.heap.size w w3) := ⟨HA2.out.1.below hb3 HA2.out.1.lt, below_acc HA2.out.2.1 hb3⟩; clear hb3 CT)
        | (refine wpList_store_put rfl 57 _ _ (by rfl) w1.heap.size ((tk (hs p k) ((p.drop (64 * k)).take 64)).list.map wv).toArray (by rfl) (by rfl) 57 ((hs p k).list.map wv).toArray HA3.out.1 (size35 _ rfl) (by simp [St8.list]) (one_wv _) ?_; intro W5 P5))
      refine ⟨⟨k + 1, q + 64, by omega, by go_num, by have := hq.out; show q + 64 = _; omega, by rw [HS.out]; exact P5.new, P5.below HA3.out.2 HA2.out.2.2⟩, by simp [intOf]; omega⟩
    · have E : Hid (k = N) := by show k = N; omega
      have hge : (p.length : Int) ≤ (q : Int) := by have := hq.out; have := HP.out; have := E.out; omega
      have HA : Hid (Arr wr w1.heap.size 57 (hs p N).list ∧ Below w.heap.size w wr) := ⟨by rw [← E.out]; exact hA, hB⟩
      have hdec : decide (q < p.length) = false := by simp; omega
      clear hA hB
      go_wp2_with fail
      go_loopw [6, 7] (fun v i wr => ∃ i' : Nat, i' ≤ 8 ∧ i = .int .i64 (i' : Int) ∧ Hid (ByS wr (w1.heap.size + 1) v (outl ((hs p N).list.take i'))) ∧ Arr wr w1.heap.size 57 (hs p N).list ∧ Below w.heap.size w wr) (fun _ i _ => 8 - (intOf i).toNat)
      case atStart => exact ⟨0, by omega, rfl, ByS.nil _ _, HA.out⟩
      case round =>
        clear HA
        obtain ⟨i, hi, rfl, hT, hA, hB⟩ := hrel
        by_cases hi8 : i < 8
        · have hil : i < (hs p N).list.length := by show i < 8; omega
          have c0 := hA.cell i hil
          have z1 : (0 : Int) ≤ (i : Int) := by omega
          have z2 : (i : Int) < 8 := by omega
          have HO := Lib.hid (outl_snoc (hs p N).list i hil)
          have HQ : Hid (Arr wr w1.heap.size 57 (hs p N).list ∧ Below w.heap.size w wr ∧ w1.heap.size + 1 ≤ wr.heap.size ∧ w.heap.size ≤ w1.heap.size ∧ (outl ((hs p N).list.take i)).length ≤ 64) := ⟨hA, hB, hA.lt, B1.size, by rw [outl_len, List.length_take]; show 4 * min i 8 ≤ 64; omega⟩
          clear hA hB
          generalize wat (hs p N).list i = x at c0 HO
          go_wp2_with fail
          go_region_held3 (fun w' => w'.cell? ⟨w1.heap.size, i, none⟩ = some (wv x)) (first | exact c0 | assumption | (apply cell_up <;> assumption) | go_keep)
            ((refine step_append_bys (by rfl) _ _ (by rfl) (w1.heap.size + 1) _ (outl ((hs p N).list.take i)) (by rfl) ((hT.out.alloc _).heap (by rfl)) (by have := HQ.out.2.2.1; simp; omega) ⟨wr.heap.size, 0, none⟩ 4 4 (be4 x) (by rfl) rfl (new_bytes wr (be4 x) (0, 0)) (by have := HQ.out.2.2.2.2; omega) ?_; intro v3 w3 hT3 hb3))
          rename_i hHeld
          have HF : Hid (Arr w3 w1.heap.size 57 (hs p N).list ∧ Below w.heap.size w w3) := by
            obtain ⟨q1, q2, q3, q4, q5⟩ := HQ.out
            have hb4 : Below (w1.heap.size + 1) wr w3 := ((Below.refl _ wr).alloc q3 _).trans (((Below.refl _ _).drew).trans hb3)
            exact ⟨q1.below hb4 (Nat.lt_succ_self _), q2.trans (hb4.mono (by omega))⟩
          have T3 := Lib.hid hT3
          clear hb3 hT3 hHeld c0
          go_wp2_with fail
          go_roundw
          case rel => exact ⟨i + 1, by omega, by go_num, by rw [HO.out]; exact T3.out, HF.out⟩
          case measure => simp [intOf]; omega
        · obtain rfl : i = 8 := by omega
          have cv := conv_bys hT.out
          have hfull : (hs p N).list.take 8 = (hs p N).list := rfl
          rw [hfull] at cv
          have HB := Lib.hid hB
          clear hB hA hT hfull
          go_wp2_with fail
          go_ret
          exact ⟨rfl, HB.out⟩
end Go.Proofs.YtnmkinihkgdkgaaDoor
