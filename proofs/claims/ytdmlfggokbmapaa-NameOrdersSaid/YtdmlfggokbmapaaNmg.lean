/- The walks of name's first, Check, Script. Condition: sizes that a machine has. -/
import Derived.Test.YtdmlfggokbmapaaNmf
import Derived.WalkMore
namespace Go.Proofs.Ytdmlfggokbmapaa
open Go.RowKit
set_option linter.unusedVariables false
set_option linter.unusedSimpArgs false

theorem edge_more {l : List UInt8} (h : l ≠ []) : edge l = (l.getD 0 0 == 45 || l.getD (l.length - 1) 0 == 45) := by
  cases l with
  | nil => exact absurd rfl h
  | cons x r => simp [edge]

theorem first_leave {l : List UInt8} {w W : World} {tmps : Array Value} {a b : Nat} (h2 : tmps.getD 2 undef = .int .u8 (a : Int)) (h3 : tmps.getD 3 undef = .int .i64 (b : Int)) (hb : Below w.heap.size w W) (he : firstP l = (a, b)) :
    bodyPost Try.prog Try.f23 (fun e w' => e = .returned (.tuple #[.int .u8 ((firstP l).1 : Int), .int .i64 ((firstP l).2 : Int)]) ∧ Below w.heap.size w w') .ret { tmps := tmps, defers := [] } W := by
  refine bodyPost_ret (results_tmp2 rfl _ _ _) rfl ⟨?_, hb⟩
  rw [h2, h3, he]
/-- A string's byte. -/
theorem run_index_str (l : List UInt8) (k : Nat) (z : Int) (hz : z = (k : Int)) (h : k < l.length) (W : World) :
    (Instr.index 9 (str l) (.int .i64 z)).run Try.prog W = .ok (.int .u8 ((l.getD k 0).toNat : Int)) W := by
  subst hz
  rw [run_index_string W 9 _ _ _ Try.underlying9, dif_pos ⟨by omega, by simpa [ByteArray.size] using h⟩]
  have : l.getD k 0 = l[k] := by simp [List.getD_eq_getElem?_getD, List.getElem?_eq_getElem h]
  rw [this]
  rfl

set_option maxRecDepth 100000 in
set_option maxHeartbeats 8000000 in
theorem first_any (l : List UInt8) (hl : l.length ≤ 9223372036854775807) (w : World) :
    Calls Try.prog 23 #[str l] w fun e w' => e = .returned (.tuple #[.int .u8 ((firstP l).1 : Int), .int .i64 ((firstP l).2 : Int)]) ∧ Below w.heap.size w w' := by
  have CR := Lib.hid (fun W => runeCount_any l hl W)
  by_cases q1 : 24 < (rn l).length
  · have e1 : firstP l = (0, 5) := by rw [firstP, if_pos q1]
    have d1 : decide ((24 : Int) < ((rn l).length : Int)) = true := by simp; omega
    have E1 := Lib.hid e1
    generalize (rn l).length = n at CR d1
    clear e1 q1
    go_enter Try.func23, Try.ntmps23
    go_wp2_with fail
    go_step3
    go_wp2_with (go_at_call 31; (with_reducible refine (CR.out _).mono ?_); rintro e w1 ⟨rfl, hb⟩)
    exact first_leave rfl rfl hb E1.out
  have d1 : decide ((24 : Int) < ((rn l).length : Int)) = false := by simp; omega
  by_cases q2 : edge l = true
  · have e1 : firstP l = (0, 7) := by rw [firstP, if_neg q1, if_pos q2]
    have E1 := Lib.hid e1
    clear e1 q1
    generalize (rn l).length = n at CR d1
    by_cases q3 : l = []
    · subst q3
      go_enter Try.func23, Try.ntmps23
      go_wp2_with fail
      go_step3
      go_wp2_with (go_at_call 31; (refine (CR.out _).mono ?_); rintro e w1 ⟨rfl, hb⟩)
      exact first_leave rfl rfl hb E1.out
    · rw [edge_more q3] at q2
      have hp : 0 < l.length := List.length_pos_iff.2 q3
      have i0 := run_index_str l 0 0 rfl hp
      have i1 := run_index_str l (l.length - 1) ((l.length : Int) - 1) (by omega) (by omega)
      have w0 : IntKind.i64.wrap ((l.length : Int) - 1) = (l.length : Int) - 1 := IntWalk.i64_in _ (by omega)
      have kb : 0 ≤ (l.length : Int) - 1 ∧ (l.length : Int) - 1 < (l.length : Int) := by omega
      have hie : l.isEmpty = false := by simpa using q3
      have hle : (l == []) = false := by simpa using q3
      generalize l.getD 0 0 = x at i0 q2
      generalize l.getD (l.length - 1) 0 = y at i1 q2
      by_cases hx : x = 45
      · subst hx
        clear q2 i1
        go_enter Try.func23, Try.ntmps23
        go_wp2_with fail
        go_step3
        go_wp2_with (go_at_call 31; (with_reducible refine (CR.out _).mono ?_); rintro e w1 ⟨rfl, hb⟩)
        exact first_leave rfl rfl hb E1.out
      · have hy : y = 45 := by simpa [hx] using q2
        subst hy
        have dx : ((x.toNat : Int) == 45) = false := by
          rw [beq_eq_false_iff_ne]; intro h; apply hx; apply UInt8.toNat_inj.1; simpa using (by omega : x.toNat = 45)
        have dx2 : ¬ x.toNat = 45 := by
          intro h; apply hx; apply UInt8.toNat_inj.1; simpa using h
        clear q2 hx
        generalize x.toNat = xn at i0 dx dx2
        go_enter Try.func23, Try.ntmps23
        go_wp2_with fail
        go_step3
        go_wp2_with (go_at_call 31; (with_reducible refine (CR.out _).mono ?_); rintro e w1 ⟨rfl, hb⟩)
        exact first_leave rfl rfl hb E1.out
  · have e1 : firstP l = if (fs (rn l) 0 0).2 ≠ 0 then (0, (fs (rn l) 0 0).2) else ((fs (rn l) 0 0).1, 0) := by rw [firstP, if_neg q1, if_neg q2]
    have q3 : l ≠ [] := by rintro rfl; exact q2 rfl
    rw [edge_more q3] at q2
    have hp : 0 < l.length := List.length_pos_iff.2 q3
    have i0 := run_index_str l 0 0 rfl hp
    have i1 := run_index_str l (l.length - 1) ((l.length : Int) - 1) (by omega) (by omega)
    have w0 : IntKind.i64.wrap ((l.length : Int) - 1) = (l.length : Int) - 1 := IntWalk.i64_in _ (by omega)
    have kb : 0 ≤ (l.length : Int) - 1 ∧ (l.length : Int) - 1 < (l.length : Int) := by omega
    have hie : l.isEmpty = false := by simpa using q3
    have hle : (l == []) = false := by simpa using q3
    generalize l.getD 0 0 = x at i0 q2
    generalize l.getD (l.length - 1) 0 = y at i1 q2
    have dd : ∀ z : UInt8, z ≠ 45 → ((z.toNat : Int) == 45) = false ∧ ¬ z.toNat = 45 := by
      intro z hz
      have : ¬ z.toNat = 45 := fun h => hz (UInt8.toNat_inj.1 (by simpa using h))
      exact ⟨by rw [beq_eq_false_iff_ne]; omega, this⟩
    simp only [Bool.or_eq_true, beq_iff_eq, not_or] at q2
    obtain ⟨dx, dx2⟩ := dd x q2.1
    obtain ⟨dy, dy2⟩ := dd y q2.2
    clear q2 dd q1
    generalize x.toNat = xn at i0 dx dx2
    generalize y.toNat = yn at i1 dy dy2
    generalize hQ : fs (rn l) 0 0 = Q at e1
    have E1 := Lib.hid e1
    have HQ : Hid (fs (rnAt (ba l) 0) 0 0 = Q) := hQ
    clear e1 hQ
    generalize (rn l).length = n at CR d1
    have hz := ba_size l
    go_enter Try.func23, Try.ntmps23
    go_wp2_with fail
    go_step3
    go_wp2_with (go_at_call 31; (with_reducible refine (CR.out _).mono ?_); rintro e w1 ⟨rfl, hb⟩)
    clear CR i0 i1 dx dx2 dy dy2 d1 w0 kb hle hie q3 hp
    go_step3
    go_wp2_with fail
    have I0 : Hid ((w1.iter (ba l) 0).heap[w1.heap.size]? = some (.stringIter (ba l) 0) ∧ Below w.heap.size w (w1.iter (ba l) 0) ∧ w.heap.size ≤ w1.heap.size) := ⟨World.iter_heap _ _ _, hb.alloc hb.size _, hb.size⟩
    show Code.wp _ _ _ _ (w1.iter (ba l) 0)
    generalize w1.iter (ba l) 0 = W0 at I0 ⊢
    generalize w1.heap.size = g at I0 ⊢
    clear hb
    go_loopw [2, 3] (fun sc e wr => ∃ c f p : Nat, sc = .int .u8 (c : Int) ∧ e = .int .i64 (f : Int) ∧ c ≤ 3 ∧ (f = 0 ∨ f = 50) ∧ Hid (fs (rnAt (ba l) p) c f = Q ∧ wr.heap[g]? = some (.stringIter (ba l) p) ∧ Below w.heap.size w wr ∧ w.heap.size ≤ g)) (fun _ _ wr => l.length - wr.iterPos g)
    case atStart => exact ⟨0, 0, 0, rfl, rfl, by omega, .inl rfl, HQ.out, I0.out⟩
    case round =>
      clear I0 HQ
      obtain ⟨c, f, p, rfl, rfl, hc3, hf, hI⟩ := hrel
      have hip := Lib.hid (iterPos_at hI.out.2.1)
      by_cases hp : p < (ba l).size
      · have nx := next_more wr _ _ _ hI.out.2.1 hp
        have hm := rnAt_more (ba l) p hp
        have hwd := Lib.decode_width_pos (ba l) p hp
        have hdl := decode_range (ba l) p
        have H2 := hI.out
        rw [hm] at H2
        have I2 : Hid ((wr.iterAt g (ba l) (p + (Utf8.decode (ba l) p).2)).heap[g]? = some (.stringIter (ba l) (p + (Utf8.decode (ba l) p).2)) ∧ Below w.heap.size w (wr.iterAt g (ba l) (p + (Utf8.decode (ba l) p).2))) :=
          ⟨Lib.iterAt_heap _ _ _ _ _ H2.2.1, Lib.below_iterAt H2.2.2.1 H2.2.2.2 _ _⟩
        have HF := Lib.hid H2.1
        have HG := Lib.hid H2.2.2.2
        clear hm hI H2
        generalize hd : Utf8.decode (ba l) p = d at nx I2 HF hwd hdl
        obtain ⟨r0, wd⟩ := d
        simp only at nx I2 HF hwd hdl
        have hr0 : 0 ≤ (r0 : Int) ∧ (r0 : Int) ≤ 2147483647 := by omega
        generalize (r0 : Int) = r at nx HF hr0
        generalize wr.iterAt g (ba l) (p + wd) = W2 at nx I2
        clear hdl hd
        have CO := Lib.hid (fun W => of_any r hr0.1 hr0.2 W)
        have BI : Hid (∀ W', Below W2.heap.size W2 W' → W'.heap[g]? = some (.stringIter (ba l) (p + wd)) ∧ Below w.heap.size w W') := fun W' hb => ⟨(hb.block _ (Array.getElem?_eq_some_iff.1 I2.out.1).1).trans I2.out.1, below_acc I2.out.2 hb⟩
        have MS : Hid (∀ W' : World, W'.heap[g]? = some (.stringIter (ba l) (p + wd)) → l.length - W'.iterPos g < l.length - wr.iterPos g) := fun W' h => by
          have := iterPos_at h; have := hip.out; omega
        clear I2 hip
        have hk3 := kd_le r
        by_cases hb : bad r = true
        · have hQ : Q = (c, 7) := by rw [← HF.out, fs, if_pos hb]
          unfold bad at hb
          simp only [Bool.and_eq_true, Bool.or_eq_true, beq_iff_eq, bne_iff_ne, decide_eq_true_eq] at hb
          obtain ⟨hk0, hr45, hrr⟩ := hb
          rw [hk0] at CO
          have E2 : Hid (firstP l = (0, 7)) := by rw [E1.out, hQ]; rfl
          clear HF hQ hk0 MS E1
          have d45 : (r != 45) = true := by simpa using hr45
          rcases hrr with hlo | hhi
          · have d48 : decide (r < 48) = true := by simpa using hlo
            go_wp2_with (go_at_call 32; (with_reducible refine (CO.out _).mono ?_); rintro e w3 ⟨rfl, hb3⟩; have B3 := Lib.hid (BI.out _ hb3).2; clear hb3)
            exact first_leave rfl rfl B3.out E2.out
          · have d48 : decide (r < 48) = false := by simp; omega
            have d57 : decide (57 < r) = true := by simpa using hhi
            go_wp2_with (go_at_call 32; (with_reducible refine (CO.out _).mono ?_); rintro e w3 ⟨rfl, hb3⟩; have B3 := Lib.hid (BI.out _ hb3).2; clear hb3)
            exact first_leave rfl rfl B3.out E2.out
        · have HF2 := HF.out
          rw [fs, if_neg hb] at HF2
          have HF3 := Lib.hid HF2
          clear HF HF2
          have ho : kd r ≠ 0 ∨ (kd r = 0 ∧ (r = 45 ∨ (48 ≤ r ∧ r ≤ 57))) := by
            by_cases h0 : kd r = 0
            · refine .inr ⟨h0, ?_⟩
              unfold bad at hb
              simp only [Bool.and_eq_true, Bool.or_eq_true, beq_iff_eq, bne_iff_ne, decide_eq_true_eq, h0, true_and] at hb
              by_cases h : r = 45
              · exact .inl h
              · refine .inr ?_
                constructor
                · apply Int.not_lt.1; intro h2; exact hb ⟨h, .inl h2⟩
                · apply Int.not_lt.1; intro h2; exact hb ⟨h, .inr h2⟩
            · exact .inl h0
          clear hb
          generalize kd r = k at CO HF3 ho hk3
          have CF : c = 0 ∨ c = 1 ∨ c = 2 ∨ c = 3 := by omega
          rcases ho with h0 | ⟨h0, hr⟩
          · obtain rfl | rfl | rfl : k = 1 ∨ k = 2 ∨ k = 3 := by omega
            all_goals
              clear h0 hk3
              rcases CF with rfl | rfl | rfl | rfl
              all_goals
                have HX0 := HF3.out
                simp at HX0
                have HX := Lib.hid HX0
                clear HX0 HF3 hc3
                go_wp2_with (go_at_call 32; (with_reducible refine (CO.out _).mono ?_); rintro e w3 ⟨rfl, hb3⟩; have B3 := Lib.hid (BI.out _ hb3); clear hb3)
                go_roundw
                case rel => exact ⟨_, _, p + wd, by first | rfl | trivial, by first | rfl | trivial, by omega, by first | exact hf | exact .inr rfl, ⟨HX.out, B3.out.1, B3.out.2, HG.out⟩⟩
                case measure => exact MS.out _ B3.out.1
          · subst h0
            clear hk3
            rcases hr with hr | ⟨hr1, hr2⟩
            · subst hr
              rcases CF with rfl | rfl | rfl | rfl
              all_goals
                have HX0 := HF3.out
                simp at HX0
                have HX := Lib.hid HX0
                clear HX0 HF3 hc3
                go_wp2_with (go_at_call 32; (with_reducible refine (CO.out _).mono ?_); rintro e w3 ⟨rfl, hb3⟩; have B3 := Lib.hid (BI.out _ hb3); clear hb3)
                go_roundw
                case rel => exact ⟨_, _, p + wd, by first | rfl | trivial, by first | rfl | trivial, by omega, by first | exact hf | exact .inr rfl, ⟨HX.out, B3.out.1, B3.out.2, HG.out⟩⟩
                case measure => exact MS.out _ B3.out.1
            · have d45 : (r != 45) = true := by rw [bne_iff_ne]; omega
              have d48 : decide (r < 48) = false := by simp; omega
              have d57 : decide (57 < r) = false := by simp; omega
              rcases CF with rfl | rfl | rfl | rfl
              all_goals
                have HX0 := HF3.out
                simp at HX0
                have HX := Lib.hid HX0
                clear HX0 HF3 hc3
                go_wp2_with (go_at_call 32; (with_reducible refine (CO.out _).mono ?_); rintro e w3 ⟨rfl, hb3⟩; have B3 := Lib.hid (BI.out _ hb3); clear hb3)
                go_roundw
                case rel => exact ⟨_, _, p + wd, by first | rfl | trivial, by first | rfl | trivial, by omega, by first | exact hf | exact .inr rfl, ⟨HX.out, B3.out.1, B3.out.2, HG.out⟩⟩
                case measure => exact MS.out _ B3.out.1
      · have nx := next_end wr _ _ _ hI.out.2.1 hp
        have he := rnAt_end (ba l) p hp
        have hq := hI.out.1
        rw [he, fs] at hq
        have BW := Lib.hid hI.out.2.2.1
        have E2 := E1.out
        rw [← hq] at E2
        simp only at E2
        clear E1 hI he hq hip
        rcases hf with rfl | rfl
        · have E3 : Hid (firstP l = (c, 0)) := E2
          clear E2
          go_wp2_with fail
          exact first_leave rfl rfl BW.out E3.out
        · have E3 : Hid (firstP l = (0, 50)) := E2
          clear E2
          go_wp2_with fail
          exact first_leave rfl rfl BW.out E3.out
end Go.Proofs.Ytdmlfggokbmapaa
