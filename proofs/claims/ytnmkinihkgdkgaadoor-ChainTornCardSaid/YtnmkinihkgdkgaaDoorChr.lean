/- The walk of the reference's Scan. Condition: sizes that a machine has. -/
import Derived.Test.YtnmkinihkgdkgaaDoorChg
import Derived.Test.YtnmkinihkgdkgaaDoorOcty
import Derived.Test.YtnmkinihkgdkgaaDoorStl
namespace Go.Proofs.YtnmkinihkgdkgaaDoor
open Go.RowKit
set_option linter.unusedVariables false
set_option linter.unusedSimpArgs false

theorem run_slice_l (l : List UInt8) (a : Nat) (za : Int) (ea : za = (a : Int)) (hl : a ≤ l.length) (W : World) :
    (Instr.sliceAt 9 (str l) (some (.int .i64 za)) none none).run Tryd.prog W = .ok (str (l.drop a)) W := by
  subst ea
  have hs : (ByteArray.mk l.toArray).size = l.length := by simp [ByteArray.size]
  rw [run_sliceAt_string W 9 _ _ _ _ Tryd.underlying9, run_slice_string_l W 9 _ Tryd.underlying9 .i64 (a : Int) (by omega) (by rw [hs]; omega)]
  simp [extract_list, hs]
theorem run_slice_lh (l : List UInt8) (a h : Nat) (za zh : Int) (ea : za = (a : Int)) (eh : zh = (h : Int)) (hah : a ≤ h) (hl : h ≤ l.length) (W : World) :
    (Instr.sliceAt 9 (str l) (some (.int .i64 za)) (some (.int .i64 zh)) none).run Tryd.prog W = .ok (str ((l.take h).drop a)) W := by
  subst ea eh
  have hs : (ByteArray.mk l.toArray).size = l.length := by simp [ByteArray.size]
  rw [run_sliceAt_string W 9 _ _ _ _ Tryd.underlying9, run_slice_string W 9 _ .i64 .i64 (a : Int) (h : Int) Tryd.underlying9 (by omega) (by omega) (by rw [hs]; omega)]
  simp [extract_list]
theorem readText_fits (l : List UInt8) (most : Int) : (readText l most).2.1 ≤ l.length ∧ ((readText l most).2.2 = 0 → 1 ≤ (readText l most).2.1) := by
  have hf := readNum_fits l
  unfold readText
  split
  · exact ⟨Nat.zero_le _, fun h => by simp_all⟩
  · split
    · exact ⟨Nat.zero_le _, fun h => by simp at h⟩
    · split
      · exact ⟨Nat.zero_le _, fun h => by simp at h⟩
      · rename_i h1 _ h3
        simp only
        have := hf.2.2.2 (by simpa using h1)
        exact ⟨by omega, fun _ => by omega⟩

/-- What a round meets: (text, number, error) = what is read of the rest. -/
theorem scan_three (s link : List UInt8) (a k : Nat) (acc : List (List UInt8)) (R : List (List UInt8) × List UInt8 × Nat) (t : List UInt8) (n er : Nat) (ha : a ≤ s.length) (hr : readText (s.drop a) 8192 = (t, n, er)) (h : scan (k + 1) link (s.drop a) a acc = R) :
    (er ≠ 0 ∧ R = (acc, link, a)) ∨ (er = 0 ∧ s.length < a + n + 32 ∧ R = (acc, link, a)) ∨
    (er = 0 ∧ a + n + 32 ≤ s.length ∧ t.length ≤ 8192 ∧ 1 ≤ n ∧ ((((s.drop a).take (n + 32)) ≠ text t ++ nx link t ∧ R = (acc, link, a)) ∨ (((s.drop a).take (n + 32)) = text t ++ nx link t ∧ scan k (nx link t) (s.drop (a + n + 32)) (a + n + 32) (acc ++ [t]) = R))) := by
  have hg : gd (s.drop a) link ↔ er = 0 ∧ 32 + n ≤ (s.drop a).length ∧ ((s.drop a).drop n).take 32 = nx link t := by unfold gd; rw [hr]
  have hd : (s.drop a).length = s.length - a := List.length_drop
  by_cases h0 : er = 0
  · by_cases h1 : a + n + 32 ≤ s.length
    · have tr := text_readText (s.drop a) 8192 (by rw [hr]; exact h0)
      rw [hr] at tr
      simp only at tr
      obtain ⟨t1, t2, t3, t4⟩ := tr
      refine .inr (.inr ⟨h0, h1, by omega, t2, ?_⟩)
      have e : (s.drop a).take (n + 32) = text t ++ ((s.drop a).drop n).take 32 := by rw [t1, ← List.take_add]
      by_cases h2 : ((s.drop a).drop n).take 32 = nx link t
      · have hgd := hg.2 ⟨h0, by omega, h2⟩
        refine .inr ⟨by rw [e, h2], ?_⟩
        rw [scan_ok hgd, hr] at h
        simpa [List.drop_drop, Nat.add_assoc] using h
      · refine .inl ⟨fun q => h2 ?_, ?_⟩
        · rw [e] at q; exact List.append_cancel_left q
        · rw [scan_no (fun q => h2 (hg.1 q).2.2)] at h; exact h.symm
    · refine .inr (.inl ⟨h0, by omega, ?_⟩)
      rw [scan_no (fun q => by have := (hg.1 q).2.1; omega)] at h; exact h.symm
  · refine .inl ⟨h0, ?_⟩
    rw [scan_no (fun q => h0 (hg.1 q).1)] at h; exact h.symm

set_option maxRecDepth 100000 in
set_option maxHeartbeats 8000000 in
theorem refScan_any (s : List UInt8) (hs : s.length ≤ 1000000) (w : World) :
    Calls Tryd.prog 10 #[str s] w fun e w' => ∃ v, e = .returned (.tuple #[v, str (scan (s.length + 1) z32 s 0 []).2.1, .int .i64 ((scan (s.length + 1) z32 s 0 []).2.2 : Int)]) ∧ SlS w' w.heap.size v (scan (s.length + 1) z32 s 0 []).1 ∧ Below w.heap.size w w' := by
  generalize hR : scan (s.length + 1) z32 s 0 [] = R
  have HR := Lib.hid hR
  have CF := Lib.hid (fun W => refFirst_any W)
  clear hR
  go_enter Tryd.func10, Tryd.ntmps10
  go_wp2_with (go_at_call 24; (with_reducible refine (CF.out _).mono ?_); rintro e w1 ⟨rfl, b1⟩; have B1 := Lib.hid b1; clear b1)
  clear CF
  go_loopw [5, 6, 7] (fun v l p wr => ∃ (a : Nat) (link : List UInt8) (acc : List (List UInt8)), a ≤ s.length ∧ acc.length ≤ a ∧ link.length = 32 ∧ l = str link ∧ p = .int .i64 (a : Int) ∧ Hid ((∃ k, scan k link (s.drop a) a acc = R ∧ s.length < a + k) ∧ SlS wr w.heap.size v acc ∧ Below w.heap.size w wr)) (fun _ _ p _ => s.length - (intOf p).toNat)
  case atStart => exact ⟨0, z32, [], by omega, by simp, z32_len, rfl, rfl, ⟨_, HR.out, by omega⟩, SlS.nil _ _, B1.out⟩
  case round =>
    clear B1 HR
    obtain ⟨a, link, acc, ha, hacc, hlk, rfl, rfl, hS⟩ := hrel
    obtain ⟨k, hk1, hk2⟩ := hS.out.1
    obtain ⟨k, rfl⟩ : ∃ k', k = k' + 1 := ⟨k - 1, by omega⟩
    have q := run_slice_l s a (a : Int) rfl ha
    have CT := Lib.hid (refReadText_any (s.drop a) (by rw [List.length_drop]; omega) 8192 (by omega) wr)
    have hf := readText_fits (s.drop a) 8192
    rw [List.length_drop] at hf
    have three := fun t n er hr => scan_three s link a k acc R t n er ha hr hk1
    have S0 := Lib.hid hS.out.2
    generalize hrr : readText (s.drop a) 8192 = r at CT hf
    obtain ⟨t, n, er⟩ := r
    have T3 := three t n er hrr
    have q2 := fun h => run_slice_lh s a (a + n + 32) (a : Int) ((a : Int) + n + 32) rfl (by omega) (by omega) h
    have e2 : (s.drop a).take (n + 32) = (s.take (a + n + 32)).drop a := by rw [List.drop_take]; congr 1; omega
    rw [e2] at T3
    have HK2 := Lib.hid hk2
    clear three hk1 hk2 hrr hS e2
    simp only at CT hf
    generalize s.drop a = sd at q CT
    have CX : Hid (∀ W, t.length ≤ 8192 → Calls Tryd.prog 18 #[str link, str t] W fun e w' => e = .returned (str (text t ++ nx link t)) ∧ Below W.heap.size W w') := fun W h => refFrame_any link t (by omega) (by omega) W
    have w1 : IntKind.i64.wrap ((s.length : Int) - (a : Int)) = (s.length : Int) - (a : Int) := IntWalk.i64_in _ (by omega)
    have w2 : IntKind.i64.wrap ((s.length : Int) - (a : Int) - (n : Int)) = (s.length : Int) - (a : Int) - (n : Int) := IntWalk.i64_in _ (by omega)
    have w3 : IntKind.i64.wrap ((a : Int) + (n : Int)) = (a : Int) + (n : Int) := IntWalk.i64_in _ (by omega)
    have w4 : IntKind.i64.wrap ((a : Int) + (n : Int) + 32) = (a : Int) + (n : Int) + 32 := IntWalk.i64_in _ (by omega)
    rcases T3 with ⟨h0, rfl⟩ | ⟨h0, h1, rfl⟩ | ⟨h0, h1, ht, hn, h4⟩
    · have d1 : ((er : Int) != 0) = true := by simp; omega
      clear q2 CX
      go_wp2_with fail
      refine CT.out.mono ?_
      rintro e w1 ⟨rfl, b1⟩
      have S1 := Lib.hid (And.intro (S0.out.1.bel b1) (below_acc S0.out.2 b1))
      clear b1 CT S0 q
      go_wp2_with fail
      go_quiet (fail)
      go_wp2_with fail
      go_ret3
      exact ⟨_, rfl, S1.out.1.heap rfl, S1.out.2.os, S1.out.2.tape, S1.out.2.output, S1.out.2.size, S1.out.2.block⟩
    · have d1 : ((er : Int) != 0) = false := by simp; omega
      have d2 : decide ((s.length : Int) - (a : Int) - (n : Int) < 32) = true := by simp; omega
      clear q2 CX
      go_wp2_with fail
      refine CT.out.mono ?_
      rintro e w1 ⟨rfl, b1⟩
      have S1 := Lib.hid (And.intro (S0.out.1.bel b1) (below_acc S0.out.2 b1))
      clear b1 CT S0 q
      go_wp2_with fail
      go_quiet (fail)
      go_wp2_with fail
      go_ret3
      exact ⟨_, rfl, S1.out.1.heap rfl, S1.out.2.os, S1.out.2.tape, S1.out.2.output, S1.out.2.size, S1.out.2.block⟩
    · have d1 : ((er : Int) != 0) = false := by simp; omega
      have d2 : decide ((s.length : Int) - (a : Int) - (n : Int) < 32) = false := by simp; omega
      have CX : Hid (∀ W, Calls Tryd.prog 18 #[str link, str t] W fun e w' => e = .returned (str (text t ++ nx link t)) ∧ Below W.heap.size W w') := fun W => refFrame_any link t (by omega) (by omega) W
      have CN := Lib.hid (fun W => refNext_any link t (by omega) W)
      have q3 := q2 h1
      have H4 := Lib.hid h4
      clear q2 h4
      generalize hsl : (s.take (a + n + 32)).drop a = sl at q3 H4
      generalize hfr : text t ++ nx link t = fr at CX H4
      clear hsl hfr
      have kb : 0 ≤ (a : Int) ∧ (a : Int) ≤ (a : Int) + (n : Int) + 32 ∧ (a : Int) + (n : Int) + 32 ≤ (s.length : Int) := by omega
      by_cases hq : sl = fr
      · subst hq
        have hN : Hid (scan k (nx link t) (s.drop (a + n + 32)) (a + n + 32) (acc ++ [t]) = R) := by
          rcases H4.out with ⟨hne, _⟩ | ⟨_, h⟩
          · exact absurd rfl hne
          · exact h
        clear H4
        go_wp2_with fail
        refine CT.out.mono ?_
        rintro e w1 ⟨rfl, b1⟩
        have S1 := Lib.hid (And.intro (S0.out.1.bel b1) (below_acc S0.out.2 b1))
        clear b1 CT S0 q
        go_wp2_with fail
        go_region_held3 (fun w' => SlS w' w.heap.size u5 acc ∧ Below w.heap.size w w')
          (first | assumption | exact ⟨S1.out.1.heap rfl, S1.out.2.drew⟩ | exact ⟨(by assumption : SlS _ w.heap.size u5 acc ∧ Below w.heap.size w _).1.bel hb, below_acc (by assumption : SlS _ w.heap.size u5 acc ∧ Below w.heap.size w _).2 hb⟩)
          (first
            | (go_at_call 18; (with_reducible refine (CX.out _).mono ?_); rintro e w1 ⟨rfl, hb⟩))
        rename_i hS
        have S2 := Lib.hid hS
        clear hS S1
        go_wp2_with (first
          | (at_builtin; refine wpList_append_str rfl (.tmp 47) (.tmp 49) rfl w.heap.size u5 acc t (by rfl) S2.out.1 S2.out.2.size (by rfl) (by omega) ?_; intro v' w2 g1 g2 g3 g4 g5; have S3 := Lib.hid (And.intro g1 (S2.out.2.trans g4)); clear g1 g2 g3 g4 g5)
          | (go_at_call 19; (with_reducible refine (CN.out _).mono ?_); rintro e w5 ⟨rfl, b5⟩; have S5 := Lib.hid (And.intro (S3.out.1.bel b5) (below_acc S3.out.2 b5)); clear b5))
        go_roundw
        case rel => exact ⟨a + n + 32, nx link t, acc ++ [t], by omega, by simp; omega, nx_len _ _, rfl, by go_num, ⟨k, hN.out, by have := HK2.out; omega⟩, S5.out⟩
        case measure => simp [intOf]; omega
      · have d3 : (!sl == fr) = true := by simpa using hq
        have hN : R = (acc, link, a) := by
          rcases H4.out with ⟨_, h⟩ | ⟨h, _⟩
          · exact h
          · exact absurd h hq
        subst hN
        clear H4
        go_wp2_with fail
        refine CT.out.mono ?_
        rintro e w1 ⟨rfl, b1⟩
        have S1 := Lib.hid (And.intro (S0.out.1.bel b1) (below_acc S0.out.2 b1))
        clear b1 CT S0 q
        go_wp2_with fail
        go_region_held3 (fun w' => SlS w' w.heap.size u5 acc ∧ Below w.heap.size w w')
          (first | assumption | exact ⟨S1.out.1.heap rfl, S1.out.2.drew⟩ | exact ⟨(by assumption : SlS _ w.heap.size u5 acc ∧ Below w.heap.size w _).1.bel hb, below_acc (by assumption : SlS _ w.heap.size u5 acc ∧ Below w.heap.size w _).2 hb⟩)
          (first
            | (go_at_call 18; (with_reducible refine (CX.out _).mono ?_); rintro e w1 ⟨rfl, hb⟩))
        rename_i hS
        have S2 := Lib.hid hS
        clear hS S1
        go_wp2_with fail
        go_ret3
        exact ⟨_, rfl, S2.out⟩
end Go.Proofs.YtnmkinihkgdkgaaDoor
