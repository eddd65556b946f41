/- The walk of ChainTorn. Condition: the table k reads as the standard's numbers. -/
import Derived.Test.YtnmkinihkgdkgaaDoorChi
namespace Go.Proofs.YtnmkinihkgdkgaaDoor
open Go.RowKit
set_option linter.unusedVariables false
set_option linter.unusedSimpArgs false

/-- How far a cut reaches: m whole frames. -/
def Reach (ls : List (List UInt8)) (k m : Nat) : Prop := m ≤ ls.length ∧ ed ls m ≤ k ∧ (m < ls.length → k < ed ls (m + 1))
theorem sc_cut (ls : List (List UInt8)) (hs : ∀ r ∈ ls, r.length ≤ 8192) (k m : Nat) (hr : Reach ls k m) : sc ((frs z32 ls).take k) = (ls.take m, hd z32 (ls.take m), ed ls m) := by
  rw [← scan_fuel ((frs z32 ls).take k) (ls.length + k + 1) (by rw [List.length_take]; omega)]
  exact scan_cut ls z32 hs k m hr.1 hr.2.1 hr.2.2 _ (by omega)
theorem sc_all (ls : List (List UInt8)) (hs : ∀ r ∈ ls, r.length ≤ 8192) : sc (frs z32 ls) = (ls, hd z32 ls, (frs z32 ls).length) := by
  have h := sc_cut ls hs (frs z32 ls).length ls.length ⟨Nat.le_refl _, by unfold ed; rw [List.take_length]; exact Nat.le_refl _, fun h => absurd h (Nat.lt_irrefl _)⟩
  rwa [List.take_length, List.take_length, ed, List.take_length] at h
theorem bigN_small : ∀ l : List (List UInt8), bigN l = 0 → ∀ r ∈ l, r.length ≤ 8192
  | [], _, r, h => by simp at h
  | x :: l, h0, r, h => by
    simp only [bigN] at h0
    split at h0
    · cases h0
    · rename_i h1
      rcases List.mem_cons.1 h with rfl | h
      · omega
      · exact bigN_small l h0 r h

set_option maxRecDepth 100000 in
set_option maxHeartbeats 8000000 in
theorem ChainTorn_walk (A : Option Addr) (c : Nat) (ls : List (List UInt8)) (cut : Int) (hc0 : 0 ≤ cut) (hc1 : cut ≤ 65535) (hl : ls.length ≤ 9223372036854775807) (hcap : ls.length ≤ c) (hx : ∀ x ∈ ls, x.length ≤ 9223372036854775807) (w : World) (hK : KT w) (hT : Txt w w.heap.size A ls) :
    Calls Tryd.prog 4 #[.slice A ls.length c, .int .u16 cut] w fun e w' => e = .returned (.bool true) ∧ Below w.heap.size w w' := by
  have HK := Lib.hid hK
  have L1 := fun W h => long_any A c ls hl hx w.heap.size W h
  have B0 : Below w.heap.size w w := Below.refl _ _
  clear hK hx
  cases hlg : lgB ls
  case true =>
    rw [hlg] at L1
    have CL := Lib.hid L1
    clear L1
    go_enter Tryd.func4, Tryd.ntmps4
    go_wp2_with (first
      | (go_at_call 13; (with_reducible refine (CL.out _ hT).mono ?_); rintro e w1 ⟨rfl, rfl⟩)
      | (go_at_call 8; refine (alive_any _ (HK.out.below B0 HK.out.lt)).mono ?_; rintro e w1 ⟨rfl, hb⟩))
    go_ret
    exact ⟨rfl, hb⟩
  rw [hlg] at L1
  obtain ⟨l1, l2, l3⟩ := lgB_false hlg
  have CL := Lib.hid L1
  clear L1 hlg
  rcases bigN_is ls with hb0 | hb0
  case inr =>
    have CF := Lib.hid (fun A2 c2 W hk h => Frames_any A2 c2 ls hl (by omega) W hk h)
    have e : frsT ls = ([], [], 5) := by rw [frsT, if_neg (by omega)]
    rw [e] at CF
    clear e hb0
    simp only at CF
    go_enter Tryd.func4, Tryd.ntmps4
    go_wp2_with (first
      | (go_at_call 13; (with_reducible refine (CL.out _ hT).mono ?_); rintro e w1 ⟨rfl, rfl⟩)
      | (at_builtin; refine wpList_append_copy rfl (.const (.slice none 0 0)) (.tmp 22) rfl rfl A c ls rfl rfl hT (by omega) ?_; intro A2 c2 w2 T2 hb; have B0 := below_step B0 hb ⟨rfl, rfl, rfl, rfl⟩; clear hb)
      | (go_at_call 14; (with_reducible refine (CF.out A2 c2 _ (HK.out.below B0 HK.out.lt) T2).mono ?_); rintro e w3 ⟨rfl, hb⟩; have B0 := below_step B0 hb ⟨rfl, rfl, rfl, rfl⟩; clear hb T2)
      | (go_at_call 8; refine (alive_any _ (HK.out.below B0 HK.out.lt)).mono ?_; rintro e w1 ⟨rfl, hb⟩; have B0 := below_step B0 hb ⟨rfl, rfl, rfl, rfl⟩; clear hb))
    go_ret
    exact ⟨rfl, B0⟩
  have small := bigN_small ls hb0
  have CF := Lib.hid (fun A2 c2 W hk h => Frames_ok A2 c2 ls hl hb0 (by omega) W hk h)
  have CE := Lib.hid (fun W h => refEnds_any A c ls l2 l1 l3 W h)
  have PL : Hid (∀ k m, k ≤ (frs z32 ls).length → Reach ls k m → ∃ (ms : List (List UInt8)) (A4 : Option Addr), ms.length = m ∧ (∀ W, (Instr.sliceAt 23 (.slice A ls.length c) none (some (.int .i64 (m : Int))) none).run Tryd.prog W = .ok (.slice A4 ms.length c) W) ∧ (∀ W B, Txt W B A ls → Txt W B A4 ms) ∧
      (∀ W, KT W → Calls Tryd.prog 9 #[str ((frs z32 ls).take k)] W fun e w' => ∃ A c, e = .returned (.tuple #[.slice A ms.length c, str (hd z32 ms), .int .i64 (ed ls m : Int)]) ∧ Txt w' w'.heap.size A ms ∧ Below W.heap.size W w') ∧
      (∀ A2 c2 W, KT W → Txt W W.heap.size A2 ms → Calls Tryd.prog 14 #[.slice A2 ms.length c2] W fun e w' => e = .returned (.tuple #[str (frs z32 ms), str (hd z32 ms), .int .i64 0]) ∧ Below W.heap.size W w') ∧
      (∀ W, KT W → Calls Tryd.prog 12 #[str ((frs z32 ls).take k), str (hd z32 ms)] W fun e w' => e = .returned (.bool ((ed ls m : Int) == (k : Int))) ∧ Below W.heap.size W w')) := by
    intro k m hk hr
    obtain ⟨A4, s1, s2⟩ := slice_take A c m ls hcap hr.1
    have hcut := sc_cut ls small k m hr
    have hms : ∀ r ∈ ls.take m, r.length ≤ 8192 := fun r h => small r (List.mem_of_mem_take h)
    have hfl : (frs z32 (ls.take m)).length ≤ (frs z32 ls).length := ed_le ls m hr.1
    have hlm : (ls.take m).length = m := by rw [List.length_take]; have := hr.1; omega
    refine ⟨ls.take m, A4, hlm, ?_, s2, ?_, ?_, ?_⟩
    · rw [hlm]; exact s1
    · intro W hk2
      have := Scan_sc ((frs z32 ls).take k) (by rw [List.length_take]; omega) W hk2
      rwa [hcut] at this
    · intro A2 c2 W hk2 hT2
      exact Frames_ok A2 c2 (ls.take m) (by rw [hlm]; have := hr.1; omega) (bigN_ok _ hms) (by omega) W hk2 hT2
    · intro W hk2
      have := Audit_any ((frs z32 ls).take k) (hd z32 (ls.take m)) (by rw [List.length_take]; omega) W hk2
      rw [hcut] at this
      simp only [List.length_take, beq_self_eq_true, Bool.and_true] at this
      rwa [Nat.min_eq_left hk] at this
  have CA1 : Hid (∀ W, KT W → Calls Tryd.prog 12 #[str (frs z32 ls), str (hd z32 ls)] W fun e w' => e = .returned (.bool true) ∧ Below W.heap.size W w') := by
    intro W hk2
    have := Audit_any (frs z32 ls) (hd z32 ls) (by omega) W hk2
    rw [sc_all ls small] at this
    simpa using this
  have edn : ed ls ls.length = (frs z32 ls).length := by unfold ed; rw [List.take_length]
  have edz := ed_zero ls
  have edl := ed_le ls
  have rch : ∀ k m, Reach ls k m ↔ (m ≤ ls.length ∧ ed ls m ≤ k ∧ (m < ls.length → k < ed ls (m + 1))) := fun k m => Iff.rfl
  have emp : ls.length = 0 → frs z32 ls = [] := fun h => by rw [List.eq_nil_of_length_eq_zero h]; rfl
  have RCH := Lib.hid rch
  have EDL := Lib.hid edl
  have EDZ := Lib.hid edz
  clear small hb0 rch edl edz l1
  generalize frs z32 ls = fr at CF PL CA1 edn l3 emp EDL
  generalize hd z32 ls = ha at CF CA1
  obtain ⟨k, hk⟩ : ∃ k, k = cut.toNat % (fr.length + 1) := ⟨_, rfl⟩
  have hkl : k ≤ fr.length := by rw [hk]; have := Nat.mod_lt cut.toNat (show 0 < fr.length + 1 by omega); omega
  have wr1 : IntKind.i64.wrap ((fr.length : Int) + 1) = (fr.length : Int) + 1 := IntWalk.i64_in _ (by omega)
  have wr2 : Int.tmod cut ((fr.length : Int) + 1) = (k : Int) := by
    rw [Int.tmod_eq_emod_of_nonneg hc0, hk, Int.natCast_emod, Int.toNat_of_nonneg hc0]; rfl
  have nz : ¬ ((fr.length : Int) + 1 = 0) := by omega
  have wrc : IntKind.i64.wrap cut = cut := IntWalk.i64_in _ (by omega)
  have wrk : IntKind.i64.wrap (k : Int) = (k : Int) := IntWalk.i64_in _ (by omega)
  have HKL : Hid (k ≤ fr.length) := hkl
  have q7 := run_slice_h fr k (k : Int) rfl hkl
  clear hk hc1
  have kb : 0 ≤ (k : Int) ∧ (k : Int) ≤ (fr.length : Int) := by omega
  by_cases hne : ls.length = 0
  case pos =>
    have hfe := emp hne
    subst hfe
    obtain rfl : ls = [] := List.eq_nil_of_length_eq_zero hne
    obtain rfl : k = 0 := by simpa using hkl
    obtain ⟨ms, A4, hml, SL, TT, CS, CF2, CU⟩ := PL.out 0 0 (by omega) ((RCH.out 0 0).2 ⟨by omega, by rw [EDZ.out]; omega, fun h => absurd h (by simp)⟩)
    obtain rfl : ms = [] := List.eq_nil_of_length_eq_zero hml
    rw [EDZ.out] at CS CU
    have SL2 := SL
    have CS2 := Lib.hid CS
    have CF3 := Lib.hid CF2
    have CU2 := Lib.hid CU
    have CE3 := Lib.hid (fun (A A' : Option Addr) (c c' : Nat) (W : World) => Same_any A A' c c' [] [] (by simp) (by simp) W.heap.size W (fun i hi => by simp at hi) (fun i hi => by simp at hi))
    have T0 : Hid (∀ (A : Option Addr) (W : World), Txt W W.heap.size A []) := fun A W i hi => by simp at hi
    have HTT := Lib.hid hT
    clear PL SL CS CF2 CU hT q7 wr1 wr2 wrk nz
    have wr2 : Int.tmod cut 1 = 0 := by rw [Int.tmod_one]
    have hz : hd z32 [] = z32 := rfl
    have X0 : Hid (∀ W : World, Calls Tryd.prog 13 #[.slice A 0 c] W fun e w' => e = .returned (.bool false) ∧ W = w') := fun W => CL.out W (fun i hi => by simp at hi)
    have X1 : Hid (∀ A2 c2 W, KT W → Calls Tryd.prog 14 #[.slice A2 0 c2] W fun e w' => e = .returned (.tuple #[str [], str ha, .int .i64 0]) ∧ Below W.heap.size W w') := fun A2 c2 W hk => CF.out A2 c2 W hk (T0.out _ _)
    have X2 : Hid (∀ W, Calls Tryd.prog 15 #[.slice A 0 c] W fun e w' => (∃ A' c', e = .returned (.slice A' 0 c')) ∧ Below W.heap.size W w') := fun W => (CE.out W (T0.out _ _)).mono (by rintro e w' ⟨⟨A', c', rfl, -⟩, hb⟩; exact ⟨⟨A', c', rfl⟩, hb⟩)
    have X3 : Hid (∀ W, KT W → Calls Tryd.prog 9 #[str []] W fun e w' => ∃ A c, e = .returned (.tuple #[.slice A 0 c, str z32, .int .i64 0]) ∧ Below W.heap.size W w') := fun W hk => (CS2.out W hk).mono (by rintro e w' ⟨A', c', rfl, -, hb⟩; exact ⟨A', c', rfl, hb⟩)
    have X4 : Hid (∀ A2 c2 W, KT W → Calls Tryd.prog 14 #[.slice A2 0 c2] W fun e w' => e = .returned (.tuple #[str [], str z32, .int .i64 0]) ∧ Below W.heap.size W w') := fun A2 c2 W hk => CF3.out A2 c2 W hk (T0.out _ _)
    have X5 : Hid (∀ W, KT W → Calls Tryd.prog 12 #[str [], str z32] W fun e w' => e = .returned (.bool true) ∧ Below W.heap.size W w') := fun W hk => CU2.out W hk
    have X6 : Hid (∀ (A A' : Option Addr) (c c' : Nat) (W : World), Calls Tryd.prog 11 #[.slice A 0 c, .slice A' 0 c'] W fun e w' => e = .returned (.bool true) ∧ ∃ n, w' = W.drewN n) := fun A A' c c' W => (CE3.out A A' c c' W).mono (by rintro e w' ⟨rfl, h⟩; exact ⟨by simp, h⟩)
    have SL3 : ∀ (W : World), (Instr.sliceAt 23 (.slice A 0 c) none (some (.int .i64 0)) none).run Tryd.prog W = .ok (.slice A4 0 c) W := SL2
    have q8 : ∀ (W : World), (Instr.sliceAt 9 (str []) none (some (.int .i64 0)) none).run Tryd.prog W = .ok (str []) W := fun W => run_slice_h [] 0 0 rfl (by simp) W
    clear CL CF CE CS2 CF3 CU2 CE3 SL2 emp hml hkl HKL kb edn hl hcap l2 l3 hne EDL EDZ RCH TT
    go_enter Tryd.func4, Tryd.ntmps4
    go_wp2_with (first
      | (go_at_call 13; (with_reducible refine (X0.out _).mono ?_); rintro e w1 ⟨rfl, rfl⟩)
      | (at_builtin; refine wpList_append_copy rfl (.const (.slice none 0 0)) (.tmp 22) rfl rfl A c [] rfl rfl (T0.out _ _) (by simp) ?_; intro A2 c2 w2 T2 hb; have B0 := below_step B0 hb ⟨rfl, rfl, rfl, rfl⟩; clear hb)
      | (go_at_call 14; (with_reducible refine (X1.out A2 c2 _ (HK.out.below B0 HK.out.lt)).mono ?_); rintro e w3 ⟨rfl, hb⟩; have B0 := below_step B0 hb ⟨rfl, rfl, rfl, rfl⟩; clear hb T2)
      | (go_at_call 15; (with_reducible refine (X2.out _).mono ?_); rintro e w4 ⟨⟨A3, c3, rfl⟩, hb⟩; have B0 := below_step B0 hb ⟨rfl, rfl, rfl, rfl⟩; clear hb))
    clear X0 X1 X2
    refine wp_loop_rounds 1 ?_
    rw [rounds_succ]
    go_wp2_with (first
      | (go_at_call 9; (with_reducible refine (X3.out _ (HK.out.below B0 HK.out.lt)).mono ?_); rintro e w5 ⟨A5, c5, rfl, hb⟩; have B0 := below_step B0 hb ⟨rfl, rfl, rfl, rfl⟩; clear hb)
      | (at_builtin; refine wpList_append_copy rfl (.const (.slice none 0 0)) (.tmp 95) rfl rfl A4 c [] rfl rfl (T0.out _ _) (by simp) ?_; intro A6 c6 w6 T6 hb; have B0 := below_step B0 hb ⟨rfl, rfl, rfl, rfl⟩; clear hb T6)
      | (go_at_call 14; (with_reducible refine (X4.out A6 c6 _ (HK.out.below B0 HK.out.lt)).mono ?_); rintro e w7 ⟨rfl, hb⟩; have B0 := below_step B0 hb ⟨rfl, rfl, rfl, rfl⟩; clear hb)
      | (go_at_call 11; (with_reducible refine (X6.out _ _ _ _ _).mono ?_); rintro e w8 ⟨rfl, nS, rfl⟩; have B0 : Below w.heap.size w (w7.drewN nS) := ⟨B0.os, B0.tape, B0.output, B0.size, B0.block⟩)
      | (go_at_call 12; (with_reducible refine (CA1.out _ (HK.out.below B0 HK.out.lt)).mono ?_); rintro e w9 ⟨rfl, hb⟩; have B0 := below_step B0 hb ⟨rfl, rfl, rfl, rfl⟩; clear hb)
      | (go_at_call 12; (with_reducible refine (X5.out _ (HK.out.below B0 HK.out.lt)).mono ?_); rintro e w10 ⟨rfl, hb⟩; have B0 := below_step B0 hb ⟨rfl, rfl, rfl, rfl⟩; clear hb)
      | (go_at_call 8; refine (alive_any _ (HK.out.below B0 HK.out.lt)).mono ?_; rintro e w11 ⟨rfl, hb⟩; have B0 := below_step B0 hb ⟨rfl, rfl, rfl, rfl⟩; clear hb))
    go_ret
    exact ⟨rfl, B0⟩
  case neg =>
    obtain ⟨n', hn'⟩ : ∃ n', ls.length = n' + 1 := ⟨ls.length - 1, by omega⟩
    have d5 : decide ((0 : Int) < (ls.length : Int)) = true := by simp; omega
    have w5 : IntKind.i64.wrap ((ls.length : Int) - 1) = (n' : Int) := by rw [IntWalk.i64_in _ (by omega)]; omega
    have kn : 0 ≤ (n' : Int) ∧ (n' : Int) < (ls.length : Int) := by omega
    have HN := Lib.hid hn'
    have CE2 : Hid (∀ W, Txt W W.heap.size A ls → Calls Tryd.prog 15 #[.slice A ls.length c] W fun e w' => (∃ b o c', e = .returned (.slice (some ⟨b, o, none⟩) ls.length c') ∧ w'.cell? ⟨b, o + n', none⟩ = some (.int .i64 (fr.length : Int)) ∧ b < w'.heap.size ∧ Hid (∀ j, j < ls.length → w'.cell? ⟨b, o + j, none⟩ = some (.int .i64 (ed ls (j + 1) : Int)))) ∧ Below W.heap.size W w') := by
      intro W hTW
      refine (CE.out W hTW).mono ?_
      rintro e w' ⟨⟨A', c', rfl, hI⟩, hb⟩
      have hel := eds_len ls ls.length
      obtain ⟨b, o, hA, hbl, _⟩ := hI 0 (by omega)
      subst hA
      have all : ∀ j, j < ls.length → w'.cell? ⟨b, o + j, none⟩ = some (.int .i64 (ed ls (j + 1) : Int)) := by
        intro j hj
        obtain ⟨b2, o2, e2, _, h2⟩ := hI j (by omega)
        cases e2
        rw [h2]
        simp [eds]
      refine ⟨⟨b, o, c', rfl, ?_, hbl, all⟩, hb⟩
      rw [all n' (by omega), ← hn', edn]
    clear CE hn' emp edn
    have HTT := Lib.hid hT
    clear hT
    go_enter Tryd.func4, Tryd.ntmps4
    go_wp2_with (first
      | (go_at_call 13; (with_reducible refine (CL.out _ HTT.out).mono ?_); rintro e w1 ⟨rfl, rfl⟩)
      | (at_builtin; refine wpList_append_copy rfl (.const (.slice none 0 0)) (.tmp 22) rfl rfl A c ls rfl rfl HTT.out (by omega) ?_; intro A2 c2 w2 T2 hb; have B0 := below_step B0 hb ⟨rfl, rfl, rfl, rfl⟩; clear hb)
      | (go_at_call 14; (with_reducible refine (CF.out A2 c2 _ (HK.out.below B0 HK.out.lt) T2).mono ?_); rintro e w3 ⟨rfl, hb⟩; have B0 := below_step B0 hb ⟨rfl, rfl, rfl, rfl⟩; clear hb T2)
      | (go_at_call 15; (with_reducible refine (CE2.out _ ((HTT.out.below B0 (Nat.le_refl _)).more B0.size)).mono ?_); rintro e w4 ⟨⟨b, o, c4, rfl, hcl, hbl, HALL⟩, hb⟩; have B0 := below_step B0 hb ⟨rfl, rfl, rfl, rfl⟩; clear hb))
    clear CF CE2 CL hcl
    have BB := Lib.hid (And.intro B0 hbl)
    clear B0 hbl
    go_loopw [10, 11] (fun m p wr => ∃ i : Nat, i ≤ ls.length ∧ m = .int .i64 (i : Int) ∧ p = .int .i64 (ed ls i : Int) ∧ ed ls i ≤ k ∧ wr = w4) (fun m _ _ => ls.length - (intOf m).toNat)
    case atStart => exact ⟨0, by omega, rfl, by rw [EDZ.out]; rfl, by rw [EDZ.out]; omega, rfl⟩
    case round =>
      obtain ⟨i, hi, rfl, rfl, hei, rfl⟩ := hrel
      by_cases hlt : i < ls.length
      · have c1 := HALL.out i hlt
        have ki : 0 ≤ (i : Int) ∧ (i : Int) < (ls.length : Int) := by omega
        have d8 : decide ((i : Int) < (ls.length : Int)) = true := by simp; omega
        generalize he1 : ed ls (i + 1) = e1 at c1
        have HE1 := Lib.hid he1
        clear he1
        by_cases hk1 : e1 ≤ k
        · have d9 : decide ((e1 : Int) ≤ (k : Int)) = true := by simp; omega
          go_wp2_with fail
          go_roundw
          case rel => exact ⟨i + 1, by omega, by go_num, by rw [HE1.out], by rw [HE1.out]; exact hk1, by first | rfl | trivial⟩
          case measure => simp [intOf]; omega
        · have d9 : decide ((e1 : Int) ≤ (k : Int)) = false := by simp; omega
          have hR : Hid (Reach ls k i) := ⟨hi, hei, fun _ => by rw [HE1.out]; omega⟩
          obtain ⟨ms, A4, hml, SL, TT, CS, CF2, CU⟩ := PL.out k i HKL.out hR.out
          clear PL hR HALL HE1
          generalize fr.take k = cu at q7 CS CU
          generalize hd z32 ms = hm at CS CF2 CU
          generalize frs z32 ms = fm at CF2
          generalize ed ls i = p at CS CU hei ⊢
          have hms : ms.length ≤ 60 := by omega
          have CS2 := Lib.hid CS
          have CF3 := Lib.hid CF2
          have CU2 := Lib.hid CU
          have TT2 := Lib.hid TT
          have HML := Lib.hid hml
          have B0 := BB.out.1
          have CE3 := Lib.hid (fun (A A' : Option Addr) (c c' : Nat) (W : World) (hT : Txt W W.heap.size A ms) (hU : Txt W W.heap.size A' ms) => Same_any A A' c c' ms ms (by omega) (by omega) W.heap.size W hT hU)
          rw [show decide (ms = ms) = true by simp] at CE3
          clear CS CF2 CU TT hml
          have d10 : (((p : Int) == (k : Int)) == ((p : Int) == (k : Int))) = true := by simp
          go_wp2_with (first
            | (go_at_call 9; (with_reducible refine (CS2.out _ (HK.out.below B0 HK.out.lt)).mono ?_); rintro e w5 ⟨A5, c5, rfl, T5, hb⟩; have B0 := below_step B0 hb ⟨rfl, rfl, rfl, rfl⟩; clear hb)
            | (at_builtin; refine wpList_append_copy rfl (.const (.slice none 0 0)) (.tmp 95) rfl rfl A4 c ms rfl rfl (TT2.out _ _ ((HTT.out.below B0 (Nat.le_refl _)).more B0.size)) (by omega) ?_; intro A6 c6 w6 T6 hb; have T5 := (T5.below hb (Nat.le_refl _)).more hb.size; have B0 := below_step B0 hb ⟨rfl, rfl, rfl, rfl⟩; clear hb)
            | (go_at_call 14; (with_reducible refine (CF3.out A6 c6 _ (HK.out.below B0 HK.out.lt) T6).mono ?_); rintro e w7 ⟨rfl, hb⟩; have T5 := (T5.below hb (Nat.le_refl _)).more hb.size; have B0 := below_step B0 hb ⟨rfl, rfl, rfl, rfl⟩; clear hb T6)
            | (go_at_call 11; (with_reducible refine (CE3.out _ _ _ _ _ T5 (TT2.out _ _ ((HTT.out.below B0 (Nat.le_refl _)).more B0.size))).mono ?_); rintro e w8 ⟨rfl, nS, rfl⟩; have B0 : Below w.heap.size w (w7.drewN nS) := ⟨B0.os, B0.tape, B0.output, B0.size, B0.block⟩; clear T5)
            | (go_at_call 12; (with_reducible refine (CA1.out _ (HK.out.below B0 HK.out.lt)).mono ?_); rintro e w9 ⟨rfl, hb⟩; have B0 := below_step B0 hb ⟨rfl, rfl, rfl, rfl⟩; clear hb)
            | (go_at_call 12; (with_reducible refine (CU2.out _ (HK.out.below B0 HK.out.lt)).mono ?_); rintro e w10 ⟨rfl, hb⟩; have B0 := below_step B0 hb ⟨rfl, rfl, rfl, rfl⟩; clear hb)
            | (go_at_call 8; refine (alive_any _ (HK.out.below B0 HK.out.lt)).mono ?_; rintro e w11 ⟨rfl, hb⟩; have B0 := below_step B0 hb ⟨rfl, rfl, rfl, rfl⟩; clear hb))
          go_ret
          exact ⟨rfl, B0⟩
      · have d8 : decide ((i : Int) < (ls.length : Int)) = false := by simp; omega
        have hR : Hid (Reach ls k i) := ⟨hi, hei, fun h => absurd h hlt⟩
        obtain ⟨ms, A4, hml, SL, TT, CS, CF2, CU⟩ := PL.out k i HKL.out hR.out
        clear PL hR HALL
        generalize fr.take k = cu at q7 CS CU
        generalize hd z32 ms = hm at CS CF2 CU
        generalize frs z32 ms = fm at CF2
        generalize ed ls i = p at CS CU hei ⊢
        have hms : ms.length ≤ 60 := by omega
        have CS2 := Lib.hid CS
        have CF3 := Lib.hid CF2
        have CU2 := Lib.hid CU
        have TT2 := Lib.hid TT
        have HML := Lib.hid hml
        have B0 := BB.out.1
        have CE3 := Lib.hid (fun (A A' : Option Addr) (c c' : Nat) (W : World) (hT : Txt W W.heap.size A ms) (hU : Txt W W.heap.size A' ms) => Same_any A A' c c' ms ms (by omega) (by omega) W.heap.size W hT hU)
        rw [show decide (ms = ms) = true by simp] at CE3
        clear CS CF2 CU TT hml
        have d10 : (((p : Int) == (k : Int)) == ((p : Int) == (k : Int))) = true := by simp
        go_wp2_with (first
          | (go_at_call 9; (with_reducible refine (CS2.out _ (HK.out.below B0 HK.out.lt)).mono ?_); rintro e w5 ⟨A5, c5, rfl, T5, hb⟩; have B0 := below_step B0 hb ⟨rfl, rfl, rfl, rfl⟩; clear hb)
          | (at_builtin; refine wpList_append_copy rfl (.const (.slice none 0 0)) (.tmp 95) rfl rfl A4 c ms rfl rfl (TT2.out _ _ ((HTT.out.below B0 (Nat.le_refl _)).more B0.size)) (by omega) ?_; intro A6 c6 w6 T6 hb; have T5 := (T5.below hb (Nat.le_refl _)).more hb.size; have B0 := below_step B0 hb ⟨rfl, rfl, rfl, rfl⟩; clear hb)
          | (go_at_call 14; (with_reducible refine (CF3.out A6 c6 _ (HK.out.below B0 HK.out.lt) T6).mono ?_); rintro e w7 ⟨rfl, hb⟩; have T5 := (T5.below hb (Nat.le_refl _)).more hb.size; have B0 := below_step B0 hb ⟨rfl, rfl, rfl, rfl⟩; clear hb T6)
          | (go_at_call 11; (with_reducible refine (CE3.out _ _ _ _ _ T5 (TT2.out _ _ ((HTT.out.below B0 (Nat.le_refl _)).more B0.size))).mono ?_); rintro e w8 ⟨rfl, nS, rfl⟩; have B0 : Below w.heap.size w (w7.drewN nS) := ⟨B0.os, B0.tape, B0.output, B0.size, B0.block⟩; clear T5)
          | (go_at_call 12; (with_reducible refine (CA1.out _ (HK.out.below B0 HK.out.lt)).mono ?_); rintro e w9 ⟨rfl, hb⟩; have B0 := below_step B0 hb ⟨rfl, rfl, rfl, rfl⟩; clear hb)
          | (go_at_call 12; (with_reducible refine (CU2.out _ (HK.out.below B0 HK.out.lt)).mono ?_); rintro e w10 ⟨rfl, hb⟩; have B0 := below_step B0 hb ⟨rfl, rfl, rfl, rfl⟩; clear hb)
          | (go_at_call 8; refine (alive_any _ (HK.out.below B0 HK.out.lt)).mono ?_; rintro e w11 ⟨rfl, hb⟩; have B0 := below_step B0 hb ⟨rfl, rfl, rfl, rfl⟩; clear hb))
        go_ret
        exact ⟨rfl, B0⟩
end Go.Proofs.YtnmkinihkgdkgaaDoor
