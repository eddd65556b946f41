/- The walks of the reference's Looks, Compare. Condition: sizes that a machine has. -/
import Derived.Test.YtdmlfggokbmapaaNra
import Derived.Test.YtdmlfggokbmapaaNmq
namespace Go.Proofs.Ytdmlfggokbmapaa
open Go.RowKit
set_option linter.unusedVariables false
set_option linter.unusedSimpArgs false

theorem RnS.store {W : World} {B g n cap i : Nat} {xs : List Int} (h : RnS W B (.slice (some ⟨g, 0, none⟩) n cap) xs) (hi : i < xs.length) (y : Int) : RnS (W.setCell ⟨g, i, none⟩ (.int .i32 y)) B (.slice (some ⟨g, 0, none⟩) n cap) (xs.set i y) ∧ W.frozen? ⟨g, i, none⟩ = false ∧ W.cell? ⟨g, i, none⟩ = some (.int .i32 xs[i]) ∧ g < W.heap.size ∧ B ≤ g := by
  rcases h.2 with ⟨hn, _⟩ | ⟨g', cap', cur, hv, hB, hg, hn, hc, hcs, htk⟩
  · cases hn
  · cases hv
    have hcell : cur[i]? = some (.int .i32 xs[i]) := by
      have h5 : (cur.toList.take (xs.length * 1))[i]? = some (.int .i32 xs[i]) := by rw [htk]; simp [hi]
      rw [List.getElem?_take_of_lt (by omega)] at h5
      simpa using h5
    have hs := heap_setCell_same W _ i cur _ (.int .i32 y) hg
    refine ⟨?_, frozen_of_row _ _ i _ _ hg, (cell_of_row _ _ i _ _ (0, 0) hg).trans hcell, (Array.getElem?_eq_some_iff.1 hg).1, hB⟩
    show World.ownsRow _ _ _ _ _ _ _
    refine ⟨by simp, .inr ⟨_, _, _, by simp, hB, hs, by simpa using hn, hc, by simpa using hcs, ?_⟩⟩
    simp only [Nat.mul_one, List.length_set] at htk ⊢
    rw [Array.toList_setIfInBounds, List.take_set, htk, List.map_set]

set_option maxRecDepth 100000 in
set_option maxHeartbeats 4000000 in
theorem Looks_any (l : List UInt8) (hl : l.length ≤ 100000) (w : World) :
    Calls Try.prog 22 #[str l] w fun e w' => ∃ v, e = .returned v ∧ RnS w' w.heap.size v (lks l) ∧ Below w.heap.size w w' := by
  have CR := Lib.hid (Runes_any l hl w)
  have CK := Lib.hid (fun r W => refLook_any r W)
  have hrl := rn_len l
  go_enter Try.func22, Try.ntmps22
  go_wp2_with (refine CR.out.mono ?_; rintro e w1 ⟨v, rfl, hR, hb⟩; obtain ⟨A, c, rfl, -⟩ := hR.txt; have HH := Lib.hid (And.intro hR hb); clear hR hb)
  clear CR
  go_loopw [4] (fun k wr => ∃ (pre rest : List Int), k = .int .i64 (pre.length : Int) ∧ pre.length + rest.length = (rn l).length ∧ Hid (rn l = pre ++ rest ∧ RnS wr w.heap.size (.slice A (rn l).length c) (pre.map lk ++ rest) ∧ Below w.heap.size w wr)) (fun k _ => (rn l).length - (intOf k).toNat)
  case atStart => exact ⟨[], rn l, rfl, by simp, rfl, HH.out⟩
  case round =>
    clear HH
    obtain ⟨pre, rest, rfl, hlen, hI⟩ := hrel
    cases rest with
    | nil =>
      have he : pre.length = (rn l).length := by simpa using hlen
      have hpre : pre.map lk = lks l := by unfold lks; rw [hI.out.1]; simp
      have FIN := hI.out.2
      rw [List.append_nil, hpre] at FIN
      have HF := Lib.hid FIN
      clear FIN hI hpre CK hlen
      have d0 : decide ((pre.length : Int) < ((rn l).length : Int)) = false := by simp; omega
      go_wp2_with fail
      go_ret
      exact ⟨_, rfl, HF.out⟩
    | cons r rest =>
      have hlt : pre.length < (rn l).length := by simp at hlen; omega
      have hA : ∃ g, A = some ⟨g, 0, none⟩ := by
        rcases hI.out.2.1.2 with ⟨hv, h0⟩ | ⟨g, cap, cur, hv, _⟩
        · simp at h0
        · injection hv with e1 e2 e3; exact ⟨g, e1⟩
      obtain ⟨g, hA⟩ := hA
      subst hA
      have hi2 : pre.length < (pre.map lk ++ r :: rest).length := by simp
      obtain ⟨s1, s2, s3, s4, s5⟩ := hI.out.2.1.store hi2 (lk r)
      have e1 : (pre.map lk ++ r :: rest)[pre.length] = r := by
        rw [List.getElem_append_right (by simp)]
        simp
      rw [e1] at s3
      have e2 : (pre.map lk ++ r :: rest).set pre.length (lk r) = (pre ++ [r]).map lk ++ rest := by
        rw [List.set_append_right _ _ (by simp)]
        simp
      rw [e2] at s1
      have NI := Lib.hid (And.intro (show rn l = (pre ++ [r]) ++ rest by rw [hI.out.1]; simp) (And.intro s1 (show Below w.heap.size w (wr.setCell ⟨g, pre.length, none⟩ (.int .i32 (lk r))) from hI.out.2.2.setCell s5 _)))
      have CX := Lib.hid (fun W => CK.out r W)
      clear hI s1 s4 s5 e1 e2 CK hi2
      generalize lk r = r2 at NI CX
      have kb : 0 ≤ (pre.length : Int) ∧ (pre.length : Int) < ((rn l).length : Int) := by omega
      have d0 : decide ((pre.length : Int) < ((rn l).length : Int)) = true := by simp; omega
      have hb100 : (rn l).length ≤ 100000 := by omega
      go_wp2_with (go_at_call 16; (with_reducible refine (CX.out _).mono ?_); rintro e w2 ⟨rfl, rfl⟩)
      go_roundw
      case rel => exact ⟨pre ++ [r], rest, by first | (simp; done) | (simp; first | rfl | go_num), by simp at hlen ⊢; omega, NI.out⟩
      case measure => simp [intOf]; omega

set_option maxRecDepth 100000 in
set_option maxHeartbeats 4000000 in
theorem refCompare_any (A A' : Option Addr) (c c' : Nat) (xs ys : List Int) (hx : xs.length ≤ 1000000) (hy : ys.length ≤ 1000000) (w : World) (hT : Rns w A xs) (hU : Rns w A' ys) :
    Calls Try.prog 28 #[.slice A xs.length c, .slice A' ys.length c'] w fun e w' => e = .returned (.int .i64 (cmpL xs ys)) ∧ ∃ n, w' = w.drewN n := by
  have HT := Lib.hid hT
  have HU := Lib.hid hU
  go_enter Try.func28, Try.ntmps28
  go_wp2_with fail
  clear hT hU
  go_loopw [5] (fun k wr => ∃ i n : Nat, i ≤ xs.length ∧ i ≤ ys.length ∧ Hid (cmpL xs ys = cmpL (xs.drop i) (ys.drop i)) ∧ k = .int .i64 (i : Int) ∧ wr = w.drewN n) (fun k _ => xs.length - (intOf k).toNat)
  case atStart => exact ⟨0, 0, by omega, by omega, rfl, rfl, rfl⟩
  case round =>
    obtain ⟨i, n, hi, hi2, hE, rfl, rfl⟩ := hrel
    by_cases hlt : i < xs.length ∧ i < ys.length
    · obtain ⟨hlx, hly⟩ := hlt
      obtain ⟨b, o, hA, _, hc⟩ := HT.out i hlx
      obtain ⟨b2, o2, hA2, _, hc2⟩ := HU.out i hly
      have hd := hE.out
      rw [List.drop_eq_getElem_cons hlx, List.drop_eq_getElem_cons hly] at hd
      have e : cmpL (xs[i] :: xs.drop (i + 1)) (ys[i] :: ys.drop (i + 1)) = if xs[i] < ys[i] then -1 else if ys[i] < xs[i] then 1 else cmpL (xs.drop (i + 1)) (ys.drop (i + 1)) := rfl
      rw [e] at hd
      clear e
      have kb : 0 ≤ (i : Int) ∧ (i : Int) < (xs.length : Int) := by omega
      have kb2 : 0 ≤ (i : Int) ∧ (i : Int) < (ys.length : Int) := by omega
      have d0 : decide ((i : Int) < (xs.length : Int)) = true := by simp; omega
      have d1 : decide ((i : Int) < (ys.length : Int)) = true := by simp; omega
      subst hA hA2
      generalize xs[i] = x at hc hd
      generalize ys[i] = y at hc2 hd
      by_cases h1 : x < y
      · rw [if_pos h1] at hd
        have HR : Hid (cmpL xs ys = -1) := hd
        have d2 : decide (x < y) = true := by simpa using h1
        clear hd hE HT HU
        go_wp2_with fail
        go_quiet (fail)
        go_wp2_with fail
        go_ret
        exact ⟨by rw [HR.out]; rfl, _, by first | rfl | exact World.drewN_drewN _ _ _⟩
      · rw [if_neg h1] at hd
        have d2 : decide (x < y) = false := by simpa using h1
        by_cases h2 : y < x
        · rw [if_pos h2] at hd
          have HR : Hid (cmpL xs ys = 1) := hd
          have d3 : decide (y < x) = true := by simpa using h2
          clear hd hE HT HU
          go_wp2_with fail
          go_quiet (fail)
          go_wp2_with fail
          go_quiet (fail)
          go_wp2_with fail
          go_ret
          exact ⟨by rw [HR.out]; rfl, _, by rw [World.drewN_drewN, World.drewN_drewN]⟩
        · rw [if_neg h2] at hd
          have HR : Hid (cmpL xs ys = cmpL (xs.drop (i + 1)) (ys.drop (i + 1))) := hd
          have d3 : decide (y < x) = false := by simpa using h2
          clear hd hE HT HU
          go_wp2_with fail
          go_quiet (fail)
          go_wp2_with fail
          go_quiet (fail)
          go_wp2_with fail
          go_roundw
          case rel => exact ⟨i + 1, _, by omega, by omega, HR, by go_num, by first | rfl | (rw [World.drewN_drewN, World.drewN_drewN]) | (trace_state; rfl)⟩
          case measure => simp [intOf]; omega
    · clear HT HU
      have hd := hE.out
      by_cases hlx : i < xs.length
      · have hly : i = ys.length := by omega
        rw [List.drop_eq_getElem_cons hlx, List.drop_of_length_le (show ys.length ≤ i by omega)] at hd
        have HR : Hid (cmpL xs ys = 1) := hd
        have d0 : decide ((i : Int) < (xs.length : Int)) = true := by simp; omega
        have d1 : decide ((i : Int) < (ys.length : Int)) = false := by simp; omega
        have d2 : decide ((xs.length : Int) < (ys.length : Int)) = false := by simp; omega
        have d3 : decide ((ys.length : Int) < (xs.length : Int)) = true := by simp; omega
        clear hd hE
        go_wp2_with fail
        go_ret
        exact ⟨by rw [HR.out]; rfl, n, rfl⟩
      · have d0 : decide ((i : Int) < (xs.length : Int)) = false := by simp; omega
        by_cases hly : i < ys.length
        · rw [List.drop_of_length_le (show xs.length ≤ i by omega), List.drop_eq_getElem_cons hly] at hd
          have HR : Hid (cmpL xs ys = -1) := hd
          have d2 : decide ((xs.length : Int) < (ys.length : Int)) = true := by simp; omega
          clear hd hE
          go_wp2_with fail
          go_ret
          exact ⟨by rw [HR.out]; rfl, n, rfl⟩
        · rw [List.drop_of_length_le (show xs.length ≤ i by omega), List.drop_of_length_le (show ys.length ≤ i by omega)] at hd
          have HR : Hid (cmpL xs ys = 0) := hd
          have d2 : decide ((xs.length : Int) < (ys.length : Int)) = false := by simp; omega
          have d3 : decide ((ys.length : Int) < (xs.length : Int)) = false := by simp; omega
          clear hd hE
          go_wp2_with fail
          go_ret
          exact ⟨by rw [HR.out]; rfl, n, rfl⟩
end Go.Proofs.Ytdmlfggokbmapaa
