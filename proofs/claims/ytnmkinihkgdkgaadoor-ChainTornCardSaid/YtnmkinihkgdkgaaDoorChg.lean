/- The walks of the reference's Frames, and of the law's long and alive. Condition: the table k reads as the standard's numbers; sizes that a machine has. -/
import Derived.Test.YtnmkinihkgdkgaaDoorChf
namespace Go.Proofs.YtnmkinihkgdkgaaDoor
open Go.RowKit
set_option linter.unusedVariables false
set_option linter.unusedSimpArgs false

def rfT (s link : List UInt8) : List (List UInt8) → List UInt8 × List UInt8 × Nat
  | [] => (s, link, 0)
  | x :: r => if 8192 < x.length then ([], [], 5) else rfT (s ++ (text x ++ nx link x)) (nx link x) r
theorem rfT_is : ∀ (ls : List (List UInt8)) (s link : List UInt8), rfT s link ls = if bigN ls = 0 then (s ++ frs link ls, hd link ls, 0) else ([], [], 5)
  | [], s, link => by simp [rfT, bigN, frs, hd]
  | x :: r, s, link => by
    by_cases h : 8192 < x.length
    · have e : bigN (x :: r) = 5 := by rw [bigN, if_pos h]
      rw [if_neg (by omega), rfT, if_pos h]
    · have e : bigN (x :: r) = bigN r := by rw [bigN, if_neg h]
      rw [rfT, if_neg h, rfT_is r]
      by_cases h2 : bigN r = 0
      · rw [if_pos h2, if_pos (by omega)]; simp [frs, hd]
      · rw [if_neg h2, if_neg (by omega)]

set_option maxRecDepth 100000 in
set_option maxHeartbeats 4000000 in
theorem refFrames_any (A : Option Addr) (c : Nat) (ls : List (List UInt8)) (hl : ls.length ≤ 9223372036854775807) (hx : ∀ x ∈ ls, x.length ≤ 16384) (hf : (frs z32 ls).length ≤ 1099511620000) (w : World) (hT : Txt w w.heap.size A ls) :
    Calls Tryd.prog 20 #[.slice A ls.length c] w fun e w' => e = .returned (.tuple #[str (frsT ls).1, str (frsT ls).2.1, .int .i64 ((frsT ls).2.2 : Int)]) ∧ Below w.heap.size w w' := by
  have hR : rfT [] z32 ls = frsT ls := by rw [rfT_is, frsT]; simp
  rw [← hR]
  generalize hRR : rfT [] z32 ls = R
  have HR := Lib.hid hRR
  have CF := Lib.hid (fun W => refFirst_any W)
  have HF := Lib.hid hf
  have hz := z32_len
  clear hf hR hRR
  go_enter Tryd.func20, Tryd.ntmps20
  go_wp2_with (go_at_call 24; (with_reducible refine (CF.out _).mono ?_); rintro e w1 ⟨rfl, b1⟩; have B1 := Lib.hid b1; clear b1)
  go_loopw [5, 6, 7] (fun f h k wr => ∃ (i : Nat) (link : List UInt8), i ≤ ls.length ∧ f = str (frs z32 (ls.take i)) ∧ h = str link ∧ k = .int .i64 i ∧ Hid (link = hd z32 (ls.take i) ∧ rfT (frs z32 (ls.take i)) link (ls.drop i) = R ∧ Below w.heap.size w wr)) (fun _ _ k _ => ls.length - (intOf k).toNat)
  case atStart => exact ⟨0, z32, by omega, rfl, rfl, rfl, rfl, HR.out, B1.out⟩
  case round =>
    obtain ⟨i, link, hi, rfl, rfl, rfl, hB⟩ := hrel
    clear B1 CF HR
    by_cases hk : i < ls.length
    · obtain ⟨b, o, rfl, hbB, hcl⟩ := hT i hk
      have g := (hB.out.2.2.cell (p := ⟨b, o + i, none⟩) hbB).trans hcl
      have hx1 := hx _ (List.getElem_mem hk)
      have hh : link.length = 32 := by rw [hB.out.1]; exact hd_len _ _ hz
      have e1 := frs_snoc (ls.take i) ls[i] z32
      have e2 := hd_snoc (ls.take i) ls[i] z32
      rw [← hB.out.1] at e1 e2
      have hle := frs_take_le z32 ls (i + 1)
      have hF := HF.out
      have hRd := hB.out.2.1
      rw [List.drop_eq_getElem_cons hk, rfT] at hRd
      rw [List.take_succ_eq_append_getElem hk] at hle
      have E1 : Hid (frs z32 (ls.take (i + 1)) = frs z32 (ls.take i) ++ (text ls[i] ++ nx link ls[i]) ∧ hd z32 (ls.take (i + 1)) = nx link ls[i] ∧ (if 8192 < ls[i].length then ([], [], 5) else rfT (frs z32 (ls.take i) ++ (text ls[i] ++ nx link ls[i])) (nx link ls[i]) (ls.drop (i + 1))) = R) := by
        rw [List.take_succ_eq_append_getElem hk]; exact ⟨e1, e2, hRd⟩
      rw [e1] at hle
      have HBB := Lib.hid hB.out.2.2
      have hq : (b < wr.heap.size) := Nat.lt_of_lt_of_le hbB hB.out.2.2.size
      clear e1 e2 hT hcl hRd hB hx
      generalize frs z32 (ls.take i) = fr at E1 hle ⊢
      generalize ls[i] = x at E1 hle g hx1
      by_cases hbig : 8192 < x.length
      · have hRe : ([], [], 5) = R := by have := E1.out.2.2; rwa [if_pos hbig] at this
        subst hRe
        go_wp2_with fail
        go_ret3
        exact ⟨rfl, HBB.out⟩
      · have CR := Lib.hid (fun W => refFrame_any link x (by omega) (by omega) W)
        have CN := Lib.hid (fun W => refNext_any link x (by omega) W)
        have hle2 : fr.length + (text x ++ nx link x).length ≤ 1099511620000 := by rw [List.length_append] at hle; omega
        have sa := str_add (P := Tryd.prog) fr (text x ++ nx link x) (by omega)
        clear hle
        go_wp2_with (first
          | (go_at_call 18; (with_reducible refine (CR.out _).mono ?_); rintro e w1 ⟨rfl, b1⟩; have B1 := Lib.hid (below_acc HBB.out b1); have g1 := (b1.cell (p := ⟨b, o + i, none⟩) hq).trans g; clear b1)
          | (go_at_call 19; (with_reducible refine (CN.out _).mono ?_); rintro e w2 ⟨rfl, b2⟩; have B2 := Lib.hid (below_acc B1.out b2); clear b2))
        go_roundw
        case rel => exact ⟨i + 1, nx link x, by omega, by rw [E1.out.1], rfl, by go_num, E1.out.2.1.symm, by have := E1.out.2.2; rw [if_neg hbig] at this; rw [E1.out.1]; exact this, B2.out⟩
        case measure => simp [intOf]; omega
    · have he : ls.take i = ls := List.take_of_length_le (by omega)
      have hd0 : ls.drop i = [] := List.drop_eq_nil_of_le (by omega)
      have hq := hB.out
      rw [he, hd0] at hq
      have hRe := hq.2.1
      rw [rfT] at hRe
      have BB := Lib.hid hq.2.2
      clear hq hB hT HF hx hd0
      subst hRe
      rw [he]
      go_wp2_with fail
      go_ret3
      exact ⟨rfl, BB.out⟩

/-! ### long -/
def lgGo : Nat → List (List UInt8) → Bool
  | _, [] => false
  | n, x :: r => decide (16384 < x.length) || (decide (32768 < n) || lgGo (n + x.length) r)
def lgB (ls : List (List UInt8)) : Bool := lgGo 0 ls || decide (60 < ls.length)
theorem lgGo_false : ∀ (ls : List (List UInt8)) (n : Nat), lgGo n ls = false → ∀ x ∈ ls, x.length ≤ 16384
  | [], n, _, x, hx => by simp at hx
  | y :: r, n, h, x, hx => by
    simp only [lgGo, Bool.or_eq_false_iff, decide_eq_false_iff_not] at h
    rcases List.mem_cons.1 hx with rfl | hx
    · omega
    · exact lgGo_false r _ h.2.2 x hx
theorem frs_len_le : ∀ (ls : List (List UInt8)) (l : List UInt8), (∀ x ∈ ls, x.length ≤ 16384) → (frs l ls).length ≤ 16425 * ls.length
  | [], l, _ => by simp [frs]
  | x :: r, l, h => by
    have h1 := h x (by simp)
    have h2 := frs_len_le r (nx l x) (fun y hy => h y (by simp [hy]))
    have h3 := num_len (v := x.length) (by omega)
    have h4 := nx_len l x
    simp only [frs, text, List.length_append, List.length_cons]; omega
theorem lgB_false {ls : List (List UInt8)} (h : lgB ls = false) : (∀ x ∈ ls, x.length ≤ 16384) ∧ ls.length ≤ 60 ∧ (frs z32 ls).length ≤ 1000000 := by
  simp only [lgB, Bool.or_eq_false_iff, decide_eq_false_iff_not] at h
  have h1 := lgGo_false ls 0 h.1
  have h2 := frs_len_le ls z32 h1
  exact ⟨h1, by omega, by omega⟩
set_option maxHeartbeats 400000 in
theorem long_any (A : Option Addr) (c : Nat) (ls : List (List UInt8)) (hl : ls.length ≤ 9223372036854775807) (hx : ∀ x ∈ ls, x.length ≤ 9223372036854775807) (B : Nat) (w : World) (hT : Txt w B A ls) :
    Calls Tryd.prog 13 #[.slice A ls.length c] w fun e w' => e = .returned (.bool (lgB ls)) ∧ w = w' := by
  go_enter Tryd.func13, Tryd.ntmps13
  go_wp2_with fail
  go_loop [3, 4] (fun n k => ∃ i m : Nat, i ≤ ls.length ∧ m ≤ 49152 ∧ Hid (lgGo 0 ls = lgGo m (ls.drop i)) ∧ n = .int .i64 m ∧ k = .int .i64 i) (fun _ k => ls.length - (intOf k).toNat)
  case atStart => exact ⟨0, 0, by omega, by omega, rfl, rfl, rfl⟩
  case round =>
    obtain ⟨i, m, hi, hm, hg, rfl, rfl⟩ := hrel
    by_cases hk : i < ls.length
    · have hd : ls.drop i = ls[i] :: ls.drop (i + 1) := List.drop_eq_getElem_cons hk
      have hg2 := hg.out
      rw [hd] at hg2
      simp only [lgGo] at hg2
      obtain ⟨b, o, rfl, _, hc⟩ := hT i hk
      have hxi := hx ls[i] (List.getElem_mem hk)
      generalize ls[i] = x at hg2 hc hxi
      have Hg := Lib.hid hg2
      clear hg hg2 hT hx hd
      by_cases h1 : 16384 < x.length
      · go_wp2_with fail
        go_ret
        exact ⟨ret_bool (by rw [lgB, Hg.out]; simp [h1]), rfl⟩
      · by_cases h2 : 32768 < m
        · go_wp2_with fail
          go_ret
          exact ⟨ret_bool (by rw [lgB, Hg.out]; simp [h2]), rfl⟩
        · go_wp2_with fail
          go_round
          case rel => exact ⟨i + 1, m + x.length, by omega, by omega, by show _ = _; rw [Hg.out]; simp [h1, h2], by go_num, by go_num⟩
          case measure => simp [intOf]; omega
    · have he : ls.length ≤ i := by omega
      have Hg := hg
      clear hg hT hx
      go_wp2_with fail
      go_ret
      refine ⟨ret_bool ?_, rfl⟩
      rw [lgB, Hg.out, List.drop_eq_nil_of_le he]
      simp [lgGo]; omega
end Go.Proofs.YtnmkinihkgdkgaaDoor
