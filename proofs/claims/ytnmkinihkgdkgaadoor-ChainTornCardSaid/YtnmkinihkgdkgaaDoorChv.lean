/- The walks of chain's check, Frame, Next, and of the reference's First, Next, Frame. Condition: the table k reads as the standard's numbers; sizes that a machine has. -/
import Derived.Test.YtnmkinihkgdkgaaDoorChw
import Derived.Test.YtnmkinihkgdkgaaDoorAcp
namespace Go.Proofs.YtnmkinihkgdkgaaDoor
open Go.RowKit
set_option linter.unusedVariables false
set_option linter.unusedSimpArgs false

def bigN : List (List UInt8) → Nat
  | [] => 0
  | x :: r => if 8192 < x.length then 5 else bigN r
def cE (first : List UInt8) (ls : List (List UInt8)) : Nat := if first.length = 32 then bigN ls else 2
theorem bigN_zero : ∀ {ls : List (List UInt8)}, bigN ls = 0 → ∀ x ∈ ls, x.length ≤ 8192
  | [], _, x, hx => by simp at hx
  | y :: r, h, x, hx => by
    simp only [bigN] at h
    split at h
    · cases h
    · rcases List.mem_cons.1 hx with rfl | hx
      · omega
      · exact bigN_zero h x hx
theorem bigN_is : ∀ ls : List (List UInt8), bigN ls = 0 ∨ bigN ls = 5
  | [] => .inl rfl
  | y :: r => by
    simp only [bigN]
    split
    · exact .inr rfl
    · exact bigN_is r
theorem err_val {a b : Nat} (h : a = b) : Ending.returned (.int .i64 (a : Int)) = .returned (.int .i64 (b : Int)) := by rw [h]

set_option maxHeartbeats 1000000 in
theorem check_any (first : List UInt8) (A : Option Addr) (c : Nat) (ls : List (List UInt8)) (hl : ls.length ≤ 9223372036854775807) (B : Nat) (w : World) (hT : Txt w B A ls) :
    Calls Tryd.prog 26 #[str first, .slice A ls.length c] w fun e w' => e = .returned (.int .i64 (cE first ls : Int)) ∧ w = w' := by
  by_cases hf : first.length = 32
  · have d1 : ((first.length : Int) != 32) = false := by simp; omega
    have hc : cE first ls = bigN ls := by rw [cE, if_pos hf]
    rw [hc]
    generalize hb : bigN ls = bb
    have HB := Lib.hid hb
    clear hb hc
    go_enter Tryd.func26, Tryd.ntmps26
    go_wp2_with fail
    go_loop [12] (fun k => ∃ i : Nat, i ≤ ls.length ∧ Hid (bigN (ls.drop i) = bb) ∧ k = .int .i64 i) (fun k => ls.length - (intOf k).toNat)
    case atStart => exact ⟨0, by omega, HB.out, rfl⟩
    case round =>
      obtain ⟨i, hi, hg, rfl⟩ := hrel
      by_cases hk : i < ls.length
      · have hd : ls.drop i = ls[i] :: ls.drop (i + 1) := List.drop_eq_getElem_cons hk
        have hg2 := hg.out
        rw [hd] at hg2
        simp only [bigN] at hg2
        obtain ⟨b, o, rfl, _, hcl⟩ := hT i hk
        generalize ls[i] = x at hg2 hcl
        have HG := Lib.hid hg2
        clear hg2 hg hT hd
        by_cases h1 : 8192 < x.length
        · go_wp2_with fail
          go_ret
          have e : bb = 5 := by rw [← HG.out, if_pos h1]
          exact ⟨by first | rfl | (rw [e]; rfl), rfl⟩
        · go_wp2_with fail
          go_round
          case rel => exact ⟨i + 1, by omega, by show _ = _; rw [← HG.out, if_neg h1], by go_num⟩
          case measure => simp [intOf]; omega
      · have he : ls.drop i = [] := List.drop_eq_nil_of_le (by omega)
        have e : bb = 0 := by rw [← hg.out, he]; rfl
        clear hg hT
        go_wp2_with fail
        go_ret
        exact ⟨by first | rfl | (rw [e]; rfl), rfl⟩
  · have d1 : ((first.length : Int) != 32) = true := by simp; omega
    have hc : cE first ls = 2 := by rw [cE, if_neg hf]
    rw [hc]
    go_enter Tryd.func26, Tryd.ntmps26
    go_wp2_with fail
    go_ret
    exact ⟨rfl, rfl⟩

theorem txt_one (W : World) (x : List UInt8) : Txt (W.alloc (.cells #[str x] 9 (0, 0))) (W.heap.size + 1) (some ⟨W.heap.size, 0, none⟩) [x] := by
  intro i hi
  simp at hi; subst hi
  exact ⟨_, _, rfl, by omega, cell_of_row _ _ 0 #[str x] _ (0, 0) (heap_alloc_new W _)⟩

def frT (l rec : List UInt8) : List UInt8 × List UInt8 × Nat := if cE l [rec] = 0 then (text rec ++ nx l rec, nx l rec, 0) else ([], [], cE l [rec])
theorem cE_ok {l rec : List UInt8} (h : cE l [rec] = 0) : l.length = 32 ∧ rec.length ≤ 8192 := by
  unfold cE at h
  split at h
  · rename_i h1
    exact ⟨h1, bigN_zero h rec (by simp)⟩
  · cases h

set_option maxRecDepth 100000 in
set_option maxHeartbeats 4000000 in
theorem Frame_any (l rec : List UInt8) (w : World) (hK : KT w) :
    Calls Tryd.prog 16 #[str l, str rec] w fun e w' => e = .returned (.tuple #[str (frT l rec).1, str (frT l rec).2.1, .int .i64 ((frT l rec).2.2 : Int)]) ∧ Below w.heap.size w w' := by
  have HK := Lib.hid hK
  have C1 : Calls Tryd.prog 26 #[str l, .slice (some ⟨w.heap.size, 0, none⟩) 1 1] (w.alloc (.cells #[str rec] 9 (0, 0))) fun e w' => e = .returned (.int .i64 (cE l [rec] : Int)) ∧ (w.alloc (.cells #[str rec] 9 (0, 0))) = w' := check_any l (some ⟨w.heap.size, 0, none⟩) 1 [rec] (by simp) _ _ (txt_one w rec)
  have B1 := Lib.hid ((Below.refl _ w).alloc (Nat.le_refl _) (.cells #[str rec] 9 (0, 0)))
  clear hK
  generalize hE : cE l [rec] = E at C1
  have HC := Lib.hid C1
  clear C1
  by_cases h0 : E = 0
  · subst h0
    obtain ⟨h1, h2⟩ := cE_ok hE
    have hF : frT l rec = (text rec ++ nx l rec, nx l rec, 0) := by rw [frT, if_pos hE]
    rw [hF]
    have CO := Lib.hid (fun W => of_any l h1 W)
    have CN := Lib.hid (fun W hk => next_any l rec h1 (by omega) W hk)
    have CT := Lib.hid (fun W => Text_any rec (by omega) W)
    have hsz := size_lk (nx l rec) (nx_len l rec)
    have htl : (text rec).length ≤ 8300 := by have := num_len (v := rec.length) (by omega); unfold text; rw [List.length_append]; omega
    have hnl := nx_len l rec
    have sa := str_add (P := Tryd.prog) (text rec) (nx l rec) (by omega)
    clear hE hF
    go_enter Tryd.func16, Tryd.ntmps16
    go_wp2_with (go_at_call 26; (with_reducible refine HC.out.mono ?_); rintro e w1 ⟨rfl, rfl⟩)
    refine (CO.out _).mono ?_
    rintro e w2 ⟨rfl, b2⟩
    have B2 := Lib.hid (below_acc B1.out b2)
    clear b2 B1 HC CO
    go_wp2_with fail
    refine (CN.out _ (HK.out.below B2.out HK.out.lt)).mono ?_
    rintro e w3 ⟨rfl, b3⟩
    have B3 := Lib.hid (below_acc B2.out b3)
    clear b3 B2 CN
    go_wp2_with (first
      | (refine wpList_store_put rfl 49 _ _ rfl w3.heap.size (byc (nx l rec)).toArray (by rfl) (by rfl) 49 _ (heap_alloc_new w3 _) hsz (by simp [byc, nx_len]) (one_byc _) ?_; intro W4 P4; have cv4 := conv_32 W4 w3.heap.size (nx l rec) _ hnl P4.here; have B4 := Lib.hid (P4.below (B3.out.alloc B3.out.size _) B3.out.size); clear P4)
      | (go_at_call 30; (with_reducible refine (CT.out _).mono ?_); rintro e w5 ⟨rfl, b5⟩; have B5 := Lib.hid (below_acc B4.out b5); clear b5))
    go_ret3
    exact ⟨rfl, B5.out⟩
  · have hF : frT l rec = ([], [], E) := by rw [frT, hE, if_neg h0]
    rw [hF]
    have d1 : ((E : Int) != 0) = true := by simp; omega
    clear hE hF
    go_enter Tryd.func16, Tryd.ntmps16
    go_wp2_with (go_at_call 26; (with_reducible refine HC.out.mono ?_); rintro e w1 ⟨rfl, rfl⟩)
    go_ret3
    exact ⟨rfl, B1.out⟩

set_option maxRecDepth 100000 in
set_option maxHeartbeats 4000000 in
theorem Next_any (l rec : List UInt8) (w : World) (hK : KT w) :
    Calls Tryd.prog 17 #[str l, str rec] w fun e w' => e = .returned (.tuple #[str (frT l rec).2.1, .int .i64 ((frT l rec).2.2 : Int)]) ∧ Below w.heap.size w w' := by
  have C1 := Lib.hid (Frame_any l rec w hK)
  generalize frT l rec = r at C1 ⊢
  obtain ⟨a, b, e⟩ := r
  simp only at C1 ⊢
  clear hK
  go_enter Tryd.func17, Tryd.ntmps17
  go_wp2_with (go_at_call 16; (with_reducible refine C1.out.mono ?_); rintro e w1 ⟨rfl, b1⟩)
  go_ret2
  exact ⟨rfl, b1⟩

theorem zero32 (W : World) : (Instr.makeSlice 44 (.int .i64 32) (.int .i64 32)).run Tryd.prog W = .ok (.slice (some ⟨W.heap.size, 0, none⟩) 32 32) (W.alloc (.cells (byc z32).toArray 5 (0, 0))) := by
  obtain ⟨i0, hi, hz0, hz1, hz2⟩ := info_parts u8_info
  have h := run_make (P := Tryd.prog) W 44 5 i0 _ Tryd.underlying44 hi hz0 .i64 .i64 32 32 (by omega) (by omega) (by rw [hz2]; omega) (by omega)
  rw [h, hz1]
  congr 3
  have e : (madeCells (Value.int .u8 0).cells ((32 : Int).toNat * 1)) = (byc z32).toArray := by
    apply Array.toList_inj.1
    have : (Value.int .u8 0).cells = #[Value.int .u8 0] := rfl
    rw [this, toList_madeCells_one]; simp [byc, z32]
  rw [e]
theorem refFirst_any (w : World) :
    Calls Tryd.prog 24 #[] w fun e w' => e = .returned (str z32) ∧ Below w.heap.size w w' := by
  have mk := zero32 w
  have cv := conv_32 (w.alloc (.cells (byc z32).toArray 5 (0, 0))) w.heap.size z32 _ (by simp [z32]) (heap_alloc_new w _)
  have hb := Lib.hid ((Below.refl _ w).alloc (Nat.le_refl _) (.cells (byc z32).toArray 5 (0, 0)))
  go_enter Tryd.func24, Tryd.ntmps24
  go_wp2_with fail
  go_ret
  exact ⟨rfl, hb.out⟩
theorem refNext_any (l rec : List UInt8) (hl : l.length + rec.length ≤ 1099511620000) (w : World) :
    Calls Tryd.prog 19 #[str l, str rec] w fun e w' => e = .returned (str (nx l rec)) ∧ Below w.heap.size w w' := by
  have sa := str_add (P := Tryd.prog) l rec (by omega)
  have CS := Lib.hid (refSum_any (l ++ rec) (by simp; omega) w)
  go_enter Tryd.func19, Tryd.ntmps19
  go_wp2_with (go_at_call 22; (with_reducible refine CS.out.mono ?_); rintro e w1 ⟨rfl, b1⟩)
  go_ret
  exact ⟨rfl, b1⟩
theorem refFrame_any (l rec : List UInt8) (hl : l.length ≤ 8192) (hr : rec.length ≤ 20000) (w : World) :
    Calls Tryd.prog 18 #[str l, str rec] w fun e w' => e = .returned (str (text rec ++ nx l rec)) ∧ Below w.heap.size w w' := by
  have CT := Lib.hid (fun W => refText_any rec (by omega) W)
  have CN := Lib.hid (fun W => refNext_any l rec (by omega) W)
  have htl : (text rec).length ≤ 20100 := by have := num_len (v := rec.length) (by omega); unfold text; rw [List.length_append]; omega
  have hnl := nx_len l rec
  have sa := str_add (P := Tryd.prog) (text rec) (nx l rec) (by omega)
  have B0 : Below w.heap.size w w := Below.refl _ w
  go_enter Tryd.func18, Tryd.ntmps18
  go_wp2_with (first
    | (go_at_call 27; (with_reducible refine (CT.out _).mono ?_); rintro e w1 ⟨rfl, hb⟩; have B0 := below_step B0 hb ⟨rfl, rfl, rfl, rfl⟩; clear hb)
    | (go_at_call 19; (with_reducible refine (CN.out _).mono ?_); rintro e w1 ⟨rfl, hb⟩; have B0 := below_step B0 hb ⟨rfl, rfl, rfl, rfl⟩; clear hb))
  go_ret
  exact ⟨rfl, B0⟩
end Go.Proofs.YtnmkinihkgdkgaaDoor
