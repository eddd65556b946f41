/- The walk of OctetTexts. No condition. -/
import Derived.Test.YtjjndmhkigoifaaOcts
import Derived.Test.YtjjndmhkigoifaaOcp
namespace Go.Proofs.Ytjjndmhkigoifaa
open Go.RowKit
set_option linter.unusedVariables false
set_option linter.unusedSimpArgs false

theorem wpList_append_copy_on {ops : Array Oper} {rest : List Oper} {o : Oper} {a : Act} {Q : Exit → Act → World → Prop} {w : World} (hgd : Region.wanted o (yielded ops a.tmps) = true) (s x : Operand)
    (ho : o.op = .call { callee := .builtin .append, args := #[s, x], argTypes := #[22, 22] }) (hty : o.type = 22)
    (A : Option Addr) (c : Nat) (ls : List (List UInt8)) (hs : a.eval s = .slice none 0 0) (hx : a.eval x = .slice A ls.length c)
    (hT : Txt w w.heap.size A ls) (hl : ls.length ≤ 65536)
    (h : ∀ A' c' w', Txt w' w'.heap.size A' ls → Below w.heap.size w w' → wpList Try.prog ops Q rest (a.put o.dst (.slice A' ls.length c')) w') :
    wpList Try.prog ops Q (o :: rest) a w := by
  unfold wpList
  rw [if_pos hgd]
  refine .inl ?_
  obtain ⟨A', c', w', hr, h2, h3⟩ := run_append_copy w A c ls hT hl
  unfold Oper.wp execOp
  simp only [ho, hty, resolve, invoke, builtin, Sem.run_bind, Sem.run_pure, Result.andThen_ok, List.map_toArray, List.map_cons, List.map_nil, hs, hx, hr]
  exact h A' c' w' h2 h3
theorem SlS.reads {W : World} {B n c : Nat} {A : Option Addr} {ls : List (List UInt8)} (h : SlS W B (.slice A n c) ls) : Txt W W.heap.size A ls := by
  obtain ⟨A', c', e, ht⟩ := h.txt
  injection e with e1
  subst e1; exact ht
theorem rr_len (s : List UInt8) (most : Int) : ∀ (k : Nat) (acc : List (List UInt8)) (a : Nat), (rr s most k acc a).1.length ≤ acc.length + k
  | 0, acc, a => by simp [rr]
  | k + 1, acc, a => by
    rw [rr]
    split
    · have := rr_len s most k (acc ++ [(readText (s.drop a) most).1]) (a + (readText (s.drop a) most).2.1)
      rw [List.length_append] at this
      simp at this; omega
    · simp

set_option maxRecDepth 20000 in
set_option maxHeartbeats 8000000 in
theorem OctetTexts_walk (A : Option Addr) (c : Nat) (ls : List (List UInt8)) (s : List UInt8) (count most : Int) (hl : ls.length ≤ 9223372036854775807) (hx : ∀ x ∈ ls, x.length ≤ 9223372036854775807)
    (hc : count ≤ 9223372036854775807) (hm : most ≤ 9223372036854775807) (w : World) (hT : Txt w w.heap.size A ls) :
    Calls Try.prog 3 #[.slice A ls.length c, str s, .int .i64 count, .int .i64 most] w fun e w' => e = .returned (.bool true) ∧ Below w.heap.size w w' := by
  have L1 := fun W h => long_any A c ls hl hx w.heap.size W h
  by_cases hg : longB ls = true ∨ 8192 < s.length
  · cases hlong : longB ls
    · have hs : 8192 < s.length := by simpa [hlong] using hg
      rw [hlong] at L1
      have HL1 := Lib.hid L1
      have d1 : decide ((8192 : Int) < (s.length : Int)) = true := by simp; omega
      clear L1 hx hlong hg
      go_enter Try.func3, Try.ntmps3
      go_wp2_with (first
        | (go_at_call 4; (with_reducible refine (HL1.out _ hT).mono ?_); rintro e w1 ⟨rfl, rfl⟩)
        | (go_at_call 5; refine (alive_any _).mono ?_; rintro e w1 ⟨rfl, hb⟩))
      go_ret
      exact ⟨rfl, hb⟩
    · rw [hlong] at L1
      have HL1 := Lib.hid L1
      clear L1 hx hlong hg
      go_enter Try.func3, Try.ntmps3
      go_wp2_with (first
        | (go_at_call 4; (with_reducible refine (HL1.out _ hT).mono ?_); rintro e w1 ⟨rfl, rfl⟩)
        | (go_at_call 5; refine (alive_any _).mono ?_; rintro e w1 ⟨rfl, hb⟩))
      go_ret
      exact ⟨rfl, hb⟩
  · have hlong : longB ls = false := by cases h : longB ls <;> simp_all
    have hs : s.length ≤ 8192 := by omega
    obtain ⟨x1, x2, x3⟩ := longB_false hlong
    rw [hlong] at L1
    have HL1 := Lib.hid L1
    have rl := row_len_le ls (fun x hx => by have := x1 x hx; omega)
    have rb : (row ls).length ≤ 11000 := by omega
    have d1 : decide ((8192 : Int) < (s.length : Int)) = false := by simp; omega
    have B0 : Below w.heap.size w w := Below.refl _ _
    have RT := Lib.hid (fun W => ReadText_any s (by omega) most hm W)
    have RF := Lib.hid (fun W => refReadText_any s (by omega) most hm W)
    have RA := Lib.hid (fun A2 c2 W h1 => Row_any A2 c2 ls (by omega) (fun x hx => by have := x1 x hx; omega) (by omega) W h1)
    have RB := Lib.hid (fun W h1 => refRow_any A c ls (by omega) (fun x hx => by have := x1 x hx; omega) (by omega) W h1)
    generalize readText s most = r at RT RF
    obtain ⟨t, m, er⟩ := r
    simp only at RT RF
    clear L1 hx hlong hg rl x2
    go_enter Try.func3, Try.ntmps3
    go_wp2_with (go_at_call 4; (with_reducible refine (HL1.out _ hT).mono ?_); rintro e w1 ⟨rfl, rfl⟩)
    go_loopw [9] (fun k wr => ∃ i : Nat, i ≤ ls.length ∧ k = .int .i64 i ∧ Below w.heap.size w wr) (fun k _ => ls.length - (intOf k).toNat)
    case atStart => exact ⟨0, by omega, rfl, B0⟩
    case round =>
      obtain ⟨i, hi, rfl, hB⟩ := hrel
      clear B0 HL1
      by_cases hk : i < ls.length
      · obtain ⟨b, o, rfl, hbB, hcl⟩ := hT i hk
        have g := (hB.cell (p := ⟨b, o + i, none⟩) hbB).trans hcl
        have q := Nat.lt_of_lt_of_le hbB hB.size
        have hxi := x1 _ (List.getElem_mem hk)
        clear hT hcl x1 hbB RT RF RA RB
        generalize ls[i] = x at g hxi
        have kb : 0 ≤ (i : Int) ∧ (i : Int) < (ls.length : Int) := by omega
        go_wp2_with fail
        go_region_held3 (fun w' => w'.cell? ⟨b, o + i, none⟩ = some (str x) ∧ w'.cell? ⟨b, o + i, none⟩ = some (str x) ∧ b < w'.heap.size ∧ b < w'.heap.size ∧ Below w.heap.size w w')
          (first | assumption | exact two_keep hb (by assumption) | exact ⟨g, g, q, q, hB.drew⟩)
          (first
            | (go_at_call 6; (with_reducible refine (Text_any x (by omega) _).mono ?_); rintro e w1 ⟨rfl, hb⟩)
            | (go_at_call 7; (with_reducible refine (refText_any x (by omega) _).mono ?_); rintro e w1 ⟨rfl, hb⟩))
        rename_i hS
        have hB2 := hS.2.2.2.2
        clear hS
        go_wp2
        go_roundw
        case rel => exact ⟨i + 1, by omega, by go_num, hB2⟩
        case measure => simp [intOf]; omega
      · have hz := hB.size
        have B0 := hB
        have hkf : ls.length ≤ i := by omega
        obtain ⟨cm, hcm⟩ : ∃ cm, (count ≤ 10000 → cm = count) ∧ (10000 < count → cm = 10000) := by
          by_cases h : count ≤ 10000
          · exact ⟨count, fun _ => rfl, fun _ => by omega⟩
          · exact ⟨10000, fun _ => by omega, fun _ => rfl⟩
        have CR := Lib.hid (fun W => ReadRow_any s cm most (by omega) (by omega) hm W)
        have CF := Lib.hid (fun W => refReadRow_any s cm most (by omega) (by omega) hm W)
        have SA : Hid (∀ A1 A2 c1 c2 W, Txt W W.heap.size A1 (rr s most cm.toNat [] 0).1 → Txt W W.heap.size A2 (rr s most cm.toNat [] 0).1 → Calls Try.prog 14 #[.slice A1 (rr s most cm.toNat [] 0).1.length c1, .slice A2 (rr s most cm.toNat [] 0).1.length c2] W fun e w' => e = .returned (.bool true) ∧ ∃ n, w' = W.drewN n) := by
          have hrl := rr_len s most cm.toNat [] 0
          generalize rr s most cm.toNat [] 0 = R at hrl ⊢
          intro A1 A2 c1 c2 W h1 h2
          have hrl2 : R.1.length ≤ 10000 := by simp at hrl; omega
          have := Same_any A1 A2 c1 c2 R.1 R.1 (by omega) (by omega) W.heap.size W h1 h2
          simpa using this
        generalize rr s most cm.toNat [] 0 = R at CR CF SA
        clear hk x1
        go_wp2_with (first
          | (go_at_call 8; (with_reducible refine (RT.out _).mono ?_); rintro e w1 ⟨rfl, rfl⟩)
          | (go_at_call 9; (with_reducible refine (RF.out _).mono ?_); rintro e w1 ⟨rfl, hb⟩; have B0 := below_step B0 hb ⟨rfl, rfl, rfl, rfl⟩; clear hb)
          | (at_builtin; refine wpList_append_copy_on (by rfl) (.const (.slice none 0 0)) (.tmp 75) rfl rfl A c ls rfl rfl ((hT.below B0 (Nat.le_refl _)).more B0.size) (by omega) ?_; intro A2 c2 w2 T2 hb; have B0 := below_step B0 hb ⟨rfl, rfl, rfl, rfl⟩; clear hb)
          | (go_at_call 10; (with_reducible refine (RA.out A2 c2 _ T2).mono ?_); rintro e w1 ⟨rfl, hb⟩; have B0 := below_step B0 hb ⟨rfl, rfl, rfl, rfl⟩; clear hb)
          | (go_at_call 11; (with_reducible refine (RB.out _ ((hT.below B0 (Nat.le_refl _)).more B0.size)).mono ?_); rintro e w1 ⟨rfl, hb⟩; have B0 := below_step B0 hb ⟨rfl, rfl, rfl, rfl⟩; clear hb)
          | (go_at_call 5; refine (alive_any _).mono ?_; rintro e w1 ⟨rfl, hb⟩; have B0 := below_step B0 hb ⟨rfl, rfl, rfl, rfl⟩; clear hb))
        all_goals
          first
            | (have e1 := hcm.1 (by assumption); subst e1)
            | (have e1 := hcm.2 (by assumption); subst e1)
          clear hcm RA RB RT RF
          go_wp2_with (first
            | (go_at_call 12; (with_reducible refine (CR.out _).mono ?_); rintro e w3 ⟨v1, rfl, S1, hb⟩; obtain ⟨A1, c1, rfl, _⟩ := S1.txt; have B0 := below_step B0 hb ⟨rfl, rfl, rfl, rfl⟩; clear hb)
            | (go_at_call 13; (with_reducible refine (CF.out _).mono ?_); rintro e w4 ⟨v2, rfl, S2, hb⟩; obtain ⟨A5, c5, rfl, _⟩ := S2.txt; have S1 := S1.bel hb; have B0 := below_step B0 hb ⟨rfl, rfl, rfl, rfl⟩; clear hb)
            | (go_at_call 14; (with_reducible refine (SA.out A1 A5 c1 c5 _ S1.reads S2.reads).mono ?_); rintro e w1 ⟨rfl, n, rfl⟩)
            | (go_at_call 5; refine (alive_any _).mono ?_; rintro e w1 ⟨rfl, hb⟩; have B0 := below_step B0 hb ⟨rfl, rfl, rfl, rfl⟩; clear hb))
          go_ret
          exact ⟨rfl, B0⟩
end Go.Proofs.Ytjjndmhkigoifaa
