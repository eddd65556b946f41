/- The walk of OctetApart: no number's bytes, and no text's, begin with another one's; rows of as many texts have the same bytes just if they are the same. Condition: sizes that a machine has. -/
import Derived.Test.YtcndehoaflpifaaOcts
namespace Go.Proofs.Ytcndehoaflpifaa
open Go.RowKit
set_option linter.unusedVariables false

set_option maxRecDepth 20000 in
set_option maxHeartbeats 4000000 in
theorem OctetApart_walk (v u : Int) (A A' : Option Addr) (c c' : Nat) (ls ms : List (List UInt8)) (v0 : 0 ≤ v) (v1 : v ≤ 18446744073709551615) (u0 : 0 ≤ u) (u1 : u ≤ 18446744073709551615)
    (hl : ls.length ≤ 9223372036854775807) (hm : ms.length ≤ 9223372036854775807) (hx : ∀ x ∈ ls, x.length ≤ 9223372036854775807) (hy : ∀ x ∈ ms, x.length ≤ 9223372036854775807)
    (w : World) (hT : Txt w w.heap.size A ls) (hU : Txt w w.heap.size A' ms) :
    Calls Try.prog 6 #[.int .u64 v, .int .u64 u, .slice A ls.length c, .slice A' ms.length c'] w fun e w' => e = .returned (.bool true) ∧ Below w.heap.size w w' := by
  have L1 := fun W h => long_any A c ls hl hx w.heap.size W h
  have L2 := fun W h => long_any A' c' ms hm hy w.heap.size W h
  cases hlong : longB ls
  · rw [hlong] at L1
    cases hlong2 : longB ms
    · rw [hlong2] at L2
      obtain ⟨x1, x2, x3⟩ := longB_false hlong
      obtain ⟨y1, y2, y3⟩ := longB_false hlong2
      clear hlong hlong2 hx hy hl hm
      have HL1 := Lib.hid L1
      have HL2 := Lib.hid L2
      have rl := row_len_le ls (fun x hx => by have := x1 x hx; omega)
      have rm := row_len_le ms (fun x hx => by have := y1 x hx; omega)
      have rb : (row ls).length ≤ 11000 ∧ (row ms).length ≤ 11000 := by omega
      clear rl rm x2 y2
      have nl := num_len (v := v.toNat) (by omega)
      have nu := num_len (v := u.toNat) (by omega)
      have bn : begins (num v.toNat) (num u.toNat) = (v == u) := by
        rw [begins_num _ _ (by omega) (by omega)]
        by_cases e : v = u
        · subst e; simp
        · rw [beq_eq_false_iff_ne.2 e, decide_eq_false]; omega
      have BN : Hid (∀ W, Calls Try.prog 16 #[str (num v.toNat), str (num u.toNat)] W fun e w' => e = .returned (.bool (v == u)) ∧ W = w') := by
        intro W
        have := Begins_any (num v.toNat) (num u.toNat) (by omega) (by omega) W
        rwa [bn] at this
      clear L1 L2 nl nu bn
      have B0 : Below w.heap.size w w := Below.refl _ _
      go_enter Try.func6, Try.ntmps6
      go_wp2_with (first
        | (go_at_call 15; (with_reducible refine (HL1.out _ hT).mono ?_); rintro e w1 ⟨rfl, rfl⟩)
        | (go_at_call 15; (with_reducible refine (HL2.out _ hU).mono ?_); rintro e w1 ⟨rfl, rfl⟩)
        | (go_at_call 16; (with_reducible refine (BN.out _).mono ?_); rintro e w1 ⟨rfl, rfl⟩)
        | (go_at_call 11; (with_reducible refine (Num_any v _ v0 v1).mono ?_); rintro e w1 ⟨rfl, hb⟩; have B0 := below_step B0 hb ⟨rfl, rfl, rfl, rfl⟩; clear hb)
        | (go_at_call 11; (with_reducible refine (Num_any u _ u0 u1).mono ?_); rintro e w1 ⟨rfl, hb⟩; have B0 := below_step B0 hb ⟨rfl, rfl, rfl, rfl⟩; clear hb))
      go_loopw [9] (fun k wr => ∃ i : Nat, i ≤ ls.length ∧ i ≤ ms.length ∧ k = .int .i64 i ∧ Below w.heap.size w wr) (fun k _ => ls.length - (intOf k).toNat)
      case atStart => exact ⟨0, by omega, by omega, rfl, B0⟩
      case round =>
        obtain ⟨i, hi, hi2, rfl, hB⟩ := hrel
        clear B0 BN HL1 HL2
        by_cases hk : i < ls.length ∧ i < ms.length
        · obtain ⟨hk1, hk2⟩ := hk
          obtain ⟨b, o, rfl, hbB, hc⟩ := hT i hk1
          obtain ⟨b', o', rfl, hbB', hc'⟩ := hU i hk2
          have g := (hB.cell (p := ⟨b, o + i, none⟩) hbB).trans hc
          have g' := (hB.cell (p := ⟨b', o' + i, none⟩) hbB').trans hc'
          have q := Nat.lt_of_lt_of_le hbB hB.size
          have q' := Nat.lt_of_lt_of_le hbB' hB.size
          have hxi := x1 _ (List.getElem_mem hk1)
          have hyi := y1 _ (List.getElem_mem hk2)
          clear hT hU hc hc' x1 y1 hbB hbB'
          generalize ls[i] = x at g hxi
          generalize ms[i] = y at g' hyi
          have bt := begins_text x y (by omega) (by omega)
          have lx := text_len_le x (by omega)
          have ly := text_len_le y (by omega)
          have BT : Hid (∀ W, Calls Try.prog 16 #[str (text x), str (text y)] W fun e w' => e = .returned (.bool (x == y)) ∧ W = w') := by
            intro W
            have := Begins_any (text x) (text y) (by omega) (by omega) W
            rwa [bt] at this
          clear bt lx ly
          have kb : 0 ≤ (i : Int) ∧ (i : Int) < (ls.length : Int) := by omega
          have kb' : 0 ≤ (i : Int) ∧ (i : Int) < (ms.length : Int) := by omega
          go_wp2_with fail
          go_region_held3 (fun w' => w'.cell? ⟨b, o + i, none⟩ = some (str x) ∧ w'.cell? ⟨b', o' + i, none⟩ = some (str y) ∧ b < w'.heap.size ∧ b' < w'.heap.size ∧ Below w.heap.size w w')
            (first | assumption | exact two_keep hb (by assumption) | exact ⟨g, g', q, q', hB.drew⟩)
            (first
              | (go_at_call 14; (with_reducible refine (Text_any x (by omega) _).mono ?_); rintro e w1 ⟨rfl, hb⟩)
              | (go_at_call 14; (with_reducible refine (Text_any y (by omega) _).mono ?_); rintro e w1 ⟨rfl, hb⟩)
              | (go_at_call 16; (with_reducible refine (BT.out _).mono ?_); rintro e w1 ⟨rfl, rfl⟩))
          rename_i hS
          have hB2 := hS.2.2.2.2
          clear hS
          go_wp2
          go_roundw
          case rel => exact ⟨i + 1, by omega, by omega, by go_num, hB2⟩
          case measure => simp [intOf]; omega
        · have T1 := hT.below hB (Nat.le_refl _)
          have U1 := hU.below hB (Nat.le_refl _)
          have hz := hB.size
          by_cases he : ls.length = ms.length
          · have hne : ((ls.length : Int) != (ms.length : Int)) = false := by simp [he]
            have hkf : ls.length ≤ i ∧ ms.length ≤ i := by omega
            have ri : decide (row ls = row ms) = decide (ls = ms) := by
              apply decide_eq_decide.2
              exact ⟨row_inj ls ms he (fun x hx => by have := x1 x hx; omega) (fun x hx => by have := y1 x hx; omega), fun e => by rw [e]⟩
            have rq : (row ls == row ms) = decide (ls = ms) := by
              rw [← ri]
              by_cases e : row ls = row ms <;> simp [e]
            have sa := fun W h1 h2 => Same_any A A' c c' ls ms (by omega) (by omega) w.heap.size W h1 h2
            have ra := fun A2 c2 W h1 => Row_any A2 c2 ls (by omega) (fun x hx => by have := x1 x hx; omega) (by omega) W h1
            have rb2 := fun A2 c2 W h1 => Row_any A2 c2 ms (by omega) (fun x hx => by have := y1 x hx; omega) (by omega) W h1
            have SA := Lib.hid sa
            have RA := Lib.hid ra
            have RB := Lib.hid rb2
            clear sa ra rb2 ri x1 y1 he hk
            clear B0 T1 U1
            have B0 := hB
            go_wp2_with (first
              | (at_builtin; refine wpList_append_copy rfl (.const (.slice none 0 0)) (.tmp 67) rfl rfl A c ls rfl rfl ((hT.below B0 (Nat.le_refl _)).more B0.size) (by omega) ?_; intro A2 c2 w2 T2 hb; have B0 := below_step B0 hb ⟨rfl, rfl, rfl, rfl⟩; clear hb)
              | (at_builtin; refine wpList_append_copy rfl (.const (.slice none 0 0)) (.tmp 70) rfl rfl A' c' ms rfl rfl ((hU.below B0 (Nat.le_refl _)).more B0.size) (by omega) ?_; intro A3 c3 w3 T3 hb; have B0 := below_step B0 hb ⟨rfl, rfl, rfl, rfl⟩; clear hb)
              | (go_at_call 17; (with_reducible refine (RA.out A2 c2 _ T2).mono ?_); rintro e w1 ⟨rfl, hb⟩; have B0 := below_step B0 hb ⟨rfl, rfl, rfl, rfl⟩; clear hb)
              | (go_at_call 17; (with_reducible refine (RB.out A3 c3 _ T3).mono ?_); rintro e w1 ⟨rfl, hb⟩; have B0 := below_step B0 hb ⟨rfl, rfl, rfl, rfl⟩; clear hb)
              | (go_at_call 18; (with_reducible refine (SA.out _ (hT.below B0 (Nat.le_refl _)) (hU.below B0 (Nat.le_refl _))).mono ?_); rintro e w1 ⟨rfl, n, rfl⟩)
              | (go_at_call 8; refine (alive_any _).mono ?_; rintro e w1 ⟨rfl, hb⟩; have B0 := below_step B0 hb ⟨rfl, rfl, rfl, rfl⟩; clear hb))
            go_ret
            exact ⟨rfl, B0⟩
          · have hne : ((ls.length : Int) != (ms.length : Int)) = true := by simp; omega
            clear hT hU T1 U1 x1 y1
            go_wp2_with (go_at_call 8; refine (alive_any _).mono ?_; rintro e w1 ⟨rfl, hb⟩)
            all_goals (go_ret; exact ⟨rfl, below_acc hB hb⟩)
    · rw [hlong2] at L2
      have HL1 := Lib.hid L1
      have HL2 := Lib.hid L2
      clear L1 L2 hx hy hlong hlong2
      go_enter Try.func6, Try.ntmps6
      go_wp2_with (first
        | (go_at_call 15; (with_reducible refine (HL1.out _ hT).mono ?_); rintro e w1 ⟨rfl, rfl⟩)
        | (go_at_call 15; (with_reducible refine (HL2.out _ hU).mono ?_); rintro e w1 ⟨rfl, rfl⟩)
        | (go_at_call 8; refine (alive_any _).mono ?_; rintro e w1 ⟨rfl, hb⟩))
      go_ret
      exact ⟨rfl, hb⟩
  · rw [hlong] at L1
    have HL1 := Lib.hid L1
    clear L1 L2 hx hy hlong
    go_enter Try.func6, Try.ntmps6
    go_wp2_with (first
      | (go_at_call 15; (with_reducible refine (HL1.out _ hT).mono ?_); rintro e w1 ⟨rfl, rfl⟩)
      | (go_at_call 8; refine (alive_any _).mono ?_; rintro e w1 ⟨rfl, hb⟩))
    go_ret
    exact ⟨rfl, hb⟩
end Go.Proofs.Ytcndehoaflpifaa
