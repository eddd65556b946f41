/- The walk of the reference's Check. Condition: sizes that a machine has. -/
import Derived.Test.YtdmlfggokbmapaaNrb
import Derived.Test.YtdmlfggokbmapaaNrc
namespace Go.Proofs.Ytdmlfggokbmapaa
open Go.RowKit
set_option linter.unusedVariables false
set_option linter.unusedSimpArgs false

set_option maxRecDepth 100000 in
set_option maxHeartbeats 8000000 in
theorem refCheck_any (l : List UInt8) (hl : l.length ≤ 100000) (w : World) :
    Calls Try.prog 12 #[str l] w fun e w' => e = .returned (.int .i64 (ck l : Int)) ∧ Below w.heap.size w w' := by
  have CR := Lib.hid (Runes_any l hl w)
  have hrl := rn_len l
  rw [ck_is]
  generalize rn l = x at CR hrl ⊢
  have CR2 : Hid (Calls Try.prog 24 #[str l] w fun e w' => ∃ A c, e = .returned (.slice A x.length c) ∧ Rns w' A x ∧ Below w.heap.size w w') := CR.out.mono (by
    rintro e w' ⟨v, rfl, hR, hb⟩
    obtain ⟨A, c, rfl, hT⟩ := hR.txt
    exact ⟨A, c, rfl, hT, hb⟩)
  clear CR
  by_cases q1 : 24 < x.length
  · have e1 : ckR x = 5 := by rw [ckR, if_pos q1]
    rw [e1]
    have d1 : decide ((24 : Int) < (x.length : Int)) = true := by simp; omega
    clear e1
    go_enter Try.func12, Try.ntmps12
    go_wp2_with (refine CR2.out.mono ?_; rintro e w1 ⟨A, c, rfl, hT, hb⟩; have BB := Lib.hid hb; clear hb hT)
    go_ret
    exact ⟨rfl, BB.out⟩
  have d1 : decide ((24 : Int) < (x.length : Int)) = false := by simp; omega
  by_cases q2 : edgeR x = true
  · have e1 : ckR x = 7 := by rw [ckR, if_neg q1, if_pos q2]
    rw [e1]
    clear e1
    cases x with
    | nil =>
      go_enter Try.func12, Try.ntmps12
      go_wp2_with (refine CR2.out.mono ?_; rintro e w1 ⟨A, c, rfl, hT, hb⟩; have BB := Lib.hid hb; clear hb hT)
      go_ret
      exact ⟨rfl, BB.out⟩
    | cons r0 y =>
      generalize hx : r0 :: y = x at *
      have hpos : 0 < x.length := by rw [← hx]; simp
      have hx0 : x.getD 0 0 = x[0] := by simp [List.getD_eq_getElem?_getD, hpos]
      have hxl : x.getD (x.length - 1) 0 = x[x.length - 1] := by
        rw [List.getD_eq_getElem?_getD, List.getElem?_eq_getElem (by omega)]; rfl
      have hie : x.isEmpty = false := by rw [← hx]; rfl
      have q3 : x[0] = 45 ∨ x[x.length - 1] = 45 := by
        unfold edgeR at q2
        rw [hie, hx0, hxl] at q2
        simpa using q2
      have CR3 : Hid (Calls Try.prog 24 #[str l] w fun e w' => ∃ b o c, e = .returned (.slice (some ⟨b, o, none⟩) x.length c) ∧ w'.cell? ⟨b, o, none⟩ = some (.int .i32 x[0]) ∧ w'.cell? ⟨b, o + (x.length - 1), none⟩ = some (.int .i32 x[x.length - 1]) ∧ Below w.heap.size w w') := CR2.out.mono (by
        rintro e w' ⟨A, c, rfl, hT, hb⟩
        obtain ⟨b, o, e1, _, h1⟩ := hT 0 hpos
        subst e1
        obtain ⟨b2, o2, e2, _, h2⟩ := hT (x.length - 1) (by omega)
        cases e2
        exact ⟨b, o, c, rfl, h1, h2, hb⟩)
      clear CR2 hx0 hxl hie q2 hx
      have w5 : IntKind.i64.wrap ((x.length : Int) - 1) = ((x.length - 1 : Nat) : Int) := by rw [IntWalk.i64_in _ (by omega)]; omega
      have kn : 0 ≤ ((x.length - 1 : Nat) : Int) ∧ ((x.length - 1 : Nat) : Int) < (x.length : Int) := by omega
      have k0 : (0 : Int) < (x.length : Int) := by omega
      have hne : ¬ x.length = 0 := by omega
      have d5 : ((x.length : Int) == 0) = false := by rw [beq_eq_false_iff_ne]; omega
      generalize x[x.length - 1] = rl at CR3 q3
      generalize x[0] = r0 at CR3 q3
      generalize x.length - 1 = n1 at CR3 w5 kn
      by_cases h0 : r0 = 45
      · subst h0
        clear q3
        go_enter Try.func12, Try.ntmps12
        go_wp2_with (refine CR3.out.mono ?_; rintro e w1 ⟨b, o, c, rfl, c0, cl, hb⟩; have BB := Lib.hid hb; clear hb)
        go_ret
        exact ⟨rfl, BB.out⟩
      · have h1 : rl = 45 := q3.resolve_left h0
        subst h1
        have d6 : (r0 == 45) = false := by rw [beq_eq_false_iff_ne]; exact h0
        clear q3
        go_enter Try.func12, Try.ntmps12
        go_wp2_with (refine CR3.out.mono ?_; rintro e w1 ⟨b, o, c, rfl, c0, cl, hb⟩; have BB := Lib.hid hb; clear hb)
        go_ret
        exact ⟨rfl, BB.out⟩
  · have e1 : ckR x = if x.any bad = true then 7 else if mixed [] x = true then 50 else 0 := by rw [ckR, if_neg q1, if_neg q2]
    have E1 := Lib.hid e1
    clear e1
    have hpos : 0 < x.length := by
      cases x with
      | nil => exact absurd rfl q2
      | cons r y => simp
    have hx0 : x.getD 0 0 = x[0] := by simp [List.getD_eq_getElem?_getD, hpos]
    have hxl : x.getD (x.length - 1) 0 = x[x.length - 1] := by
      rw [List.getD_eq_getElem?_getD, List.getElem?_eq_getElem (by omega)]; rfl
    have q3 : ¬ x[0] = 45 ∧ ¬ x[x.length - 1] = 45 := by
      unfold edgeR at q2
      rw [hx0, hxl] at q2
      simp only [Bool.or_eq_true, beq_iff_eq, not_or] at q2
      exact q2.2
    have CR3 : Hid (Calls Try.prog 24 #[str l] w fun e w' => ∃ b o c, e = .returned (.slice (some ⟨b, o, none⟩) x.length c) ∧ w'.cell? ⟨b, o, none⟩ = some (.int .i32 x[0]) ∧ w'.cell? ⟨b, o + (x.length - 1), none⟩ = some (.int .i32 x[x.length - 1]) ∧ Below w.heap.size w w' ∧ Hid (∀ j (hj : j < x.length), w'.cell? ⟨b, o + j, none⟩ = some (.int .i32 x[j]))) := CR2.out.mono (by
      rintro e w' ⟨A, c, rfl, hT, hb⟩
      obtain ⟨b, o, e1, _, h1⟩ := hT 0 hpos
      subst e1
      have all : ∀ j (hj : j < x.length), w'.cell? ⟨b, o + j, none⟩ = some (.int .i32 x[j]) := fun j hj => by
        obtain ⟨b2, o2, e2, _, h2⟩ := hT j hj
        cases e2
        exact h2
      exact ⟨b, o, c, rfl, h1, all _ (by omega), hb, all⟩)
    clear CR2 hx0 hxl q2
    have w5 : IntKind.i64.wrap ((x.length : Int) - 1) = ((x.length - 1 : Nat) : Int) := by rw [IntWalk.i64_in _ (by omega)]; omega
    have kn : 0 ≤ ((x.length - 1 : Nat) : Int) ∧ ((x.length - 1 : Nat) : Int) < (x.length : Int) := by omega
    have k0 : (0 : Int) < (x.length : Int) := by omega
    have hne : ¬ x.length = 0 := by omega
    have d5 : ((x.length : Int) == 0) = false := by rw [beq_eq_false_iff_ne]; omega
    have d6 : (x[0] == 45) = false := by rw [beq_eq_false_iff_ne]; exact q3.1
    have d7 : (x[x.length - 1] == 45) = false := by rw [beq_eq_false_iff_ne]; exact q3.2
    clear q3
    generalize x[x.length - 1] = rl at CR3 d7
    generalize x[0] = r0 at CR3 d6
    generalize x.length - 1 = n1 at CR3 w5 kn
    have SC := Lib.hid (fun r W => script_any r W)
    have SG := Lib.hid (fun r W => sign_any r W)
    go_enter Try.func12, Try.ntmps12
    go_wp2_with (refine CR3.out.mono ?_; rintro e w1 ⟨b, o, c, rfl, c0, cl, hb, HALL⟩; have BB := Lib.hid hb; clear hb)
    clear CR3 d6 d7 c0 cl w5 kn d5
    go_loopw [4] (fun k wr => ∃ i : Nat, i ≤ x.length ∧ Hid (x.any bad = (x.drop i).any bad) ∧ k = .int .i64 (i : Int) ∧ wr = w1) (fun k _ => x.length - (intOf k).toNat)
    case atStart => exact ⟨0, by omega, rfl, rfl, rfl⟩
    case round =>
      obtain ⟨i, hi, hA, rfl, rfl⟩ := hrel
      by_cases hlt : i < x.length
      · have hc := HALL.out i hlt
        have hd := hA.out
        rw [List.drop_eq_getElem_cons hlt, List.any_cons, bad_is] at hd
        have kb : 0 ≤ (i : Int) ∧ (i : Int) < (x.length : Int) := by omega
        have d0 : decide ((i : Int) < (x.length : Int)) = true := by simp; omega
        generalize x[i] = r at hc hd
        have SX := Lib.hid (fun W => SC.out r W)
        have SY := Lib.hid (fun W => SG.out r W)
        clear SC SG hA HALL
        generalize hk : kd r = k at SX hd
        generalize sgn r = g at SY hd
        by_cases hk0 : k = 0
        · subst hk0
          cases g
          · have HD : Hid (ckR x = 7) := by
              show ckR x = 7
              rw [E1.out, hd]; rfl
            clear hd E1
            go_wp2_with (first
              | (go_at_call 25; (with_reducible refine (SX.out _).mono ?_); rintro e w2 ⟨rfl, rfl⟩)
              | (go_at_call 26; (with_reducible refine (SY.out _).mono ?_); rintro e w2 ⟨rfl, rfl⟩))
            go_ret
            exact ⟨by rw [HD.out]; rfl, BB.out⟩
          · have HD : Hid (x.any bad = (x.drop (i + 1)).any bad) := by
              show x.any bad = _
              rw [hd]; simp
            clear hd E1
            go_wp2_with (first
              | (go_at_call 25; (with_reducible refine (SX.out _).mono ?_); rintro e w2 ⟨rfl, rfl⟩)
              | (go_at_call 26; (with_reducible refine (SY.out _).mono ?_); rintro e w2 ⟨rfl, rfl⟩))
            go_roundw
            case rel => exact ⟨i + 1, by omega, HD, by go_num, by first | rfl | trivial⟩
            case measure => simp [intOf]; omega
        · have HD : Hid (x.any bad = (x.drop (i + 1)).any bad) := by
            show x.any bad = _
            rw [hd]; simp [hk0]
          have d8 : ((k : Int) == 0) = false := by rw [beq_eq_false_iff_ne]; omega
          clear hd E1 hk
          go_wp2_with (first
            | (go_at_call 25; (with_reducible refine (SX.out _).mono ?_); rintro e w2 ⟨rfl, rfl⟩))
          go_roundw
          case rel => exact ⟨i + 1, by omega, HD, by go_num, by first | rfl | trivial⟩
          case measure => simp [intOf]; omega
      · have hno : x.any bad = false := by rw [hA.out, List.drop_of_length_le (by omega)]; rfl
        have E2 : Hid (ckR x = if mixed [] x = true then 50 else 0) := by
          show ckR x = _
          rw [E1.out, hno]; rfl
        have d0 : decide ((i : Int) < (x.length : Int)) = false := by simp; omega
        clear hno hA E1 SG
        obtain ⟨w9, hw9⟩ : ∃ w9, w9 = wr := ⟨_, rfl⟩
        subst hw9
        go_wp2_with fail
        go_loopw [5] (fun ii wr => ∃ i m : Nat, i ≤ x.length ∧ Hid (mixed [] x = mixed (x.take i) (x.drop i)) ∧ ii = .int .i64 (i : Int) ∧ wr = w9.drewN m) (fun ii _ => x.length - (intOf ii).toNat)
        case atStart => exact ⟨0, 0, by omega, rfl, rfl, rfl⟩
        case round =>
          clear d0 hlt hi
          obtain ⟨i, m, hi, hM, rfl, rfl⟩ := hrel
          by_cases hlt : i < x.length
          · have hci := HALL.out i hlt
            have hd := hM.out
            rw [List.drop_eq_getElem_cons hlt] at hd
            have ht1 : x.take (i + 1) = x.take i ++ [x[i]] := List.take_succ_eq_append_getElem hlt
            have hd2 : mixed (x.take i) (x[i] :: x.drop (i + 1)) = (mixIn (x.take i) x[i] || mixed (x.take (i + 1)) (x.drop (i + 1))) := by rw [ht1]; rfl
            rw [hd2] at hd
            have HD := Lib.hid hd
            clear hd hd2 ht1 hM
            have d0 : decide ((i : Int) < (x.length : Int)) = true := by simp; omega
            have kbi : 0 ≤ (i : Int) ∧ (i : Int) < (x.length : Int) := by omega
            generalize hxi : x[i] = xi at hci HD
            clear hxi
            go_wp2_with fail
            go_loopw [6] (fun kk wr => ∃ k m2 : Nat, k ≤ i ∧ Hid (mixIn (x.take i) xi = ((x.take i).drop k).any (fun b => mx xi b)) ∧ kk = .int .i64 (k : Int) ∧ wr = w9.drewN m2) (fun kk _ => i - (intOf kk).toNat)
            case atStart => exact ⟨0, m, by omega, rfl, rfl, rfl⟩
            case round =>
              obtain ⟨k, m2, hk, hK, rfl, hw⟩ := hrel
              by_cases hki : k < i
              · have hck : wr.cell? ⟨b, o + k, none⟩ = some (.int .i32 (x[k]'(by omega))) := by rw [hw]; exact HALL.out k (by omega)
                have hci2 : wr.cell? ⟨b, o + i, none⟩ = some (.int .i32 xi) := by rw [hw]; exact hci
                have HW := Lib.hid hw
                clear hw hci
                have hdk := hK.out
                have hlk : k < (x.take i).length := by rw [List.length_take]; omega
                rw [List.drop_eq_getElem_cons hlk, List.any_cons, List.getElem_take] at hdk
                generalize x[k] = xk at hck hdk
                have dk : decide ((k : Int) < (i : Int)) = true := by simp; omega
                have kbk : 0 ≤ (k : Int) ∧ (k : Int) < (x.length : Int) := by omega
                have CQi := fun n => calls_quiet (SC.out xi (wr.drewN n)) ⟨n, rfl⟩
                have CQk := fun n => calls_quiet (SC.out xk (wr.drewN n)) ⟨n, rfl⟩
                have hmx : mx xi xk = (kd xi != 0 && (kd xk != 0 && kd xi != kd xk)) := rfl
                have cls : ((kd xi : Int) = 0 ∧ mx xi xk = false) ∨ ((¬ (kd xi : Int) = 0) ∧ (kd xk : Int) = 0 ∧ mx xi xk = false) ∨ ((¬ (kd xi : Int) = 0) ∧ (¬ (kd xk : Int) = 0) ∧ (kd xi : Int) = (kd xk : Int) ∧ mx xi xk = false) ∨ ((¬ (kd xi : Int) = 0) ∧ (¬ (kd xk : Int) = 0) ∧ (¬ (kd xi : Int) = (kd xk : Int)) ∧ mx xi xk = true) := by
                  rw [hmx]
                  by_cases a1 : kd xi = 0
                  · exact .inl ⟨by omega, by simp [a1]⟩
                  · by_cases a2 : kd xk = 0
                    · exact .inr (.inl ⟨by omega, by omega, by simp [a2]⟩)
                    · by_cases a3 : kd xi = kd xk
                      · exact .inr (.inr (.inl ⟨by omega, by omega, by omega, by simp [a3]⟩))
                      · exact .inr (.inr (.inr ⟨by omega, by omega, by omega, by simp [a1, a2, a3]⟩))
                clear hmx
                generalize (kd xi : Int) = a at CQi cls
                generalize (kd xk : Int) = c2 at CQk cls
                have HDK := Lib.hid hdk
                have QI := Lib.hid CQi
                have QK := Lib.hid CQk
                clear hdk CQi CQk hK
                rcases cls with ⟨rfl, hm⟩ | ⟨a1, rfl, hm⟩ | ⟨a1, a2, rfl, hm⟩ | ⟨a1, a2, a3, hm⟩
                · have NK : Hid (mixIn (x.take i) xi = ((x.take i).drop (k + 1)).any (fun b => mx xi b)) := by
                    show mixIn _ _ = _
                    rw [HDK.out, hm, Bool.false_or]
                  clear HDK hm QK
                  go_wp2_with fail
                  go_quiet ((go_at_call 25; with_reducible exact QI.out _))
                  go_wp2_with fail
                  go_roundw
                  case rel => exact ⟨k + 1, _, by omega, NK, by go_num, by rw [HW.out, World.drewN_drewN]⟩
                  case measure => simp [intOf]; omega
                · have NK : Hid (mixIn (x.take i) xi = ((x.take i).drop (k + 1)).any (fun b => mx xi b)) := by
                    show mixIn _ _ = _
                    rw [HDK.out, hm, Bool.false_or]
                  have da : (a != 0) = true := by rw [bne_iff_ne]; exact a1
                  clear HDK hm
                  go_wp2_with fail
                  go_quiet (first | (go_at_call 25; with_reducible exact QI.out _) | (go_at_call 25; with_reducible exact QK.out _))
                  go_wp2_with fail
                  go_roundw
                  case rel => exact ⟨k + 1, _, by omega, NK, by go_num, by rw [HW.out, World.drewN_drewN]⟩
                  case measure => simp [intOf]; omega
                · have NK : Hid (mixIn (x.take i) xi = ((x.take i).drop (k + 1)).any (fun b => mx xi b)) := by
                    show mixIn _ _ = _
                    rw [HDK.out, hm, Bool.false_or]
                  have da : (a != 0) = true := by rw [bne_iff_ne]; exact a1
                  clear HDK hm
                  go_wp2_with fail
                  go_quiet (first | (go_at_call 25; with_reducible exact QI.out _) | (go_at_call 25; with_reducible exact QK.out _))
                  go_wp2_with fail
                  go_roundw
                  case rel => exact ⟨k + 1, _, by omega, NK, by go_num, by rw [HW.out, World.drewN_drewN]⟩
                  case measure => simp [intOf]; omega
                · have FR : Hid (ckR x = 50) := by
                    show ckR x = 50
                    rw [E2.out, HD.out, HDK.out, hm]; rfl
                  have da : (a != 0) = true := by rw [bne_iff_ne]; exact a1
                  have db : (c2 != 0) = true := by rw [bne_iff_ne]; exact a2
                  have dc : (a != c2) = true := by rw [bne_iff_ne]; exact a3
                  clear HDK hm E2 HD
                  go_wp2_with fail
                  go_quiet (first | (go_at_call 25; with_reducible exact QI.out _) | (go_at_call 25; with_reducible exact QK.out _))
                  go_wp2_with fail
                  go_ret
                  rw [HW.out]
                  exact ⟨by rw [FR.out]; rfl, BB.out.os, BB.out.tape, BB.out.output, BB.out.size, BB.out.block⟩
              · subst hw
                have hno : mixIn (x.take i) xi = false := by
                  rw [hK.out, List.drop_of_length_le (by rw [List.length_take]; omega)]; rfl
                have NM : Hid (mixed [] x = mixed (x.take (i + 1)) (x.drop (i + 1))) := by
                  show mixed [] x = _
                  rw [HD.out, hno, Bool.false_or]
                have dk : decide ((k : Int) < (i : Int)) = false := by simp; omega
                clear hno hK HD
                go_wp2_with fail
                go_roundw
                case rel => exact ⟨i + 1, m2, by omega, NM, by go_num, by first | rfl | trivial⟩
                case measure => simp [intOf]; omega
          · have hno : mixed [] x = false := by rw [hM.out, List.drop_of_length_le (by omega)]; rfl
            have FR : Hid (ckR x = 0) := by
              show ckR x = 0
              rw [E2.out, hno]; rfl
            have d0 : decide ((i : Int) < (x.length : Int)) = false := by simp; omega
            clear hno hM E2
            go_wp2_with fail
            go_ret
            exact ⟨by rw [FR.out]; rfl, BB.out.os, BB.out.tape, BB.out.output, BB.out.size, BB.out.block⟩
end Go.Proofs.Ytdmlfggokbmapaa
