/- The walks of the reference's Clash, Order, and of NameOrders. Condition: none for the law. -/
import Derived.Test.YtdmlfggokbmapaaNre
import Derived.Test.YtdmlfggokbmapaaNmc
import Derived.Test.YtdmlfggokbmapaaNms
import Derived.Test.YtdmlfggokbmapaaNmt
namespace Go.Proofs.Ytdmlfggokbmapaa
open Go.RowKit
set_option linter.unusedVariables false
set_option linter.unusedSimpArgs false

theorem rns_drew {W : World} {A : Option Addr} {xs : List Int} (h : Rns W A xs) (n : Nat) : Rns (W.drewN n) A xs := fun i hi => h i hi
theorem lks_len (a : List UInt8) (ha : a.length ≤ 100000) : (lks a).length ≤ 1000000 := by unfold lks; rw [List.length_map]; have := rn_len a; omega
/-- Looks alike, by the runes. -/
theorem clash_cmp {a b : List UInt8} (ha : ck a = 0) (hb : ck b = 0) : clash a b = ((a != b) && (cmpL (lks a) (lks b) == 0)) := by
  rw [clash_is, ha, hb]
  simp only [beq_self_eq_true, Bool.true_and]
  congr 1
  rw [Bool.eq_iff_iff]
  simp only [beq_iff_eq]
  constructor
  · intro h
    rw [skel_inj ha hb h, cmpL_self]
  · intro h
    have := cmpL_zero _ _ h
    rw [skel, if_pos ha, skel, if_pos hb, this]

set_option maxRecDepth 100000 in
set_option maxHeartbeats 4000000 in
theorem refClash_any (a b : List UInt8) (ha : a.length ≤ 100000) (hb : b.length ≤ 100000) (w : World) :
    Calls Try.prog 18 #[str a, str b] w fun e w' => e = .returned (.bool (clash a b)) ∧ Below w.heap.size w w' := by
  have CA := Lib.hid (refCheck_any a ha w)
  have CB := Lib.hid (fun W => refCheck_any b hb W)
  by_cases h1 : ck a = 0
  · rw [h1] at CA
    by_cases h2 : ck b = 0
    · rw [h2] at CB
      have hc := clash_cmp h1 h2
      have LA := Lib.hid (fun W => Looks_any a ha W)
      have LB := Lib.hid (fun W => Looks_any b hb W)
      have CX := Lib.hid (fun A A' c c' W h h' => refCompare_any A A' c c' (lks a) (lks b) (lks_len a ha) (lks_len b hb) W h h')
      generalize lks a = xa at LA CX hc
      generalize lks b = xb at LB CX hc
      generalize cmpL xa xb = p at CX hc
      generalize clash a b = R at hc ⊢
      clear h1 h2
      cases h3 : (a == b)
      · by_cases h4 : p = 0
        · subst h4
          have HR : Hid (R = true) := by
            show R = true
            rw [hc, bne, h3]; rfl
          clear hc
          go_enter Try.func18, Try.ntmps18
          go_wp2_with (first
            | (go_at_call 12; (with_reducible refine CA.out.mono ?_); rintro e w1 ⟨rfl, hb⟩; have BB := Lib.hid hb; clear hb)
            | (go_at_call 12; (with_reducible refine (CB.out _).mono ?_); rintro e w2 ⟨rfl, hb⟩; have B2 := Lib.hid (below_acc BB.out hb); clear hb)
            | (go_at_call 22; (with_reducible refine (LA.out _).mono ?_); rintro e w3 ⟨v1, rfl, hR, hb⟩; obtain ⟨A1, c1, rfl, hT⟩ := hR.txt; have T1 := Lib.hid hT; have B3 := Lib.hid (below_acc B2.out hb); clear hb hR hT)
            | (go_at_call 22; (with_reducible refine (LB.out _).mono ?_); rintro e w4 ⟨v2, rfl, hR, hb⟩; obtain ⟨A2, c2, rfl, hT⟩ := hR.txt; have T2 := Lib.hid (And.intro (T1.out.below hb) hT); have B4 := Lib.hid (below_acc B3.out hb); clear hb hR hT)
            | (go_at_call 28; (with_reducible refine (CX.out _ _ _ _ _ T2.out.1 T2.out.2).mono ?_); rintro e w5 ⟨rfl, nS, rfl⟩))
          go_ret
          exact ⟨by have h := HR.out; subst h; rfl, B4.out.os, B4.out.tape, B4.out.output, B4.out.size, B4.out.block⟩
        · have HR : Hid (R = false) := by
            have h5 : (p == 0) = false := by rw [beq_eq_false_iff_ne]; exact h4
            show R = false
            rw [hc, h5, Bool.and_false]
          have d5 : (p == 0) = false := by rw [beq_eq_false_iff_ne]; exact h4
          clear hc
          go_enter Try.func18, Try.ntmps18
          go_wp2_with (first
            | (go_at_call 12; (with_reducible refine CA.out.mono ?_); rintro e w1 ⟨rfl, hb⟩; have BB := Lib.hid hb; clear hb)
            | (go_at_call 12; (with_reducible refine (CB.out _).mono ?_); rintro e w2 ⟨rfl, hb⟩; have B2 := Lib.hid (below_acc BB.out hb); clear hb)
            | (go_at_call 22; (with_reducible refine (LA.out _).mono ?_); rintro e w3 ⟨v1, rfl, hR, hb⟩; obtain ⟨A1, c1, rfl, hT⟩ := hR.txt; have T1 := Lib.hid hT; have B3 := Lib.hid (below_acc B2.out hb); clear hb hR hT)
            | (go_at_call 22; (with_reducible refine (LB.out _).mono ?_); rintro e w4 ⟨v2, rfl, hR, hb⟩; obtain ⟨A2, c2, rfl, hT⟩ := hR.txt; have T2 := Lib.hid (And.intro (T1.out.below hb) hT); have B4 := Lib.hid (below_acc B3.out hb); clear hb hR hT)
            | (go_at_call 28; (with_reducible refine (CX.out _ _ _ _ _ T2.out.1 T2.out.2).mono ?_); rintro e w5 ⟨rfl, nS, rfl⟩))
          go_ret
          exact ⟨by have h := HR.out; subst h; rfl, B4.out.os, B4.out.tape, B4.out.output, B4.out.size, B4.out.block⟩
      · have HR : Hid (R = false) := by
          show R = false
          rw [hc, bne, h3]; rfl
        clear hc LA LB CX
        go_enter Try.func18, Try.ntmps18
        go_wp2_with (first
          | (go_at_call 12; (with_reducible refine CA.out.mono ?_); rintro e w1 ⟨rfl, hb⟩; have BB := Lib.hid hb; clear hb)
          | (go_at_call 12; (with_reducible refine (CB.out _).mono ?_); rintro e w2 ⟨rfl, hb⟩; have B2 := Lib.hid (below_acc BB.out hb); clear hb))
        go_ret
        exact ⟨by have h := HR.out; subst h; rfl, B2.out⟩
    · have HR : Hid (clash a b = false) := by
        show clash a b = false
        rw [clash_is, h1]
        have : (ck b == 0) = false := by rw [beq_eq_false_iff_ne]; exact h2
        rw [this]; rfl
      have d2 : ((ck b : Int) == 0) = false := by rw [beq_eq_false_iff_ne]; omega
      generalize ck b = n at CB d2
      clear h1 h2
      go_enter Try.func18, Try.ntmps18
      go_wp2_with (first
        | (go_at_call 12; (with_reducible refine CA.out.mono ?_); rintro e w1 ⟨rfl, hb⟩; have BB := Lib.hid hb; clear hb)
        | (go_at_call 12; (with_reducible refine (CB.out _).mono ?_); rintro e w2 ⟨rfl, hb⟩; have B2 := Lib.hid (below_acc BB.out hb); clear hb))
      go_ret
      exact ⟨by rw [HR.out]; rfl, B2.out⟩
  · have HR : Hid (clash a b = false) := by
      show clash a b = false
      rw [clash_is]
      have : (ck a == 0) = false := by rw [beq_eq_false_iff_ne]; exact h1
      rw [this]; rfl
    have d2 : ((ck a : Int) == 0) = false := by rw [beq_eq_false_iff_ne]; omega
    generalize ck a = n at CA d2
    clear h1
    go_enter Try.func18, Try.ntmps18
    go_wp2_with (go_at_call 12; (with_reducible refine CA.out.mono ?_); rintro e w1 ⟨rfl, hb⟩; have BB := Lib.hid hb; clear hb)
    go_ret
    exact ⟨by rw [HR.out]; rfl, BB.out⟩

set_option maxRecDepth 100000 in
set_option maxHeartbeats 4000000 in
theorem refOrder_any (a b : List UInt8) (ha : a.length ≤ 100000) (hb : b.length ≤ 100000) (w : World) :
    Calls Try.prog 20 #[str a, str b] w fun e w' => e = .returned (.int .i64 (order a b)) ∧ Below w.heap.size w w' := by
  have CA := Lib.hid (refCheck_any a ha w)
  have CB := Lib.hid (fun W => refCheck_any b hb W)
  by_cases h1 : ck a = 0
  · rw [h1] at CA
    by_cases h2 : ck b = 0
    · rw [h2] at CB
      rw [order_is h1 h2]
      have ra := rn_len a
      have rb := rn_len b
      have LA := Lib.hid (fun W => Looks_any a ha W)
      have LB := Lib.hid (fun W => Looks_any b hb W)
      have RA := Lib.hid (fun W => Runes_any a ha W)
      have RB := Lib.hid (fun W => Runes_any b hb W)
      have CX := Lib.hid (fun A A' c c' W h h' => refCompare_any A A' c c' (lks a) (lks b) (lks_len a ha) (lks_len b hb) W h h')
      have CY := Lib.hid (fun A A' c c' W h h' => refCompare_any A A' c c' (rn a) (rn b) (by omega) (by omega) W h h')
      generalize lks a = xa at LA CX
      generalize lks b = xb at LB CX
      generalize cmpL xa xb = p at CX
      generalize rn a = ya at RA CY ra
      generalize rn b = yb at RB CY rb
      generalize cmpL ya yb = q at CY
      clear h1 h2
      by_cases hp : p = 0
      · subst hp
        have e : orP 0 q = q := by rcases orP_cases 0 q with ⟨h, _⟩ | ⟨_, h⟩ <;> simp_all
        rw [e]
        clear e
        go_enter Try.func20, Try.ntmps20
        go_wp2_with (first
          | (go_at_call 12; (with_reducible refine CA.out.mono ?_); rintro e w1 ⟨rfl, hb⟩; have BB := Lib.hid hb; clear hb)
          | (go_at_call 12; (with_reducible refine (CB.out _).mono ?_); rintro e w2 ⟨rfl, hb⟩; have B2 := Lib.hid (below_acc BB.out hb); clear hb)
          | (go_at_call 22; (with_reducible refine (LA.out _).mono ?_); rintro e w3 ⟨v1, rfl, hR, hb⟩; obtain ⟨A1, c1, rfl, hT⟩ := hR.txt; have T1 := Lib.hid hT; have B3 := Lib.hid (below_acc B2.out hb); clear hb hR hT)
          | (go_at_call 22; (with_reducible refine (LB.out _).mono ?_); rintro e w4 ⟨v2, rfl, hR, hb⟩; obtain ⟨A2, c2, rfl, hT⟩ := hR.txt; have T2 := Lib.hid (And.intro (T1.out.below hb) hT); have B4 := Lib.hid (below_acc B3.out hb); clear hb hR hT)
          | (go_at_call 28; (with_reducible refine (CX.out _ _ _ _ _ T2.out.1 T2.out.2).mono ?_); rintro e w5 ⟨rfl, nS, rfl⟩; have B5 : Hid (Below w.heap.size w (w4.drewN nS)) := ⟨B4.out.os, B4.out.tape, B4.out.output, B4.out.size, B4.out.block⟩)
          | (go_at_call 24; (with_reducible refine (RA.out _).mono ?_); rintro e w6 ⟨v3, rfl, hR, hb⟩; obtain ⟨A3, c3, rfl, hT⟩ := hR.txt; have T3 := Lib.hid hT; have B6 := Lib.hid (below_acc B5.out hb); clear hb hR hT)
          | (go_at_call 24; (with_reducible refine (RB.out _).mono ?_); rintro e w7 ⟨v4, rfl, hR, hb⟩; obtain ⟨A4, c4, rfl, hT⟩ := hR.txt; have T4 := Lib.hid (And.intro (T3.out.below hb) hT); have B7 := Lib.hid (below_acc B6.out hb); clear hb hR hT)
          | (go_at_call 28; (with_reducible refine (CY.out _ _ _ _ _ T4.out.1 T4.out.2).mono ?_); rintro e w8 ⟨rfl, nT, rfl⟩))
        go_ret
        exact ⟨rfl, B7.out.os, B7.out.tape, B7.out.output, B7.out.size, B7.out.block⟩
      · have e : orP p q = p := by rcases orP_cases p q with ⟨_, h⟩ | ⟨h, _⟩ <;> simp_all
        rw [e]
        have d5 : (p != 0) = true := by rw [bne_iff_ne]; exact hp
        clear e
        go_enter Try.func20, Try.ntmps20
        go_wp2_with (first
          | (go_at_call 12; (with_reducible refine CA.out.mono ?_); rintro e w1 ⟨rfl, hb⟩; have BB := Lib.hid hb; clear hb)
          | (go_at_call 12; (with_reducible refine (CB.out _).mono ?_); rintro e w2 ⟨rfl, hb⟩; have B2 := Lib.hid (below_acc BB.out hb); clear hb)
          | (go_at_call 22; (with_reducible refine (LA.out _).mono ?_); rintro e w3 ⟨v1, rfl, hR, hb⟩; obtain ⟨A1, c1, rfl, hT⟩ := hR.txt; have T1 := Lib.hid hT; have B3 := Lib.hid (below_acc B2.out hb); clear hb hR hT)
          | (go_at_call 22; (with_reducible refine (LB.out _).mono ?_); rintro e w4 ⟨v2, rfl, hR, hb⟩; obtain ⟨A2, c2, rfl, hT⟩ := hR.txt; have T2 := Lib.hid (And.intro (T1.out.below hb) hT); have B4 := Lib.hid (below_acc B3.out hb); clear hb hR hT)
          | (go_at_call 28; (with_reducible refine (CX.out _ _ _ _ _ T2.out.1 T2.out.2).mono ?_); rintro e w5 ⟨rfl, nS, rfl⟩))
        go_ret
        exact ⟨rfl, B4.out.os, B4.out.tape, B4.out.output, B4.out.size, B4.out.block⟩
    · have e : order a b = 0 := by rw [order, if_pos (.inr h2)]
      rw [e]
      have d1 : ((ck b : Int) != 0) = true := by rw [bne_iff_ne]; omega
      generalize ck b = n at CB d1
      clear e h2 h1
      go_enter Try.func20, Try.ntmps20
      go_wp2_with (first
        | (go_at_call 12; (with_reducible refine CA.out.mono ?_); rintro e w1 ⟨rfl, hb⟩; have BB := Lib.hid hb; clear hb)
        | (go_at_call 12; (with_reducible refine (CB.out _).mono ?_); rintro e w2 ⟨rfl, hb⟩; have B2 := Lib.hid (below_acc BB.out hb); clear hb))
      go_ret
      exact ⟨rfl, B2.out⟩
  · have e : order a b = 0 := by rw [order, if_pos (.inl h1)]
    rw [e]
    have d1 : ((ck a : Int) != 0) = true := by rw [bne_iff_ne]; omega
    generalize ck a = n at CA d1
    clear e h1
    go_enter Try.func20, Try.ntmps20
    go_wp2_with (go_at_call 12; (with_reducible refine CA.out.mono ?_); rintro e w1 ⟨rfl, hb⟩; have BB := Lib.hid hb; clear hb)
    go_ret
    exact ⟨rfl, BB.out⟩

set_option maxRecDepth 100000 in
set_option maxHeartbeats 8000000 in
theorem NameOrders_walk (a b : List UInt8) (ha : a.length ≤ 9223372036854775807) (hb : b.length ≤ 9223372036854775807) (w : World) :
    Calls Try.prog 5 #[str a, str b] w fun e w' => e = .returned (.bool true) ∧ Below w.heap.size w w' := by
  have B0 : Below w.heap.size w (w.alloc (.cells #[str a, str b] 9 (0, 0))) := (Below.refl _ w).alloc (Nat.le_refl _) _
  have CL : Calls Try.prog 7 #[.slice (some ⟨w.heap.size, 0, none⟩) 2 2] (w.alloc (.cells #[str a, str b] 9 (0, 0))) fun e w' => e = .returned (.bool ([a, b].any fun x => decide (1024 < x.length))) ∧ w.alloc (.cells #[str a, str b] 9 (0, 0)) = w' :=
    long_any (some ⟨w.heap.size, 0, none⟩) 2 [a, b] (by simp) (by simp [ha, hb]) (w.heap.size + 1) _ (txt_new w [a, b])
  have CV := Lib.hid (fun W => alive_any W)
  cases hL : ([a, b].any fun x => decide (1024 < x.length))
  · rw [hL] at CL
    have HL := Lib.hid CL
    clear CL
    have hla : a.length ≤ 100000 ∧ b.length ≤ 100000 := by
      simp only [List.any_cons, List.any_nil, Bool.or_false, Bool.or_eq_false_iff, decide_eq_false_iff_not] at hL
      omega
    obtain ⟨la, lb⟩ := hla
    clear hL
    have C1 := fun W => Clash_any a b la lb W
    have C2 := fun W => refClash_any a b la lb W
    have O1 := fun W => Order_any a b la lb W
    have O2 := fun W => refOrder_any a b la lb W
    generalize clash a b = p at C1 C2
    generalize order a b = q at O1 O2
    have X1 := Lib.hid C1
    have X2 := Lib.hid C2
    have Y1 := Lib.hid O1
    have Y2 := Lib.hid O2
    clear C1 C2 O1 O2
    go_enter Try.func5, Try.ntmps5
    go_wp2_with (first
      | (go_at_call 7; (with_reducible refine HL.out.mono ?_); rintro e w1 ⟨rfl, rfl⟩)
      | (go_at_call 17; (with_reducible refine (X1.out _).mono ?_); rintro e w2 ⟨rfl, hb⟩; have B0 := below_step B0 hb ⟨rfl, rfl, rfl, rfl⟩; clear hb)
      | (go_at_call 18; (with_reducible refine (X2.out _).mono ?_); rintro e w2 ⟨rfl, hb⟩; have B0 := below_step B0 hb ⟨rfl, rfl, rfl, rfl⟩; clear hb)
      | (go_at_call 19; (with_reducible refine (Y1.out _).mono ?_); rintro e w2 ⟨rfl, hb⟩; have B0 := below_step B0 hb ⟨rfl, rfl, rfl, rfl⟩; clear hb)
      | (go_at_call 20; (with_reducible refine (Y2.out _).mono ?_); rintro e w2 ⟨rfl, hb⟩; have B0 := below_step B0 hb ⟨rfl, rfl, rfl, rfl⟩; clear hb)
      | (go_at_call 8; (with_reducible refine (CV.out _).mono ?_); rintro e w2 ⟨rfl, hb⟩; have B0 := below_step B0 hb ⟨rfl, rfl, rfl, rfl⟩; clear hb))
    go_ret
    exact ⟨rfl, B0⟩
  · rw [hL] at CL
    have HL := Lib.hid CL
    clear CL hL
    go_enter Try.func5, Try.ntmps5
    go_wp2_with (first
      | (go_at_call 7; refine HL.out.mono ?_; rintro e w1 ⟨rfl, rfl⟩)
      | (go_at_call 8; refine (CV.out _).mono ?_; rintro e w2 ⟨rfl, hb⟩; have B0 := below_step B0 hb ⟨rfl, rfl, rfl, rfl⟩; clear hb))
    go_ret
    exact ⟨rfl, B0⟩
end Go.Proofs.Ytdmlfggokbmapaa
