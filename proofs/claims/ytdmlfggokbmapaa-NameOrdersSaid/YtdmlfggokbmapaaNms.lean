/- The walk of name's Order. Condition: sizes that a machine has. -/
import Derived.Test.YtdmlfggokbmapaaNmr
namespace Go.Proofs.Ytdmlfggokbmapaa
open Go.RowKit
set_option linter.unusedVariables false
set_option linter.unusedSimpArgs false

set_option maxRecDepth 100000 in
set_option maxHeartbeats 4000000 in
theorem Order_any (a b : List UInt8) (ha : a.length ≤ 100000) (hb : b.length ≤ 100000) (w : World) :
    Calls Try.prog 19 #[str a, str b] w fun e w' => e = .returned (.int .i64 (order a b)) ∧ Below w.heap.size w w' := by
  have CA := Lib.hid (Check_any a (by omega) w)
  have CB := Lib.hid (fun W => Check_any b (by omega) W)
  by_cases h1 : ck a = 0
  · rw [h1] at CA
    by_cases h2 : ck b = 0
    · rw [h2] at CB
      have e : order a b = orP (cmpL (lks a) (lks b)) (cmpL (rn a) (rn b)) := by rw [order, if_neg (by simp [h1, h2])]
      rw [e]
      have la : (lks a).length ≤ 1000000 := by unfold lks; rw [List.length_map]; have := rn_len a; omega
      have lb : (lks b).length ≤ 1000000 := by unfold lks; rw [List.length_map]; have := rn_len b; omega
      have LA := Lib.hid (fun W => look_any a ha W)
      have LB := Lib.hid (fun W => look_any b hb W)
      have CX := Lib.hid (fun A A' c c' W h h' => compare_any A A' c c' (lks a) (lks b) la lb W h h')
      have CY : Hid (∀ W, Calls Try.prog 30 #[.slice (some ⟨W.heap.size, 0, none⟩) (rn a).length (rnCap W a), .slice (some ⟨(rnW W a).heap.size, 0, none⟩) (rn b).length (rnCap (rnW W a) b)] (rnW (rnW W a) b) fun e w' => e = .returned (.int .i64 (cmpL (rn a) (rn b))) ∧ rnW (rnW W a) b = w') := fun W =>
        compare_any (some ⟨W.heap.size, 0, none⟩) (some ⟨(rnW W a).heap.size, 0, none⟩) (rnCap W a) (rnCap (rnW W a) b) (rn a) (rn b) (by have := rn_len a; omega) (by have := rn_len b; omega) (rnW (rnW W a) b) (Rns.below (rnW_rns a W) (rnW_below b (rnW W a))) (rnW_rns b (rnW W a))
      have cva := conv_to a ha
      have cvb := conv_to b hb
      have RB : Hid (∀ W, Below W.heap.size W (rnW (rnW W a) b)) := fun W => below_acc (rnW_below a W) (rnW_below b (rnW W a))
      have CO : Hid (∀ (W : World) (x y : Int), Calls Try.prog 29 #[.slice (some ⟨W.heap.size, 0, none⟩) 2 2] (W.alloc (.cells #[.int .i64 x, .int .i64 y] 3 (0, 0))) fun e w' => e = .returned (.int .i64 (orP x y)) ∧ W.alloc (.cells #[.int .i64 x, .int .i64 y] 3 (0, 0)) = w') := fun W x y =>
by
        have hn := heap_alloc_new W (.cells #[.int .i64 x, .int .i64 y] 3 (0, 0))
        have e0 := cell_of_row _ _ 0 _ _ (0, 0) hn
        have e1 := cell_of_row _ _ 1 _ _ (0, 0) hn
        exact or_any W.heap.size x y _ e0 e1
      generalize lks a = xa at LA CX
      generalize lks b = xb at LB CX
      generalize cmpL xa xb = p at CX
      generalize rn a = ra at CY cva
      generalize rn b = rb at CY cvb
      generalize cmpL ra rb = q at CY
      clear e la lb h1 h2
      go_enter Try.func19, Try.ntmps19
      go_wp2_with (first
        | (go_at_call 11; (with_reducible refine CA.out.mono ?_); rintro e w1 ⟨rfl, hb⟩; have BB := Lib.hid hb; clear hb)
        | (go_at_call 11; (with_reducible refine (CB.out _).mono ?_); rintro e w2 ⟨rfl, hb⟩; have B2 := Lib.hid (below_acc BB.out hb); clear hb)
        | (go_at_call 21; (with_reducible refine (LA.out _).mono ?_); rintro e w3 ⟨v1, rfl, hR, hb⟩; obtain ⟨A1, c1, rfl, hT⟩ := hR.txt; have T1 := Lib.hid hT; have B3 := Lib.hid (below_acc B2.out hb); clear hb hR hT)
        | (go_at_call 21; (with_reducible refine (LB.out _).mono ?_); rintro e w4 ⟨v2, rfl, hR, hb⟩; obtain ⟨A2, c2, rfl, hT⟩ := hR.txt; have T2 := Lib.hid (And.intro (T1.out.below hb) hT); have B4 := Lib.hid (below_acc B3.out hb); clear hb hR hT)
        | (go_at_call 30; (with_reducible refine (CX.out _ _ _ _ _ T2.out.1 T2.out.2).mono ?_); rintro e w5 ⟨rfl, rfl⟩)
        | (go_at_call 30; (with_reducible refine (CY.out _).mono ?_); rintro e w6 ⟨rfl, rfl⟩)
        | (go_at_call 29; (with_reducible refine (CO.out _ _ _).mono ?_); rintro e w7 ⟨rfl, rfl⟩))
      go_ret
      have F1 := below_acc B4.out (RB.out w4)
      exact ⟨rfl, F1.alloc F1.size _⟩
    · have e : order a b = 0 := by rw [order, if_pos (.inr h2)]
      rw [e]
      have d1 : ((ck b : Int) != 0) = true := by rw [bne_iff_ne]; omega
      generalize ck b = n at CB d1
      clear e h2 h1
      go_enter Try.func19, Try.ntmps19
      go_wp2_with (first
        | (go_at_call 11; (with_reducible refine CA.out.mono ?_); rintro e w1 ⟨rfl, hb⟩; have BB := Lib.hid hb; clear hb)
        | (go_at_call 11; (with_reducible refine (CB.out _).mono ?_); rintro e w2 ⟨rfl, hb⟩; have B2 := Lib.hid (below_acc BB.out hb); clear hb))
      go_ret
      exact ⟨rfl, B2.out⟩
  · have e : order a b = 0 := by rw [order, if_pos (.inl h1)]
    rw [e]
    have d1 : ((ck a : Int) != 0) = true := by rw [bne_iff_ne]; omega
    generalize ck a = n at CA d1
    clear e h1
    go_enter Try.func19, Try.ntmps19
    go_wp2_with (go_at_call 11; (with_reducible refine CA.out.mono ?_); rintro e w1 ⟨rfl, hb⟩; have BB := Lib.hid hb; clear hb)
    go_ret
    exact ⟨rfl, BB.out⟩

end Go.Proofs.Ytdmlfggokbmapaa
