/- The walk of TimerOnce. Condition: sizes that a machine has. -/
import Derived.Test.YtljfjlijobjpdaaTim
namespace Go.Proofs.Ytljfjlijobjpdaa
open Go.RowKit
set_option linter.unusedVariables false
set_option linter.unusedSimpArgs false

theorem size_sp (x : Sp) : (Try.prog.info? 28).map (·.size) = some x.cells.toArray.size := by
  show _ = some 3
  kernel_rfl
set_option maxRecDepth 100000 in
set_option maxHeartbeats 64000000 in
theorem TimerOnce_walk (A : Option Addr) (cap : Nat) (ls : List Sp) (w : World) (hT : StepsT w w.heap.size A ls) (hl : ls.length ≤ 9223372036854775807) (hx : ∀ x ∈ ls, x.key.length ≤ 9223372036854775807 ∧ x.do_ < 256) :
    Calls Try.prog 3 #[.slice A ls.length cap] w fun e w' => e = .returned (.bool true) ∧ Below w.heap.size w w' := by
  have AL := Lib.hid (fun (W : World) => alive_any W)
  have HT := Lib.hid hT
  have HX := Lib.hid hx
  have HV := Lib.hid (heavy_any A cap ls hl (fun x h => (hx x h).1) _ _ hT)
  clear hT hx
  by_cases hh : heavyT ls = true
  · rw [hh] at HV
    go_enter Try.func3, Try.ntmps3
    go_wp2_with (first
      | (go_at_call 4; refine HV.out.mono ?_; rintro e w2 ⟨rfl, rfl⟩)
      | (go_at_call 5; refine (AL.out _).mono ?_; rintro e w2 ⟨rfl, hb⟩; have TB := Lib.hid hb; clear hb))
    go_ret
    exact ⟨rfl, TB.out⟩
  have h150 : ls.length ≤ 150 := by
    unfold heavyT at hh
    simp at hh
    omega
  have hh' : heavyT ls = false := by simpa using hh
  rw [hh'] at HV
  clear hh hh'
  go_enter Try.func3, Try.ntmps3
  go_upto_region 8 with (first
    | (go_at_call 4; refine HV.out.mono ?_; rintro e w2 ⟨rfl, rfl⟩)
    | (go_at_call 6; refine (New_any _).mono ?_; rintro e w2 ⟨rfl, hT, hb⟩; have R0 := Lib.hid (Wm.start hT hb); clear hT hb))
  go_loopw [4, 5] (fun v i wr => ∃ (k : Nat) (l : List On1) (M : Mp) (no : Nat) (want : List Sp), i = .int .i64 (k : Int) ∧ k ≤ ls.length ∧ l.length ≤ k ∧ no ≤ k ∧ M.length ≤ k ∧ Hid (Wm w (w.heap.size + 1) w.heap.size l M no v want (.slice none 0 0) [] (.slice none 0 0) [] 0 none wr ∧ Inv l M ∧ Cor want M)) (fun _ i _ => ls.length - (intOf i).toNat)
  case atStart => exact ⟨0, [], [], 0, [], rfl, by omega, by simp, by omega, by simp, R0.out, inv_nil, cor_nil⟩
  case round =>
    clear R0 HV
    obtain ⟨k, l, M, no, want, rfl, hk, hlk, hnk, hMk, H⟩ := hrel
    by_cases hkl : k < ls.length
    rotate_left
    · obtain rfl : k = ls.length := by omega
      have HB := Lib.hid H.out.1.b
      clear H HT HX
      go_wp2_with (go_at_call 5; refine (AL.out _).mono ?_; rintro e w2 ⟨rfl, hb⟩; have TB := Lib.hid (below_acc HB.out hb); clear hb)
      go_ret
      exact ⟨rfl, TB.out⟩
    obtain ⟨bb, o, rfl, hbl, hr⟩ := HT.out k hkl
    have hxk := HX.out ls[k] (List.getElem_mem hkl)
    have HR := Lib.hid (fun j v hv => (H.out.1.b.cell (p := ⟨bb, _, none⟩) hbl).trans (hr j v hv))
    have kb : 0 ≤ (k : Int) ∧ (k : Int) < (ls.length : Int) := by omega
    have kw : IntKind.i64.wrap ((k : Int) + 1) = (k : Int) + 1 := IntWalk.i64_in _ (by omega)
    have HWL := Lib.hid (cor_len H.out.2.2)
    have hwl : want.length ≤ 150 := by have := HWL.out; omega
    clear hr
    generalize ls[k] = s at HR hxk
    obtain ⟨d, key, at_⟩ := s
    have HBX := Lib.hid (H.out.1.box (.cells #[.int .u8 (d : Int), str key, .int .i64 at_] 28 (0, 0)))
    have IC := Lib.hid H.out.2
    obtain ⟨ob, capv, rfl⟩ := H.out.1.vs
    simp only at hxk
    clear H
    go_upto_region 11 with (refine wpList_load_mid rfl 28 _ rfl bb (o + k * 3) (by rfl) [.int .u8 (d : Int), str key, .int .i64 at_] _ HR.out Try.underlying28 rfl (size_sp ⟨d, key, at_⟩) ?_)
    generalize wr.alloc (.cells #[.int .u8 (d : Int), str key, .int .i64 at_] 28 (0, 0)) = W1 at HBX ⊢
    generalize wr.heap.size = sb at HBX ⊢
    obtain ⟨s0, s1, s2⟩ := Wm.sp (s := ⟨d, key, at_⟩) HBX.out
    simp only at s0 s1 s2
    have hwm : ((M.length : Int) != (want.length : Int)) = false := by have := HWL.out; simp; omega
    have hdd : (d = 0 ∧ ((d : Int) == 0) = true) ∨ (((d : Int) == 0) = false ∧ ((d = 1 ∧ ((d : Int) == 1) = true) ∨ (((d : Int) == 1) = false ∧ ((d = 2 ∧ ((d : Int) == 2) = true) ∨ ((d : Int) == 2) = false)))) := by
      have e0 : ((d : Int) == 0) = decide (d = 0) := by by_cases h : d = 0 <;> simp [h]
      have e1 : ((d : Int) == 1) = decide (d = 1) := by by_cases h : d = 1 <;> simp [h]; omega
      have e2 : ((d : Int) == 2) = decide (d = 2) := by by_cases h : d = 2 <;> simp [h]; omega
      rw [e0, e1, e2]
      by_cases h0 : d = 0
      · exact .inl ⟨h0, by simp [h0]⟩
      · by_cases h1 : d = 1
        · exact .inr ⟨by simp [h0], .inl ⟨h1, by simp [h1]⟩⟩
        · by_cases h2 : d = 2
          · exact .inr ⟨by simp [h0], .inr ⟨by simp [h1], .inl ⟨h2, by simp [h2]⟩⟩⟩
          · exact .inr ⟨by simp [h0], .inr ⟨by simp [h1], .inr (by simp [h2])⟩⟩
    go_upto_region 13 with fail
    rcases hdd with ⟨-, q0⟩ | ⟨q0, ⟨-, q1⟩ | ⟨q1, ⟨-, q2⟩ | q2⟩⟩
    rotate_left 3
    · have HF := Lib.hid (And.intro HBX.out.forget IC.out)
      clear HT HX HR HWL IC s0 s1 s2
      go_wp2_with (go_at_call 10; (with_reducible refine HBX.out.len.mono ?_); rintro e W8 ⟨rfl, rfl⟩)
      go_roundw
      case rel => exact ⟨k + 1, l, M, no, want, by go_num, by omega, by omega, by omega, by omega, HF.out⟩
      case measure => simp [intOf]; omega
    · by_cases h256 : 256 < key.length
      · have SL := Lib.hid (HBX.out.set_long key at_ h256 hxk.1)
        clear HT HX HR HWL s0
        go_wp2_with (go_at_call 7; (with_reducible refine SL.out.mono ?_); rintro e W8 ⟨rfl, hW⟩; have HF := Lib.hid (And.intro hW.forget IC.out); clear hW)
        go_roundw
        case rel => exact ⟨k + 1, l, M, no, want, by go_num, by omega, by omega, by omega, by omega, HF.out⟩
        case measure => simp [intOf]; omega
      have SK := Lib.hid (HBX.out.set_ok IC.out.1 key at_ (by omega) (by omega) (by omega) (by omega))
      have CS := Lib.hid (cor_set IC.out.2 IC.out.1.nd ⟨d, key, at_⟩ (no + 1))
      have ML := putM_len (k := key) (a := at_) (n := no + 1) M
      have hno1 : no + 1 ≤ k + 1 := by omega
      generalize putM key at_ (no + 1) M = M1 at SK CS ML
      generalize no + 1 = n1 at SK CS hno1
      clear HT HX HR HWL IC hwm h256
      go_upto_region 15 with (go_at_call 7; (with_reducible refine SK.out.mono ?_); rintro e W2 ⟨rfl, l1, hl1, hI, hW⟩; have H2 := Lib.hid hW; have I2 := Lib.hid (And.intro hI CS.out); clear hW hI)
      clear SK CS HBX s0 s1 s2 q0
      go_wp2_with fail
      go_loopw [7, 8] (fun uv kv wj => ∃ n : Nat, kv = .int .i64 (n : Int) ∧ n ≤ want.length ∧ Hid (Wm w (w.heap.size + 1) w.heap.size l1 M1 n1 (.slice ob want.length capv) want uv (rest key (want.take n)) (.slice none 0 0) [] sb (some (.cells #[.int .u8 (d : Int), str key, .int .i64 at_] 28 (0, 0))) wj)) (fun _ kv _ => want.length - (intOf kv).toNat)
      case atStart => exact ⟨0, rfl, by omega, H2.out⟩
      case round =>
        clear H2
        obtain ⟨n, rfl, hn, T⟩ := hrel
        obtain ⟨s0, s1, s2⟩ := Wm.sp (s := ⟨d, key, at_⟩) T.out
        simp only at s0 s1 s2
        obtain ⟨ou, cu, rfl⟩ := T.out.us
        by_cases hnl : n < want.length
        · obtain ⟨rb, cw, e, hr⟩ := own_sp T.out.ov hnl
          cases e
          have hx := hr n hnl
          have x0 := hx 0 _ rfl
          have x1 := hx 1 _ rfl
          have x2 := hx 2 _ rfl
          have RT := Lib.hid (rest_take key want n hnl)
          have RX := Lib.hid (fun m j v hv => (show (World.drewN _ m).cell? _ = some v from hx j v hv))
          have kn : 0 ≤ (n : Int) ∧ (n : Int) < (want.length : Int) := by omega
          have knw : IntKind.i64.wrap ((n : Int) + 1) = (n : Int) + 1 := IntWalk.i64_in _ (by omega)
          clear hr hx
          generalize want[n] = p at x0 x1 x2 RT RX
          obtain ⟨pd, pk, pa⟩ := p
          simp only at x0 x1 x2
          have rl := rest_le key (want.take n)
          have rl2 : (rest key (want.take n)).length ≤ 150 := by have := List.length_take_le n want; omega
          clear rl
          simp only at RT RX
          generalize hrs : rest key (want.take n) = rs at T RT rl2
          clear hrs
          go_wp2_with fail
          go_quiet (fail)
          have T5 := Lib.hid (T.out.draw nq)
          have RX5 := Lib.hid (RX.out nq)
          clear T RX x0 x1 x2 s0 s1 s2
          generalize wr.drewN nq = W5 at T5 RX5 ⊢
          cases hxy : (pk == key)
          · have hne : ¬ pk = key := fun e => by rw [e] at hxy; simp at hxy
            rw [if_neg hne] at RT
            have TA : Hid (Wm w (w.heap.size + 1) w.heap.size l1 M1 n1 (.slice (some ⟨rb, 0, none⟩) want.length capv) want (.slice ou rs.length cu) rs (.slice none 0 0) [] sb (some (.cells #[.int .u8 (d : Int), str key, .int .i64 at_] 28 (0, 0))) (W5.alloc (.cells #[.int .u8 (pd : Int), str pk, .int .i64 pa] 28 (0, 0)))) := T5.out.bel ((Below.refl _ W5).alloc (Nat.le_refl _) _)
            have NW : Hid (∀ j q, (Sp.cells ⟨pd, pk, pa⟩)[j]? = some q → (W5.alloc (.cells #[.int .u8 (pd : Int), str pk, .int .i64 pa] 28 (0, 0))).cell? ((⟨W5.heap.size, 0, none⟩ : Addr).add j) = some q) := by
              intro j q hq
              rw [Addr.add_mid, Nat.zero_add]
              refine (cell_of_row _ _ j _ _ (0, 0) (heap_alloc_new W5 _)).trans ?_
              rw [← hq]
              simp [Sp.cells]
            clear T5 hne hxy
            go_wp2_with (first
              | (refine wpList_load_mid rfl 28 _ rfl rb (n * 3) (by rfl) [.int .u8 (pd : Int), str pk, .int .i64 pa] _ RX5.out Try.underlying28 rfl (size_sp ⟨pd, pk, pa⟩) ?_)
              | (refine wpList_append_sp rfl _ _ rfl _ (by rfl) TA.out ⟨W5.heap.size, 0, none⟩ 1 ⟨pd, pk, pa⟩ (by rfl) NW.out (by omega) ?_; intro v6 W6 T6; have H6 := Lib.hid T6; clear T6))
            go_roundw
            case rel => exact ⟨n + 1, by go_num, by omega, by rw [RT.out]; exact H6.out⟩
            case measure => simp [intOf]; omega
          · have he : pk = key := by simpa using hxy
            rw [if_pos he, List.append_nil] at RT
            clear he hxy RX5
            go_wp2_with fail
            go_roundw
            case rel => exact ⟨n + 1, by go_num, by omega, by rw [RT.out]; exact T5.out⟩
            case measure => simp [intOf]; omega
        · obtain rfl : n = want.length := by omega
          rw [List.take_length] at T ⊢
          have rl := rest_le key want
          have CL := cor_len I2.out.2
          have hne : ((M1.length : Int) != ((rest key want ++ [(⟨d, key, at_⟩ : Sp)]).length : Int)) = false := by simp only [CL]; simp
          have HL : Hid (k + 1 ≤ ls.length ∧ l1.length ≤ k + 1 ∧ n1 ≤ k + 1 ∧ M1.length ≤ k + 1) := ⟨by omega, by omega, by omega, by omega⟩
          have TA : Hid (Wm w (w.heap.size + 1) w.heap.size l1 M1 n1 (.slice ob want.length capv) want (.slice ou (rest key want).length cu) (rest key want) (.slice none 0 0) [] sb (some (.cells #[.int .u8 (d : Int), str key, .int .i64 at_] 28 (0, 0))) (wr.alloc (.cells #[.int .u8 (d : Int), str key, .int .i64 at_] 28 (0, 0)))) := T.out.bel ((Below.refl _ wr).alloc (Nat.le_refl _) _)
          have NW : Hid (∀ j q, (Sp.cells ⟨d, key, at_⟩)[j]? = some q → (wr.alloc (.cells #[.int .u8 (d : Int), str key, .int .i64 at_] 28 (0, 0))).cell? ((⟨wr.heap.size, 0, none⟩ : Addr).add j) = some q) := by
            intro j q hq
            rw [Addr.add_mid, Nat.zero_add]
            refine (cell_of_row _ _ j _ _ (0, 0) (heap_alloc_new wr _)).trans ?_
            rw [← hq]
            simp [Sp.cells]
          have hrl : (rest key want).length ≤ 100000 := by omega
          clear T CL rl
          generalize rest key want = rs at TA I2 hrl hne ⊢
          generalize hL : (rs ++ [(⟨d, key, at_⟩ : Sp)]).length = L at hne
          have HLL := Lib.hid hL
          clear hL
          go_upto_region 53 with (first
            | (refine wpList_append_sp rfl _ _ rfl _ (by rfl) TA.out ⟨wr.heap.size, 0, none⟩ 1 ⟨d, key, at_⟩ (by rfl) NW.out hrl ?_; intro v6 W6 T6; have H6 := Lib.hid T6; clear T6))
          obtain ⟨o6, c6, rfl⟩ := H6.out.us
          rw [HLL.out] at H6 ⊢
          clear TA NW s0 s1 s2 HLL
          go_wp2_with (go_at_call 10; (with_reducible refine H6.out.len.mono ?_); rintro e W8 ⟨rfl, rfl⟩)
          have HF := Lib.hid (And.intro H6.out.turn I2.out)
          clear H6 I2
          go_roundw
          case rel => exact ⟨k + 1, l1, M1, n1, _, by go_num, HL.out.1, HL.out.2.1, HL.out.2.2.1, HL.out.2.2.2, HF.out⟩
          case measure => simp [intOf]; omega
    · cases hsm : (lookM key M).isSome
      · have hn : lookM key M = none := by simpa using hsm
        have DR := HBX.out.drop key
        have e3 : errD key M = 3 := by unfold errD; rw [hsm]; rfl
        rw [e3, delM_none hn] at DR
        have SL := Lib.hid DR
        clear HT HX HR HWL s0 s2 DR e3 hn hsm
        go_wp2_with (go_at_call 8; (with_reducible refine SL.out.mono ?_); rintro e W8 ⟨rfl, hW⟩; have HF := Lib.hid (And.intro hW.forget IC.out); clear hW)
        go_roundw
        case rel => exact ⟨k + 1, l, M, no, want, by go_num, by omega, by omega, by omega, by omega, HF.out⟩
        case measure => simp [intOf]; omega
      have DR := HBX.out.drop key
      have e0 : errD key M = 0 := by unfold errD; rw [hsm]; rfl
      rw [e0] at DR
      have SK := Lib.hid DR
      have CS := cor_drop IC.out.2 IC.out.1.nd key
      have ID := inv_drop IC.out.1 key
      have I2 := Lib.hid (And.intro ID CS)
      have RL := Lib.hid (rest_len IC.out.2 IC.out.1.nd hsm)
      have ML := delM_len (k := key) M
      clear DR e0 CS ID hsm
      generalize delM key M = M1 at SK I2 ML
      clear HT HX HR HWL IC hwm
      go_upto_region 23 with (go_at_call 8; (with_reducible refine SK.out.mono ?_); rintro e W2 ⟨rfl, hW⟩; have H2 := Lib.hid hW; clear hW)
      clear SK HBX s0 s1 s2 q0 q1
      go_wp2_with fail
      go_loopw [7, 9] (fun uv kv wj => ∃ n : Nat, kv = .int .i64 (n : Int) ∧ n ≤ want.length ∧ Hid (Wm w (w.heap.size + 1) w.heap.size l M1 no (.slice ob want.length capv) want uv (rest key (want.take n)) (.slice none 0 0) [] sb (some (.cells #[.int .u8 (d : Int), str key, .int .i64 at_] 28 (0, 0))) wj)) (fun _ kv _ => want.length - (intOf kv).toNat)
      case atStart => exact ⟨0, rfl, by omega, H2.out⟩
      case round =>
        clear H2
        obtain ⟨n, rfl, hn, T⟩ := hrel
        obtain ⟨s0, s1, s2⟩ := Wm.sp (s := ⟨d, key, at_⟩) T.out
        simp only at s0 s1 s2
        obtain ⟨ou, cu, rfl⟩ := T.out.us
        by_cases hnl : n < want.length
        · obtain ⟨rb, cw, e, hr⟩ := own_sp T.out.ov hnl
          cases e
          have hx := hr n hnl
          have x0 := hx 0 _ rfl
          have x1 := hx 1 _ rfl
          have x2 := hx 2 _ rfl
          have RT := Lib.hid (rest_take key want n hnl)
          have RX := Lib.hid (fun m j v hv => (show (World.drewN _ m).cell? _ = some v from hx j v hv))
          have kn : 0 ≤ (n : Int) ∧ (n : Int) < (want.length : Int) := by omega
          have knw : IntKind.i64.wrap ((n : Int) + 1) = (n : Int) + 1 := IntWalk.i64_in _ (by omega)
          clear hr hx
          generalize want[n] = p at x0 x1 x2 RT RX
          obtain ⟨pd, pk, pa⟩ := p
          simp only at x0 x1 x2
          have rl := rest_le key (want.take n)
          have rl2 : (rest key (want.take n)).length ≤ 150 := by have := List.length_take_le n want; omega
          clear rl
          simp only at RT RX
          generalize hrs : rest key (want.take n) = rs at T RT rl2
          clear hrs
          go_wp2_with fail
          go_quiet (fail)
          have T5 := Lib.hid (T.out.draw nq)
          have RX5 := Lib.hid (RX.out nq)
          clear T RX x0 x1 x2 s0 s1 s2
          generalize wr.drewN nq = W5 at T5 RX5 ⊢
          cases hxy : (pk == key)
          · have hne : ¬ pk = key := fun e => by rw [e] at hxy; simp at hxy
            rw [if_neg hne] at RT
            have TA : Hid (Wm w (w.heap.size + 1) w.heap.size l M1 no (.slice (some ⟨rb, 0, none⟩) want.length capv) want (.slice ou rs.length cu) rs (.slice none 0 0) [] sb (some (.cells #[.int .u8 (d : Int), str key, .int .i64 at_] 28 (0, 0))) (W5.alloc (.cells #[.int .u8 (pd : Int), str pk, .int .i64 pa] 28 (0, 0)))) := T5.out.bel ((Below.refl _ W5).alloc (Nat.le_refl _) _)
            have NW : Hid (∀ j q, (Sp.cells ⟨pd, pk, pa⟩)[j]? = some q → (W5.alloc (.cells #[.int .u8 (pd : Int), str pk, .int .i64 pa] 28 (0, 0))).cell? ((⟨W5.heap.size, 0, none⟩ : Addr).add j) = some q) := by
              intro j q hq
              rw [Addr.add_mid, Nat.zero_add]
              refine (cell_of_row _ _ j _ _ (0, 0) (heap_alloc_new W5 _)).trans ?_
              rw [← hq]
              simp [Sp.cells]
            clear T5 hne hxy
            go_wp2_with (first
              | (refine wpList_load_mid rfl 28 _ rfl rb (n * 3) (by rfl) [.int .u8 (pd : Int), str pk, .int .i64 pa] _ RX5.out Try.underlying28 rfl (size_sp ⟨pd, pk, pa⟩) ?_)
              | (refine wpList_append_sp rfl _ _ rfl _ (by rfl) TA.out ⟨W5.heap.size, 0, none⟩ 1 ⟨pd, pk, pa⟩ (by rfl) NW.out (by omega) ?_; intro v6 W6 T6; have H6 := Lib.hid T6; clear T6))
            go_roundw
            case rel => exact ⟨n + 1, by go_num, by omega, by rw [RT.out]; exact H6.out⟩
            case measure => simp [intOf]; omega
          · have he : pk = key := by simpa using hxy
            rw [if_pos he, List.append_nil] at RT
            clear he hxy RX5
            go_wp2_with fail
            go_roundw
            case rel => exact ⟨n + 1, by go_num, by omega, by rw [RT.out]; exact T5.out⟩
            case measure => simp [intOf]; omega
        · obtain rfl : n = want.length := by omega
          rw [List.take_length] at T ⊢
          have CL := cor_len I2.out.2
          have hne : ((M1.length : Int) != ((rest key want).length : Int)) = false := by simp only [CL]; simp
          have HL : Hid (k + 1 ≤ ls.length ∧ l.length ≤ k + 1 ∧ no ≤ k + 1 ∧ M1.length ≤ k + 1) := ⟨by omega, by omega, by omega, by omega⟩
          have rl := RL.out
          have hrw : IntKind.i64.wrap (((rest key want).length : Int) + 1) = (want.length : Int) := (IntWalk.i64_in _ (by omega)).trans (by omega)
          clear CL rl RL
          generalize rest key want = rs at T I2 hne hrw ⊢
          go_upto_region 53 with fail
          clear s0 s1 s2
          go_wp2_with (go_at_call 10; (with_reducible refine T.out.len.mono ?_); rintro e W8 ⟨rfl, rfl⟩)
          have HF := Lib.hid (And.intro T.out.turn I2.out)
          clear T I2
          go_roundw
          case rel => exact ⟨k + 1, l, M1, no, _, by go_num, HL.out.1, HL.out.2.1, HL.out.2.2.1, HL.out.2.2.2, HF.out⟩
          case measure => simp [intOf]; omega
    · have DU := Lib.hid (HBX.out.due IC.out.1 at_ (by omega))
      clear HT HX HR HWL hwm
      go_upto_region 33 with (go_at_call 9; (with_reducible refine DU.out.mono ?_); rintro e W2 ⟨ov, del, l1, M1, rfl, hW, hD, hy, hl1⟩; have H2 := Lib.hid hW; have DI := Lib.hid (And.intro hD hy); clear hW hD hy)
      clear DU HBX s0 s1 s2 q0 q1 q2
      obtain ⟨hd, hm⟩ := dinv_end DI.out.1 DI.out.2
      have CNT := Lib.hid (fun s hs => due_count (M' := M) IC.out.2 IC.out.1.nd hd s hs)
      have LEN := Lib.hid (due_len IC.out.2 hd)
      have I2 := Lib.hid (And.intro DI.out.1.inv (cor_late IC.out.2 hm))
      have hM1 : M1.length ≤ M.length := by rw [hm.length_eq]; exact List.length_filter_le _ _
      have hdw := dueN_le at_ want
      clear hd hm DI IC
      generalize del.map On1.key = ks at H2 CNT LEN
      have hks : ks.length ≤ 150 := by have := LEN.out; omega
      obtain ⟨od, cd, rfl, -⟩ := H2.out.ox.txt
      go_wp2_with fail
      go_loopw [7, 11, 12] (fun uv nv kv wj => ∃ n : Nat, kv = .int .i64 (n : Int) ∧ n ≤ want.length ∧ nv = .int .i64 (dueN at_ (want.take n) : Int) ∧ Hid (Wm w (w.heap.size + 1) w.heap.size l1 M1 no (.slice ob want.length capv) want uv (late at_ (want.take n)) (.slice od ks.length cd) ks sb (some (.cells #[.int .u8 (d : Int), str key, .int .i64 at_] 28 (0, 0))) wj)) (fun _ _ kv _ => want.length - (intOf kv).toNat)
      case atStart => exact ⟨0, rfl, by omega, rfl, H2.out⟩
      case round =>
        clear H2
        obtain ⟨n, rfl, hn, rfl, T⟩ := hrel
        obtain ⟨s0, s1, s2⟩ := Wm.sp (s := ⟨d, key, at_⟩) T.out
        simp only at s0 s1 s2
        obtain ⟨ou, cu, rfl⟩ := T.out.us
        by_cases hnl : n < want.length
        · obtain ⟨rb, cw, e, hr⟩ := own_sp T.out.ov hnl
          cases e
          have hx := hr n hnl
          have RT := Lib.hid (late_take at_ want n hnl)
          have DT := Lib.hid (dueN_take at_ want n hnl)
          have CT := Lib.hid (CNT.out want[n] (List.getElem_mem hnl))
          have RX := Lib.hid (fun m j v hv => (show (World.drewN wr m).cell? _ = some v from hx j v hv))
          have SX := Lib.hid (fun m => (show (World.drewN wr m).cell? ⟨sb, 2, none⟩ = some (.int .i64 at_) from s2))
          have kn : 0 ≤ (n : Int) ∧ (n : Int) < (want.length : Int) := by omega
          have knw : IntKind.i64.wrap ((n : Int) + 1) = (n : Int) + 1 := IntWalk.i64_in _ (by omega)
          have hdn : dueN at_ (want.take n) ≤ 150 := by have := dueN_le at_ (want.take n); have := List.length_take_le n want; omega
          have rl2 : (late at_ (want.take n)).length ≤ 150 := by have := late_le at_ (want.take n); have := List.length_take_le n want; omega
          clear hr hx s0 s1 s2
          generalize want[n] = p at RT RX DT CT
          obtain ⟨pd, pk, pa⟩ := p
          simp only at RT RX DT CT
          generalize hrs : late at_ (want.take n) = rs at T RT rl2 ⊢
          clear hrs
          generalize hdn0 : dueN at_ (want.take n) = dn at DT hdn ⊢
          clear hdn0
          go_wp2_with fail
          go_loopw [13, 14] (fun tv jv wi => ∃ j m : Nat, jv = .int .i64 (j : Int) ∧ j ≤ ks.length ∧ tv = .int .i64 (((ks.take j).count pk : Nat) : Int) ∧ wi = wr.drewN m) (fun _ jv _ => ks.length - (intOf jv).toNat)
          case atStart => exact ⟨0, 0, rfl, by omega, rfl, rfl⟩
          case round =>
            obtain ⟨j, m, rfl, hj, rfl, rfl⟩ := hrel
            have x1 : wr.cell? ⟨rb, n * 3 + 1, none⟩ = some (str pk) := RX.out 0 1 _ rfl
            have x2 : wr.cell? ⟨rb, n * 3 + 2, none⟩ = some (.int .i64 pa) := RX.out 0 2 _ rfl
            by_cases hjl : j < ks.length
            · obtain ⟨A', c', e', tx⟩ := T.out.ox.txt
              cases e'
              obtain ⟨b', o', rfl, -, hc⟩ := tx j hjl
              have y0 : wr.cell? ⟨b', o' + j, none⟩ = some (str ks[j]) := hc
              have CC : Hid ((ks.take (j + 1)).count pk = (ks.take j).count pk + if ks[j] == pk then 1 else 0) := by
                show _ = _
                rw [List.take_succ_eq_append_getElem hjl, List.count_append, List.count_singleton]
              have cb : (ks.take j).count pk ≤ 150 := by have := List.count_le_length (a := pk) (l := ks.take j); have := List.length_take_le j ks; omega
              have jn : 0 ≤ (j : Int) ∧ (j : Int) < (ks.length : Int) := by omega
              have jw : IntKind.i64.wrap ((j : Int) + 1) = (j : Int) + 1 := IntWalk.i64_in _ (by omega)
              clear tx hc
              generalize ks[j] = q at y0 CC
              generalize (ks.take j).count pk = cn at CC cb ⊢
              have cw : IntKind.i64.wrap ((cn : Int) + 1) = (cn : Int) + 1 := IntWalk.i64_in _ (by omega)
              go_wp2_with fail
              go_quiet (fail)
              cases hxy : (q == pk)
              · rw [hxy] at CC
                clear hxy
                go_wp2_with fail
                go_roundw
                case rel => exact ⟨j + 1, m + nq, by go_num, by omega, by rw [CC.out]; simp, rfl⟩
                case measure => simp [intOf]; omega
              · rw [hxy] at CC
                clear hxy
                go_wp2_with fail
                go_roundw
                case rel => exact ⟨j + 1, m + nq, by go_num, by omega, by rw [CC.out]; simp, rfl⟩
                case measure => simp [intOf]; omega
            · obtain rfl : j = ks.length := by omega
              rw [List.take_length]
              have s2 : wr.cell? ⟨sb, 2, none⟩ = some (.int .i64 at_) := SX.out 0
              generalize ks.count pk = tn at CT ⊢
              have T5 := Lib.hid (fun nq => (T.out.draw m).draw nq)
              have RX5 := Lib.hid (fun nq j v hv => (show (World.drewN (World.drewN wr m) nq).cell? _ = some v from RX.out 0 j v hv))
              clear T RX SX
              by_cases hlt : at_ < pa
              · rw [if_pos hlt] at CT RT DT
                have hg : decide (at_ < pa) = true := decide_eq_true hlt
                have g0 : decide ((0 : Int) < (tn : Int)) = false := decide_eq_false (by have := CT.out; omega)
                have g0n : decide (0 < tn) = false := decide_eq_false (by have := CT.out; omega)
                go_upto_region 43 with fail
                go_quiet (fail)
                have T6 := Lib.hid (T5.out nq)
                have R6 := Lib.hid (RX5.out nq)
                clear T5 RX5 x1 x2 s2
                generalize (wr.drewN m).drewN nq = W5 at T6 R6 ⊢
                have TA : Hid (Wm w (w.heap.size + 1) w.heap.size l1 M1 no (.slice (some ⟨rb, 0, none⟩) want.length capv) want (.slice ou rs.length cu) rs (.slice od ks.length cd) ks sb (some (.cells #[.int .u8 (d : Int), str key, .int .i64 at_] 28 (0, 0))) (W5.alloc (.cells #[.int .u8 (pd : Int), str pk, .int .i64 pa] 28 (0, 0)))) := T6.out.bel ((Below.refl _ W5).alloc (Nat.le_refl _) _)
                have NW : Hid (∀ j q, (Sp.cells ⟨pd, pk, pa⟩)[j]? = some q → (W5.alloc (.cells #[.int .u8 (pd : Int), str pk, .int .i64 pa] 28 (0, 0))).cell? ((⟨W5.heap.size, 0, none⟩ : Addr).add j) = some q) := by
                  intro j q hq
                  rw [Addr.add_mid, Nat.zero_add]
                  refine (cell_of_row _ _ j _ _ (0, 0) (heap_alloc_new W5 _)).trans ?_
                  rw [← hq]
                  simp [Sp.cells]
                clear T6 hlt
                go_wp2_with (first
                  | (refine wpList_load_mid rfl 28 _ rfl rb (n * 3) (by rfl) [.int .u8 (pd : Int), str pk, .int .i64 pa] _ R6.out Try.underlying28 rfl (size_sp ⟨pd, pk, pa⟩) ?_)
                  | (refine wpList_append_sp rfl _ _ rfl _ (by rfl) TA.out ⟨W5.heap.size, 0, none⟩ 1 ⟨pd, pk, pa⟩ (by rfl) NW.out (by omega) ?_; intro v6 W6 T6; have H6 := Lib.hid T6; clear T6))
                exact ⟨⟨n + 1, by go_num, by omega, by rw [DT.out]; rfl, by rw [RT.out]; exact H6.out⟩, by simp [intOf]; omega⟩
              · rw [if_neg hlt] at CT RT DT
                rw [List.append_nil] at RT
                have hg : decide (at_ < pa) = false := decide_eq_false hlt
                have g1 : ((tn : Int) != 1) = false := by have := CT.out; simp; omega
                have dw : IntKind.i64.wrap ((dn : Int) + 1) = (dn : Int) + 1 := IntWalk.i64_in _ (by omega)
                go_upto_region 43 with fail
                go_quiet (fail)
                have T6 := Lib.hid (T5.out nq)
                clear T5 RX5 x1 x2 s2 hlt
                generalize (wr.drewN m).drewN nq = W5 at T6 ⊢
                go_wp2_with fail
                go_roundw
                case rel => exact ⟨n + 1, by go_num, by omega, by rw [DT.out]; go_num, by rw [RT.out]; exact T6.out⟩
                case measure => simp [intOf]; omega
        · obtain rfl : n = want.length := by omega
          rw [List.take_length] at T ⊢
          have CL := cor_len I2.out.2
          have hne : ((M1.length : Int) != ((late at_ want).length : Int)) = false := by simp only [CL]; simp
          have hnd : ((dueN at_ want : Int) != (ks.length : Int)) = false := by have := LEN.out; simp; omega
          have HL : Hid (k + 1 ≤ ls.length ∧ l1.length ≤ k + 1 ∧ no ≤ k + 1 ∧ M1.length ≤ k + 1) := ⟨by omega, by omega, by omega, by omega⟩
          clear CL LEN CNT
          generalize late at_ want = rs at T I2 hne ⊢
          generalize dueN at_ want = dn at hnd hdw ⊢
          go_upto_region 53 with fail
          clear s0 s1 s2
          go_wp2_with (go_at_call 10; (with_reducible refine T.out.len.mono ?_); rintro e W8 ⟨rfl, rfl⟩)
          have HF := Lib.hid (And.intro T.out.turn I2.out)
          clear T I2
          go_roundw
          case rel => exact ⟨k + 1, l1, M1, no, _, by go_num, HL.out.1, HL.out.2.1, HL.out.2.2.1, HL.out.2.2.2, HF.out⟩
          case measure => simp [intOf]; omega
end Go.Proofs.Ytljfjlijobjpdaa
