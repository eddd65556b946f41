/- The walk of LedgerPlays. Condition: sizes that a machine has. -/
import Derived.Test.YthdmjeoldnehcaaLrl
import Derived.Test.YthdmjeoldnehcaaLru
namespace Go.Proofs.Ythdmjeoldnehcaa
open Go.RowKit
set_option linter.unusedVariables false
set_option linter.unusedSimpArgs false

theorem act_cells_at {W : World} {b o : Nat} {kind : Nat} {c e s org : Int} {yes : Bool} {orgs : Nat} (h : W.rangeAt b o (Ac.cells ⟨kind, ⟨c, e, s⟩, org, yes, orgs⟩)) :
    W.cell? ⟨b, o, none⟩ = some (.int .u8 (kind : Int)) ∧ W.cell? ⟨b, o + 1, none⟩ = some (.int .i64 c) ∧ W.cell? ⟨b, o + 2, none⟩ = some (.int .i64 e) ∧ W.cell? ⟨b, o + 3, none⟩ = some (.int .i64 s) ∧ W.cell? ⟨b, o + 4, none⟩ = some (.int .i64 org) ∧ W.cell? ⟨b, o + 5, none⟩ = some (.bool yes) ∧ W.cell? ⟨b, o + 6, none⟩ = some (.int .u8 (orgs : Int)) :=
  ⟨h 0 _ rfl, h 1 _ rfl, h 2 _ rfl, h 3 _ rfl, h 4 _ rfl, h 5 _ rfl, h 6 _ rfl⟩
set_option maxRecDepth 100000 in
set_option maxHeartbeats 8000000 in
theorem LedgerPlays_walk (A1 A2 : Option Addr) (cap1 cap2 bad cp : Nat) (l asked : List Ac) (w : World) (hT1 : Acts w w.heap.size A1 l) (hT2 : Acts w w.heap.size A2 asked) (hl1 : l.length ≤ 9223372036854775807) (hl2 : asked.length ≤ 9223372036854775807) (hbad : bad < 256) (hcp : cp < 256)
    (ho1 : ∀ a ∈ l, a.kind < 256 ∧ a.orgs < 256) (ho2 : ∀ a ∈ asked, a.kind < 256 ∧ a.orgs < 256) :
    Calls Try.prog 5 #[.int .u8 (bad : Int), .slice A1 l.length cap1, .slice A2 asked.length cap2, .int .u8 (cp : Int)] w fun e w' => e = .returned (.bool true) ∧ Below w.heap.size w w' := by
  have AL := Lib.hid (fun (W : World) => alive_any W)
  have HT1 := Lib.hid hT1
  have HO1 := Lib.hid ho1
  have HT2 := Lib.hid hT2
  have HO2 := Lib.hid ho2
  clear hT1 ho1 hT2 ho2
  by_cases h120 : 120 < l.length
  · have d : decide (120 < (l.length : Int)) = true := by simp; omega
    go_enter Try.func5, Try.ntmps5
    go_wp2_with (go_at_call 7; refine (AL.out _).mono ?_; rintro e w2 ⟨rfl, hb⟩; have TB := Lib.hid hb; clear hb)
    go_ret
    exact ⟨rfl, TB.out⟩
  have d120 : decide (120 < (l.length : Int)) = false := by simp; omega
  by_cases h20 : 20 < asked.length
  · have d : decide (20 < (asked.length : Int)) = true := by simp; omega
    go_enter Try.func5, Try.ntmps5
    go_wp2_with (go_at_call 7; refine (AL.out _).mono ?_; rintro e w2 ⟨rfl, hb⟩; have TB := Lib.hid hb; clear hb)
    go_ret
    exact ⟨rfl, TB.out⟩
  have d20 : decide (20 < (asked.length : Int)) = false := by simp; omega
  have hs120 : l.length ≤ 120 := by omega
  have hs20 : asked.length ≤ 20 := by omega
  have BT := Lib.hid (fun k hk => acc_bt bad l (fun a ha => (HO1.out a ha).2) k hk)
  go_enter Try.func5, Try.ntmps5
  go_upto_region 4 with (go_at_call 13; refine (New_any bad _).mono ?_; rintro e w2 ⟨rfl, hL, hb⟩; have R0 : Hid (Rm w (w.heap.size + 1) w.heap.size bad (stp bad l 0) w2) := ⟨⟨_, by rw [stp_zero]; exact hL⟩, hb⟩; clear hL hb)
  have R3 := Lib.hid (Bo.new R0.out)
  clear R0
  generalize w2.alloc (.cells #[.int .u8 (bad : Int), .slice none 0 0] 30 (0, 0)) = w3 at R3 ⊢
  generalize w2.heap.size = hp at R3 ⊢
  go_wp2_with fail
  go_loopw [9, 11] (fun gv i wr => ∃ (k g m : Nat), gv = .pointer (some ⟨g, 0, none⟩) ∧ i = .int .i64 (k : Int) ∧ k ≤ l.length ∧ Hid (Bo w g m hp bad (stp bad l k) (acc bad l k) wr)) (fun _ i _ => l.length - (intOf i).toNat)
  case atStart => exact ⟨0, _, _, rfl, rfl, by omega, R3⟩
  case round =>
    clear R3
    obtain ⟨k, g, m, rfl, rfl, hk, H⟩ := hrel
    have hla := acc_len bad l k
    have hlr := stp_len bad l k hk
    by_cases hkl : k < l.length
    · have kb : 0 ≤ (k : Int) ∧ (k : Int) < (l.length : Int) := by omega
      have kw : IntKind.i64.wrap ((k : Int) + 1) = (k : Int) + 1 := IntWalk.i64_in _ (by omega)
      obtain ⟨bb, o, rfl, hbl, hr⟩ := HT1.out k hkl
      have hko := HO1.out l[k] (List.getElem_mem hkl)
      have HR : Hid (∀ W, Below w.heap.size w W → W.rangeAt bb (o + k * 7) (l[k]).cells) := fun W hb j v hv => (hb.cell (p := ⟨bb, _, none⟩) hbl).trans (hr j v hv)
      have BT0 := Lib.hid (BT.out k hk)
      have BT1 := Lib.hid (BT.out (k + 1) hkl)
      have S1 := Lib.hid (stp_succ bad l k hkl)
      have S2 := Lib.hid (acc_succ bad l k hkl)
      have hla1 := acc_len bad l (k + 1)
      have hlr1 := stp_len bad l (k + 1) hkl
      clear hr
      generalize l[k] = a at HR hko S1 S2
      generalize hR : stp bad l k = R at H BT0 S1 S2 hlr
      generalize hL : acc bad l k = L at H BT0 S2 hla
      generalize hR1 : stp bad l (k + 1) = R1 at BT1 S1 hlr1
      generalize hL1 : acc bad l (k + 1) = L1 at BT1 S2 hla1
      have NX := Lib.hid (And.intro hR1 hL1)
      clear hR hL hR1 hL1
      go_upto_if 44 with fail
      go_cut [9, 12, 13] (fun gv cv kv wx => ∃ g m : Nat, gv = .pointer (some ⟨g, 0, none⟩) ∧ Hid (Bo w g m hp bad R L wx))
      case first =>
        by_cases hc : k = cp
        · have f1 : ((k : Int) == (cp : Int)) = true := by simp; omega
          clear hc
          go_upto_region 13 with (go_at_call 17; (with_reducible refine (H.out.copy (by omega)).mono ?_); rintro e w4 ⟨h, n, rfl, hT⟩; have T4 := Lib.hid hT; clear hT)
          clear H f1
          go_wp2_with fail
          go_loopw [13] (fun jv wj => ∃ (j : Nat) (R0 : List Rw), jv = .int .i64 (j : Int) ∧ j ≤ asked.length ∧ R0.length ≤ k + j ∧ Hid (Tri w g m h n hp bad R0 R L wj)) (fun jv _ => asked.length - (intOf jv).toNat)
          case atStart => exact ⟨0, R, rfl, by omega, by omega, T4⟩
          case round =>
            clear T4
            obtain ⟨j, R0, rfl, hj, hr0, T⟩ := hrel
            by_cases hjl : j < asked.length
            · obtain ⟨bb2, o2, rfl, hbl2, hr2⟩ := HT2.out j hjl
              have hko2 := HO2.out asked[j] (List.getElem_mem hjl)
              have HR2 : Hid (wr.rangeAt bb2 (o2 + j * 7) (asked[j]).cells) := fun q v hv => (T.out.b.cell (p := ⟨bb2, _, none⟩) hbl2).trans (hr2 q v hv)
              have jb : 0 ≤ (j : Int) ∧ (j : Int) < (asked.length : Int) := by omega
              have jw : IntKind.i64.wrap ((j : Int) + 1) = (j : Int) + 1 := IntWalk.i64_in _ (by omega)
              have CA := Lib.hid (fun (W : World) (hW : Tri w g m h n hp bad R0 R L W) => hW.apply asked[j] (by omega) hbad hko2.2)
              have hsl := step_len bad R0 asked[j]
              clear hr2 hko2
              generalize asked[j] = x at HR2 CA hsl
              generalize errOf bad R0 x = er at CA
              generalize step bad R0 x = R2 at CA hsl
              go_wp2_with (first
                | (refine wpList_load_mid rfl 35 _ rfl bb2 (o2 + j * 7) (by rfl) x.cells _ HR2.out Try.underlying35 rfl (size_ac x) ?_)
                | (go_at_call 14; (with_reducible refine (CA.out _ T.out).mono ?_); rintro e W4 ⟨rfl, hR⟩; have R4 := Lib.hid hR; clear hR))
              go_roundw
              case rel => exact ⟨j + 1, R2, by go_num, by omega, by omega, R4⟩
              case measure => simp [intOf]; omega
            · obtain rfl : j = asked.length := by omega
              go_wp2_with fail
              go_meet
              case rel => exact ⟨h, n, rfl, T.out.bo⟩
        · have f1 : ((k : Int) == (cp : Int)) = false := by simp; omega
          clear hc
          go_wp2_with fail
          go_meet
          case rel => exact ⟨g, m, rfl, H⟩
      case rest =>
        obtain ⟨g1, m1, rfl, H1⟩ := hcut
        clear H HT2 HO2
        have CA1 : Hid (∀ W : World, Bo w g1 m1 hp bad R L W → Calls Try.prog 14 #[.pointer (some ⟨g1, 0, none⟩), .agg a.cells.toArray] W fun r w' => r = .returned (.int .i64 (errOf bad R a : Int)) ∧ Bo w g1 m1 hp bad R1 L w') := fun W hW => by
          have := hW.apply a (by omega) hbad hko.2
          rw [← S1.out] at this
          exact this
        have CA2 : Hid (∀ W : World, Bo w g1 m1 hp bad R1 L W → Calls Try.prog 9 #[.pointer (some ⟨hp, 0, none⟩), .agg a.cells.toArray] W fun r w' => r = .returned (.int .i64 (errOf bad R a : Int)) ∧ Bo w g1 m1 hp bad R1 L1 w') := fun W hW => by
          have := hW.rapply BT0.out a (by omega) hbad hko.2 hko.1
          rw [← S2.out] at this
          exact this
        generalize errOf bad R a = er at CA1 CA2
        obtain ⟨ka, ⟨ca, ea, sa⟩, oa, ya, ga⟩ := a
        have HAB := Lib.hid (fun W hb => act_cells_at (HR.out W hb))
        simp only [Ac.cells] at CA1 CA2
        have dx : ((er : Int) != (er : Int)) = false := by simp
        clear HR S1 S2 BT0 hko
        obtain ⟨a0, a1, a2, a3, a4, a5, a6⟩ := HAB.out _ H1.out.b
        go_upto_region 18 with fail
        go_region_held3 (fun W => W.cell? ⟨bb, o + k * 7, none⟩ = some (.int .u8 (ka : Int)) ∧ W.cell? ⟨bb, o + k * 7 + 1, none⟩ = some (.int .i64 ca) ∧ W.cell? ⟨bb, o + k * 7 + 2, none⟩ = some (.int .i64 ea) ∧ W.cell? ⟨bb, o + k * 7 + 3, none⟩ = some (.int .i64 sa) ∧ W.cell? ⟨bb, o + k * 7 + 4, none⟩ = some (.int .i64 oa) ∧ W.cell? ⟨bb, o + k * 7 + 5, none⟩ = some (.bool ya) ∧ W.cell? ⟨bb, o + k * 7 + 6, none⟩ = some (.int .u8 (ga : Int)))
          (first | assumption | exact HAB.out _ H1.out.draw.b | exact HAB.out _ T1.out.b | exact HAB.out _ T2.out.b | exact HAB.out _ T3.out.b | exact HAB.out _ T4.out.b | exact HAB.out _ T5.out.b)
          (first
            | (go_at_call 14; (with_reducible refine (CA1.out _ ?_).mono ?_); exact H1.out.draw; rintro e W1 ⟨rfl, hT⟩; have T1 := Lib.hid hT; clear hT)
            | (go_at_call 9; (with_reducible refine (CA2.out _ ?_).mono ?_); exact T1.out; rintro e W2 ⟨rfl, hT⟩; have T2 := Lib.hid hT; clear hT)
            | (go_at_call 11; (with_reducible refine (T2.out.rows (by omega)).mono ?_); rintro e W3 ⟨o3, c3, rfl, hA, hT⟩; have T3 := Lib.hid hT; have A3 := Lib.hid hA; clear hT hA)
            | (go_at_call 12; (with_reducible refine (T3.out.rrows BT1.out (by omega)).mono ?_); rintro e W4 ⟨o4, c4, rfl, hA, hb⟩; have T4 := Lib.hid (T3.out.bel hb); have A4 := Lib.hid hA; have A5 := Lib.hid (A3.out.bel hb); clear hb hA)
            | (go_at_call 10; (with_reducible refine (Same_any _ _ R1 R1 _ A5.out A4.out (by omega) (by omega)).mono ?_); rintro e W5 ⟨rfl, m8, hW5⟩; rw [decide_eq_true (rfl : R1 = R1)]; have T5 : Hid (Bo w g1 m1 hp bad R1 L1 W5) := (by show Bo _ _ _ _ _ _ _ _; rw [hW5]; exact T4.out.bel (below_drewN (Below.refl _ W4) m8)); clear hW5))
        rename_i hS
        clear hS CA1 CA2 HAB a0 a1 a2 a3 a4 a5 a6 T1 T2 T3 T4 A3 A4 A5 H1
        go_wp2_with fail
        go_roundw
        case rel => exact ⟨k + 1, g1, m1, rfl, by go_num, by omega, by rw [NX.out.1, NX.out.2]; exact T5.out⟩
        case measure => simp [intOf]; omega
    · obtain rfl : k = l.length := by omega
      have BTn := Lib.hid (BT.out l.length (Nat.le_refl _))
      generalize acc bad l l.length = L at H BTn hla
      generalize stp bad l l.length = R at H BTn hlr
      clear hk hkl HT1 HO1 BT
      go_wp2_with fail
      go_loopw [14] (fun jv wj => ∃ j : Nat, jv = .int .i64 (j : Int) ∧ j ≤ asked.length ∧ Hid (Bo w g m hp bad R L wj)) (fun jv _ => asked.length - (intOf jv).toNat)
      case atStart => exact ⟨0, rfl, by omega, H⟩
      case round =>
        clear H
        obtain ⟨j, rfl, hj, H⟩ := hrel
        by_cases hjl : j < asked.length
        · obtain ⟨bb, o, rfl, hbl, hr⟩ := HT2.out j hjl
          have hko := HO2.out asked[j] (List.getElem_mem hjl)
          have HR : Hid (∀ W, Below w.heap.size w W → W.rangeAt bb (o + j * 7) (asked[j]).cells) := fun W hb q v hv => (hb.cell (p := ⟨bb, _, none⟩) hbl).trans (hr q v hv)
          have jb : 0 ≤ (j : Int) ∧ (j : Int) < (asked.length : Int) := by omega
          have jw : IntKind.i64.wrap ((j : Int) + 1) = (j : Int) + 1 := IntWalk.i64_in _ (by omega)
          have CR1 := Lib.hid (fun (W : World) (hW : Bo w g m hp bad R L W) => hW.row BTn.out (asked[j]).tx (by omega))
          have CR2 := Lib.hid (fun (W : World) (hW : Bo w g m hp bad R L W) => hW.rrow BTn.out (asked[j]).tx (by omega))
          have CM1 := Lib.hid (fun (W : World) (hW : Bo w g m hp bad R L W) => hW.may asked[j] (by omega) hbad hko.2)
          have CM2 := Lib.hid (fun (W : World) (hW : Bo w g m hp bad R L W) => hW.rmay BTn.out asked[j] (by omega) hbad hko.2 hko.1)
          clear hr hko
          generalize asked[j] = a at HR CR1 CR2 CM1 CM2
          generalize errOf bad R a = er at CM1 CM2
          generalize rvR L a.tx = r at CR1 CR2
          generalize isR L a.tx = is at CR1 CR2
          obtain ⟨ka, ⟨ca, ea, sa⟩, oa, ya, ga⟩ := a
          obtain ⟨⟨rc, re, rs⟩, r1, r2, r3, r4, r5, r6, r7⟩ := r
          have hne : ∀ W : World, (binOp .neq 43 (.agg #[.int .i64 rc, .int .i64 re, .int .i64 rs, .bool r1, .int .u8 (r2 : Int), .int .u8 (r3 : Int), .int .u8 (r4 : Int), .bool r5, .bool r6, .int .u8 (r7 : Int)]) (.agg #[.int .i64 rc, .int .i64 re, .int .i64 rs, .bool r1, .int .u8 (r2 : Int), .int .u8 (r3 : Int), .int .u8 (r4 : Int), .bool r5, .bool r6, .int .u8 (r7 : Int)])).run Try.prog W = .ok (.bool false) W := fun W => by
            have := neq_rw ⟨⟨rc, re, rs⟩, r1, r2, r3, r4, r5, r6, r7⟩ ⟨⟨rc, re, rs⟩, r1, r2, r3, r4, r5, r6, r7⟩ W
            rw [decide_eq_true rfl] at this
            exact this
          have HAB := Lib.hid (fun W hb => act_cells_at (HR.out W hb))
          simp only [Ac.cells, Tx.cells, Rw.cells] at CR1 CR2 CM1 CM2
          have dx : ((er : Int) != (er : Int)) = false := by simp
          have dy : (is != is) = false := by simp
          clear HR
          obtain ⟨a0, a1, a2, a3, a4, a5, a6⟩ := HAB.out _ H.out.b
          go_upto_region 24 with (go_at_call 18; (with_reducible refine (CR1.out _ H.out).mono ?_); rintro e W5 ⟨rfl, hb⟩; have T5 := Lib.hid (H.out.bel hb); clear hb)
          clear a0 a1 a2 a3 a4 a5 a6 CR1 H
          have T6 := Lib.hid (T5.out.bel ((Below.refl _ W5).alloc (Nat.le_refl _) (.cells #[.int .i64 rc, .int .i64 re, .int .i64 rs, .bool r1, .int .u8 (r2 : Int), .int .u8 (r3 : Int), .int .u8 (r4 : Int), .bool r5, .bool r6, .int .u8 (r7 : Int)] 43 (0, 0))))
          have p6 := heap_alloc_new W5 (.cells #[.int .i64 rc, .int .i64 re, .int .i64 rs, .bool r1, .int .u8 (r2 : Int), .int .u8 (r3 : Int), .int .u8 (r4 : Int), .bool r5, .bool r6, .int .u8 (r7 : Int)] 43 (0, 0))
          have P6 := Lib.hid p6
          clear T5 p6
          generalize W5.alloc (.cells #[.int .i64 rc, .int .i64 re, .int .i64 rs, .bool r1, .int .u8 (r2 : Int), .int .u8 (r3 : Int), .int .u8 (r4 : Int), .bool r5, .bool r6, .int .u8 (r7 : Int)] 43 (0, 0)) = W6 at T6 P6 ⊢
          generalize W5.heap.size = x at P6 ⊢
          obtain ⟨a0, a1, a2, a3, a4, a5, a6⟩ := HAB.out _ T6.out.b
          go_upto_region 25 with (go_at_call 19; (with_reducible refine (CR2.out _ T6.out).mono ?_); rintro e W7 ⟨rfl, hb⟩; have T7 := Lib.hid (T6.out.bel hb); have P7 := Lib.hid ((hb.block _ (lt_of_heap P6.out)).trans P6.out); clear hb)
          clear a0 a1 a2 a3 a4 a5 a6 CR2 T6 P6
          have b8 := (Below.refl _ W7).alloc (Nat.le_refl _) (.cells #[.int .i64 rc, .int .i64 re, .int .i64 rs, .bool r1, .int .u8 (r2 : Int), .int .u8 (r3 : Int), .int .u8 (r4 : Int), .bool r5, .bool r6, .int .u8 (r7 : Int)] 43 (0, 0))
          have T8 := Lib.hid (T7.out.bel b8)
          have P8 := Lib.hid ((b8.block _ (lt_of_heap P7.out)).trans P7.out)
          have q8 := heap_alloc_new W7 (.cells #[.int .i64 rc, .int .i64 re, .int .i64 rs, .bool r1, .int .u8 (r2 : Int), .int .u8 (r3 : Int), .int .u8 (r4 : Int), .bool r5, .bool r6, .int .u8 (r7 : Int)] 43 (0, 0))
          have Q8 := Lib.hid q8
          clear T7 P7 b8 q8
          generalize W7.alloc (.cells #[.int .i64 rc, .int .i64 re, .int .i64 rs, .bool r1, .int .u8 (r2 : Int), .int .u8 (r3 : Int), .int .u8 (r4 : Int), .bool r5, .bool r6, .int .u8 (r7 : Int)] 43 (0, 0)) = W8 at T8 P8 Q8 ⊢
          generalize W7.heap.size = y at Q8 ⊢
          have SS : Hid (∀ W : World, Below W8.heap.size W8 W → W.cell? ⟨bb, o + j * 7, none⟩ = some (.int .u8 (ka : Int)) ∧ W.cell? ⟨bb, o + j * 7 + 1, none⟩ = some (.int .i64 ca) ∧ W.cell? ⟨bb, o + j * 7 + 2, none⟩ = some (.int .i64 ea) ∧ W.cell? ⟨bb, o + j * 7 + 3, none⟩ = some (.int .i64 sa) ∧ W.cell? ⟨bb, o + j * 7 + 4, none⟩ = some (.int .i64 oa) ∧ W.cell? ⟨bb, o + j * 7 + 5, none⟩ = some (.bool ya) ∧ W.cell? ⟨bb, o + j * 7 + 6, none⟩ = some (.int .u8 (ga : Int)) ∧ W.cell? ⟨x, 0, none⟩ = some (.int .i64 rc) ∧ W.cell? ⟨x, 1, none⟩ = some (.int .i64 re) ∧ W.cell? ⟨x, 2, none⟩ = some (.int .i64 rs) ∧ W.cell? ⟨x, 3, none⟩ = some (.bool r1) ∧ W.cell? ⟨x, 4, none⟩ = some (.int .u8 (r2 : Int)) ∧ W.cell? ⟨x, 5, none⟩ = some (.int .u8 (r3 : Int)) ∧ W.cell? ⟨x, 6, none⟩ = some (.int .u8 (r4 : Int)) ∧ W.cell? ⟨x, 7, none⟩ = some (.bool r5) ∧ W.cell? ⟨x, 8, none⟩ = some (.bool r6) ∧ W.cell? ⟨x, 9, none⟩ = some (.int .u8 (r7 : Int)) ∧ W.cell? ⟨y, 0, none⟩ = some (.int .i64 rc) ∧ W.cell? ⟨y, 1, none⟩ = some (.int .i64 re) ∧ W.cell? ⟨y, 2, none⟩ = some (.int .i64 rs) ∧ W.cell? ⟨y, 3, none⟩ = some (.bool r1) ∧ W.cell? ⟨y, 4, none⟩ = some (.int .u8 (r2 : Int)) ∧ W.cell? ⟨y, 5, none⟩ = some (.int .u8 (r3 : Int)) ∧ W.cell? ⟨y, 6, none⟩ = some (.int .u8 (r4 : Int)) ∧ W.cell? ⟨y, 7, none⟩ = some (.bool r5) ∧ W.cell? ⟨y, 8, none⟩ = some (.bool r6) ∧ W.cell? ⟨y, 9, none⟩ = some (.int .u8 (r7 : Int))) := fun W hb => by
            obtain ⟨a0, a1, a2, a3, a4, a5, a6⟩ := HAB.out _ (below_acc T8.out.b hb)
            exact ⟨a0, a1, a2, a3, a4, a5, a6, cell_kept hb (cell_of_row _ _ 0 _ _ (0, 0) P8.out), cell_kept hb (cell_of_row _ _ 1 _ _ (0, 0) P8.out), cell_kept hb (cell_of_row _ _ 2 _ _ (0, 0) P8.out), cell_kept hb (cell_of_row _ _ 3 _ _ (0, 0) P8.out), cell_kept hb (cell_of_row _ _ 4 _ _ (0, 0) P8.out), cell_kept hb (cell_of_row _ _ 5 _ _ (0, 0) P8.out), cell_kept hb (cell_of_row _ _ 6 _ _ (0, 0) P8.out), cell_kept hb (cell_of_row _ _ 7 _ _ (0, 0) P8.out), cell_kept hb (cell_of_row _ _ 8 _ _ (0, 0) P8.out), cell_kept hb (cell_of_row _ _ 9 _ _ (0, 0) P8.out),
              cell_kept hb (cell_of_row _ _ 0 _ _ (0, 0) Q8.out), cell_kept hb (cell_of_row _ _ 1 _ _ (0, 0) Q8.out), cell_kept hb (cell_of_row _ _ 2 _ _ (0, 0) Q8.out), cell_kept hb (cell_of_row _ _ 3 _ _ (0, 0) Q8.out), cell_kept hb (cell_of_row _ _ 4 _ _ (0, 0) Q8.out), cell_kept hb (cell_of_row _ _ 5 _ _ (0, 0) Q8.out), cell_kept hb (cell_of_row _ _ 6 _ _ (0, 0) Q8.out), cell_kept hb (cell_of_row _ _ 7 _ _ (0, 0) Q8.out), cell_kept hb (cell_of_row _ _ 8 _ _ (0, 0) Q8.out), cell_kept hb (cell_of_row _ _ 9 _ _ (0, 0) Q8.out)⟩
          go_region_held3 (fun W => W.cell? ⟨bb, o + j * 7, none⟩ = some (.int .u8 (ka : Int)) ∧ W.cell? ⟨bb, o + j * 7 + 1, none⟩ = some (.int .i64 ca) ∧ W.cell? ⟨bb, o + j * 7 + 2, none⟩ = some (.int .i64 ea) ∧ W.cell? ⟨bb, o + j * 7 + 3, none⟩ = some (.int .i64 sa) ∧ W.cell? ⟨bb, o + j * 7 + 4, none⟩ = some (.int .i64 oa) ∧ W.cell? ⟨bb, o + j * 7 + 5, none⟩ = some (.bool ya) ∧ W.cell? ⟨bb, o + j * 7 + 6, none⟩ = some (.int .u8 (ga : Int)) ∧ W.cell? ⟨x, 0, none⟩ = some (.int .i64 rc) ∧ W.cell? ⟨x, 1, none⟩ = some (.int .i64 re) ∧ W.cell? ⟨x, 2, none⟩ = some (.int .i64 rs) ∧ W.cell? ⟨x, 3, none⟩ = some (.bool r1) ∧ W.cell? ⟨x, 4, none⟩ = some (.int .u8 (r2 : Int)) ∧ W.cell? ⟨x, 5, none⟩ = some (.int .u8 (r3 : Int)) ∧ W.cell? ⟨x, 6, none⟩ = some (.int .u8 (r4 : Int)) ∧ W.cell? ⟨x, 7, none⟩ = some (.bool r5) ∧ W.cell? ⟨x, 8, none⟩ = some (.bool r6) ∧ W.cell? ⟨x, 9, none⟩ = some (.int .u8 (r7 : Int)) ∧ W.cell? ⟨y, 0, none⟩ = some (.int .i64 rc) ∧ W.cell? ⟨y, 1, none⟩ = some (.int .i64 re) ∧ W.cell? ⟨y, 2, none⟩ = some (.int .i64 rs) ∧ W.cell? ⟨y, 3, none⟩ = some (.bool r1) ∧ W.cell? ⟨y, 4, none⟩ = some (.int .u8 (r2 : Int)) ∧ W.cell? ⟨y, 5, none⟩ = some (.int .u8 (r3 : Int)) ∧ W.cell? ⟨y, 6, none⟩ = some (.int .u8 (r4 : Int)) ∧ W.cell? ⟨y, 7, none⟩ = some (.bool r5) ∧ W.cell? ⟨y, 8, none⟩ = some (.bool r6) ∧ W.cell? ⟨y, 9, none⟩ = some (.int .u8 (r7 : Int)))
            (first | assumption | exact SS.out _ (Below.refl _ W8).drew | exact SS.out _ B9.out | exact SS.out _ B10.out)
            (first
              | (go_at_call 20; (with_reducible refine (CM1.out _ ?_).mono ?_); exact T8.out.draw; rintro e W9 ⟨rfl, hb⟩; have T9 := Lib.hid (T8.out.draw.bel hb); have B9 := Lib.hid (drew_below hb); clear hb)
              | (go_at_call 21; (with_reducible refine (CM2.out _ ?_).mono ?_); exact T9.out; rintro e W10 ⟨rfl, hb⟩; have T10 := Lib.hid (T9.out.bel hb); have B10 := Lib.hid (below_acc B9.out hb); clear hb))
          rename_i hS
          clear hS CM1 CM2 HAB SS T8 T9 B9 B10 P8 Q8 hne
          go_wp2_with fail
          go_roundw
          case rel => exact ⟨j + 1, by go_num, by omega, T10⟩
          case measure => simp [intOf]; omega
        · obtain rfl : j = asked.length := by omega
          have NL := Lib.hid (fun (W : World) => nothing_any W)
          clear hj hjl HT2 HO2
          go_wp2_with (first
            | (go_at_call 11; (with_reducible refine (H.out.rows (by omega)).mono ?_); rintro e W5 ⟨o5, c5, rfl, hRA, hB⟩; have A5 := Lib.hid hRA; have H5 := Lib.hid hB; clear hRA hB)
            | (go_at_call 12; (with_reducible refine (H5.out.rrows BTn.out (by omega)).mono ?_); rintro e W6 ⟨o6, c6, rfl, hRA, hb⟩; have A6 := Lib.hid hRA; have A7 := Lib.hid (A5.out.bel hb); have B6 := Lib.hid (below_acc H5.out.b hb); clear hRA hb)
            | (go_at_call 10; (with_reducible refine (Same_any _ _ R R _ A7.out A6.out (by omega) (by omega)).mono ?_); rintro e W8 ⟨rfl, m8, rfl⟩; rw [decide_eq_true (rfl : R = R)])
            | (go_at_call 22; refine (NL.out _).mono ?_; rintro e W9 ⟨rfl, hb⟩; have NB := Lib.hid (below_acc (below_drewN B6.out m8) hb); clear hb)
            | (go_at_call 7; refine (AL.out _).mono ?_; rintro e W10 ⟨rfl, hb⟩; have TB := Lib.hid (below_acc NB.out hb); clear hb))
          go_ret
          exact ⟨rfl, TB.out⟩
end Go.Proofs.Ythdmjeoldnehcaa
