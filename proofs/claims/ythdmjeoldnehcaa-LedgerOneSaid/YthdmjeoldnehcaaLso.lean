/- The walk of LedgerOne. Condition: sizes that a machine has. -/
import Derived.Test.YthdmjeoldnehcaaLsq
namespace Go.Proofs.Ythdmjeoldnehcaa
open Go.RowKit
set_option linter.unusedVariables false
set_option linter.unusedSimpArgs false

theorem On.forget {w : World} {g m bad : Nat} {R : List Rw} {v : Value} {d : List Ac} {u : Value} {Q : List Rw} {W : World} (h : On w g m bad R v d u Q W) : On w g m bad R v d (.slice none 0 0) [] W := by
  obtain ⟨⟨sl, h1, h2, h3⟩, h4, h5, h6, h7⟩ := h
  exact ⟨⟨sl, h1, h2, fun k hk => by cases hk⟩, h4, ⟨rfl, .inl ⟨rfl, rfl⟩⟩, fun k hk hu => (by cases hu), h7⟩
theorem On.start {w : World} {g m bad : Nat} {R : List Rw} {W : World} (h : Rm w g m bad R W) : On w g m bad R (.slice none 0 0) [] (.slice none 0 0) [] W := by
  obtain ⟨⟨sl, h1⟩, h2⟩ := h
  exact ⟨⟨sl, h1, fun k hk => (by cases hk), fun k hk => by cases hk⟩, ⟨rfl, .inl ⟨rfl, rfl⟩⟩, ⟨rfl, .inl ⟨rfl, rfl⟩⟩, fun k hk => (by cases hk), h2⟩
theorem cell_bel {W W' : World} (hb : Below W.heap.size W W') {a : Addr} {v : Value} (hc : W.cell? a = some v) : W'.cell? a = some v := (hb.cell (block_lt_of_cell hc)).trans hc
theorem On.slice {w : World} {g m bad : Nat} {R : List Rw} {v : Value} {d : List Ac} {u : Value} {Q : List Rw} {W : World} (h : On w g m bad R v d u Q W) : ∃ ob cap, v = .slice ob d.length cap := own_slice h.ov
set_option maxRecDepth 100000 in
set_option maxHeartbeats 8000000 in
theorem LedgerOne_walk (A : Option Addr) (cap bad : Nat) (ls : List Ac) (w : World) (hT : Acts w w.heap.size A ls) (hl : ls.length ≤ 9223372036854775807) (hbad : bad < 256) (ho : ∀ a ∈ ls, a.orgs < 256) :
    Calls Try.prog 4 #[.int .u8 (bad : Int), .slice A ls.length cap] w fun e w' => e = .returned (.bool true) ∧ Below w.heap.size w w' := by
  have AL := Lib.hid (fun (W : World) => alive_any W)
  have HT := Lib.hid hT
  have HO := Lib.hid ho
  clear hT ho
  by_cases h120 : 120 < ls.length
  · have d : decide (120 < (ls.length : Int)) = true := by simp; omega
    go_enter Try.func4, Try.ntmps4
    go_wp2_with (go_at_call 7; refine (AL.out _).mono ?_; rintro e w2 ⟨rfl, hb⟩; have TB := Lib.hid hb; clear hb)
    go_ret
    exact ⟨rfl, TB.out⟩
  have d120 : decide (120 < (ls.length : Int)) = false := by simp; omega
  go_enter Try.func4, Try.ntmps4
  go_upto_region 8 with (go_at_call 13; refine (New_any bad _).mono ?_; rintro e w2 ⟨rfl, hL, hb⟩; have R0 : Hid (Rm w (w.heap.size + 1) w.heap.size bad (stp bad ls 0) w2) := ⟨⟨_, by rw [stp_zero]; exact hL⟩, hb⟩; clear hL hb)
  go_loopw [6, 7] (fun v i wr => ∃ (k : Nat) (d : List Ac), i = .int .i64 (k : Int) ∧ k ≤ ls.length ∧ d.length ≤ k ∧ Hid (On w (w.heap.size + 1) w.heap.size bad (stp bad ls k) v d (.slice none 0 0) [] wr ∧ Dc (stp bad ls k) d)) (fun _ i _ => ls.length - (intOf i).toNat)
  case atStart => exact ⟨0, [], rfl, by omega, by simp, On.start R0.out, fun x hx => by simp at hx⟩
  case round =>
    clear R0
    obtain ⟨k, d, rfl, hk, hdk, H⟩ := hrel
    by_cases hkl : k < ls.length
    rotate_left
    · obtain rfl : k = ls.length := by omega
      have HB := Lib.hid H.out.1.b
      clear H HT HO
      go_wp2_with (go_at_call 7; refine (AL.out _).mono ?_; rintro e w2 ⟨rfl, hb⟩; have TB := Lib.hid (below_acc HB.out hb); clear hb)
      go_ret
      exact ⟨rfl, TB.out⟩
    obtain ⟨bb, o, rfl, hbl, hr⟩ := HT.out k hkl
    have hlen := stp_len bad ls k hk
    have horg := HO.out ls[k] (List.getElem_mem hkl)
    have HR : Hid (∀ W, Below w.heap.size w W → W.rangeAt bb (o + k * 7) (ls[k]).cells) := fun W hb j v hv => (hb.cell (p := ⟨bb, _, none⟩) hbl).trans (hr j v hv)
    have HS := Lib.hid (stp_succ bad ls k hkl)
    have kb : 0 ≤ (k : Int) ∧ (k : Int) < (ls.length : Int) := by omega
    have kw : IntKind.i64.wrap ((k : Int) + 1) = (k : Int) + 1 := IntWalk.i64_in _ (by omega)
    clear hr
    generalize ls[k] = a at HR HS horg
    generalize stp bad ls k = R at H HS hlen
    obtain ⟨ob, capv, rfl⟩ := H.out.1.slice
    go_upto_region 11 with (go_at_call 11; (with_reducible refine (H.out.1.fresh (by omega)).mono ?_); rintro e w3 ⟨o3, c3, rfl, -, -, hT⟩; have T3 := Lib.hid hT; clear hT)
    have CA := Lib.hid (fun (W : World) (hO : On w (w.heap.size + 1) w.heap.size bad R (.slice ob d.length capv) d (.slice o3 R.length c3) R W) => hO.apply a (by omega) hbad horg)
    by_cases her : errOf bad R a = 0
    rotate_left
    · have d1 : ((errOf bad R a : Int) != 0) = true := by simp; omega
      have hst := step_off her
      rw [hst] at CA HS
      generalize errOf bad R a = er at CA d1
      have HD := Lib.hid H.out.2
      have HR3 := Lib.hid (HR.out _ T3.out.b)
      clear her H HR
      go_upto_region 12 with (first
        | (refine wpList_load_mid rfl 35 _ rfl bb (o + k * 7) (by rfl) a.cells _ HR3.out Try.underlying35 rfl (size_ac a) ?_)
        | (go_at_call 14; (with_reducible refine (CA.out _ T3.out).mono ?_); rintro e W4 ⟨rfl, hT⟩; have T4 := Lib.hid hT; clear hT))
      go_wp2_with (first
        | (go_at_call 11; (with_reducible refine (T4.out.fresh (by omega)).mono ?_); rintro e W5 ⟨o5, c5, rfl, hRA, hT, -⟩; have T5 := Lib.hid hT; have A5 := Lib.hid hRA; clear hT hRA)
        | (go_at_call 10; (with_reducible refine (Same_any _ _ R R _ A5.out T5.out.rows (by omega) (by omega)).mono ?_); rintro e W6 ⟨rfl, m6, rfl⟩; rw [decide_eq_true (rfl : R = R)]; have T6 := Lib.hid (T5.out.draw m6).forget))
      go_roundw
      case rel => exact ⟨k + 1, d, by go_num, by omega, by omega, by rw [HS.out]; exact ⟨T6.out, HD.out⟩⟩
      case measure => simp [intOf]; omega
    obtain ⟨DC, DE⟩ := dc_step H.out.2 her
    have SD : Hid (∀ r ∈ R, Sound bad r) := H.out.1.ex.elim fun sl h => h.1.sd
    have MS := Lib.hid (more_step SD.out a)
    have SS := Lib.hid (sound_step SD.out horg)
    have SDV : Hid (∀ r ∈ R, r.voted < 256) := fun r hr => (SD.out r hr).lo.2.1
    have HDC := Lib.hid DC
    have HDE := Lib.hid DE
    have hl1 := step_len bad R a
    rw [her] at CA
    generalize step bad R a = R1 at CA HS MS SS HDC hl1
    have HR3 := Lib.hid (HR.out _ T3.out.b)
    clear DC DE her H horg SD
    go_upto_region 15 with (first
      | (refine wpList_load_mid rfl 35 _ rfl bb (o + k * 7) (by rfl) a.cells _ HR3.out Try.underlying35 rfl (size_ac a) ?_)
      | (go_at_call 14; (with_reducible refine (CA.out _ T3.out).mono ?_); rintro e W4 ⟨rfl, hT⟩; have T4 := Lib.hid hT; clear hT))
    clear CA T3 HR3
    go_loopw [9] (fun j wj => ∃ n : Nat, j = .int .i64 (n : Int) ∧ n ≤ d.length ∧ Hid (On w (w.heap.size + 1) w.heap.size bad R1 (.slice ob d.length capv) d (.slice o3 R.length c3) R wj)) (fun j _ => d.length - (intOf j).toNat)
    case atStart => exact ⟨0, rfl, by omega, T4⟩
    case round =>
      clear T4
      obtain ⟨n, rfl, hn, T5⟩ := hrel
      by_cases hnl : n < d.length
      · obtain ⟨rb, cap9, e9, hr9⟩ := own_act T5.out.ov hnl
        cases e9
        have hx := hr9 n hnl
        have ha := HR.out _ T5.out.b
        have hde := HDE.out d[n] (List.getElem_mem hnl)
        clear hr9 MS SS HDC HS
        generalize d[n] = x at hx hde
        have kn : 0 ≤ (n : Int) ∧ (n : Int) < (d.length : Int) := by omega
        have knw : IntKind.i64.wrap ((n : Int) + 1) = (n : Int) + 1 := IntWalk.i64_in _ (by omega)
        clear HR HDE
        obtain ⟨ka, ⟨ca, ea, sa⟩, oa, ya, ga⟩ := a
        obtain ⟨kx, ⟨cx, ex, sx⟩, ox, yx, gx⟩ := x
        have a0 := ha 0 _ rfl
        have a1 := ha 1 _ rfl
        have a2 := ha 2 _ rfl
        have a3 := ha 3 _ rfl
        have a5 := ha 5 _ rfl
        have x0 := hx 0 _ rfl
        have x1 := hx 1 _ rfl
        have x2 := hx 2 _ rfl
        have x3 := hx 3 _ rfl
        have x5 := hx 5 _ rfl
        simp only [Nat.add_zero] at a0 x0
        simp only [deci, Tx.mk.injEq] at hde
        have HDE2 := Lib.hid hde
        clear ha hx hde
        simp only at a0 a1 a2 a3 a5 x0 x1 x2 x3 x5
        go_upto_region 17 with (fail)
        go_cut [10] (fun v wx => v = .bool (decide (ka = 3) || decide (ka = 4)) ∧ wx = wr)
        case first =>
          by_cases e3 : ka = 3
          · have t3 : ((ka : Int) == 3) = true := by simp; omega
            have qq : (decide (ka = 3) || decide (ka = 4)) = true := by simp [e3]
            clear e3
            go_wp2_with fail
            go_meet
            case rel => exact ⟨by rw [qq], rfl⟩
          · have t3 : ((ka : Int) == 3) = false := by simp; omega
            by_cases e4 : ka = 4
            · have t4 : ((ka : Int) == 4) = true := by simp; omega
              have qq : (decide (ka = 3) || decide (ka = 4)) = true := by simp [e4]
              clear e3 e4
              go_wp2_with fail
              go_meet
              case rel => exact ⟨by rw [qq], rfl⟩
            · have t4 : ((ka : Int) == 4) = false := by simp; omega
              have qq : (decide (ka = 3) || decide (ka = 4)) = false := by simp [e3, e4]
              clear e3 e4
              go_wp2_with fail
              go_meet
              case rel => exact ⟨by rw [qq], rfl⟩
        case rest =>
          obtain ⟨rfl, rfl⟩ := hcut
          go_upto_region 18 with (fail)
          go_cut [11] (fun v wx => v = .bool (decide (kx = 3) || decide (kx = 4)) ∧ wx = wc)
          case first =>
            by_cases e3 : kx = 3
            · have t3 : ((kx : Int) == 3) = true := by simp; omega
              have qq : (decide (kx = 3) || decide (kx = 4)) = true := by simp [e3]
              clear e3
              go_wp2_with fail
              go_meet
              case rel => exact ⟨by rw [qq], rfl⟩
            · have t3 : ((kx : Int) == 3) = false := by simp; omega
              by_cases e4 : kx = 4
              · have t4 : ((kx : Int) == 4) = true := by simp; omega
                have qq : (decide (kx = 3) || decide (kx = 4)) = true := by simp [e4]
                clear e3 e4
                go_wp2_with fail
                go_meet
                case rel => exact ⟨by rw [qq], rfl⟩
              · have t4 : ((kx : Int) == 4) = false := by simp; omega
                have qq : (decide (kx = 3) || decide (kx = 4)) = false := by simp [e3, e4]
                clear e3 e4
                go_wp2_with fail
                go_meet
                case rel => exact ⟨by rw [qq], rfl⟩
          case rest =>
            obtain ⟨rfl, rfl⟩ := hcut
            generalize (decide (ka = 3) || decide (ka = 4)) = da at HDE2 ⊢
            generalize (decide (kx = 3) || decide (kx = 4)) = dx at HDE2 ⊢
            cases da
            · clear HDE2
              go_upto_region 19 with (fail)
              go_quiet (fail)
              go_wp2_with fail
              go_roundw
              case rel => exact ⟨n + 1, by go_num, by omega, T5.out.draw _⟩
              case measure => simp [intOf]; omega
            cases dx
            · clear HDE2
              go_upto_region 19 with (fail)
              go_quiet (fail)
              go_wp2_with fail
              go_roundw
              case rel => exact ⟨n + 1, by go_num, by omega, T5.out.draw _⟩
              case measure => simp [intOf]; omega
            by_cases f1 : cx = ca
            rotate_left
            · clear HDE2
              go_upto_region 19 with (fail)
              go_quiet (fail)
              go_wp2_with fail
              go_roundw
              case rel => exact ⟨n + 1, by go_num, by omega, T5.out.draw _⟩
              case measure => simp [intOf]; omega
            by_cases f2 : ex = ea
            rotate_left
            · subst f1
              clear HDE2
              go_upto_region 19 with (fail)
              go_quiet (fail)
              go_wp2_with fail
              go_roundw
              case rel => exact ⟨n + 1, by go_num, by omega, T5.out.draw _⟩
              case measure => simp [intOf]; omega
            by_cases f3 : sx = sa
            rotate_left
            · subst f1 f2
              clear HDE2
              go_upto_region 19 with (fail)
              go_quiet (fail)
              go_wp2_with fail
              go_roundw
              case rel => exact ⟨n + 1, by go_num, by omega, T5.out.draw _⟩
              case measure => simp [intOf]; omega
            have hy := HDE2.out rfl rfl ⟨f1, f2, f3⟩
            subst f1 f2 f3 hy
            clear HDE2
            go_upto_region 19 with (fail)
            go_quiet (fail)
            go_wp2_with fail
            go_roundw
            case rel => exact ⟨n + 1, by go_num, by omega, T5.out.draw _⟩
            case measure => simp [intOf]; omega
      · obtain rfl : n = d.length := by omega
        have HR5 := Lib.hid (HR.out _ T5.out.b)
        clear HDE hn hnl HR
        obtain ⟨ka, ⟨ca, ea, sa⟩, oa, ya, ga⟩ := a
        have a0 := HR5.out 0 _ rfl
        have a1 := HR5.out 1 _ rfl
        have a2 := HR5.out 2 _ rfl
        have a3 := HR5.out 3 _ rfl
        have a4 := HR5.out 4 _ rfl
        have a5 := HR5.out 5 _ rfl
        have a6 := HR5.out 6 _ rfl
        simp only [Nat.add_zero] at a0 a1 a2 a3 a4 a5 a6
        have TA : Hid (On w (w.heap.size + 1) w.heap.size bad R1 (.slice ob d.length capv) d (.slice o3 R.length c3) R (wr.alloc (.cells #[.int .u8 (ka : Int), .int .i64 ca, .int .i64 ea, .int .i64 sa, .int .i64 oa, .bool ya, .int .u8 (ga : Int)] 35 (0, 0)))) := T5.out.bel ((Below.refl _ wr).alloc (Nat.le_refl _) _)
        have NW : Hid (∀ j q, (Ac.cells ⟨ka, ⟨ca, ea, sa⟩, oa, ya, ga⟩)[j]? = some q → (wr.alloc (.cells #[.int .u8 (ka : Int), .int .i64 ca, .int .i64 ea, .int .i64 sa, .int .i64 oa, .bool ya, .int .u8 (ga : Int)] 35 (0, 0))).cell? ((⟨wr.heap.size, 0, none⟩ : Addr).add j) = some q) := by
          intro j q hq
          rw [Addr.add_mid, Nat.zero_add]
          refine (cell_of_row _ _ j _ _ (0, 0) (heap_alloc_new wr _)).trans ?_
          rw [← hq]
          simp [Ac.cells]
        have dlen2 : decide (R1.length < R.length) = false := by have := MS.out.1; simp; omega
        have dlen : decide ((R1.length : Int) < (R.length : Int)) = false := by have := MS.out.1; simp; omega
        clear HR5 T5
        go_upto_region 26 with (first
          | (refine wpList_append_acts rfl _ _ rfl _ (by rfl) TA.out ⟨wr.heap.size, 0, none⟩ 1 ⟨ka, ⟨ca, ea, sa⟩, oa, ya, ga⟩ (by rfl) NW.out (by omega) ?_; intro v6 W6 T6; obtain ⟨o6, c6, rfl⟩ := T6.slice; have H6 := Lib.hid T6; clear T6)
          | (go_at_call 11; (with_reducible refine (H6.out.fresh (by omega)).mono ?_); rintro e W7 ⟨o7, c7, rfl, hRA, hT, -⟩; have T7 := Lib.hid hT; have A7 := Lib.hid hRA; clear hT hRA))
        clear TA NW H6 a0 a1 a2 a3 a4 a5 a6 dlen dlen2
        have hd2 : (d ++ [(⟨ka, ⟨ca, ea, sa⟩, oa, ya, ga⟩ : Ac)]).length = d.length + 1 := by simp
        generalize d ++ [(⟨ka, ⟨ca, ea, sa⟩, oa, ya, ga⟩ : Ac)] = d2 at T7 HDC hd2
        have hR1 : R.length ≤ R1.length := MS.out.1
        go_loopw [13] (fun j wj => ∃ n : Nat, j = .int .i64 (n : Int) ∧ n ≤ R1.length ∧ Hid (On w (w.heap.size + 1) w.heap.size bad R1 (.slice o6 d2.length c6) d2 (.slice o3 R.length c3) R wj ∧ RowsAt wj (.slice o7 R1.length c7) R1)) (fun j _ => R1.length - (intOf j).toNat)
        case atStart => exact ⟨0, rfl, by omega, T7.out, A7.out⟩
        case round =>
          clear T7 A7
          obtain ⟨n, rfl, hn, T8⟩ := hrel
          by_cases hn1 : n < R1.length
          rotate_left
          · obtain rfl : n = R1.length := by omega
            clear MS SS
            go_wp2_with fail
            go_roundw
            case rel => exact ⟨k + 1, d2, by go_num, by omega, by omega, by rw [HS.out, ← hd2]; exact ⟨T8.out.1.forget, HDC.out⟩⟩
            case measure => simp [intOf]; omega
          obtain ⟨rb, cap9, e9, hr9⟩ := RowsAt.row T8.out.2 hn1
          cases e9
          have hx := hr9 n hn1
          have kn : 0 ≤ (n : Int) ∧ (n : Int) < (R1.length : Int) := by omega
          have knw : IntKind.i64.wrap ((n : Int) + 1) = (n : Int) + 1 := IntWalk.i64_in _ (by omega)
          have hsd := SS.out R1[n] (List.getElem_mem hn1)
          have CS := Lib.hid (fun W => sound_true R1[n] bad (sound_is hsd) W)
          by_cases hn0 : n < R.length
          · obtain ⟨gc, cap8, e8, hr8⟩ := RowsAt.row T8.out.1.rows hn0
            cases e8
            have hy := hr8 n hn0
            have CM := Lib.hid (fun W => more_true R[n] R1[n] (MS.out.2 n hn0 hn1) hsd.lo.2.2.1 (SDV.out _ (List.getElem_mem hn0)) W)
            have kn0 : 0 ≤ (n : Int) ∧ (n : Int) < (R.length : Int) := by omega
            clear hr9 hr8 hsd MS SS HDC HS SDV
            generalize R1[n] = r at hx CS CM
            generalize R[n] = q at hy CM
            obtain ⟨⟨rc, re, rs⟩, r1, r2, r3, r4, r5, r6, r7⟩ := r
            obtain ⟨⟨qc, qe, qs⟩, q1, q2, q3, q4, q5, q6, q7⟩ := q
            simp only [Rw.cells] at hx hy CS CM
            have y0 := hy 0 _ rfl
            have y1 := hy 1 _ rfl
            have y2 := hy 2 _ rfl
            have y3 := hy 3 _ rfl
            have y4 := hy 4 _ rfl
            have y5 := hy 5 _ rfl
            have y6 := hy 6 _ rfl
            have y7 := hy 7 _ rfl
            have y8 := hy 8 _ rfl
            have y9 := hy 9 _ rfl
            have x0 := hx 0 _ rfl
            have x1 := hx 1 _ rfl
            have x2 := hx 2 _ rfl
            have x3 := hx 3 _ rfl
            have x4 := hx 4 _ rfl
            have x5 := hx 5 _ rfl
            have x6 := hx 6 _ rfl
            have x7 := hx 7 _ rfl
            have x8 := hx 8 _ rfl
            have x9 := hx 9 _ rfl
            simp only [Nat.add_zero] at y0 x0
            clear hx hy
            have hS0 : wr.cell? ⟨gc, n * 10, none⟩ = some (.int .i64 qc) ∧ wr.cell? ⟨gc, n * 10 + 1, none⟩ = some (.int .i64 qe) ∧ wr.cell? ⟨gc, n * 10 + 2, none⟩ = some (.int .i64 qs) ∧ wr.cell? ⟨gc, n * 10 + 3, none⟩ = some (.bool q1) ∧ wr.cell? ⟨gc, n * 10 + 4, none⟩ = some (.int .u8 (q2 : Int)) ∧ wr.cell? ⟨gc, n * 10 + 5, none⟩ = some (.int .u8 (q3 : Int)) ∧ wr.cell? ⟨gc, n * 10 + 6, none⟩ = some (.int .u8 (q4 : Int)) ∧ wr.cell? ⟨gc, n * 10 + 7, none⟩ = some (.bool q5) ∧ wr.cell? ⟨gc, n * 10 + 8, none⟩ = some (.bool q6) ∧ wr.cell? ⟨gc, n * 10 + 9, none⟩ = some (.int .u8 (q7 : Int)) ∧ wr.cell? ⟨rb, n * 10, none⟩ = some (.int .i64 rc) ∧ wr.cell? ⟨rb, n * 10 + 1, none⟩ = some (.int .i64 re) ∧ wr.cell? ⟨rb, n * 10 + 2, none⟩ = some (.int .i64 rs) ∧ wr.cell? ⟨rb, n * 10 + 3, none⟩ = some (.bool r1) ∧ wr.cell? ⟨rb, n * 10 + 4, none⟩ = some (.int .u8 (r2 : Int)) ∧ wr.cell? ⟨rb, n * 10 + 5, none⟩ = some (.int .u8 (r3 : Int)) ∧ wr.cell? ⟨rb, n * 10 + 6, none⟩ = some (.int .u8 (r4 : Int)) ∧ wr.cell? ⟨rb, n * 10 + 7, none⟩ = some (.bool r5) ∧ wr.cell? ⟨rb, n * 10 + 8, none⟩ = some (.bool r6) ∧ wr.cell? ⟨rb, n * 10 + 9, none⟩ = some (.int .u8 (r7 : Int)) ∧ (On w (w.heap.size + 1) w.heap.size bad R1 (.slice o6 d2.length c6) d2 (.slice (some ⟨gc, 0, none⟩) R.length c3) R wr ∧ RowsAt wr (.slice (some ⟨rb, 0, none⟩) R1.length c7) R1) := ⟨y0, y1, y2, y3, y4, y5, y6, y7, y8, y9, x0, x1, x2, x3, x4, x5, x6, x7, x8, x9, T8.out⟩
            have KB : Hid (∀ W W', (W.cell? ⟨gc, n * 10, none⟩ = some (.int .i64 qc) ∧ W.cell? ⟨gc, n * 10 + 1, none⟩ = some (.int .i64 qe) ∧ W.cell? ⟨gc, n * 10 + 2, none⟩ = some (.int .i64 qs) ∧ W.cell? ⟨gc, n * 10 + 3, none⟩ = some (.bool q1) ∧ W.cell? ⟨gc, n * 10 + 4, none⟩ = some (.int .u8 (q2 : Int)) ∧ W.cell? ⟨gc, n * 10 + 5, none⟩ = some (.int .u8 (q3 : Int)) ∧ W.cell? ⟨gc, n * 10 + 6, none⟩ = some (.int .u8 (q4 : Int)) ∧ W.cell? ⟨gc, n * 10 + 7, none⟩ = some (.bool q5) ∧ W.cell? ⟨gc, n * 10 + 8, none⟩ = some (.bool q6) ∧ W.cell? ⟨gc, n * 10 + 9, none⟩ = some (.int .u8 (q7 : Int)) ∧ W.cell? ⟨rb, n * 10, none⟩ = some (.int .i64 rc) ∧ W.cell? ⟨rb, n * 10 + 1, none⟩ = some (.int .i64 re) ∧ W.cell? ⟨rb, n * 10 + 2, none⟩ = some (.int .i64 rs) ∧ W.cell? ⟨rb, n * 10 + 3, none⟩ = some (.bool r1) ∧ W.cell? ⟨rb, n * 10 + 4, none⟩ = some (.int .u8 (r2 : Int)) ∧ W.cell? ⟨rb, n * 10 + 5, none⟩ = some (.int .u8 (r3 : Int)) ∧ W.cell? ⟨rb, n * 10 + 6, none⟩ = some (.int .u8 (r4 : Int)) ∧ W.cell? ⟨rb, n * 10 + 7, none⟩ = some (.bool r5) ∧ W.cell? ⟨rb, n * 10 + 8, none⟩ = some (.bool r6) ∧ W.cell? ⟨rb, n * 10 + 9, none⟩ = some (.int .u8 (r7 : Int)) ∧ (On w (w.heap.size + 1) w.heap.size bad R1 (.slice o6 d2.length c6) d2 (.slice (some ⟨gc, 0, none⟩) R.length c3) R W ∧ RowsAt W (.slice (some ⟨rb, 0, none⟩) R1.length c7) R1)) → Below W.heap.size W W' → W'.cell? ⟨gc, n * 10, none⟩ = some (.int .i64 qc) ∧ W'.cell? ⟨gc, n * 10 + 1, none⟩ = some (.int .i64 qe) ∧ W'.cell? ⟨gc, n * 10 + 2, none⟩ = some (.int .i64 qs) ∧ W'.cell? ⟨gc, n * 10 + 3, none⟩ = some (.bool q1) ∧ W'.cell? ⟨gc, n * 10 + 4, none⟩ = some (.int .u8 (q2 : Int)) ∧ W'.cell? ⟨gc, n * 10 + 5, none⟩ = some (.int .u8 (q3 : Int)) ∧ W'.cell? ⟨gc, n * 10 + 6, none⟩ = some (.int .u8 (q4 : Int)) ∧ W'.cell? ⟨gc, n * 10 + 7, none⟩ = some (.bool q5) ∧ W'.cell? ⟨gc, n * 10 + 8, none⟩ = some (.bool q6) ∧ W'.cell? ⟨gc, n * 10 + 9, none⟩ = some (.int .u8 (q7 : Int)) ∧ W'.cell? ⟨rb, n * 10, none⟩ = some (.int .i64 rc) ∧ W'.cell? ⟨rb, n * 10 + 1, none⟩ = some (.int .i64 re) ∧ W'.cell? ⟨rb, n * 10 + 2, none⟩ = some (.int .i64 rs) ∧ W'.cell? ⟨rb, n * 10 + 3, none⟩ = some (.bool r1) ∧ W'.cell? ⟨rb, n * 10 + 4, none⟩ = some (.int .u8 (r2 : Int)) ∧ W'.cell? ⟨rb, n * 10 + 5, none⟩ = some (.int .u8 (r3 : Int)) ∧ W'.cell? ⟨rb, n * 10 + 6, none⟩ = some (.int .u8 (r4 : Int)) ∧ W'.cell? ⟨rb, n * 10 + 7, none⟩ = some (.bool r5) ∧ W'.cell? ⟨rb, n * 10 + 8, none⟩ = some (.bool r6) ∧ W'.cell? ⟨rb, n * 10 + 9, none⟩ = some (.int .u8 (r7 : Int)) ∧ (On w (w.heap.size + 1) w.heap.size bad R1 (.slice o6 d2.length c6) d2 (.slice (some ⟨gc, 0, none⟩) R.length c3) R W' ∧ RowsAt W' (.slice (some ⟨rb, 0, none⟩) R1.length c7) R1)) := fun W W' hS hb => by
              obtain ⟨z0, z1, z2, z3, z4, z5, z6, z7, z8, z9, z10, z11, z12, z13, z14, z15, z16, z17, z18, z19, zo, zr⟩ := hS
              exact ⟨cell_bel hb z0, cell_bel hb z1, cell_bel hb z2, cell_bel hb z3, cell_bel hb z4, cell_bel hb z5, cell_bel hb z6, cell_bel hb z7, cell_bel hb z8, cell_bel hb z9, cell_bel hb z10, cell_bel hb z11, cell_bel hb z12, cell_bel hb z13, cell_bel hb z14, cell_bel hb z15, cell_bel hb z16, cell_bel hb z17, cell_bel hb z18, cell_bel hb z19, zo.bel hb, zr.bel hb⟩
            go_upto_region 28 with (fail)
            go_region_held3 (fun W => W.cell? ⟨gc, n * 10, none⟩ = some (.int .i64 qc) ∧ W.cell? ⟨gc, n * 10 + 1, none⟩ = some (.int .i64 qe) ∧ W.cell? ⟨gc, n * 10 + 2, none⟩ = some (.int .i64 qs) ∧ W.cell? ⟨gc, n * 10 + 3, none⟩ = some (.bool q1) ∧ W.cell? ⟨gc, n * 10 + 4, none⟩ = some (.int .u8 (q2 : Int)) ∧ W.cell? ⟨gc, n * 10 + 5, none⟩ = some (.int .u8 (q3 : Int)) ∧ W.cell? ⟨gc, n * 10 + 6, none⟩ = some (.int .u8 (q4 : Int)) ∧ W.cell? ⟨gc, n * 10 + 7, none⟩ = some (.bool q5) ∧ W.cell? ⟨gc, n * 10 + 8, none⟩ = some (.bool q6) ∧ W.cell? ⟨gc, n * 10 + 9, none⟩ = some (.int .u8 (q7 : Int)) ∧ W.cell? ⟨rb, n * 10, none⟩ = some (.int .i64 rc) ∧ W.cell? ⟨rb, n * 10 + 1, none⟩ = some (.int .i64 re) ∧ W.cell? ⟨rb, n * 10 + 2, none⟩ = some (.int .i64 rs) ∧ W.cell? ⟨rb, n * 10 + 3, none⟩ = some (.bool r1) ∧ W.cell? ⟨rb, n * 10 + 4, none⟩ = some (.int .u8 (r2 : Int)) ∧ W.cell? ⟨rb, n * 10 + 5, none⟩ = some (.int .u8 (r3 : Int)) ∧ W.cell? ⟨rb, n * 10 + 6, none⟩ = some (.int .u8 (r4 : Int)) ∧ W.cell? ⟨rb, n * 10 + 7, none⟩ = some (.bool r5) ∧ W.cell? ⟨rb, n * 10 + 8, none⟩ = some (.bool r6) ∧ W.cell? ⟨rb, n * 10 + 9, none⟩ = some (.int .u8 (r7 : Int)) ∧ (On w (w.heap.size + 1) w.heap.size bad R1 (.slice o6 d2.length c6) d2 (.slice (some ⟨gc, 0, none⟩) R.length c3) R W ∧ RowsAt W (.slice (some ⟨rb, 0, none⟩) R1.length c7) R1))
              (first | assumption | exact KB.out _ _ hS0 (Below.refl _ wr).drew | exact KB.out _ _ (by assumption) hb)
              (first | (go_at_call 15; (with_reducible refine (CM.out _).mono ?_); rintro e W9 ⟨rfl, hb⟩) | (go_at_call 16; (with_reducible refine (CS.out _).mono ?_); rintro e W9 ⟨rfl, hb⟩))
            rename_i hS
            have T9 := Lib.hid hS.2.2.2.2.2.2.2.2.2.2.2.2.2.2.2.2.2.2.2.2
            clear hS hS0 KB T8 CM CS x0 y0 x1 y1 x2 y2 x3 y3 x4 y4 x5 y5 x6 y6 x7 y7 x8 y8 x9 y9
            go_wp2_with fail
            go_roundw
            case rel => exact ⟨n + 1, by go_num, by omega, T9.out⟩
            case measure => simp [intOf]; omega
          · have dn : decide ((n : Int) < (R.length : Int)) = false := by simp; omega
            clear hr9 hsd MS SS HDC HS SDV
            generalize R1[n] = r at hx CS
            obtain ⟨⟨rc, re, rs⟩, r1, r2, r3, r4, r5, r6, r7⟩ := r
            simp only [Rw.cells] at hx CS
            have x0 := hx 0 _ rfl
            have x1 := hx 1 _ rfl
            have x2 := hx 2 _ rfl
            have x3 := hx 3 _ rfl
            have x4 := hx 4 _ rfl
            have x5 := hx 5 _ rfl
            have x6 := hx 6 _ rfl
            have x7 := hx 7 _ rfl
            have x8 := hx 8 _ rfl
            have x9 := hx 9 _ rfl
            simp only [Nat.add_zero] at x0
            clear hx
            have hS0 : wr.cell? ⟨rb, n * 10, none⟩ = some (.int .i64 rc) ∧ wr.cell? ⟨rb, n * 10 + 1, none⟩ = some (.int .i64 re) ∧ wr.cell? ⟨rb, n * 10 + 2, none⟩ = some (.int .i64 rs) ∧ wr.cell? ⟨rb, n * 10 + 3, none⟩ = some (.bool r1) ∧ wr.cell? ⟨rb, n * 10 + 4, none⟩ = some (.int .u8 (r2 : Int)) ∧ wr.cell? ⟨rb, n * 10 + 5, none⟩ = some (.int .u8 (r3 : Int)) ∧ wr.cell? ⟨rb, n * 10 + 6, none⟩ = some (.int .u8 (r4 : Int)) ∧ wr.cell? ⟨rb, n * 10 + 7, none⟩ = some (.bool r5) ∧ wr.cell? ⟨rb, n * 10 + 8, none⟩ = some (.bool r6) ∧ wr.cell? ⟨rb, n * 10 + 9, none⟩ = some (.int .u8 (r7 : Int)) ∧ (On w (w.heap.size + 1) w.heap.size bad R1 (.slice o6 d2.length c6) d2 (.slice o3 R.length c3) R wr ∧ RowsAt wr (.slice (some ⟨rb, 0, none⟩) R1.length c7) R1) := ⟨x0, x1, x2, x3, x4, x5, x6, x7, x8, x9, T8.out⟩
            have KB : Hid (∀ W W', (W.cell? ⟨rb, n * 10, none⟩ = some (.int .i64 rc) ∧ W.cell? ⟨rb, n * 10 + 1, none⟩ = some (.int .i64 re) ∧ W.cell? ⟨rb, n * 10 + 2, none⟩ = some (.int .i64 rs) ∧ W.cell? ⟨rb, n * 10 + 3, none⟩ = some (.bool r1) ∧ W.cell? ⟨rb, n * 10 + 4, none⟩ = some (.int .u8 (r2 : Int)) ∧ W.cell? ⟨rb, n * 10 + 5, none⟩ = some (.int .u8 (r3 : Int)) ∧ W.cell? ⟨rb, n * 10 + 6, none⟩ = some (.int .u8 (r4 : Int)) ∧ W.cell? ⟨rb, n * 10 + 7, none⟩ = some (.bool r5) ∧ W.cell? ⟨rb, n * 10 + 8, none⟩ = some (.bool r6) ∧ W.cell? ⟨rb, n * 10 + 9, none⟩ = some (.int .u8 (r7 : Int)) ∧ (On w (w.heap.size + 1) w.heap.size bad R1 (.slice o6 d2.length c6) d2 (.slice o3 R.length c3) R W ∧ RowsAt W (.slice (some ⟨rb, 0, none⟩) R1.length c7) R1)) → Below W.heap.size W W' → W'.cell? ⟨rb, n * 10, none⟩ = some (.int .i64 rc) ∧ W'.cell? ⟨rb, n * 10 + 1, none⟩ = some (.int .i64 re) ∧ W'.cell? ⟨rb, n * 10 + 2, none⟩ = some (.int .i64 rs) ∧ W'.cell? ⟨rb, n * 10 + 3, none⟩ = some (.bool r1) ∧ W'.cell? ⟨rb, n * 10 + 4, none⟩ = some (.int .u8 (r2 : Int)) ∧ W'.cell? ⟨rb, n * 10 + 5, none⟩ = some (.int .u8 (r3 : Int)) ∧ W'.cell? ⟨rb, n * 10 + 6, none⟩ = some (.int .u8 (r4 : Int)) ∧ W'.cell? ⟨rb, n * 10 + 7, none⟩ = some (.bool r5) ∧ W'.cell? ⟨rb, n * 10 + 8, none⟩ = some (.bool r6) ∧ W'.cell? ⟨rb, n * 10 + 9, none⟩ = some (.int .u8 (r7 : Int)) ∧ (On w (w.heap.size + 1) w.heap.size bad R1 (.slice o6 d2.length c6) d2 (.slice o3 R.length c3) R W' ∧ RowsAt W' (.slice (some ⟨rb, 0, none⟩) R1.length c7) R1)) := fun W W' hS hb => by
              obtain ⟨z0, z1, z2, z3, z4, z5, z6, z7, z8, z9, zo, zr⟩ := hS
              exact ⟨cell_bel hb z0, cell_bel hb z1, cell_bel hb z2, cell_bel hb z3, cell_bel hb z4, cell_bel hb z5, cell_bel hb z6, cell_bel hb z7, cell_bel hb z8, cell_bel hb z9, zo.bel hb, zr.bel hb⟩
            go_upto_region 28 with (fail)
            refine wp_region_held_drew (S := fun W => W.cell? ⟨rb, n * 10, none⟩ = some (.int .i64 rc) ∧ W.cell? ⟨rb, n * 10 + 1, none⟩ = some (.int .i64 re) ∧ W.cell? ⟨rb, n * 10 + 2, none⟩ = some (.int .i64 rs) ∧ W.cell? ⟨rb, n * 10 + 3, none⟩ = some (.bool r1) ∧ W.cell? ⟨rb, n * 10 + 4, none⟩ = some (.int .u8 (r2 : Int)) ∧ W.cell? ⟨rb, n * 10 + 5, none⟩ = some (.int .u8 (r3 : Int)) ∧ W.cell? ⟨rb, n * 10 + 6, none⟩ = some (.int .u8 (r4 : Int)) ∧ W.cell? ⟨rb, n * 10 + 7, none⟩ = some (.bool r5) ∧ W.cell? ⟨rb, n * 10 + 8, none⟩ = some (.bool r6) ∧ W.cell? ⟨rb, n * 10 + 9, none⟩ = some (.int .u8 (r7 : Int)) ∧ (On w (w.heap.size + 1) w.heap.size bad R1 (.slice o6 d2.length c6) d2 (.slice o3 R.length c3) R W ∧ RowsAt W (.slice (some ⟨rb, 0, none⟩) R1.length c7) R1)) (by kernel_rfl) (KB.out _ _ hS0 (Below.refl _ wr).drew) (fun hH0 => ?_)
            refine wpAnyH_take (i := 0) (v := .int .i64 (n : Int)) rfl (by kernel_rfl) (by kernel_rfl) (by kernel_rfl) (fun _ _ _ h => h) (Or.inl ⟨by rfl, ?_⟩) (by assumption) ?_
            · intro w hSw; go_simp
            try simp only [List.getElem_toArray, List.getElem_cons_succ, List.getElem_cons_zero, Act.put, List.setIfInBounds_toArray, List.set_cons_zero, List.set_cons_succ]
            refine wpAnyH_take (i := 1) (v := .slice o3 R.length c3) rfl (by kernel_rfl) (by kernel_rfl) (by kernel_rfl) (fun _ _ _ h => h) (Or.inl ⟨by rfl, ?_⟩) (by assumption) ?_
            · intro w hSw; go_simp
            try simp only [List.getElem_toArray, List.getElem_cons_succ, List.getElem_cons_zero, Act.put, List.setIfInBounds_toArray, List.set_cons_zero, List.set_cons_succ]
            refine wpAnyH_take (i := 2) (v := .int .i64 (R.length : Int)) rfl (by kernel_rfl) (by kernel_rfl) (by kernel_rfl) (fun _ _ _ h => h) (Or.inl ⟨by rfl, ?_⟩) (by assumption) ?_
            · intro w hSw; go_simp
            try simp only [List.getElem_toArray, List.getElem_cons_succ, List.getElem_cons_zero, Act.put, List.setIfInBounds_toArray, List.set_cons_zero, List.set_cons_succ]
            refine wpAnyH_take (i := 3) (v := .bool false) rfl (by kernel_rfl) (by kernel_rfl) (by kernel_rfl) (fun _ _ _ h => h) (Or.inl ⟨by rfl, ?_⟩) (by assumption) ?_
            · intro w hSw; go_simp
            try simp only [List.getElem_toArray, List.getElem_cons_succ, List.getElem_cons_zero, Act.put, List.setIfInBounds_toArray, List.set_cons_zero, List.set_cons_succ]
            refine wpAnyH_take (i := 4) (v := .bool false) rfl (by kernel_rfl) (by kernel_rfl) (by kernel_rfl) (fun _ _ _ h => h) (Or.inl ⟨by rfl, ?_⟩) (by assumption) ?_
            · intro w hSw; go_simp
            try simp only [List.getElem_toArray, List.getElem_cons_succ, List.getElem_cons_zero, Act.put, List.setIfInBounds_toArray, List.set_cons_zero, List.set_cons_succ]
            refine wpAnyH_take (i := 5) (v := undef) rfl (by kernel_rfl) (by kernel_rfl) (by kernel_rfl) (fun _ _ _ h => h) (Or.inr ⟨by rfl, rfl⟩) (by assumption) ?_
            try simp only [List.getElem_toArray, List.getElem_cons_succ, List.getElem_cons_zero, Act.put, List.setIfInBounds_toArray, List.set_cons_zero, List.set_cons_succ]
            refine wpAnyH_take (i := 6) (v := undef) rfl (by kernel_rfl) (by kernel_rfl) (by kernel_rfl) (fun _ _ _ h => h) (Or.inr ⟨by rfl, rfl⟩) (by assumption) ?_
            try simp only [List.getElem_toArray, List.getElem_cons_succ, List.getElem_cons_zero, Act.put, List.setIfInBounds_toArray, List.set_cons_zero, List.set_cons_succ]
            refine wpAnyH_take (i := 7) (v := undef) rfl (by kernel_rfl) (by kernel_rfl) (by kernel_rfl) (fun _ _ _ h => h) (Or.inr ⟨by rfl, rfl⟩) (by assumption) ?_
            try simp only [List.getElem_toArray, List.getElem_cons_succ, List.getElem_cons_zero, Act.put, List.setIfInBounds_toArray, List.set_cons_zero, List.set_cons_succ]
            refine wpAnyH_take (i := 8) (v := undef) rfl (by kernel_rfl) (by kernel_rfl) (by kernel_rfl) (fun _ _ _ h => h) (Or.inr ⟨by rfl, rfl⟩) (by assumption) ?_
            try simp only [List.getElem_toArray, List.getElem_cons_succ, List.getElem_cons_zero, Act.put, List.setIfInBounds_toArray, List.set_cons_zero, List.set_cons_succ]
            refine wpAnyH_take (i := 9) (v := undef) rfl (by kernel_rfl) (by kernel_rfl) (by kernel_rfl) (fun _ _ _ h => h) (Or.inr ⟨by rfl, rfl⟩) (by assumption) ?_
            try simp only [List.getElem_toArray, List.getElem_cons_succ, List.getElem_cons_zero, Act.put, List.setIfInBounds_toArray, List.set_cons_zero, List.set_cons_succ]
            refine wpAnyH_take (i := 10) (v := undef) rfl (by kernel_rfl) (by kernel_rfl) (by kernel_rfl) (fun _ _ _ h => h) (Or.inr ⟨by rfl, rfl⟩) (by assumption) ?_
            try simp only [List.getElem_toArray, List.getElem_cons_succ, List.getElem_cons_zero, Act.put, List.setIfInBounds_toArray, List.set_cons_zero, List.set_cons_succ]
            refine wpAnyH_take (i := 11) (v := undef) rfl (by kernel_rfl) (by kernel_rfl) (by kernel_rfl) (fun _ _ _ h => h) (Or.inr ⟨by rfl, rfl⟩) (by assumption) ?_
            try simp only [List.getElem_toArray, List.getElem_cons_succ, List.getElem_cons_zero, Act.put, List.setIfInBounds_toArray, List.set_cons_zero, List.set_cons_succ]
            refine wpAnyH_take (i := 12) (v := undef) rfl (by kernel_rfl) (by kernel_rfl) (by kernel_rfl) (fun _ _ _ h => h) (Or.inr ⟨by rfl, rfl⟩) (by assumption) ?_
            try simp only [List.getElem_toArray, List.getElem_cons_succ, List.getElem_cons_zero, Act.put, List.setIfInBounds_toArray, List.set_cons_zero, List.set_cons_succ]
            refine wpAnyH_take (i := 13) (v := undef) rfl (by kernel_rfl) (by kernel_rfl) (by kernel_rfl) (fun _ _ _ h => h) (Or.inr ⟨by rfl, rfl⟩) (by assumption) ?_
            try simp only [List.getElem_toArray, List.getElem_cons_succ, List.getElem_cons_zero, Act.put, List.setIfInBounds_toArray, List.set_cons_zero, List.set_cons_succ]
            refine wpAnyH_take (i := 14) (v := undef) rfl (by kernel_rfl) (by kernel_rfl) (by kernel_rfl) (fun _ _ _ h => h) (Or.inr ⟨by rfl, rfl⟩) (by assumption) ?_
            try simp only [List.getElem_toArray, List.getElem_cons_succ, List.getElem_cons_zero, Act.put, List.setIfInBounds_toArray, List.set_cons_zero, List.set_cons_succ]
            refine wpAnyH_take (i := 15) (v := .bool false) rfl (by kernel_rfl) (by kernel_rfl) (by kernel_rfl) (fun _ _ _ h => h) (Or.inl ⟨by rfl, ?_⟩) (by assumption) ?_
            · intro w hSw; go_simp
            try simp only [List.getElem_toArray, List.getElem_cons_succ, List.getElem_cons_zero, Act.put, List.setIfInBounds_toArray, List.set_cons_zero, List.set_cons_succ]
            refine wpAnyH_take (i := 16) (v := .bool false) rfl (by kernel_rfl) (by kernel_rfl) (by kernel_rfl) (fun _ _ _ h => h) (Or.inl ⟨by rfl, ?_⟩) (by assumption) ?_
            · intro w hSw; go_simp
            try simp only [List.getElem_toArray, List.getElem_cons_succ, List.getElem_cons_zero, Act.put, List.setIfInBounds_toArray, List.set_cons_zero, List.set_cons_succ]
            refine wpAnyH_take (i := 17) (v := .slice (some ⟨rb, 0, none⟩) R1.length c7) rfl (by kernel_rfl) (by kernel_rfl) (by kernel_rfl) (fun _ _ _ h => h) (Or.inl ⟨by rfl, ?_⟩) (by assumption) ?_
            · intro w hSw; go_simp
            try simp only [List.getElem_toArray, List.getElem_cons_succ, List.getElem_cons_zero, Act.put, List.setIfInBounds_toArray, List.set_cons_zero, List.set_cons_succ]
            refine wpAnyH_take (i := 18) (v := .int .i64 (n : Int)) rfl (by kernel_rfl) (by kernel_rfl) (by kernel_rfl) (fun _ _ _ h => h) (Or.inl ⟨by rfl, ?_⟩) (by assumption) ?_
            · intro w hSw; go_simp
            try simp only [List.getElem_toArray, List.getElem_cons_succ, List.getElem_cons_zero, Act.put, List.setIfInBounds_toArray, List.set_cons_zero, List.set_cons_succ]
            refine wpAnyH_take (i := 19) (v := .pointer (some ⟨rb, n * 10, none⟩)) rfl (by kernel_rfl) (by kernel_rfl) (by kernel_rfl) (fun _ _ _ h => h) (Or.inl ⟨by rfl, ?_⟩) (by assumption) ?_
            · intro w hSw; go_simp
            try simp only [List.getElem_toArray, List.getElem_cons_succ, List.getElem_cons_zero, Act.put, List.setIfInBounds_toArray, List.set_cons_zero, List.set_cons_succ]
            refine wpAnyH_take (i := 20) (v := .agg #[.int .i64 rc, .int .i64 re, .int .i64 rs, .bool r1, .int .u8 (r2 : Int), .int .u8 (r3 : Int), .int .u8 (r4 : Int), .bool r5, .bool r6, .int .u8 (r7 : Int)]) rfl (by kernel_rfl) (by kernel_rfl) (by kernel_rfl) (fun _ _ _ h => h) (Or.inl ⟨by rfl, ?_⟩) (by assumption) ?_
            · intro w hSw; go_simp
            try simp only [List.getElem_toArray, List.getElem_cons_succ, List.getElem_cons_zero, Act.put, List.setIfInBounds_toArray, List.set_cons_zero, List.set_cons_succ]
            refine wpAnyH_take (i := 21) (v := .int .u8 (bad : Int)) rfl (by kernel_rfl) (by kernel_rfl) (by kernel_rfl) (fun _ _ _ h => h) (Or.inl ⟨by rfl, ?_⟩) (by assumption) ?_
            · intro w hSw; go_simp
            try simp only [List.getElem_toArray, List.getElem_cons_succ, List.getElem_cons_zero, Act.put, List.setIfInBounds_toArray, List.set_cons_zero, List.set_cons_succ]
            refine wpAnyH_ready (rs := [22]) (by kernel_rfl) (by simp) (AllReadyH.cons rfl (fun K hK => ?_) AllReadyH.nil)
            go_simp
            refine (CS.out _).mono ?_
            rintro e W9 ⟨rfl, hb⟩
            refine hK.out _ _ (KB.out _ _ hH0 hb) (fun hH1 => ?_)
            clear hK K
            try simp only [List.getElem_toArray, List.getElem_cons_succ, List.getElem_cons_zero, Act.put, List.setIfInBounds_toArray, List.set_cons_zero, List.set_cons_succ]
            refine wpAnyH_take (i := 23) (v := .bool false) rfl (by kernel_rfl) (by kernel_rfl) (by kernel_rfl) (fun _ _ _ h => h) (Or.inl ⟨by rfl, ?_⟩) (by assumption) ?_
            · intro w hSw; go_simp
            try simp only [List.getElem_toArray, List.getElem_cons_succ, List.getElem_cons_zero, Act.put, List.setIfInBounds_toArray, List.set_cons_zero, List.set_cons_succ]
            refine wpAnyH_take (i := 24) (v := .bool false) rfl (by kernel_rfl) (by kernel_rfl) (by kernel_rfl) (fun _ _ _ h => h) (Or.inl ⟨by rfl, ?_⟩) (by assumption) ?_
            · intro w hSw; go_simp
            try simp only [List.getElem_toArray, List.getElem_cons_succ, List.getElem_cons_zero, Act.put, List.setIfInBounds_toArray, List.set_cons_zero, List.set_cons_succ]
            refine wpAnyH_done (by kernel_rfl) ?_ _
            have T9 := Lib.hid hH1.2.2.2.2.2.2.2.2.2.2
            clear hH0 hH1 hS0 KB T8 CS hb x0 x1 x2 x3 x4 x5 x6 x7 x8 x9
            go_wp2_with fail
            go_roundw
            case rel => exact ⟨n + 1, by go_num, by omega, T9.out⟩
            case measure => simp [intOf]; omega
end Go.Proofs.Ythdmjeoldnehcaa
