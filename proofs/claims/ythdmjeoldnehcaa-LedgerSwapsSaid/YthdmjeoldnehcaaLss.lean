/- The walk of LedgerSwaps. Condition: sizes that a machine has. -/
import Derived.Test.YthdmjeoldnehcaaLst
namespace Go.Proofs.Ythdmjeoldnehcaa
open Go.RowKit
set_option linter.unusedVariables false
set_option linter.unusedSimpArgs false

def acO (kind : Nat) (c e s org : Int) (yes : Bool) (orgs : Nat) : Obj := .cells #[.int .u8 (kind : Int), .int .i64 c, .int .i64 e, .int .i64 s, .int .i64 org, .bool yes, .int .u8 (orgs : Int)] 35 (0, 0)
theorem ab_s {w W : World} {ka kb ga gb : Nat} {ca ea sa oa cb eb sb ob : Int} {ya yb : Bool} (h1 : W.heap[w.heap.size]? = some (acO ka ca ea sa oa ya ga)) (h2 : W.heap[w.heap.size + 1]? = some (acO kb cb eb sb ob yb gb)) :
    W.cell? ⟨w.heap.size, 0, none⟩ = some (.int .u8 (ka : Int)) ∧ W.cell? ⟨w.heap.size, 1, none⟩ = some (.int .i64 ca) ∧ W.cell? ⟨w.heap.size, 2, none⟩ = some (.int .i64 ea) ∧ W.cell? ⟨w.heap.size, 3, none⟩ = some (.int .i64 sa) ∧ W.cell? ⟨w.heap.size, 4, none⟩ = some (.int .i64 oa) ∧ W.cell? ⟨w.heap.size, 5, none⟩ = some (.bool ya) ∧ W.cell? ⟨w.heap.size, 6, none⟩ = some (.int .u8 (ga : Int)) ∧ W.cell? ⟨w.heap.size + 1, 0, none⟩ = some (.int .u8 (kb : Int)) ∧ W.cell? ⟨w.heap.size + 1, 1, none⟩ = some (.int .i64 cb) ∧ W.cell? ⟨w.heap.size + 1, 2, none⟩ = some (.int .i64 eb) ∧ W.cell? ⟨w.heap.size + 1, 3, none⟩ = some (.int .i64 sb) ∧ W.cell? ⟨w.heap.size + 1, 4, none⟩ = some (.int .i64 ob) ∧ W.cell? ⟨w.heap.size + 1, 5, none⟩ = some (.bool yb) ∧ W.cell? ⟨w.heap.size + 1, 6, none⟩ = some (.int .u8 (gb : Int)) :=
  ⟨cell_of_row _ _ 0 _ _ (0, 0) h1, cell_of_row _ _ 1 _ _ (0, 0) h1, cell_of_row _ _ 2 _ _ (0, 0) h1, cell_of_row _ _ 3 _ _ (0, 0) h1, cell_of_row _ _ 4 _ _ (0, 0) h1, cell_of_row _ _ 5 _ _ (0, 0) h1, cell_of_row _ _ 6 _ _ (0, 0) h1, cell_of_row _ _ 0 _ _ (0, 0) h2, cell_of_row _ _ 1 _ _ (0, 0) h2, cell_of_row _ _ 2 _ _ (0, 0) h2, cell_of_row _ _ 3 _ _ (0, 0) h2, cell_of_row _ _ 4 _ _ (0, 0) h2, cell_of_row _ _ 5 _ _ (0, 0) h2, cell_of_row _ _ 6 _ _ (0, 0) h2⟩
set_option maxRecDepth 100000 in
set_option maxHeartbeats 8000000 in
theorem LedgerSwaps_walk (A : Option Addr) (cap bad : Nat) (ls : List Ac) (a b : Ac) (w : World) (hT : Acts w w.heap.size A ls) (hl : ls.length ≤ 9223372036854775807) (hbad : bad < 256) (ho : ∀ a ∈ ls, a.orgs < 256) (hoa : a.orgs < 256) (hob : b.orgs < 256) :
    Calls Try.prog 6 #[.int .u8 (bad : Int), .slice A ls.length cap, .agg a.cells.toArray, .agg b.cells.toArray] w fun e w' => e = .returned (.bool true) ∧ Below w.heap.size w w' := by
  obtain ⟨ka, ⟨ca, ea, sa⟩, oa, ya, ga⟩ := a
  obtain ⟨kb, ⟨cb, eb, sb⟩, ob, yb, gb⟩ := b
  simp only [Ac.cells] at *
  have b0 := (Below.refl w.heap.size w).alloc (Nat.le_refl _) (acO ka ca ea sa oa ya ga)
  have b1 := b0.alloc b0.size (acO kb cb eb sb ob yb gb)
  have p1 := heap_alloc_new (w.alloc (acO ka ca ea sa oa ya ga)) (acO kb cb eb sb ob yb gb)
  have p0 := (Below.heap_alloc (w.alloc (acO ka ca ea sa oa ya ga)) (acO kb cb eb sb ob yb gb) w.heap.size (by simp)).trans (heap_alloc_new w (acO ka ca ea sa oa ya ga))
  rw [World.size_alloc] at p1
  have B1 := Lib.hid b1
  have PA := Lib.hid p0
  have PB := Lib.hid p1
  have HT := Lib.hid (hT.below b1 (Nat.le_refl _))
  clear b0 b1 p0 p1 hT
  go_enter Try.func6, Try.ntmps6
  go_upto_region 1 with (fail)
  change Code.wp _ _ _ _ ((w.alloc (acO ka ca ea sa oa ya ga)).alloc (acO kb cb eb sb ob yb gb))
  generalize (w.alloc (acO ka ca ea sa oa ya ga)).alloc (acO kb cb eb sb ob yb gb) = w1 at B1 PA PB HT ⊢
  have a1 := cell_of_row _ _ 1 _ _ (0, 0) PA.out
  have a2 := cell_of_row _ _ 2 _ _ (0, 0) PA.out
  have a3 := cell_of_row _ _ 3 _ _ (0, 0) PA.out
  have c1 := cell_of_row _ _ 1 _ _ (0, 0) PB.out
  have c2 := cell_of_row _ _ 2 _ _ (0, 0) PB.out
  have c3 := cell_of_row _ _ 3 _ _ (0, 0) PB.out
  simp only [List.getElem?_toArray, List.getElem?_cons_zero, List.getElem?_cons_succ] at a1 a2 a3 c1 c2 c3
  have AL := Lib.hid (fun (W : World) => alive_any W)
  by_cases h120 : 120 < ls.length
  · have d : decide (120 < (ls.length : Int)) = true := by simp; omega
    go_wp2_with (go_at_call 7; refine (AL.out _).mono ?_; rintro e w2 ⟨rfl, hb⟩; have TB := Lib.hid (below_acc B1.out hb); clear hb)
    go_ret
    exact ⟨rfl, TB.out⟩
  have d120 : decide (120 < (ls.length : Int)) = false := by simp; omega
  by_cases hab : (⟨ca, ea, sa⟩ : Tx) = ⟨cb, eb, sb⟩
  · simp only [Tx.mk.injEq] at hab
    obtain ⟨rfl, rfl, rfl⟩ := hab
    go_wp2_with (go_at_call 7; refine (AL.out _).mono ?_; rintro e w2 ⟨rfl, hb⟩; have TB := Lib.hid (below_acc B1.out hb); clear hb)
    go_ret
    exact ⟨rfl, TB.out⟩
  have HNE := Lib.hid hab
  have HO := Lib.hid ho
  go_cut [29] (fun v wx => v = .bool false ∧ wx = w1)
  case first =>
    by_cases f1 : ca = cb
    · by_cases f2 : ea = eb
      · by_cases f3 : sa = sb
        · exact absurd (by rw [f1, f2, f3]) hab
        · clear hab
          go_wp2_with fail
          go_meet
          case rel => exact ⟨rfl, rfl⟩
      · clear hab
        go_wp2_with fail
        go_meet
        case rel => exact ⟨rfl, rfl⟩
    · clear hab
      go_wp2_with fail
      go_meet
      case rel => exact ⟨rfl, rfl⟩
  case rest =>
    obtain ⟨rfl, rfl⟩ := hcut
    clear hab ho a1 a2 a3 c1 c2 c3
    go_upto_region 7 with (go_at_call 13; refine (New_any bad _).mono ?_; rintro e w2 ⟨rfl, hL, hb⟩; have R0 : Hid (Rm wc (wc.heap.size + 1) wc.heap.size bad (stp bad ls 0) w2) := ⟨⟨_, by rw [stp_zero]; exact hL⟩, hb⟩; clear hL hb)
    go_loopw [10] (fun i wr => ∃ k : Nat, i = .int .i64 (k : Int) ∧ k ≤ ls.length ∧ Hid (Rm wc (wc.heap.size + 1) wc.heap.size bad (stp bad ls k) wr)) (fun i _ => ls.length - (intOf i).toNat)
    case atStart => exact ⟨0, rfl, by omega, R0⟩
    case round =>
      clear R0
      obtain ⟨k, rfl, hk, H⟩ := hrel
      by_cases hkl : k < ls.length
      · obtain ⟨bb, o, rfl, hbl, hr⟩ := HT.out k hkl
        have hlen := stp_len bad ls k hk
        have horg := HO.out ls[k] (List.getElem_mem hkl)
        have HR : Hid (wr.rangeAt bb (o + k * 7) (ls[k]).cells) := fun j v hv => (H.out.b.cell (p := ⟨bb, _, none⟩) (Nat.lt_of_lt_of_le hbl B1.out.size)).trans (hr j v hv)
        have HS := Lib.hid (stp_succ bad ls k hkl)
        have CA := fun W (hR : Rm wc (wc.heap.size + 1) wc.heap.size bad (stp bad ls k) W) => hR.apply ls[k] (by omega) hbad horg
        rw [← HS.out] at CA
        have kb : 0 ≤ (k : Int) ∧ (k : Int) < (ls.length : Int) := by omega
        have kw : IntKind.i64.wrap ((k : Int) + 1) = (k : Int) + 1 := IntWalk.i64_in _ (by omega)
        clear HS hr horg PA PB HNE
        generalize ls[k] = x at HR CA
        have CA := Lib.hid CA
        go_wp2_with (first
          | (refine wpList_load_mid rfl 35 _ rfl bb (o + k * 7) (by rfl) x.cells _ HR.out Try.underlying35 rfl (size_ac x) ?_)
          | (go_at_call 14; refine (CA.out _ H.out).mono ?_; rintro e W4 ⟨rfl, hR⟩; have R4 := Lib.hid hR; clear hR))
        go_roundw
        case rel => exact ⟨k + 1, by go_num, by omega, R4⟩
        case measure => simp [intOf]; omega
      · obtain rfl : k = ls.length := by omega
        have hlen := stp_len bad ls ls.length (Nat.le_refl _)
        have hdis := dis_stp bad ls ls.length (Nat.le_refl _)
        generalize stp bad ls ls.length = R at H hlen hdis
        clear HT HO hk hkl
        have hs120 : ls.length ≤ 120 := by omega
        have HX := Lib.hid (Rm.b H.out)
        go_upto_region 13 with (go_at_call 17; refine (Tw.copy H.out (by omega)).mono ?_; rintro e w3 ⟨h, n, rfl, hT⟩; have T0 := Lib.hid hT; clear hT)
        generalize hG : wc.heap.size + 1 = G at H T0
        clear H
        obtain ⟨x, hx⟩ : ∃ x, errOf bad R ⟨ka, ⟨ca, ea, sa⟩, oa, ya, ga⟩ = x := ⟨_, rfl⟩
        obtain ⟨y, hy⟩ : ∃ y, errOf bad R ⟨kb, ⟨cb, eb, sb⟩, ob, yb, gb⟩ = y := ⟨_, rfl⟩
        obtain ⟨R1, h1⟩ : ∃ R1, step bad R ⟨ka, ⟨ca, ea, sa⟩, oa, ya, ga⟩ = R1 := ⟨_, rfl⟩
        obtain ⟨S1, g1⟩ : ∃ S1, step bad R ⟨kb, ⟨cb, eb, sb⟩, ob, yb, gb⟩ = S1 := ⟨_, rfl⟩
        obtain ⟨R2, h2⟩ : ∃ R2, step bad R1 ⟨kb, ⟨cb, eb, sb⟩, ob, yb, gb⟩ = R2 := ⟨_, rfl⟩
        obtain ⟨S2, g2⟩ : ∃ S2, step bad S1 ⟨ka, ⟨ca, ea, sa⟩, oa, ya, ga⟩ = S2 := ⟨_, rfl⟩
        have e1 := err_other bad R ⟨ka, ⟨ca, ea, sa⟩, oa, ya, ga⟩ ⟨kb, ⟨cb, eb, sb⟩, ob, yb, gb⟩ HNE.out
        have e2 := err_other bad R ⟨kb, ⟨cb, eb, sb⟩, ob, yb, gb⟩ ⟨ka, ⟨ca, ea, sa⟩, oa, ya, ga⟩ (fun q => HNE.out q.symm)
        have SW := swap_rows bad R ⟨ka, ⟨ca, ea, sa⟩, oa, ya, ga⟩ ⟨kb, ⟨cb, eb, sb⟩, ob, yb, gb⟩ HNE.out hdis
        have len1 := step_len bad R ⟨ka, ⟨ca, ea, sa⟩, oa, ya, ga⟩
        have len2 := step_len bad R ⟨kb, ⟨cb, eb, sb⟩, ob, yb, gb⟩
        rw [h1] at len1 e2 SW
        rw [g1] at len2 e1 SW
        rw [h2, g2] at SW
        have len3 := step_len bad R1 ⟨kb, ⟨cb, eb, sb⟩, ob, yb, gb⟩
        rw [h2] at len3
        rw [hx] at e1
        rw [hy] at e2
        have CA1 : Hid (∀ W : World, Tw wc G wc.heap.size h n bad R R W → Calls Try.prog 14 #[.pointer (some ⟨G, 0, none⟩), .agg #[.int .u8 (ka : Int), .int .i64 ca, .int .i64 ea, .int .i64 sa, .int .i64 oa, .bool ya, .int .u8 (ga : Int)]] W fun r w' => r = .returned (.int .i64 (x : Int)) ∧ Tw wc G wc.heap.size h n bad R1 R w') := fun W t => by
          have := t.apply ⟨ka, ⟨ca, ea, sa⟩, oa, ya, ga⟩ (by omega) hbad hoa
          rw [hx, h1] at this
          exact this
        have CA2 : Hid (∀ W : World, Tw wc G wc.heap.size h n bad R1 R W → Calls Try.prog 14 #[.pointer (some ⟨G, 0, none⟩), .agg #[.int .u8 (kb : Int), .int .i64 cb, .int .i64 eb, .int .i64 sb, .int .i64 ob, .bool yb, .int .u8 (gb : Int)]] W fun r w' => r = .returned (.int .i64 (y : Int)) ∧ Tw wc G wc.heap.size h n bad R2 R w') := fun W t => by
          have := t.apply ⟨kb, ⟨cb, eb, sb⟩, ob, yb, gb⟩ (by omega) hbad hob
          rw [e2, h2] at this
          exact this
        have CB1 : Hid (∀ W : World, Tw wc G wc.heap.size h n bad R2 R W → Calls Try.prog 14 #[.pointer (some ⟨h, 0, none⟩), .agg #[.int .u8 (kb : Int), .int .i64 cb, .int .i64 eb, .int .i64 sb, .int .i64 ob, .bool yb, .int .u8 (gb : Int)]] W fun r w' => r = .returned (.int .i64 (y : Int)) ∧ Tw wc G wc.heap.size h n bad R2 S1 w') := fun W t => by
          have := t.swap.apply ⟨kb, ⟨cb, eb, sb⟩, ob, yb, gb⟩ (by omega) hbad hob
          rw [hy, g1] at this
          exact this.mono fun e w' ⟨q1, q2⟩ => ⟨q1, q2.swap⟩
        have CB2 : Hid (∀ W : World, Tw wc G wc.heap.size h n bad R2 S1 W → Calls Try.prog 14 #[.pointer (some ⟨h, 0, none⟩), .agg #[.int .u8 (ka : Int), .int .i64 ca, .int .i64 ea, .int .i64 sa, .int .i64 oa, .bool ya, .int .u8 (ga : Int)]] W fun r w' => r = .returned (.int .i64 (x : Int)) ∧ Tw wc G wc.heap.size h n bad R2 S2 w') := fun W t => by
          have := t.swap.apply ⟨ka, ⟨ca, ea, sa⟩, oa, ya, ga⟩ (by omega) hbad hoa
          rw [e1, g2] at this
          exact this.mono fun e w' ⟨q1, q2⟩ => ⟨q1, q2.swap⟩
        have HAB : Hid (∀ W : World, Below wc.heap.size wc W → W.cell? ⟨w.heap.size, 0, none⟩ = some (.int .u8 (ka : Int)) ∧ W.cell? ⟨w.heap.size, 1, none⟩ = some (.int .i64 ca) ∧ W.cell? ⟨w.heap.size, 2, none⟩ = some (.int .i64 ea) ∧ W.cell? ⟨w.heap.size, 3, none⟩ = some (.int .i64 sa) ∧ W.cell? ⟨w.heap.size, 4, none⟩ = some (.int .i64 oa) ∧ W.cell? ⟨w.heap.size, 5, none⟩ = some (.bool ya) ∧ W.cell? ⟨w.heap.size, 6, none⟩ = some (.int .u8 (ga : Int)) ∧ W.cell? ⟨w.heap.size + 1, 0, none⟩ = some (.int .u8 (kb : Int)) ∧ W.cell? ⟨w.heap.size + 1, 1, none⟩ = some (.int .i64 cb) ∧ W.cell? ⟨w.heap.size + 1, 2, none⟩ = some (.int .i64 eb) ∧ W.cell? ⟨w.heap.size + 1, 3, none⟩ = some (.int .i64 sb) ∧ W.cell? ⟨w.heap.size + 1, 4, none⟩ = some (.int .i64 ob) ∧ W.cell? ⟨w.heap.size + 1, 5, none⟩ = some (.bool yb) ∧ W.cell? ⟨w.heap.size + 1, 6, none⟩ = some (.int .u8 (gb : Int))) := fun W hb => ab_s ((hb.block _ (lt_of_heap PA.out)).trans PA.out) ((hb.block _ (lt_of_heap PB.out)).trans PB.out)
        have HSW := Lib.hid SW
        clear SW hx hy h1 g1 h2 g2 e1 e2 hdis HX PA PB HNE
        go_region_held3 (fun W => W.cell? ⟨w.heap.size, 0, none⟩ = some (.int .u8 (ka : Int)) ∧ W.cell? ⟨w.heap.size, 1, none⟩ = some (.int .i64 ca) ∧ W.cell? ⟨w.heap.size, 2, none⟩ = some (.int .i64 ea) ∧ W.cell? ⟨w.heap.size, 3, none⟩ = some (.int .i64 sa) ∧ W.cell? ⟨w.heap.size, 4, none⟩ = some (.int .i64 oa) ∧ W.cell? ⟨w.heap.size, 5, none⟩ = some (.bool ya) ∧ W.cell? ⟨w.heap.size, 6, none⟩ = some (.int .u8 (ga : Int)) ∧ W.cell? ⟨w.heap.size + 1, 0, none⟩ = some (.int .u8 (kb : Int)) ∧ W.cell? ⟨w.heap.size + 1, 1, none⟩ = some (.int .i64 cb) ∧ W.cell? ⟨w.heap.size + 1, 2, none⟩ = some (.int .i64 eb) ∧ W.cell? ⟨w.heap.size + 1, 3, none⟩ = some (.int .i64 sb) ∧ W.cell? ⟨w.heap.size + 1, 4, none⟩ = some (.int .i64 ob) ∧ W.cell? ⟨w.heap.size + 1, 5, none⟩ = some (.bool yb) ∧ W.cell? ⟨w.heap.size + 1, 6, none⟩ = some (.int .u8 (gb : Int)))
          (first | assumption | exact HAB.out _ T0.out.draw.b | exact HAB.out _ T1.out.b | exact HAB.out _ T2.out.b)
          (first
            | (go_at_call 14; (with_reducible refine (CA1.out _ ?_).mono ?_); exact T0.out.draw; rintro e W1 ⟨rfl, hT⟩; have T1 := Lib.hid hT; clear hT)
            | (go_at_call 14; (with_reducible refine (CA2.out _ ?_).mono ?_); exact T1.out; rintro e W2 ⟨rfl, hT⟩; have T2 := Lib.hid hT; clear hT))
        rename_i hS
        clear hS CA1 CA2 T0 T1
        go_upto_region 14 with (fail)
        obtain ⟨m0, m1, m2, m3, m4, m5, m6, n0, n1, n2, n3, n4, n5, n6⟩ := HAB.out _ T2.out.b
        go_region_held3 (fun W => W.cell? ⟨w.heap.size, 0, none⟩ = some (.int .u8 (ka : Int)) ∧ W.cell? ⟨w.heap.size, 1, none⟩ = some (.int .i64 ca) ∧ W.cell? ⟨w.heap.size, 2, none⟩ = some (.int .i64 ea) ∧ W.cell? ⟨w.heap.size, 3, none⟩ = some (.int .i64 sa) ∧ W.cell? ⟨w.heap.size, 4, none⟩ = some (.int .i64 oa) ∧ W.cell? ⟨w.heap.size, 5, none⟩ = some (.bool ya) ∧ W.cell? ⟨w.heap.size, 6, none⟩ = some (.int .u8 (ga : Int)) ∧ W.cell? ⟨w.heap.size + 1, 0, none⟩ = some (.int .u8 (kb : Int)) ∧ W.cell? ⟨w.heap.size + 1, 1, none⟩ = some (.int .i64 cb) ∧ W.cell? ⟨w.heap.size + 1, 2, none⟩ = some (.int .i64 eb) ∧ W.cell? ⟨w.heap.size + 1, 3, none⟩ = some (.int .i64 sb) ∧ W.cell? ⟨w.heap.size + 1, 4, none⟩ = some (.int .i64 ob) ∧ W.cell? ⟨w.heap.size + 1, 5, none⟩ = some (.bool yb) ∧ W.cell? ⟨w.heap.size + 1, 6, none⟩ = some (.int .u8 (gb : Int)))
          (first | assumption | exact HAB.out _ T2.out.draw.b | exact HAB.out _ T3.out.b | exact HAB.out _ T4.out.b)
          (first
            | (go_at_call 14; (with_reducible refine (CB1.out _ ?_).mono ?_); exact T2.out.draw; rintro e W3 ⟨rfl, hT⟩; have T3 := Lib.hid hT; clear hT)
            | (go_at_call 14; (with_reducible refine (CB2.out _ ?_).mono ?_); exact T3.out; rintro e W4 ⟨rfl, hT⟩; have T4 := Lib.hid hT; clear hT))
        rename_i hS
        clear hS CB1 CB2 T2 T3 HAB m0 m1 m2 m3 m4 m5 m6 n0 n1 n2 n3 n4 n5 n6
        have dl : ((R2.length : Int) != (S2.length : Int)) = false := by have := HSW.out.1; simp; omega
        have dx : ((x : Int) != (x : Int)) = false := by simp
        have dy : ((y : Int) != (y : Int)) = false := by simp
        have hr2 : R2.length ≤ 130 := by omega
        have hs2 : S2.length ≤ 130 := by have := HSW.out.1; omega
        go_upto_region 17 with (first
          | (go_at_call 11; (with_reducible refine (T4.out.rows (by omega)).mono ?_); rintro e W5 ⟨o5, c5, rfl, -, hT⟩; have T5 := Lib.hid hT; clear hT)
          | (go_at_call 11; (with_reducible refine (T5.out.swap.rows (by omega)).mono ?_); rintro e W6 ⟨o6, c6, rfl, -, hT⟩; have T6 := Lib.hid hT.swap; clear hT))
        go_upto_region 19 with (go_at_call 11; (with_reducible refine (T6.out.rows (by omega)).mono ?_); rintro e W7 ⟨o7, c7, rfl, hRA, hT⟩; have T7 := Lib.hid hT; have A7 := Lib.hid hRA; clear hT hRA)
        clear T4 T5 T6
        go_loopw [17] (fun i wr => ∃ k : Nat, i = .int .i64 (k : Int) ∧ k ≤ R2.length ∧ Hid (Tw wc G wc.heap.size h n bad R2 S2 wr ∧ RowsAt wr (.slice o7 R2.length c7) R2)) (fun i _ => R2.length - (intOf i).toNat)
        case atStart => exact ⟨0, rfl, by omega, T7.out, A7.out⟩
        case round =>
          clear T7 A7
          obtain ⟨k, rfl, hk, H⟩ := hrel
          by_cases hkl : k < R2.length
          · obtain ⟨rb, cap9, e9, hr⟩ := H.out.2.row hkl
            cases e9
            have r0 := RwAt.of_range (hr k hkl)
            have hv := HSW.out.2 k hkl
            have CR := Lib.hid (fun (W : World) (t : Tw wc G wc.heap.size h n bad R2 S2 W) => t.swap.row (R2[k]).tx (by omega))
            have CR2 : Hid (∀ W : World, Tw wc G wc.heap.size h n bad R2 S2 W → Calls Try.prog 18 #[.pointer (some ⟨h, 0, none⟩), .agg ((R2[k]).tx).cells.toArray] W fun e w' => e = .returned (.tuple #[.agg (R2[k]).cells.toArray, .bool true]) ∧ Below W.heap.size W w') := fun W t => by
              have := CR.out W t
              rw [hv] at this
              exact this
            have kb : 0 ≤ (k : Int) ∧ (k : Int) < (R2.length : Int) := by omega
            have kw : IntKind.i64.wrap ((k : Int) + 1) = (k : Int) + 1 := IntWalk.i64_in _ (by omega)
            clear hv CR hr
            generalize R2[k] = r at r0 CR2
            obtain ⟨⟨rc, re, rs⟩, r1, r2, r3, r4, r5, r6, r7⟩ := r
            have CR3 : Hid (∀ W : World, Tw wc G wc.heap.size h n bad R2 S2 W → Calls Try.prog 18 #[.pointer (some ⟨h, 0, none⟩), .agg #[.int .i64 rc, .int .i64 re, .int .i64 rs]] W fun e w' => e = .returned (.tuple #[.agg #[.int .i64 rc, .int .i64 re, .int .i64 rs, .bool r1, .int .u8 (r2 : Int), .int .u8 (r3 : Int), .int .u8 (r4 : Int), .bool r5, .bool r6, .int .u8 (r7 : Int)], .bool true]) ∧ Below W.heap.size W w') := CR2.out
            clear CR2
            have HR0 := Lib.hid r0
            obtain ⟨x0, x1, x2, x3, x4, x5, x6, x7, x8, x9, -⟩ := r0
            simp only at x0 x1 x2 x3 x4 x5 x6 x7 x8 x9
            go_upto_region 22 with (go_at_call 18; (with_reducible refine (CR3.out _ H.out.1).mono ?_); rintro e W8 ⟨rfl, hb8⟩; have B8 := Lib.hid hb8; clear hb8)
            clear x0 x1 x2 x3 x4 x5 x6 x7 x8 x9 CR3
            have ba : Below wr.heap.size wr (W8.alloc (.cells #[.int .i64 rc, .int .i64 re, .int .i64 rs, .bool r1, .int .u8 (r2 : Int), .int .u8 (r3 : Int), .int .u8 (r4 : Int), .bool r5, .bool r6, .int .u8 (r7 : Int)] 43 (0, 0))) := B8.out.alloc B8.out.size _
            have e9 := heap_alloc_new W8 (.cells #[.int .i64 rc, .int .i64 re, .int .i64 rs, .bool r1, .int .u8 (r2 : Int), .int .u8 (r3 : Int), .int .u8 (r4 : Int), .bool r5, .bool r6, .int .u8 (r7 : Int)] 43 (0, 0))
            have r9 := HR0.out.bel ba
            have H9 : Hid (Tw wc G wc.heap.size h n bad R2 S2 (W8.alloc (.cells #[.int .i64 rc, .int .i64 re, .int .i64 rs, .bool r1, .int .u8 (r2 : Int), .int .u8 (r3 : Int), .int .u8 (r4 : Int), .bool r5, .bool r6, .int .u8 (r7 : Int)] 43 (0, 0))) ∧ RowsAt (W8.alloc (.cells #[.int .i64 rc, .int .i64 re, .int .i64 rs, .bool r1, .int .u8 (r2 : Int), .int .u8 (r3 : Int), .int .u8 (r4 : Int), .bool r5, .bool r6, .int .u8 (r7 : Int)] 43 (0, 0))) (.slice (some ⟨rb, 0, none⟩) R2.length c7) R2) := ⟨H.out.1.bel ba, H.out.2.bel ba⟩
            clear ba HR0 H B8
            generalize W8.alloc (.cells #[.int .i64 rc, .int .i64 re, .int .i64 rs, .bool r1, .int .u8 (r2 : Int), .int .u8 (r3 : Int), .int .u8 (r4 : Int), .bool r5, .bool r6, .int .u8 (r7 : Int)] 43 (0, 0)) = W9 at e9 r9 H9 ⊢
            generalize W8.heap.size = q at e9 ⊢
            obtain ⟨x0, x1, x2, x3, x4, x5, x6, x7, x8, x9, -⟩ := r9
            simp only at x0 x1 x2 x3 x4 x5 x6 x7 x8 x9
            have d0 := cell_of_row _ _ 0 _ _ (0, 0) e9
            have d1 := cell_of_row _ _ 1 _ _ (0, 0) e9
            have d2 := cell_of_row _ _ 2 _ _ (0, 0) e9
            have d3 := cell_of_row _ _ 3 _ _ (0, 0) e9
            have d4 := cell_of_row _ _ 4 _ _ (0, 0) e9
            have d5 := cell_of_row _ _ 5 _ _ (0, 0) e9
            have d6 := cell_of_row _ _ 6 _ _ (0, 0) e9
            have d7 := cell_of_row _ _ 7 _ _ (0, 0) e9
            have d8 := cell_of_row _ _ 8 _ _ (0, 0) e9
            have d9 := cell_of_row _ _ 9 _ _ (0, 0) e9
            simp only [List.getElem?_toArray, List.getElem?_cons_zero, List.getElem?_cons_succ] at d0 d1 d2 d3 d4 d5 d6 d7 d8 d9
            clear e9
            go_quiet (fail)
            go_wp2_with fail
            go_roundw
            case rel => exact ⟨k + 1, by go_num, by omega, H9.out.1.bel (below_drewN (Below.refl _ W9) _), H9.out.2.bel (below_drewN (Below.refl _ W9) _)⟩
            case measure => simp [intOf]; omega
          · obtain rfl : k = R2.length := by omega
            have HB := Lib.hid (below_acc B1.out H.out.1.b)
            clear H HSW
            go_wp2_with (go_at_call 7; refine (AL.out _).mono ?_; rintro e w2 ⟨rfl, hb⟩; have TB := Lib.hid (below_acc HB.out hb); clear hb)
            go_ret
            exact ⟨rfl, TB.out⟩
end Go.Proofs.Ythdmjeoldnehcaa
