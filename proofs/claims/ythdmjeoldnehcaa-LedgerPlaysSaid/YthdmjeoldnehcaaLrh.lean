/- The walk of the reference's May. Condition: the reference lies at the pointer. -/
import Derived.Test.YthdmjeoldnehcaaLrg
namespace Go.Proofs.Ythdmjeoldnehcaa
open Go.RowKit
set_option linter.unusedVariables false
set_option linter.unusedSimpArgs false

/-- What May works on: the action, the row. -/
structure Mam (w : World) (cs : Array Value) (hp rb : Nat) (ob : Option Addr) (n cap bad : Nat) (r : Rw) (W : World) : Prop where
  a : W.heap[w.heap.size]? = some (.cells cs 35 (0, 0))
  r : W.heap[rb]? = some (.cells r.cells.toArray 43 (0, 0))
  t : W.heap[hp]? = some (.cells #[.int .u8 (bad : Int), .slice ob n cap] 30 (0, 0))
  b : Below w.heap.size w W
/-- The commit's loop of May, behind k rounds. -/
def cvT (dec begun : Bool) (o b y k : Nat) : Bool := !dec && (decide (k = 0) || (begun && (List.range k).all fun j => !o.testBit j || b.testBit j || y.testBit j))
theorem cvT_succ (dec begun : Bool) (o b y k : Nat) : cvT dec begun o b y (k + 1) = (cvT dec begun o b y k && (begun && (!o.testBit k || b.testBit k || y.testBit k))) := by
  unfold cvT
  rw [List.range_succ, List.all_append]
  by_cases hk : k = 0
  · subst hk
    cases dec <;> cases begun <;> simp
  · cases dec <;> cases begun <;> simp [hk]
set_option maxHeartbeats 8000000 in
theorem rMay_any {B hp bad : Nat} {v : Value} {L : List Ac} {w : World} (h : Rf w B hp v bad L) (ok : ∀ a ∈ L, Okd bad a) (a : Ac) (hlen : L.length ≤ 100000) (hbad : bad < 256) (horgs : a.orgs < 256) (hkind : a.kind < 256) :
    Calls Try.prog 21 #[.pointer (some ⟨hp, 0, none⟩), .agg a.cells.toArray] w fun e w' => e = .returned (.int .i64 (errR bad L a : Int)) ∧ Below w.heap.size w w' := by
  have hmk : mayR bad a = true → a.kind = 1 ∨ a.kind = 2 ∨ a.kind = 3 ∨ a.kind = 4 := fun hm => by
    rw [mayR_is horgs] at hm
    exact (may_kind hm).1
  have lo := lo_rv ok a.tx
  have E1 : Hid (mayR bad a = false → (errR bad L a : Int) = 2) := fun hm => by unfold errR; rw [if_pos hm]; rfl
  have E2 : Hid (mayR bad a = true → ∀ b, canF bad (rvR L a.tx) (isR L a.tx) a = b → (errR bad L a : Int) = if b then 0 else 290) := fun hm b hb => by
    unfold errR
    rw [if_neg (by rw [hm]; simp), hb]
    cases b <;> rfl
  generalize errR bad L a = er at E1 E2 ⊢
  obtain ⟨kind, ⟨c, e, s⟩, org, yes, orgs⟩ := a
  obtain ⟨ob, cap, rfl⟩ := h.slice
  have b0 := (Below.refl w.heap.size w).alloc (Nat.le_refl _) (.cells #[.int .u8 (kind : Int), .int .i64 c, .int .i64 e, .int .i64 s, .int .i64 org, .bool yes, .int .u8 (orgs : Int)] 35 (0, 0))
  have p0 := heap_alloc_new w (.cells #[.int .u8 (kind : Int), .int .i64 c, .int .i64 e, .int .i64 s, .int .i64 org, .bool yes, .int .u8 (orgs : Int)] 35 (0, 0))
  have h1 := h.bel b0
  have CM := Lib.hid (rMayBe_walk hp bad kind c e s org yes orgs (w.alloc (.cells #[.int .u8 (kind : Int), .int .i64 c, .int .i64 e, .int .i64 s, .int .i64 org, .bool yes, .int .u8 (orgs : Int)] 35 (0, 0))) (cell_of_row _ _ 0 _ _ (0, 0) h1.top) hbad horgs hkind)
  have CR : Hid (∀ W : World, Rf W B hp (.slice ob L.length cap) bad L → Calls Try.prog 19 #[.pointer (some ⟨hp, 0, none⟩), .agg #[.int .i64 c, .int .i64 e, .int .i64 s]] W fun e' w' => e' = .returned (.tuple #[.agg (rvR L ⟨c, e, s⟩).cells.toArray, .bool (isR L ⟨c, e, s⟩)]) ∧ Below W.heap.size W w') := fun W hW => rRow_any hW ok ⟨c, e, s⟩ hlen
  simp only [Ac.cells] at *
  generalize rvR L ⟨c, e, s⟩ = r at CR E2 lo
  generalize isR L ⟨c, e, s⟩ = is at CR E2
  obtain ⟨⟨tc, te, ts⟩, b1, o1, v1, y1, d1, m1, l1⟩ := r
  simp only [Rw.cells] at CR
  have P0 := Lib.hid p0
  have B0 := Lib.hid b0
  have HF := Lib.hid h1
  have MK := Lib.hid hmk
  have LO := Lib.hid lo
  clear h h1 p0 b0 hmk lo ok
  go_enter Try.func21, Try.ntmps21
  go_upto_region 1 with (fail)
  generalize hw1 : w.alloc (.cells #[.int .u8 (kind : Int), .int .i64 c, .int .i64 e, .int .i64 s, .int .i64 org, .bool yes, .int .u8 (orgs : Int)] 35 (0, 0)) = w1 at P0 B0 HF CM ⊢
  clear hw1
  have q0 := cell_of_row _ _ 0 _ _ (0, 0) P0.out
  have q1 := cell_of_row _ _ 1 _ _ (0, 0) P0.out
  have q2 := cell_of_row _ _ 2 _ _ (0, 0) P0.out
  have q3 := cell_of_row _ _ 3 _ _ (0, 0) P0.out
  have q4 := cell_of_row _ _ 4 _ _ (0, 0) P0.out
  have q5 := cell_of_row _ _ 5 _ _ (0, 0) P0.out
  have q6 := cell_of_row _ _ 6 _ _ (0, 0) P0.out
  simp only [List.getElem?_toArray, List.getElem?_cons_zero, List.getElem?_cons_succ] at q0 q1 q2 q3 q4 q5 q6
  generalize mayR bad ⟨kind, ⟨c, e, s⟩, org, yes, orgs⟩ = mb at E1 E2 CM MK
  cases mb
  · have E5 := Lib.hid (E1.out rfl)
    clear E1 E2 MK CR
    go_wp2_with (go_at_call 28; (with_reducible refine CM.out.mono ?_); rintro r2 w2 ⟨rfl, hb⟩; have B2 := Lib.hid (below_acc B0.out hb); clear hb)
    go_ret
    exact ⟨by rw [E5.out]; rfl, B2.out⟩
  have E := Lib.hid (E2.out rfl)
  have hk4 := MK.out rfl
  clear E1 E2 MK
  go_upto_region 3 with (go_at_call 28; (with_reducible refine CM.out.mono ?_); rintro r2 w2 ⟨rfl, hb⟩; have B2 := Lib.hid (below_acc B0.out hb); have P2 := Lib.hid ((hb.block _ (lt_of_heap P0.out)).trans P0.out); have F2 := Lib.hid (HF.out.bel hb); clear hb)
  clear q0 q1 q2 q3 q4 q5 q6 CM P0 B0 HF
  have q0 := cell_of_row _ _ 0 _ _ (0, 0) P2.out
  have q1 := cell_of_row _ _ 1 _ _ (0, 0) P2.out
  have q2 := cell_of_row _ _ 2 _ _ (0, 0) P2.out
  have q3 := cell_of_row _ _ 3 _ _ (0, 0) P2.out
  simp only [List.getElem?_toArray, List.getElem?_cons_zero, List.getElem?_cons_succ] at q0 q1 q2 q3
  go_upto_region 4 with (first | (go_at_call 19; (with_reducible refine (CR.out _ F2.out).mono ?_); rintro r3 w3 ⟨rfl, hb⟩; have M3 := Lib.hid (And.intro (below_acc B2.out hb) (And.intro ((hb.block _ (lt_of_heap P2.out)).trans P2.out) (F2.out.bel hb).top)); clear hb))
  have M4 : Hid (Mam w #[.int .u8 (kind : Int), .int .i64 c, .int .i64 e, .int .i64 s, .int .i64 org, .bool yes, .int .u8 (orgs : Int)] hp w3.heap.size ob L.length cap bad ⟨⟨tc, te, ts⟩, b1, o1, v1, y1, d1, m1, l1⟩ (w3.alloc (.cells #[.int .i64 tc, .int .i64 te, .int .i64 ts, .bool b1, .int .u8 (o1 : Int), .int .u8 (v1 : Int), .int .u8 (y1 : Int), .bool d1, .bool m1, .int .u8 (l1 : Int)] 43 (0, 0)))) := by
    obtain ⟨m1', m2, m3⟩ := M3.out
    have bb := (Below.refl w3.heap.size w3).alloc (Nat.le_refl _) (.cells #[.int .i64 tc, .int .i64 te, .int .i64 ts, .bool b1, .int .u8 (o1 : Int), .int .u8 (v1 : Int), .int .u8 (y1 : Int), .bool d1, .bool m1, .int .u8 (l1 : Int)] 43 (0, 0))
    exact ⟨(bb.block _ (lt_of_heap m2)).trans m2, heap_alloc_new w3 _, (bb.block _ (lt_of_heap m3)).trans m3, below_acc m1' bb⟩
  clear q0 q1 q2 q3 M3 P2 B2 F2 CR
  generalize w3.alloc (.cells #[.int .i64 tc, .int .i64 te, .int .i64 ts, .bool b1, .int .u8 (o1 : Int), .int .u8 (v1 : Int), .int .u8 (y1 : Int), .bool d1, .bool m1, .int .u8 (l1 : Int)] 43 (0, 0)) = W4 at M4 ⊢
  generalize w3.heap.size = rb at M4 ⊢
  have q0 := cell_of_row _ _ 0 _ _ (0, 0) M4.out.a
  have q4 := cell_of_row _ _ 4 _ _ (0, 0) M4.out.a
  have q5 := cell_of_row _ _ 5 _ _ (0, 0) M4.out.a
  have g0 := cell_of_row _ _ 0 _ _ (0, 0) M4.out.t
  have r3 := cell_of_row _ _ 3 _ _ (0, 0) M4.out.r
  have r4 := cell_of_row _ _ 4 _ _ (0, 0) M4.out.r
  have r5 := cell_of_row _ _ 5 _ _ (0, 0) M4.out.r
  have r6 := cell_of_row _ _ 6 _ _ (0, 0) M4.out.r
  have r7 := cell_of_row _ _ 7 _ _ (0, 0) M4.out.r
  have r8 := cell_of_row _ _ 8 _ _ (0, 0) M4.out.r
  have r9 := cell_of_row _ _ 9 _ _ (0, 0) M4.out.r
  have TB := Lib.hid M4.out.b
  clear M4
  simp only [Rw.cells, List.getElem?_toArray, List.getElem?_cons_zero, List.getElem?_cons_succ] at q0 q4 q5 g0 r3 r4 r5 r6 r7 r8 r9
  have CO := Lib.hid (fun (k : Int) W => rIn_any o1 LO.out.1 k W)
  have CV := Lib.hid (fun (k : Int) W => rIn_any v1 LO.out.2.1 k W)
  have CY := Lib.hid (fun (k : Int) W => rIn_any y1 LO.out.2.2.1 k W)
  have CL := Lib.hid (fun (k : Int) W => rIn_any l1 LO.out.2.2.2 k W)
  have CB := Lib.hid (fun (k : Int) W => rIn_any bad hbad k W)
  clear LO
  rcases hk4 with hk4 | hk4 | hk4 | hk4
  · have E2 : Hid (∀ b, (!is) = b → (er : Int) = if b then 0 else 290) := fun b hb => E.out b (by subst hk4; unfold canF; exact hb)
    have f2 : ((kind : Int) == 2) = false := by simp; omega
    have f3 : ((kind : Int) == 3) = false := by simp; omega
    have f4 : ((kind : Int) == 4) = false := by simp; omega
    clear hk4
    clear E CO CV CY CL CB
    cases is
    · go_wp2_with fail
      go_ret
      exact ⟨by rw [E2.out true (by simp)]; rfl, TB.out⟩
    · go_wp2_with fail
      go_ret
      exact ⟨by rw [E2.out false (by simp)]; rfl, TB.out⟩
  · have E2 : Hid (∀ b, (b1 && inS o1 org && !inS v1 org && !inS l1 org) = b → (er : Int) = if b then 0 else 290) := fun b hb => E.out b (by subst hk4; unfold canF; exact hb)
    have f2 : ((kind : Int) == 2) = true := by simp; omega
    have f3 : ((kind : Int) == 3) = false := by simp; omega
    have f4 : ((kind : Int) == 4) = false := by simp; omega
    clear hk4
    have CO2 := Lib.hid (CO.out org)
    have CV2 := Lib.hid (CV.out org)
    have CL2 := Lib.hid (CL.out org)
    clear E CO CV CY CL CB
    generalize inS o1 org = i1 at E2 CO2
    generalize inS v1 org = i2 at E2 CV2
    generalize inS l1 org = i3 at E2 CL2
    cases b1
    · go_wp2_with fail
      go_ret
      exact ⟨by rw [E2.out false (by simp)]; rfl, TB.out⟩
    cases i1
    · go_wp2_with (first | (go_at_call 29; (with_reducible refine (CO2.out _).mono ?_); rintro r30 w30 ⟨rfl, rfl⟩))
      go_ret
      exact ⟨by rw [E2.out false (by simp)]; rfl, TB.out⟩
    cases i2
    rotate_left
    · go_wp2_with (first | (go_at_call 29; (with_reducible refine (CO2.out _).mono ?_); rintro r30 w30 ⟨rfl, rfl⟩) | (go_at_call 29; (with_reducible refine (CV2.out _).mono ?_); rintro r31 w31 ⟨rfl, rfl⟩))
      go_ret
      exact ⟨by rw [E2.out false (by simp)]; rfl, TB.out⟩
    cases i3
    · go_wp2_with (first | (go_at_call 29; (with_reducible refine (CO2.out _).mono ?_); rintro r30 w30 ⟨rfl, rfl⟩) | (go_at_call 29; (with_reducible refine (CV2.out _).mono ?_); rintro r31 w31 ⟨rfl, rfl⟩) | (go_at_call 29; (with_reducible refine (CL2.out _).mono ?_); rintro r32 w32 ⟨rfl, rfl⟩))
      go_ret
      exact ⟨by rw [E2.out true (by simp)]; rfl, TB.out⟩
    · go_wp2_with (first | (go_at_call 29; (with_reducible refine (CO2.out _).mono ?_); rintro r30 w30 ⟨rfl, rfl⟩) | (go_at_call 29; (with_reducible refine (CV2.out _).mono ?_); rintro r31 w31 ⟨rfl, rfl⟩) | (go_at_call 29; (with_reducible refine (CL2.out _).mono ?_); rintro r32 w32 ⟨rfl, rfl⟩))
      go_ret
      exact ⟨by rw [E2.out false (by simp)]; rfl, TB.out⟩
  · have E2 : Hid (∀ b, (!d1 && (!yes || (b1 && (List.range 8).all fun k => !o1.testBit k || bad.testBit k || y1.testBit k))) = b → (er : Int) = if b then 0 else 290) := fun b hb => E.out b (by subst hk4; unfold canF; exact hb)
    have f2 : ((kind : Int) == 2) = false := by simp; omega
    have f3 : ((kind : Int) == 3) = true := by simp; omega
    have f4 : ((kind : Int) == 4) = false := by simp; omega
    clear hk4
    clear E CV CL
    cases yes
    · go_upto_region 10 with fail
      go_wp2_with fail
      go_loop [7, 8] (fun cv i => cv = .bool (!d1) ∧ i = .int .i64 0) (fun _ _ => 0)
      case atStart => exact ⟨rfl, rfl⟩
      case round =>
        obtain ⟨rfl, rfl⟩ := hrel
        cases d1
        · go_wp2_with fail
          go_ret
          exact ⟨by rw [E2.out true (by simp)]; rfl, TB.out⟩
        · go_wp2_with fail
          go_ret
          exact ⟨by rw [E2.out false (by simp)]; rfl, TB.out⟩
    · have E3 : Hid (∀ b, cvT d1 b1 o1 bad y1 8 = b → (er : Int) = if b then 0 else 290) := fun b hb => E2.out b (by rw [← hb]; unfold cvT; simp)
      clear E2
      go_upto_region 10 with fail
      go_wp2_with fail
      go_loopw [7, 8] (fun cv i wr => ∃ (k : Nat) (cb : Bool), cv = .bool cb ∧ i = .int .i64 (k : Int) ∧ k ≤ 8 ∧ wr = W4 ∧ Hid (cb = cvT d1 b1 o1 bad y1 k)) (fun _ i _ => 8 - (intOf i).toNat)
      case atStart => exact ⟨0, !d1, rfl, rfl, by omega, rfl, by show _ = _; unfold cvT; simp⟩
      case round =>
        obtain ⟨k, cb, rfl, rfl, hk, rfl, hc⟩ := hrel
        by_cases h8 : k < 8
        · have st := cvT_succ d1 b1 o1 bad y1 k
          rw [← hc.out] at st
          have CO2 := Lib.hid (CO.out k)
          have CB2 := Lib.hid (CB.out k)
          have CY2 := Lib.hid (CY.out k)
          rw [in_nat] at CO2 CB2 CY2
          have kw : IntKind.i64.wrap ((k : Int) + 1) = (k : Int) + 1 := IntWalk.i64_in _ (by omega)
          generalize o1.testBit k = i1 at CO2 st
          generalize bad.testBit k = i2 at CB2 st
          generalize y1.testBit k = i3 at CY2 st
          have ST := Lib.hid st
          clear st hc
          cases cb
          · go_wp2_with fail
            go_roundw
            case rel => exact ⟨k + 1, false, rfl, by go_num, by omega, trivial, by show _ = _; rw [ST.out]; simp⟩
            case measure => simp [intOf]; omega
          cases b1
          · go_wp2_with fail
            go_roundw
            case rel => exact ⟨k + 1, false, rfl, by go_num, by omega, trivial, by show _ = _; rw [ST.out]; simp⟩
            case measure => simp [intOf]; omega
          cases i1
          · go_wp2_with (first | (go_at_call 29; (with_reducible refine (CO2.out _).mono ?_); rintro r30 w30 ⟨rfl, rfl⟩))
            go_roundw
            case rel => exact ⟨k + 1, true, rfl, by go_num, by omega, trivial, by show _ = _; rw [ST.out]; simp⟩
            case measure => simp [intOf]; omega
          cases i2
          rotate_left
          · go_wp2_with (first | (go_at_call 29; (with_reducible refine (CO2.out _).mono ?_); rintro r30 w30 ⟨rfl, rfl⟩) | (go_at_call 29; (with_reducible refine (CB2.out _).mono ?_); rintro r31 w31 ⟨rfl, rfl⟩))
            go_roundw
            case rel => exact ⟨k + 1, true, rfl, by go_num, by omega, trivial, by show _ = _; rw [ST.out]; simp⟩
            case measure => simp [intOf]; omega
          cases i3
          · go_wp2_with (first | (go_at_call 29; (with_reducible refine (CO2.out _).mono ?_); rintro r30 w30 ⟨rfl, rfl⟩) | (go_at_call 29; (with_reducible refine (CB2.out _).mono ?_); rintro r31 w31 ⟨rfl, rfl⟩) | (go_at_call 29; (with_reducible refine (CY2.out _).mono ?_); rintro r32 w32 ⟨rfl, rfl⟩))
            go_roundw
            case rel => exact ⟨k + 1, false, rfl, by go_num, by omega, trivial, by show _ = _; rw [ST.out]; simp⟩
            case measure => simp [intOf]; omega
          · go_wp2_with (first | (go_at_call 29; (with_reducible refine (CO2.out _).mono ?_); rintro r30 w30 ⟨rfl, rfl⟩) | (go_at_call 29; (with_reducible refine (CB2.out _).mono ?_); rintro r31 w31 ⟨rfl, rfl⟩) | (go_at_call 29; (with_reducible refine (CY2.out _).mono ?_); rintro r32 w32 ⟨rfl, rfl⟩))
            go_roundw
            case rel => exact ⟨k + 1, true, rfl, by go_num, by omega, trivial, by show _ = _; rw [ST.out]; simp⟩
            case measure => simp [intOf]; omega
        · obtain rfl : k = 8 := by omega
          have E4 := Lib.hid (E3.out cb hc.out.symm)
          clear E3 hc CO CY CB h8
          cases cb
          · go_wp2_with fail
            go_ret
            exact ⟨by rw [E4.out]; rfl, TB.out⟩
          · go_wp2_with fail
            go_ret
            exact ⟨by rw [E4.out]; rfl, TB.out⟩
  · have E2 : Hid (∀ b, (d1 && (m1 == yes) && !inS l1 org && (!b1 || inS o1 org) && (!yes || inS y1 org)) = b → (er : Int) = if b then 0 else 290) := fun b hb => E.out b (by subst hk4; unfold canF; exact hb)
    have f2 : ((kind : Int) == 2) = false := by simp; omega
    have f3 : ((kind : Int) == 3) = false := by simp; omega
    have f4 : ((kind : Int) == 4) = true := by simp; omega
    clear hk4
    have CO2 := Lib.hid (CO.out org)
    have CY2 := Lib.hid (CY.out org)
    have CL2 := Lib.hid (CL.out org)
    clear E CO CV CY CL CB
    generalize inS o1 org = i1 at E2 CO2
    generalize inS y1 org = i2 at E2 CY2
    generalize inS l1 org = i3 at E2 CL2
    cases d1
    · go_wp2_with fail
      go_ret
      exact ⟨by rw [E2.out false (by simp)]; rfl, TB.out⟩
    by_cases hm : (m1 == yes) = false
    · have E3 : Hid ((er : Int) = 290) := E2.out false (by rw [hm]; simp)
      clear E2
      cases m1 <;> cases yes <;> first | (exfalso; revert hm; decide) | skip
      all_goals
        clear hm
        go_wp2_with fail
        go_ret
        exact ⟨by rw [E3.out]; rfl, TB.out⟩
    have hm' : m1 = yes := by cases m1 <;> cases yes <;> simp_all
    clear hm
    subst hm'
    have E3 : Hid (∀ b, (!i3 && (!b1 || i1) && (!m1 || i2)) = b → (er : Int) = if b then 0 else 290) := fun b hb => E2.out b (by rw [← hb]; simp)
    clear E2
    have em : (m1 == m1) = true := by simp
    cases i3
    rotate_left
    · go_wp2_with (first | (go_at_call 29; (with_reducible refine (CL2.out _).mono ?_); rintro r30 w30 ⟨rfl, rfl⟩))
      go_ret
      exact ⟨by rw [E3.out false (by simp)]; rfl, TB.out⟩
    cases b1
    · cases m1
      · go_wp2_with (first | (go_at_call 29; (with_reducible refine (CL2.out _).mono ?_); rintro r30 w30 ⟨rfl, rfl⟩))
        go_ret
        exact ⟨by rw [E3.out true (by simp)]; rfl, TB.out⟩
      cases i2
      · go_wp2_with (first | (go_at_call 29; (with_reducible refine (CL2.out _).mono ?_); rintro r30 w30 ⟨rfl, rfl⟩) | (go_at_call 29; (with_reducible refine (CY2.out _).mono ?_); rintro r31 w31 ⟨rfl, rfl⟩))
        go_ret
        exact ⟨by rw [E3.out false (by simp)]; rfl, TB.out⟩
      · go_wp2_with (first | (go_at_call 29; (with_reducible refine (CL2.out _).mono ?_); rintro r30 w30 ⟨rfl, rfl⟩) | (go_at_call 29; (with_reducible refine (CY2.out _).mono ?_); rintro r31 w31 ⟨rfl, rfl⟩))
        go_ret
        exact ⟨by rw [E3.out true (by simp)]; rfl, TB.out⟩
    cases i1
    · go_wp2_with (first | (go_at_call 29; (with_reducible refine (CL2.out _).mono ?_); rintro r30 w30 ⟨rfl, rfl⟩) | (go_at_call 29; (with_reducible refine (CO2.out _).mono ?_); rintro r31 w31 ⟨rfl, rfl⟩))
      go_ret
      exact ⟨by rw [E3.out false (by simp)]; rfl, TB.out⟩
    cases m1
    · go_wp2_with (first | (go_at_call 29; (with_reducible refine (CL2.out _).mono ?_); rintro r30 w30 ⟨rfl, rfl⟩) | (go_at_call 29; (with_reducible refine (CO2.out _).mono ?_); rintro r31 w31 ⟨rfl, rfl⟩))
      go_ret
      exact ⟨by rw [E3.out true (by simp)]; rfl, TB.out⟩
    cases i2
    · go_wp2_with (first | (go_at_call 29; (with_reducible refine (CL2.out _).mono ?_); rintro r30 w30 ⟨rfl, rfl⟩) | (go_at_call 29; (with_reducible refine (CO2.out _).mono ?_); rintro r31 w31 ⟨rfl, rfl⟩) | (go_at_call 29; (with_reducible refine (CY2.out _).mono ?_); rintro r32 w32 ⟨rfl, rfl⟩))
      go_ret
      exact ⟨by rw [E3.out false (by simp)]; rfl, TB.out⟩
    · go_wp2_with (first | (go_at_call 29; (with_reducible refine (CL2.out _).mono ?_); rintro r30 w30 ⟨rfl, rfl⟩) | (go_at_call 29; (with_reducible refine (CO2.out _).mono ?_); rintro r31 w31 ⟨rfl, rfl⟩) | (go_at_call 29; (with_reducible refine (CY2.out _).mono ?_); rintro r32 w32 ⟨rfl, rfl⟩))
      go_ret
      exact ⟨by rw [E3.out true (by simp)]; rfl, TB.out⟩
end Go.Proofs.Ythdmjeoldnehcaa
