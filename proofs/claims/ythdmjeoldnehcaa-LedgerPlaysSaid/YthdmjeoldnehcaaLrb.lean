/- The walk of the ledger's Run. Condition: the actions lie in memory; at most 120 of them. -/
import Derived.Test.YthdmjeoldnehcaaLra
namespace Go.Proofs.Ythdmjeoldnehcaa
open Go.RowKit
set_option linter.unusedVariables false
set_option linter.unusedSimpArgs false

/-- A slice (its address A) holds the actions ls, all of them below block B. -/
def Acts (w : World) (B : Nat) (A : Option Addr) (ls : List Ac) : Prop := ∀ (i : Nat) (h : i < ls.length), ∃ b o, A = some ⟨b, o, none⟩ ∧ b < B ∧ w.rangeAt b (o + i * 7) (ls[i]).cells
theorem Acts.below {w w' : World} {B B' : Nat} {A : Option Addr} {ls : List Ac} (h : Acts w B A ls) (hb : Below B' w w') (hB : B ≤ B') : Acts w' B A ls := fun i hi => by
  obtain ⟨b, o, e, hl, h1⟩ := h i hi
  exact ⟨b, o, e, hl, fun j v hv => (hb.cell (p := ⟨b, _, none⟩) (Nat.lt_of_lt_of_le hl hB)).trans (h1 j v hv)⟩
/-- The rows behind the first k actions. -/
def stp (bad : Nat) (ls : List Ac) (k : Nat) : List Rw := (ls.take k).foldl (step bad) []
theorem stp_zero (bad : Nat) (ls : List Ac) : stp bad ls 0 = [] := by simp [stp]
theorem stp_succ (bad : Nat) (ls : List Ac) (k : Nat) (h : k < ls.length) : stp bad ls (k + 1) = step bad (stp bad ls k) ls[k] := by
  unfold stp
  rw [List.take_succ_eq_append_getElem h, List.foldl_append]
  rfl
theorem putRow_len (rows : List Rw) (r : Rw) : (putRow rows r).length ≤ rows.length + 1 := by
  unfold putRow
  split
  · simp
  · simp
theorem step_len (bad : Nat) (rows : List Rw) (a : Ac) : (step bad rows a).length ≤ rows.length + 1 := by
  unfold step
  split
  · exact putRow_len _ _
  · omega
theorem stp_len (bad : Nat) (ls : List Ac) : ∀ k, k ≤ ls.length → (stp bad ls k).length ≤ k
  | 0, _ => by rw [stp_zero]; simp
  | k + 1, h => by
    rw [stp_succ bad ls k h]
    have := step_len bad (stp bad ls k) ls[k]
    have := stp_len bad ls k (by omega)
    omega
theorem size_ac (a : Ac) : (Try.prog.info? 35).map (·.size) = some a.cells.toArray.size := by
  show _ = some 7
  kernel_rfl
theorem one_ac (a : Ac) : a.cells.toArray.all (·.oneCell') = true := by simp [Ac.cells, Value.oneCell']
def zac : List Value := Ac.cells ⟨0, ⟨0, 0, 0⟩, 0, false, 0⟩
/-- A ledger of a call's own, behind some actions. -/
structure Rm (w : World) (g mb bad : Nat) (rows : List Rw) (W : World) : Prop where
  l : ∃ sl, Lg W w.heap.size g mb sl bad rows
  b : Below w.heap.size w W
theorem Rm.bel {w : World} {g mb bad : Nat} {rows : List Rw} {W W' : World} (h : Rm w g mb bad rows W) (hb : Below W.heap.size W W') : Rm w g mb bad rows W' := ⟨h.l.imp fun sl hl => hl.bel hb, below_acc h.b hb⟩
theorem Rm.done {w : World} {g mb bad : Nat} {rows rows' : List Rw} {W W' : World} {sl : Value} (hl : Lg W w.heap.size g mb sl bad rows) (hb : Below w.heap.size w W) (h : Done W w.heap.size g mb sl bad rows' W') : Rm w g mb bad rows' W' := by
  obtain ⟨sl', h1, h2, h3⟩ := h
  exact ⟨⟨sl', h1⟩, h3.below hb hb.size (fun n hn => hl.bl_le n hn)⟩
theorem Rm.apply {w : World} {g mb bad : Nat} {rows : List Rw} {W : World} (h : Rm w g mb bad rows W) (a : Ac) (hlen : rows.length ≤ 100000) (hbad : bad < 256) (horgs : a.orgs < 256) :
    Calls Try.prog 14 #[.pointer (some ⟨g, 0, none⟩), .agg a.cells.toArray] W fun r w' => r = .returned (.int .i64 (errOf bad rows a : Int)) ∧ Rm w g mb bad (step bad rows a) w' := by
  obtain ⟨⟨sl, hl⟩, hb⟩ := h
  exact (Apply_any hl a hlen hbad horgs hb.size).mono fun e w' ⟨h1, h2⟩ => ⟨h1, Rm.done hl hb h2⟩

set_option maxHeartbeats 4000000 in
theorem Run_any (A : Option Addr) (cap bad : Nat) (ls : List Ac) (w : World) (hT : Acts w w.heap.size A ls) (hl : ls.length ≤ 120) (hbad : bad < 256) (ho : ∀ a ∈ ls, a.orgs < 256) :
    Calls Try.prog 8 #[.int .u8 (bad : Int), .slice A ls.length cap] w fun e w' =>
      (∃ g mb, e = .returned (.tuple #[.pointer (some ⟨g, 0, none⟩), .int .i64 (ls.length : Int), .int .i64 0]) ∧ (∀ j (h : j < ls.length), errOf bad (stp bad ls j) ls[j] = 0) ∧ Rm w g mb bad (stp bad ls ls.length) w') ∨
      (∃ (k : Nat) (h : k < ls.length), (∀ j (h : j < k), errOf bad (stp bad ls j) (ls[j]'(by omega)) = 0) ∧ errOf bad (stp bad ls k) ls[k] ≠ 0 ∧ e = .returned (.tuple #[.pointer none, .int .i64 (k : Int), .int .i64 (errOf bad (stp bad ls k) ls[k] : Int)]) ∧ Below w.heap.size w w') := by
  have CN := Lib.hid (New_any bad w)
  go_enter Try.func8, Try.ntmps8
  go_upto_region 3 with (go_at_call 13; refine CN.out.mono ?_; rintro e w1 ⟨rfl, hL, hb⟩; have R0 : Hid (Rm w (w.heap.size + 1) w.heap.size bad (stp bad ls 0) w1) := ⟨⟨_, by rw [stp_zero]; exact hL⟩, hb⟩; clear hL hb)
  clear CN
  have HO := Lib.hid ho
  have HT := Lib.hid hT
  clear ho hT
  go_loopw [4, 14] (fun gp i wr => ∃ k : Nat, gp = .pointer (some ⟨w.heap.size + 1, 0, none⟩) ∧ i = .int .i64 (k : Int) ∧ k ≤ ls.length ∧ Hid (Rm w (w.heap.size + 1) w.heap.size bad (stp bad ls k) wr ∧ ∀ j (hj : j < k) (h : j < ls.length), errOf bad (stp bad ls j) ls[j] = 0)) (fun _ i _ => ls.length - (intOf i).toNat)
  case atStart => exact ⟨0, rfl, rfl, by omega, R0.out, fun j hj => by omega⟩
  case round =>
    clear R0
    obtain ⟨k, rfl, rfl, hk, H⟩ := hrel
    by_cases hkl : k < ls.length
    · obtain ⟨b, o, rfl, hbl, hr⟩ := HT.out k hkl
      have hlen := stp_len bad ls k hk
      have horg := HO.out ls[k] (List.getElem_mem hkl)
      have HR : Hid (wr.rangeAt b (o + k * 7) (ls[k]).cells) := fun j v hv => (H.out.1.b.cell (p := ⟨b, _, none⟩) hbl).trans (hr j v hv)
      have HS := Lib.hid (stp_succ bad ls k hkl)
      have nxt : Hid (errOf bad (stp bad ls k) ls[k] = 0 → ∀ j (hj : j < k + 1) (h : j < ls.length), errOf bad (stp bad ls j) ls[j] = 0) := fun he j hj h => by
        by_cases hjk : j = k
        · subst hjk; exact he
        · exact H.out.2 j (by omega) h
      have fin : Hid (errOf bad (stp bad ls k) ls[k] ≠ 0 → ∀ W, Below w.heap.size w W → (∃ g mb, (Ending.returned (.tuple #[.pointer none, .int .i64 (k : Int), .int .i64 (errOf bad (stp bad ls k) ls[k] : Int)]) : Ending) = .returned (.tuple #[.pointer (some ⟨g, 0, none⟩), .int .i64 (ls.length : Int), .int .i64 0]) ∧ (∀ j (h : j < ls.length), errOf bad (stp bad ls j) ls[j] = 0) ∧ Rm w g mb bad (stp bad ls ls.length) W) ∨
          (∃ (k2 : Nat) (h : k2 < ls.length), (∀ j (h : j < k2), errOf bad (stp bad ls j) (ls[j]'(by omega)) = 0) ∧ errOf bad (stp bad ls k2) ls[k2] ≠ 0 ∧ (Ending.returned (.tuple #[.pointer none, .int .i64 (k : Int), .int .i64 (errOf bad (stp bad ls k) ls[k] : Int)]) : Ending) = .returned (.tuple #[.pointer none, .int .i64 (k2 : Int), .int .i64 (errOf bad (stp bad ls k2) ls[k2] : Int)]) ∧ Below w.heap.size w W)) := fun he W hb =>
        .inr ⟨k, hkl, fun j hj => H.out.2 j hj (by omega), he, rfl, hb⟩
      have CA := fun W (hR : Rm w (w.heap.size + 1) w.heap.size bad (stp bad ls k) W) => hR.apply ls[k] (by omega) hbad horg
      rw [← HS.out] at CA
      have kb : 0 ≤ (k : Int) ∧ (k : Int) < (ls.length : Int) := by omega
      have kw : IntKind.i64.wrap ((k : Int) + 1) = (k : Int) + 1 := IntWalk.i64_in _ (by omega)
      have R1 := Lib.hid H.out.1
      clear H HT hr HS horg
      generalize ls[k] = a at HR nxt fin CA
      generalize errOf bad (stp bad ls k) a = er at nxt fin CA
      have CA := Lib.hid CA
      by_cases he : er = 0
      · subst he
        have nxt2 := Lib.hid (nxt.out rfl)
        clear nxt
        clear fin
        go_upto_region 5 with (first
          | (refine wpList_load_mid rfl 35 _ rfl b (o + k * 7) (by rfl) a.cells _ HR.out Try.underlying35 rfl (size_ac a) ?_)
          | (refine wpList_store_put rfl 35 _ _ rfl wr.heap.size a.cells.toArray (by rfl) (by rfl) 35 _ (heap_alloc_new wr (.cells zac.toArray 35 (0, 0))) (size_ac _) (by rfl) (one_ac _) ?_; intro W3 P3; have R3 := Lib.hid (R1.out.bel (P3.below ((Below.refl wr.heap.size wr).alloc (Nat.le_refl _) _) (Nat.le_refl _))); have H3 := Lib.hid P3.here; clear P3))
        go_wp2_with (first
          | (refine wpList_load_row rfl 35 _ rfl wr.heap.size (by rfl) 35 _ (0, 0) _ H3.out Try.underlying35 rfl (size_ac _) ?_)
          | (go_at_call 14; refine (CA.out _ R3.out).mono ?_; rintro e W4 ⟨rfl, hR⟩; have R4 := Lib.hid hR; clear hR))
        go_roundw
        case rel => exact ⟨k + 1, rfl, by go_num, by omega, R4.out, nxt2.out⟩
        case measure => simp [intOf]; omega
      · have d1 : ((er : Int) != 0) = true := by simp; omega
        have fin := Lib.hid (fin.out he)
        clear nxt he
        go_upto_region 5 with (first
          | (refine wpList_load_mid rfl 35 _ rfl b (o + k * 7) (by rfl) a.cells _ HR.out Try.underlying35 rfl (size_ac a) ?_)
          | (refine wpList_store_put rfl 35 _ _ rfl wr.heap.size a.cells.toArray (by rfl) (by rfl) 35 _ (heap_alloc_new wr (.cells zac.toArray 35 (0, 0))) (size_ac _) (by rfl) (one_ac _) ?_; intro W3 P3; have R3 := Lib.hid (R1.out.bel (P3.below ((Below.refl wr.heap.size wr).alloc (Nat.le_refl _) _) (Nat.le_refl _))); have H3 := Lib.hid P3.here; clear P3))
        go_wp2_with (first
          | (refine wpList_load_row rfl 35 _ rfl wr.heap.size (by rfl) 35 _ (0, 0) _ H3.out Try.underlying35 rfl (size_ac _) ?_)
          | (go_at_call 14; refine (CA.out _ R3.out).mono ?_; rintro e W4 ⟨rfl, hR⟩; have R4 := Lib.hid hR.b; clear hR))
        exact bodyPost_ret (results_tmp3 (t := 4) (u := 5) (v := 6) rfl _ _ _) rfl (fin.out _ R4.out)
    · obtain rfl : k = ls.length := by omega
      have FH := Lib.hid (fun j (h : j < ls.length) => H.out.2 j h h)
      have R1 := Lib.hid H.out.1
      clear H HT
      go_wp2_with fail
      exact bodyPost_ret (results_tmp3 (t := 4) (u := 5) (v := 6) rfl _ _ _) rfl (.inl ⟨_, _, rfl, FH.out, R1.out⟩)
end Go.Proofs.Ythdmjeoldnehcaa
