/- The walk of DiskPlays: what a disk has, and what it answers, whatever is done. Condition: the numbers fit. -/
import Derived.Test.YtnbdkabffdaikaaDski
import Derived.Test.YtnbdkabffdaikaaDskn
namespace Go.Proofs.Ytnbdkabffdaikaa
open Go.RowKit
set_option linter.unusedVariables false

theorem Bs.kept_ref {w w' : World} {g : Nat} {A : Option Addr} {l : List UInt8} {cs : Array Value} (h : Bs w A l) (hg : w.grownBy w' (some g)) (hd : w.heap[g]? = some (.cells cs 57 (0, 0))) : Bs w' A l := fun i hi => by
  obtain ⟨b, o, ds, e, hb, hc⟩ := h i hi
  have hne : b ≠ g := by
    rintro rfl
    rw [hd] at hb
    injection hb with hb
    injection hb with _ ht
    exact absurd ht (by decide)
  exact ⟨b, o, ds, e, (hg.block b (Array.getElem?_eq_some_iff.1 hb).1 (fun e => hne (Option.some.inj e))).trans hb, hc⟩
theorem heap_of_same {W W' : World} {g : Nat} {s : DS} (h : DiskAt W g s) (e : W'.heap = W.heap) : DiskAt W' g s := by
  obtain ⟨A, c, h1, h2, h3, h4⟩ := h
  refine ⟨A, c, by rw [e]; exact h1, h2, h3, fun i hi => ?_⟩
  obtain ⟨b, o, cs, q1, q2, q3⟩ := h4 i hi
  exact ⟨b, o, cs, q1, by rw [e]; exact q2, q3⟩

/-- A disk of the call's own beside a reference's disk. -/
structure Both (w W : World) (g g' : Nat) (s : DS) (r : RS) : Prop where
  d : DiskAt W g s
  o : RefAt W g' r
  b : Below w.heap.size w W
  h : w.heap.size ≤ g
  h' : w.heap.size ≤ g'
  ne : g ≠ g'

abbrev SameMemB (W' W : World) : Prop := W'.heap = W.heap ∧ W'.os = W.os ∧ W'.tape = W.tape ∧ W'.output = W.output
theorem below_memB {B : Nat} {w W W' : World} (h : Below B w W) (e : SameMemB W' W) : Below B w W' :=
  ⟨e.2.1.trans h.os, e.2.2.1.trans h.tape, e.2.2.2.trans h.output, by rw [e.1]; exact h.size, fun k hk => by rw [e.1]; exact h.block k hk⟩
theorem Both.left {w W W' w3 : World} {g g' : Nat} {s t : DS} {r : RS} (H : Both w W g g' s r) (e : SameMemB W' W) (D : DiskAt w3 g t) (G : W'.grownBy w3 (some g)) : Both w w3 g g' t r := by
  have ho : RefAt W' g' r := H.o.heap e.1
  exact ⟨D, (G.block g' (ref_cells ho).2.2.2.2.2.2 (fun e => H.ne (Option.some.inj e).symm)).trans ho, below_of_grown (below_memB H.b e) G H.h, H.h, H.h', H.ne⟩
theorem Both.right {w W W' w3 : World} {g g' : Nat} {s : DS} {r q : RS} (H : Both w W g g' s r) (e : SameMemB W' W) (D : RefAt w3 g' q) (G : W'.grownBy w3 (some g')) : Both w w3 g g' s q := by
  obtain ⟨A, c, h1, h2, h3, h4⟩ := heap_of_same H.d e.1
  have ho : RefAt W' g' r := H.o.heap e.1
  exact ⟨⟨A, c, (G.block g (Array.getElem?_eq_some_iff.1 h1).1 (fun e => H.ne (Option.some.inj e))).trans h1, h2, h3, h4.kept_ref G ho⟩, D, below_of_grown (below_memB H.b e) G H.h', H.h, H.h', H.ne⟩
theorem row3_kept {w W : World} {B b o1 o2 o3 : Nat} {x1 x2 x3 : Value} (h : Below B w W) (hb : b < B) (c : w.cell? ⟨b, o1, none⟩ = some x1 ∧ w.cell? ⟨b, o2, none⟩ = some x2 ∧ w.cell? ⟨b, o3, none⟩ = some x3) :
    W.cell? ⟨b, o1, none⟩ = some x1 ∧ W.cell? ⟨b, o2, none⟩ = some x2 ∧ W.cell? ⟨b, o3, none⟩ = some x3 :=
  ⟨(h.cell (p := ⟨b, o1, none⟩) hb).trans c.1, (h.cell (p := ⟨b, o2, none⟩) hb).trans c.2.1, (h.cell (p := ⟨b, o3, none⟩) hb).trans c.2.2⟩

set_option maxRecDepth 20000 in
set_option maxHeartbeats 4000000 in
theorem DiskPlays_walk (room : Int) (A : Option Addr) (c : Nat) (ls : List Stp) (r0 : -9223372036854775808 ≤ room) (r1 : room ≤ 9223372036854775807)
    (hl : ls.length ≤ 9223372036854775807) (hx : ∀ x ∈ ls, x.s.length ≤ 9223372036854775807) (ha : ∀ x ∈ ls, 0 ≤ x.act ∧ x.act ≤ 255 ∧ x.n ≤ 9223372036854775807) (w : World) (hT : Steps w w.heap.size A ls) :
    Calls Try.prog 6 #[.int .i64 room, .slice A ls.length c] w fun e w' => e = .returned (.bool true) ∧ Below w.heap.size w w' := by
  have HV := heavy_any A c ls hl hx w.heap.size w hT
  cases hh : heavyB ls
  · rw [hh] at HV
    have HH := Lib.hid HV
    clear HV hh
    by_cases hroom : room < 0 ∨ 1048576 < room
    · have NB := Lib.hid (New_bad room hroom)
      have NR := Lib.hid (rNew_bad room hroom)
      have B0 : Below w.heap.size w w := Below.refl _ _
      clear hT hroom hx ha
      go_enter Try.func6, Try.ntmps6
      go_wp2_with (first
        | (go_at_call 16; (with_reducible refine HH.out.mono ?_); rintro e w1 ⟨rfl, rfl⟩)
        | (go_at_call 8; (with_reducible refine (NB.out _).mono ?_); rintro e w1 ⟨rfl, rfl⟩)
        | (go_at_call 21; (with_reducible refine (NR.out _).mono ?_); rintro e w1 ⟨rfl, rfl⟩)
        | (go_at_call 22; (with_reducible refine (nothing_any _).mono ?_); rintro e w1 ⟨rfl, hb⟩; have B0 := below_step B0 hb ⟨rfl, rfl, rfl, rfl⟩; clear hb)
        | (go_at_call 7; (with_reducible refine (alive_any _).mono ?_); rintro e w1 ⟨rfl, hb⟩; have B0 := below_step B0 hb ⟨rfl, rfl, rfl, rfl⟩; clear hb))
      go_ret
      exact ⟨rfl, B0⟩
    · have q0 : 0 ≤ room := by omega
      have q1 : room ≤ 1048576 := by omega
      clear hroom
      go_enter Try.func6, Try.ntmps6
      go_wp2_with (go_at_call 16; (with_reducible refine HH.out.mono ?_); rintro e w1 ⟨rfl, rfl⟩)
      refine (New_fresh room q0 q1 _).mono ?_
      rintro e w1 ⟨rfl, D, B⟩
      go_wp2_with fail
      refine (rNew_good room q0 q1 _).mono ?_
      rintro e w2 ⟨rfl, O, B2⟩
      have hne : w.heap.size ≠ w1.heap.size := Nat.ne_of_lt (block_lt_of_cell (cells_of D).1)
      have H0 := Lib.hid (show Both w w2 w.heap.size w1.heap.size _ _ from ⟨DiskAt.below D B2, O, below_acc B B2, Nat.le_refl _, B.size, hne⟩)
      have G0 : Hid (Good ⟨[], 0, false, false, 0, room⟩ ∧ Sim ⟨[], 0, false, false, 0, room⟩ ⟨room, -1, [], [], false⟩) := ⟨⟨by show 0 ≤ room; omega, by show room ≤ _; omega, by show ((0 : Nat) : Int) ≤ room; omega, by simp, by simp, by simp, by simp⟩, ⟨rfl, rfl, rfl, rfl, rfl⟩⟩
      clear D O B B2 HH hne
      go_wp2_with fail
      go_loopw [8] (fun k wr => ∃ (j : Nat) (s : DS) (r : RS), j ≤ ls.length ∧ k = .int .i64 j ∧ Both w wr w.heap.size w1.heap.size s r ∧ Good s ∧ Sim s r) (fun k _ => ls.length - (intOf k).toNat)
      case atStart => exact ⟨0, _, _, by omega, rfl, H0.out, G0.out.1, G0.out.2⟩
      case round =>
        obtain ⟨j, s, r, hj, rfl, H, hG, hS⟩ := hrel
        clear H0 G0
        by_cases hkj : j < ls.length
        · obtain ⟨b, o, rfl, hbB, c0, c1, c2⟩ := hT j hkj
          have hxj := hx ls[j] (List.getElem_mem hkj)
          have haj := ha ls[j] (List.getElem_mem hkj)
          clear hT hx ha
          generalize ls[j] = x at c0 c1 c2 hxj haj
          have C := Lib.hid (And.intro c0 (And.intro c1 c2))
          have g := row3_kept H.b hbB C.out
          have kb : 0 ≤ (j : Int) ∧ (j : Int) < (ls.length : Int) := by omega
          have HF := Lib.hid (sim_fits hS hG)
          have hst := sim_step hS hG x
          have CW : Hid (∀ W, RefAt W w1.heap.size r → Calls Try.prog 23 #[.pointer (some ⟨w1.heap.size, 0, none⟩), .agg #[.int .u8 x.act, .int .i64 x.n, str x.s]] W fun e w' => e = .returned (.int .i64 (stepS s x).2) ∧ RefAt w' w1.heap.size (refStep r x).1 ∧ W.grownBy w' (some w1.heap.size)) := by
            intro W hW
            rw [hst.2]
            exact would_any _ r x W hW HF.out haj.1 haj.2.1 haj.2.2 hxj
          have HS := Lib.hid (And.intro hst.1 (good_step hG x haj.2.2))
          have HG := Lib.hid hG
          clear c0 c1 c2 hG hS hst HF
          go_wp2_with fail
          go_region_held3 (fun w' => w'.cell? ⟨b, o + j * 3, none⟩ = some (.int .u8 x.act) ∧ w'.cell? ⟨b, o + j * 3 + 1, none⟩ = some (.int .i64 x.n) ∧ w'.cell? ⟨b, o + j * 3 + 2, none⟩ = some (str x.s))
            (first | assumption | exact g | exact row3_kept H.b hbB C.out | exact row3_kept H.b.drew hbB C.out)
            (first
              | (go_at_call 18; (with_reducible refine (does_any w.heap.size _ x _ ?_ HG.out haj.1 haj.2.1 haj.2.2 hxj).mono ?_); exact heap_of_same H.d rfl; rintro e w3 ⟨rfl, D3, G3⟩; have H := H.left (by exact ⟨rfl, rfl, rfl, rfl⟩) D3 G3; clear D3 G3)
              | (go_at_call 23; (with_reducible refine (CW.out _ ?_).mono ?_); exact H.o.heap rfl; rintro e w3 ⟨rfl, D3, G3⟩; have H := H.right (by exact ⟨rfl, rfl, rfl, rfl⟩) D3 G3; clear D3 G3)
              | (go_at_call 24; (with_reducible refine (alike_any w.heap.size w1.heap.size _ _ _ ?_ ?_ HS.out.1 HS.out.2).mono ?_); exact heap_of_same H.d rfl; exact H.o.heap rfl; rintro e w3 ⟨rfl, nd, rfl⟩))
          rename_i hHeld
          have HH : Hid (Both w (w3.drewN nd) w.heap.size w1.heap.size (stepS s x).1 (refStep r x).1) := ⟨heap_of_same H.d rfl, H.o.heap rfl, below_drewN H.b _, H.h, H.h', H.ne⟩
          clear hHeld H g CW
          go_wp2_with fail
          go_roundw
          case rel => exact ⟨j + 1, _, _, by omega, by go_num, HH.out, HS.out.2, HS.out.1⟩
          case measure => simp [intOf]; omega
        · clear hT hx ha
          have B0 := H.b
          clear H hG hS
          go_wp2_with (first
            | (go_at_call 22; (with_reducible refine (nothing_any _).mono ?_); rintro e w3 ⟨rfl, hb⟩; have B0 := below_step B0 hb ⟨rfl, rfl, rfl, rfl⟩; clear hb)
            | (go_at_call 7; (with_reducible refine (alive_any _).mono ?_); rintro e w3 ⟨rfl, hb⟩; have B0 := below_step B0 hb ⟨rfl, rfl, rfl, rfl⟩; clear hb))
          go_ret
          exact ⟨rfl, B0⟩
  · rw [hh] at HV
    have HH := Lib.hid HV
    clear HV hh hT hx ha
    go_enter Try.func6, Try.ntmps6
    go_wp2_with (first
      | (go_at_call 16; (with_reducible refine HH.out.mono ?_); rintro e w1 ⟨rfl, rfl⟩)
      | (go_at_call 7; refine (alive_any _).mono ?_; rintro e w1 ⟨rfl, hb⟩))
    go_ret
    exact ⟨rfl, hb⟩
end Go.Proofs.Ytnbdkabffdaikaa
