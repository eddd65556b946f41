/- The walk of DiskCopy: a copy is the same, and goes on by itself. Condition: the numbers fit. -/
import Derived.Test.YtnbdkabffdaikaaDskq
namespace Go.Proofs.Ytnbdkabffdaikaa
open Go.RowKit
set_option linter.unusedVariables false

theorem DiskAt.heap {W W' : World} {g : Nat} {s : DS} (h : DiskAt W g s) (e : W'.heap = W.heap) : DiskAt W' g s := by
  obtain ⟨A, c, h1, h2, h3, h4⟩ := h
  refine ⟨A, c, by rw [e]; exact h1, h2, h3, fun i hi => ?_⟩
  obtain ⟨b, o, cs, q1, q2, q3⟩ := h4 i hi
  exact ⟨b, o, cs, q1, by rw [e]; exact q2, q3⟩

/-- Two disks of the call's own, side by side. -/
structure Duo (w W : World) (g g' : Nat) (s s' : DS) : Prop where
  d : DiskAt W g s
  o : DiskAt W g' s'
  b : Below w.heap.size w W
  h : w.heap.size ≤ g
  h' : w.heap.size ≤ g'
  ne : g ≠ g'

abbrev SameMem (W' W : World) : Prop := W'.heap = W.heap ∧ W'.os = W.os ∧ W'.tape = W.tape ∧ W'.output = W.output
theorem below_mem {B : Nat} {w W W' : World} (h : Below B w W) (e : SameMem W' W) : Below B w W' :=
  ⟨e.2.1.trans h.os, e.2.2.1.trans h.tape, e.2.2.2.trans h.output, by rw [e.1]; exact h.size, fun k hk => by rw [e.1]; exact h.block k hk⟩
theorem Duo.left {w W W' w3 : World} {g g' : Nat} {s s' t : DS} (H : Duo w W g g' s s') (e : SameMem W' W) (D : DiskAt w3 g t) (G : W'.grownBy w3 (some g)) : Duo w w3 g g' t s' :=
  ⟨D, DiskAt.other (H.o.heap e.1) (H.d.heap e.1) H.ne.symm G, below_of_grown (below_mem H.b e) G H.h, H.h, H.h', H.ne⟩
theorem Duo.right {w W W' w3 : World} {g g' : Nat} {s s' t : DS} (H : Duo w W g g' s s') (e : SameMem W' W) (D : DiskAt w3 g' t) (G : W'.grownBy w3 (some g')) : Duo w w3 g g' s t :=
  ⟨DiskAt.other (H.d.heap e.1) (H.o.heap e.1) H.ne G, D, below_of_grown (below_mem H.b e) G H.h', H.h, H.h', H.ne⟩
theorem Duo.mem {w W W' : World} {g g' : Nat} {s s' : DS} (H : Duo w W g g' s s') (e : SameMem W' W) : Duo w W' g g' s s' := ⟨H.d.heap e.1, H.o.heap e.1, below_mem H.b e, H.h, H.h', H.ne⟩

theorem row3_keep {w W : World} {B b o1 o2 o3 : Nat} {x1 x2 x3 : Value} (h : Below B w W) (hb : b < B) (c : w.cell? ⟨b, o1, none⟩ = some x1 ∧ w.cell? ⟨b, o2, none⟩ = some x2 ∧ w.cell? ⟨b, o3, none⟩ = some x3) :
    W.cell? ⟨b, o1, none⟩ = some x1 ∧ W.cell? ⟨b, o2, none⟩ = some x2 ∧ W.cell? ⟨b, o3, none⟩ = some x3 :=
  ⟨(h.cell (p := ⟨b, o1, none⟩) hb).trans c.1, (h.cell (p := ⟨b, o2, none⟩) hb).trans c.2.1, (h.cell (p := ⟨b, o3, none⟩) hb).trans c.2.2⟩

set_option maxRecDepth 20000 in
set_option maxHeartbeats 4000000 in
theorem DiskCopy_walk (room : Int) (A A1 A2 : Option Addr) (c c1 c2 : Nat) (ls la lb : List Stp) (r0 : -9223372036854775808 ≤ room) (r1 : room ≤ 9223372036854775807)
    (hl : ls.length ≤ 9223372036854775807) (hx : ∀ x ∈ ls, x.s.length ≤ 9223372036854775807) (ha : ∀ x ∈ ls, 0 ≤ x.act ∧ x.act ≤ 255 ∧ x.n ≤ 9223372036854775807)
    (hl1 : la.length ≤ 9223372036854775807) (hx1 : ∀ x ∈ la, x.s.length ≤ 9223372036854775807) (ha1 : ∀ x ∈ la, 0 ≤ x.act ∧ x.act ≤ 255 ∧ x.n ≤ 9223372036854775807)
    (hl2 : lb.length ≤ 9223372036854775807) (hx2 : ∀ x ∈ lb, x.s.length ≤ 9223372036854775807) (ha2 : ∀ x ∈ lb, 0 ≤ x.act ∧ x.act ≤ 255 ∧ x.n ≤ 9223372036854775807)
    (w : World) (hT : Steps w w.heap.size A ls) (hT1 : Steps w w.heap.size A1 la) (hT2 : Steps w w.heap.size A2 lb) :
    Calls Try.prog 5 #[.int .i64 room, .slice A ls.length c, .slice A1 la.length c1, .slice A2 lb.length c2] w fun e w' => e = .returned (.bool true) ∧ Below w.heap.size w w' := by
  have HV := Lib.hid (heavy_any A c ls hl hx w.heap.size w hT)
  have HV1 := Lib.hid (heavy_any A1 c1 la hl1 hx1 w.heap.size w hT1)
  have HV2 := Lib.hid (heavy_any A2 c2 lb hl2 hx2 w.heap.size w hT2)
  by_cases hh : heavyB ls = true ∨ heavyB la = true ∨ heavyB lb = true
  · clear hT hT1 hT2 hx ha hx1 ha1 hx2 ha2
    rcases Bool.eq_false_or_eq_true (heavyB ls) with h1 | h1
    · rw [h1] at HV
      clear hh h1
      go_enter Try.func5, Try.ntmps5
      go_wp2_with (first
        | (go_at_call 16; (with_reducible refine HV.out.mono ?_); rintro e w1 ⟨rfl, rfl⟩)
        | (go_at_call 7; refine (alive_any _).mono ?_; rintro e w1 ⟨rfl, hb⟩))
      go_ret
      exact ⟨rfl, hb⟩
    rcases Bool.eq_false_or_eq_true (heavyB la) with h2 | h2
    · rw [h1] at HV
      rw [h2] at HV1
      clear hh h1 h2
      go_enter Try.func5, Try.ntmps5
      go_wp2_with (first
        | (go_at_call 16; (with_reducible refine HV.out.mono ?_); rintro e w1 ⟨rfl, rfl⟩)
        | (go_at_call 16; (with_reducible refine HV1.out.mono ?_); rintro e w1 ⟨rfl, rfl⟩)
        | (go_at_call 7; refine (alive_any _).mono ?_; rintro e w1 ⟨rfl, hb⟩))
      go_ret
      exact ⟨rfl, hb⟩
    · have h3 : heavyB lb = true := by simpa [h1, h2] using hh
      rw [h1] at HV
      rw [h2] at HV1
      rw [h3] at HV2
      clear hh h1 h2 h3
      go_enter Try.func5, Try.ntmps5
      go_wp2_with (first
        | (go_at_call 16; (with_reducible refine HV.out.mono ?_); rintro e w1 ⟨rfl, rfl⟩)
        | (go_at_call 16; (with_reducible refine HV1.out.mono ?_); rintro e w1 ⟨rfl, rfl⟩)
        | (go_at_call 16; (with_reducible refine HV2.out.mono ?_); rintro e w1 ⟨rfl, rfl⟩)
        | (go_at_call 7; refine (alive_any _).mono ?_; rintro e w1 ⟨rfl, hb⟩))
      go_ret
      exact ⟨rfl, hb⟩
  · have h1 : heavyB ls = false := by simpa using (not_or.1 hh).1
    have h2 : heavyB la = false := by simpa using (not_or.1 (not_or.1 hh).2).1
    have h3 : heavyB lb = false := by simpa using (not_or.1 (not_or.1 hh).2).2
    rw [h1] at HV
    rw [h2] at HV1
    rw [h3] at HV2
    clear hh h1 h2 h3
    by_cases hroom : room < 0 ∨ 1048576 < room
    · have NB := Lib.hid (New_bad room hroom)
      clear hT hT1 hT2 hx ha hx1 ha1 hx2 ha2 hroom
      go_enter Try.func5, Try.ntmps5
      go_wp2_with (first
        | (go_at_call 16; (with_reducible refine HV.out.mono ?_); rintro e w1 ⟨rfl, rfl⟩)
        | (go_at_call 16; (with_reducible refine HV1.out.mono ?_); rintro e w1 ⟨rfl, rfl⟩)
        | (go_at_call 16; (with_reducible refine HV2.out.mono ?_); rintro e w1 ⟨rfl, rfl⟩)
        | (go_at_call 8; (with_reducible refine (NB.out _).mono ?_); rintro e w1 ⟨rfl, rfl⟩)
        | (go_at_call 7; refine (alive_any _).mono ?_; rintro e w1 ⟨rfl, hb⟩))
      go_ret
      exact ⟨rfl, hb⟩
    · have q0 : 0 ≤ room := by omega
      have q1 : room ≤ 1048576 := by omega
      clear hroom
      go_enter Try.func5, Try.ntmps5
      go_wp2_with (first
        | (go_at_call 16; (with_reducible refine HV.out.mono ?_); rintro e w1 ⟨rfl, rfl⟩)
        | (go_at_call 16; (with_reducible refine HV1.out.mono ?_); rintro e w1 ⟨rfl, rfl⟩)
        | (go_at_call 16; (with_reducible refine HV2.out.mono ?_); rintro e w1 ⟨rfl, rfl⟩))
      refine (New_fresh room q0 q1 _).mono ?_
      rintro e w1 ⟨rfl, D, B⟩
      go_wp2_with fail
      refine (New_fresh room q0 q1 _).mono ?_
      rintro e w2 ⟨rfl, O, B2⟩
      have H0 := Lib.hid (show Duo w w2 w.heap.size w1.heap.size _ _ from ⟨DiskAt.below D B2, O, below_acc B B2, Nat.le_refl _, B.size, Nat.ne_of_lt (block_lt_of_cell (cells_of D).1 |> fun h => h)⟩)
      have G0 : Hid (Good ⟨[], 0, false, false, 0, room⟩) := ⟨by show 0 ≤ room; omega, by show room ≤ _; omega, by show ((0 : Nat) : Int) ≤ room; omega, by simp, by simp, by simp, by simp⟩
      clear D O B B2 HV HV1 HV2
      go_wp2_with fail
      go_loopw [13] (fun k wr => ∃ (j : Nat) (s : DS), j ≤ ls.length ∧ k = .int .i64 j ∧ Duo w wr w.heap.size w1.heap.size s s ∧ Good s) (fun k _ => ls.length - (intOf k).toNat)
      case atStart => exact ⟨0, _, by omega, rfl, H0.out, G0.out⟩
      case round =>
        obtain ⟨j, s, hj, rfl, H, hG⟩ := hrel
        clear H0 G0
        by_cases hkj : j < ls.length
        · clear hT1 hT2 hx1 ha1 hx2 ha2
          obtain ⟨b, o, rfl, hbB, c0, c1, c2⟩ := hT j hkj
          have hxj := hx ls[j] (List.getElem_mem hkj)
          have haj := ha ls[j] (List.getElem_mem hkj)
          clear hT hx ha
          generalize ls[j] = x at c0 c1 c2 hxj haj
          have C := Lib.hid (And.intro c0 (And.intro c1 c2))
          have g := row3_keep H.b hbB C.out
          have kb : 0 ≤ (j : Int) ∧ (j : Int) < (ls.length : Int) := by omega
          have HG := Lib.hid hG
          clear c0 c1 c2 hG
          go_wp2_with fail
          go_region_held3 (fun w' => w'.cell? ⟨b, o + j * 3, none⟩ = some (.int .u8 x.act) ∧ w'.cell? ⟨b, o + j * 3 + 1, none⟩ = some (.int .i64 x.n) ∧ w'.cell? ⟨b, o + j * 3 + 2, none⟩ = some (str x.s))
            (first | assumption | exact g | exact row3_keep H.b hbB C.out | exact row3_keep H.b.drew hbB C.out)
            (first
              | (go_at_call 18; (with_reducible refine (does_any w.heap.size _ x _ ?_ HG.out haj.1 haj.2.1 haj.2.2 hxj).mono ?_); exact H.d.heap rfl; rintro e w3 ⟨rfl, D3, G3⟩; have H := H.left (by exact ⟨rfl, rfl, rfl, rfl⟩) D3 G3; clear D3 G3)
              | (go_at_call 18; (with_reducible refine (does_any w1.heap.size _ x _ ?_ HG.out haj.1 haj.2.1 haj.2.2 hxj).mono ?_); exact H.o.heap rfl; rintro e w3 ⟨rfl, D3, G3⟩; have H := H.right (by exact ⟨rfl, rfl, rfl, rfl⟩) D3 G3; clear D3 G3))
          rename_i hHeld
          have HH := Lib.hid H
          clear hHeld H g
          go_wp2_with fail
          go_roundw
          case rel => exact ⟨j + 1, _, by omega, by go_num, HH.out, good_step HG.out x haj.2.2⟩
          case measure => simp [intOf]; omega
        · have HG := Lib.hid hG
          have HS := Lib.hid (show s.bytes.length ≤ 1048576 by have := hG.hl; have := hG.r1; omega)
          clear hT hx ha hG
          go_wp2_with fail
          refine (Copy_any w.heap.size s _ H.d HS.out).mono ?_
          rintro e w3 ⟨g3, rfl, hg3, D3, B3⟩
          have hlt0 := block_lt_of_cell (cells_of H.d).1
          have hlt1 := block_lt_of_cell (cells_of H.o).1
          have H3 := Lib.hid (show Duo w w3 w.heap.size w1.heap.size s s from ⟨H.d.below B3, H.o.below B3, below_acc H.b B3, H.h, H.h', H.ne⟩)
          have N3 : Hid (g3 ≠ w.heap.size ∧ g3 ≠ w1.heap.size ∧ w.heap.size ≤ g3) := ⟨by have := hlt0; simp only at this; omega, by have := hlt1; simp only at this; omega, by have := H.b.size; omega⟩
          clear hlt0 hlt1 H B3 hg3
          go_wp2_with fail
          go_loopw [15] (fun k wr => ∃ (j : Nat) (q : DS), j ≤ la.length ∧ k = .int .i64 j ∧ Duo w wr w.heap.size w1.heap.size s s ∧ DiskAt wr g3 q ∧ Good q) (fun k _ => la.length - (intOf k).toNat)
          case atStart => exact ⟨0, s, by omega, rfl, H3.out, D3, HG.out⟩
          case round =>
            obtain ⟨j2, q, hj2, rfl, H, D, hG⟩ := hrel
            clear H3 D3
            by_cases hkj : j2 < la.length
            · clear hT2 hx2 ha2
              obtain ⟨b, o, rfl, hbB, c0, c1, c2⟩ := hT1 j2 hkj
              have hxj := hx1 la[j2] (List.getElem_mem hkj)
              have haj := ha1 la[j2] (List.getElem_mem hkj)
              clear hT1 hx1 ha1
              generalize la[j2] = x at c0 c1 c2 hxj haj
              obtain ⟨g0, g1, g2⟩ := row3_keep H.b hbB (And.intro c0 (And.intro c1 c2))
              have HG2 := Lib.hid hG
              have HH := Lib.hid H
              have CD := Lib.hid (does_any g3 q x wr D hG haj.1 haj.2.1 haj.2.2 hxj)
              have HD := Lib.hid D
              clear c0 c1 c2 hG H D
              go_wp2_with (go_at_call 18; (with_reducible refine CD.out.mono ?_); rintro e w4 ⟨rfl, D4, G4⟩)
              go_roundw
              case rel =>
                refine ⟨j2 + 1, _, by omega, by go_num, ?_, D4, good_step HG2.out x haj.2.2⟩
                exact ⟨DiskAt.other HH.out.d HD.out N3.out.1.symm G4, DiskAt.other HH.out.o HD.out N3.out.2.1.symm G4, below_of_grown HH.out.b G4 N3.out.2.2, HH.out.h, HH.out.h', HH.out.ne⟩
              case measure => simp [intOf]; omega
            · have H4 := Lib.hid H
              clear H D hG N3 hT1 hx1 ha1
              go_wp2_with fail
              go_loopw [16] (fun k wr => ∃ (j : Nat) (s : DS), j ≤ lb.length ∧ k = .int .i64 j ∧ Duo w wr w.heap.size w1.heap.size s s ∧ Good s) (fun k _ => lb.length - (intOf k).toNat)
              case atStart => exact ⟨0, s, by omega, rfl, H4.out, HG.out⟩
              case round =>
                clear H4 HG HS
                obtain ⟨j3, t, hj3, rfl, H, hG⟩ := hrel
                by_cases hkj : j3 < lb.length
                · obtain ⟨b, o, rfl, hbB, c0, c1, c2⟩ := hT2 j3 hkj
                  have hxj := hx2 lb[j3] (List.getElem_mem hkj)
                  have haj := ha2 lb[j3] (List.getElem_mem hkj)
                  clear hT2 hx2 ha2
                  generalize lb[j3] = x at c0 c1 c2 hxj haj
                  have C := Lib.hid (And.intro c0 (And.intro c1 c2))
                  have g := row3_keep H.b hbB C.out
                  have kb : 0 ≤ (j3 : Int) ∧ (j3 : Int) < (lb.length : Int) := by omega
                  have HG := Lib.hid hG
                  clear c0 c1 c2 hG
                  go_wp2_with fail
                  go_region_held3 (fun w' => w'.cell? ⟨b, o + j3 * 3, none⟩ = some (.int .u8 x.act) ∧ w'.cell? ⟨b, o + j3 * 3 + 1, none⟩ = some (.int .i64 x.n) ∧ w'.cell? ⟨b, o + j3 * 3 + 2, none⟩ = some (str x.s))
                    (first | assumption | exact g | exact row3_keep H.b hbB C.out | exact row3_keep H.b.drew hbB C.out)
                    (first
                      | (go_at_call 18; (with_reducible refine (does_any w.heap.size _ x _ ?_ HG.out haj.1 haj.2.1 haj.2.2 hxj).mono ?_); exact H.d.heap rfl; rintro e w3 ⟨rfl, D3, G3⟩; have H := H.left (by exact ⟨rfl, rfl, rfl, rfl⟩) D3 G3; clear D3 G3)
                      | (go_at_call 18; (with_reducible refine (does_any w1.heap.size _ x _ ?_ HG.out haj.1 haj.2.1 haj.2.2 hxj).mono ?_); exact H.o.heap rfl; rintro e w3 ⟨rfl, D3, G3⟩; have H := H.right (by exact ⟨rfl, rfl, rfl, rfl⟩) D3 G3; clear D3 G3))
                  rename_i hHeld
                  have HH := Lib.hid H
                  clear hHeld H g
                  go_wp2_with fail
                  go_roundw
                  case rel => exact ⟨j3 + 1, _, by omega, by go_num, HH.out, good_step HG.out x haj.2.2⟩
                  case measure => simp [intOf]; omega
                · clear hT2 hx2 ha2
                  have HS := Lib.hid (show t.bytes.length ≤ 1048576 by have := hG.hl; have := hG.r1; omega)
                  have HG := Lib.hid hG
                  clear hG
                  go_wp2_with fail
                  refine (Copy_any w1.heap.size t _ H.o HS.out).mono ?_
                  rintro e w5 ⟨g5, rfl, hg5, D5, B5⟩
                  have hlt0 := block_lt_of_cell (cells_of H.d).1
                  have H5 := Lib.hid (show Duo w w5 w.heap.size g5 t t from ⟨H.d.below B5, D5, below_acc H.b B5, H.h, by have := H.b.size; omega, by have := hlt0; simp only at this; omega⟩)
                  have O5 := Lib.hid (H.o.below B5)
                  have N5 : Hid (w.heap.size ≠ w1.heap.size ∧ g5 ≠ w1.heap.size) := ⟨H.ne, by have := block_lt_of_cell (cells_of H.o).1; simp only at this; omega⟩
                  clear hlt0 H B5 D5 hg5
                  have CB := fun W e => Lib.hid (Bytes_any w.heap.size t W (H5.out.d.heap e))
                  have CB2 := fun W e => Lib.hid (Bytes_any g5 t W (H5.out.o.heap e))
                  have CS := fun W e => Lib.hid (Synced_any w.heap.size t W (H5.out.d.heap e))
                  have CS2 := fun W e => Lib.hid (Synced_any g5 t W (H5.out.o.heap e))
                  have CD := fun W e => Lib.hid (Down_any w.heap.size t W (H5.out.d.heap e))
                  have CD2 := fun W e => Lib.hid (Down_any g5 t W (H5.out.o.heap e))
                  have HB := Lib.hid (And.intro CB CB2)
                  have HY := Lib.hid (And.intro CS CS2)
                  have HW := Lib.hid (And.intro CD CD2)
                  have HL : Hid (0 ≤ t.left ∧ t.left ≤ 9223372036854775807) := ⟨HG.out.l0, HG.out.l1⟩
                  clear CB CB2 CS CS2 CD CD2
                  go_wp2_with (first
                    | (go_at_call 10; (with_reducible refine (HB.out.1 _ rfl).out.mono ?_); rintro e w6 ⟨rfl, rfl⟩)
                    | (go_at_call 10; (with_reducible refine (HB.out.2 _ rfl).out.mono ?_); rintro e w6 ⟨rfl, rfl⟩)
                    | (go_at_call 11; (with_reducible refine (HY.out.1 _ rfl).out.mono ?_); rintro e w6 ⟨rfl, rfl⟩)
                    | (go_at_call 11; (with_reducible refine (HY.out.2 _ rfl).out.mono ?_); rintro e w6 ⟨rfl, rfl⟩)
                    | (go_at_call 13; (with_reducible refine (HW.out.1 _ rfl).out.mono ?_); rintro e w6 ⟨rfl, rfl⟩)
                    | (go_at_call 13; (with_reducible refine (HW.out.2 _ rfl).out.mono ?_); rintro e w6 ⟨rfl, rfl⟩))
                  have H6 := H5.out
                  have O6 := O5.out
                  clear H5 HB HY HW O5
                  refine (Sync_any g5 t w5 H6.o HL.out).mono ?_
                  rintro e w6 ⟨rfl, D6, G6⟩
                  have O7 := Lib.hid (O6.other H6.o N5.out.2.symm G6)
                  have H7 := Lib.hid (H6.right ⟨rfl, rfl, rfl, rfl⟩ D6 G6)
                  clear H6 O6 D6 G6
                  go_wp2_with fail
                  refine (Sync_any w.heap.size t w6 H7.out.d HL.out).mono ?_
                  rintro e w7 ⟨rfl, D8, G8⟩
                  have O8 := Lib.hid (O7.out.other H7.out.d N5.out.1.symm G8)
                  have H8 := Lib.hid (H7.out.left ⟨rfl, rfl, rfl, rfl⟩ D8 G8)
                  have hsy : (syncS t).1.bytes = t.bytes := by unfold syncS; split <;> rfl
                  have CB := Bytes_any w.heap.size _ w7 H8.out.d
                  rw [hsy] at CB
                  have HB := Lib.hid CB
                  have HO := Lib.hid (Bytes_any w1.heap.size t w7 O8.out)
                  have B8 := Lib.hid H8.out.b
                  clear CB hsy D8 G8 O7 H7 H8 O8
                  go_wp2_with (first
                    | (go_at_call 10; (with_reducible refine HB.out.mono ?_); rintro e w8 ⟨rfl, rfl⟩)
                    | (go_at_call 10; (with_reducible refine HO.out.mono ?_); rintro e w8 ⟨rfl, rfl⟩)
                    | (go_at_call 7; refine (alive_any _).mono ?_; rintro e w9 ⟨rfl, hb⟩))
                  go_ret
                  exact ⟨rfl, below_acc B8.out hb⟩
end Go.Proofs.Ytnbdkabffdaikaa
