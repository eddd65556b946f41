/- The walks of a disk that write: Append, Sync, Crash. Condition: the numbers fit. -/
import Derived.Test.YtnbdkabffdaikaaDsk
import Derived.Laws.CopyOwn
namespace Go.Proofs.Ytnbdkabffdaikaa
open Go.RowKit
set_option linter.unusedVariables false

def bcells (l : List UInt8) : List Value := l.map (fun b => Value.int .u8 (b.toNat : Int))
theorem bcells_len (l : List UInt8) : (bcells l).length = l.length := by simp [bcells]
theorem Bs.of_block {w : World} {g o : Nat} {cs : Array Value} {l : List UInt8} (h : w.heap[g]? = some (.cells cs 5 (0, 0))) (hc : ∀ i (hi : i < l.length), cs[o + i]? = some (.int .u8 (l[i].toNat : Int))) : Bs w (some ⟨g, o, none⟩) l :=
  fun i hi => ⟨g, o, cs, rfl, h, hc i hi⟩

/-- copy(all, bytes): a row of bytes that the call made, filled from off on. -/
theorem run_copy_bs (w : World) (ty : TypeId) (g off dLen dCap : Nat) (A : Option Addr) (l cur : List UInt8) (c : Nat) (hA : Bs w A l) (hg : w.heap[g]? = some (.cells (bcells cur).toArray 5 (0, 0))) (hl : l.length ≤ dLen) (hf : off + l.length ≤ cur.length) :
    (Builtin.copy_ #[47, 47] ty #[.slice (some ⟨g, off, none⟩) dLen dCap, .slice A l.length c]).run Try.prog w = .ok (goInt l.length) (w.setRow g (bcells (cur.take off ++ l ++ cur.drop (off + l.length))).toArray) := by
  have hsz : (Try.prog.info? 5).map (·.size) = some 1 := by kernel_rfl
  cases A with
  | none =>
    have h0 : l = [] := by
      cases l with
      | nil => rfl
      | cons x r => obtain ⟨b, o, ds, e, _⟩ := hA 0 (by simp); cases e
    subst h0
    rw [run_copy_none (P := Try.prog) w 47 47 ty 5 _ _ _ _ _ _ Try.underlying47 hsz (by simp)]
    simp only [List.append_nil, List.length_nil, Nat.add_zero, List.take_append_drop]
    rw [setRow_self w g _ _ _ hg]
    rfl
  | some a =>
    have hr := run_copy_row (P := Try.prog) w 47 47 ty 5 g off dLen dCap a l.length c (bcells cur).toArray 5 (bcells l) Try.underlying47 hsz hg (by rw [bcells_len]; exact (Nat.min_eq_left hl).symm)
      (by
        intro j v hj
        simp only [bcells, List.getElem?_map, Option.map_eq_some_iff] at hj
        obtain ⟨x, hx, rfl⟩ := hj
        obtain ⟨hjl, rfl⟩ := List.getElem?_eq_some_iff.1 hx
        obtain ⟨b, o, e, hc⟩ := hA.cell j hjl
        cases e
        rw [← hc]
        unfold Addr.add
        split
        · rename_i e; subst e; rfl
        · rfl)
      (by simp [bcells_len]; omega) (by intro v hv; simp only [bcells, List.mem_map] at hv; obtain ⟨x, _, rfl⟩ := hv; rfl)
    rw [hr, bcells_len]
    congr 2
    simp [bcells]

theorem byte_info : (Try.prog.info? 5).map (fun i => (i.zero, i.size, i.bytes)) = some (some (.int .u8 0), 1, 1) := by kernel_rfl
theorem made_bytes (m : Nat) : madeCells (Value.int .u8 0).cells m = (bcells (List.replicate m 0)).toArray := by
  apply Array.ext'
  simp only [madeCells, bcells, Value.cells, List.map_replicate]
  apply List.ext_getElem
  · simp
  · intro i h1 h2
    simp [Nat.mod_one]
theorem run_make_bytes (m : Nat) (hm : m ≤ 281474976710656) (w : World) : (Instr.makeSlice 47 (.int .i64 (m : Int)) (.int .i64 (m : Int))).run Try.prog w = .ok (.slice (some ⟨w.heap.size, 0, none⟩) m m) (w.alloc (.cells (bcells (List.replicate m 0)).toArray 5)) := by
  obtain ⟨i0, hi, hz0, hz1, hz2⟩ := info_parts byte_info
  have hr := run_make (P := Try.prog) w 47 5 i0 _ Try.underlying47 hi hz0 .i64 .i64 m m (by omega) (by omega) (by rw [hz2]; omega) (by omega)
  rw [hr, hz1]
  simp only [Int.toNat_natCast, Nat.mul_one, made_bytes]

set_option maxHeartbeats 1000000 in
theorem App_full (b1 b2 g : Nat) (s : DS) (t : List UInt8) (w : World) (hD : DiskAt w g s) (hr : 0 ≤ s.room ∧ s.room ≤ 1048576) (hl : (s.bytes.length : Int) ≤ s.room) (ht : t.length ≤ 9223372036854775807)
    (h1 : w.cell? ⟨b1, 0, none⟩ = some (str t)) (h2 : w.cell? ⟨b2, 0, none⟩ = some (.pointer (some ⟨g, 0, none⟩))) (hf : s.room - s.bytes.length < t.length) :
    Calls Try.prog 27 #[.pointer (some ⟨b1, 0, none⟩), .pointer (some ⟨b2, 0, none⟩)] w fun e w' => e = .returned (.int .i64 4) ∧ ∃ n, w' = w.drewN n := by
  obtain ⟨A, c, h, k2, k3, k4⟩ := hD
  obtain ⟨c0, c1, c2, c3, c4, c5, hfr, hlt⟩ := disk_cells h
  clear h k4
  have e1 : IntKind.i64.wrap (s.room - (s.bytes.length : Int)) = s.room - (s.bytes.length : Int) := IntWalk.i64_in _ (by omega)
  have d1 : decide (s.room - (s.bytes.length : Int) < (t.length : Int)) = true := by simp; omega
  go_enter Try.func27, Try.ntmps27
  go_wp2
  go_quiet (fail)
  go_wp2
  go_ret
  exact ⟨rfl, _, rfl⟩

theorem grown_of_below {w w' : World} {g : Nat} (h : Below w.heap.size w w') : w.grownBy w' (some g) := ⟨h.os, h.tape, h.output, h.size, fun k hk _ => h.block k hk⟩
theorem Bs.below {w w' : World} {A : Option Addr} {l : List UInt8} (h : Bs w A l) (hb : Below w.heap.size w w') : Bs w' A l := fun i hi => by
  obtain ⟨b, o, ds, e, hbk, hc⟩ := h i hi
  exact ⟨b, o, ds, e, (hb.block b (Array.getElem?_eq_some_iff.1 hbk).1).trans hbk, hc⟩

theorem cell_row_far {w : World} {n0 : Nat} (cs : Array Value) (b o : Nat) (h : b ≠ n0) : (w.setRow n0 cs).cell? ⟨b, o, none⟩ = w.cell? ⟨b, o, none⟩ :=
  World.cell?_of_block (w := w) (setRow_other w n0 b cs h)

theorem run_lenOf_string {P : Program} (w : World) (t : List UInt8) : (Builtin.lenOf (str t)).run P w = .ok t.length w := by simp [Builtin.lenOf, ByteArray.size]

theorem run_copy_str (w : World) (ty : TypeId) (g off dLen dCap : Nat) (t cur : List UInt8) (hg : w.heap[g]? = some (.cells (bcells cur).toArray 5 (0, 0))) (hl : t.length = dLen) (hf : off + t.length ≤ cur.length) :
    (Builtin.copy_ #[47, 9] ty #[.slice (some ⟨g, off, none⟩) dLen dCap, str t]).run Try.prog w = .ok (goInt t.length) (w.setRow g (bcells (cur.take off ++ t ++ cur.drop (off + t.length))).toArray) := by
  subst hl
  obtain ⟨i0, hi, hz0, hz1, hz2⟩ := info_parts byte_info
  have hst := run_storeCells_at Try.prog g off 5 (bcells t) 0 (bcells cur).toArray w hg (by simp [bcells_len]; omega) (by intro v hv; simp only [bcells, List.mem_map] at hv; obtain ⟨x, _, rfl⟩ := hv; rfl)
  have hfc : (Builtin.firstCells 1 t.length (str t)).run Try.prog w = .ok (bcells t).toArray w := by
    simp [Builtin.firstCells, bcells]
  simp only [Nat.add_zero] at hst
  simp [Builtin.copy_, run_underlying Try.underlying47, run_lenOf_string, sizeOf, typeInfo, hi, hz1, hfc, hst]
  congr 2
  simp [bcells]

set_option maxHeartbeats 2000000 in
theorem App_ok (b1 b2 g : Nat) (s : DS) (t : List UInt8) (w : World) (hD : DiskAt w g s) (hr : 0 ≤ s.room ∧ s.room ≤ 1048576) (hl : (s.bytes.length : Int) ≤ s.room) (ht : t.length ≤ 9223372036854775807)
    (h1 : w.cell? ⟨b1, 0, none⟩ = some (str t)) (h2 : w.cell? ⟨b2, 0, none⟩ = some (.pointer (some ⟨g, 0, none⟩))) (hf : t.length ≤ s.room - s.bytes.length) :
    Calls Try.prog 27 #[.pointer (some ⟨b1, 0, none⟩), .pointer (some ⟨b2, 0, none⟩)] w fun e w' => e = .returned (.int .i64 0) ∧ DiskAt w' g { s with bytes := s.bytes ++ t } ∧ w.grownBy w' (some g) := by
  obtain ⟨A, c, h, k2, k3, k4⟩ := hD
  obtain ⟨c0, c1, c2, c3, c4, c5, hfr, hlt⟩ := disk_cells h
  have HH := Lib.hid h
  have C0 := Lib.hid c0
  clear h
  have e1 : IntKind.i64.wrap (s.room - (s.bytes.length : Int)) = s.room - (s.bytes.length : Int) := IntWalk.i64_in _ (by omega)
  have e2 : IntKind.i64.wrap ((s.bytes.length : Int) + (t.length : Int)) = (s.bytes.length : Int) + (t.length : Int) := IntWalk.i64_in _ (by omega)
  have d1 : decide (s.room - (s.bytes.length : Int) < (t.length : Int)) = false := by simp; omega
  have hmk := fun W => run_make_bytes (s.bytes.length + t.length) (by omega) W
  rw [show ((s.bytes.length + t.length : Nat) : Int) = (s.bytes.length : Int) + (t.length : Int) by omega] at hmk
  go_enter Try.func27, Try.ntmps27
  go_wp2
  go_quiet (fail)
  go_wp2
  go_region_held3 (fun w' => w'.cell? ⟨b1, 0, none⟩ = some (str t) ∧ w'.cell? ⟨b2, 0, none⟩ = some (.pointer (some ⟨g, 0, none⟩)) ∧ w'.cell? ⟨g, 0, none⟩ = some (.slice A s.bytes.length c)) (go_keep) (first | fail)
  have hB1 : Below w.heap.size w ((w.drewN (nq + 1)).alloc (.cells (bcells (List.replicate (s.bytes.length + t.length) 0)).toArray 5)) := (below_drewN (Below.refl _ _) _).alloc (Nat.le_refl _) _
  have hg1 : ((w.drewN (nq + 1)).alloc (.cells (bcells (List.replicate (s.bytes.length + t.length) 0)).toArray 5)).heap[w.heap.size]? = some (.cells (bcells (List.replicate (s.bytes.length + t.length) 0)).toArray 5 (0, 0)) := heap_alloc_new (w.drewN (nq + 1)) _
  rename_i hS
  clear hS hmk
  generalize (w.drewN (nq + 1)).alloc (.cells (bcells (List.replicate (s.bytes.length + t.length) 0)).toArray 5) = W1 at hB1 hg1 ⊢
  have x1 := (bcell hB1 b1 0 (block_lt_of_cell h1)).trans h1
  have x2 := (bcell hB1 b2 0 (block_lt_of_cell h2)).trans h2
  have x3 := (bcell hB1 g 0 hlt).trans c0
  have cp1 := fun ty => run_copy_bs W1 ty w.heap.size 0 (s.bytes.length + t.length) (s.bytes.length + t.length) A s.bytes (List.replicate (s.bytes.length + t.length) 0) c (k4.below hB1) hg1 (by omega) (by simp)
  simp only [List.take_zero, List.nil_append, Nat.zero_add, List.drop_replicate, Nat.add_sub_cancel_left] at cp1
  clear c0 c1 c2 c3 c4 c5
  go_wp2
  clear cp1 x1 x2 x3
  have hB2 : Below w.heap.size w (W1.setRow w.heap.size (bcells (s.bytes ++ List.replicate t.length 0)).toArray) := below_setRow hB1 (Nat.le_refl _) _
  have hg2 := setRow_heap W1 w.heap.size _ (bcells (s.bytes ++ List.replicate t.length 0)).toArray 5 (0, 0) hg1
  generalize W1.setRow w.heap.size (bcells (s.bytes ++ List.replicate t.length 0)).toArray = W2 at hB2 hg2 ⊢
  clear hg1 hB1
  have q1 := block_lt_of_cell h1
  have q2 := block_lt_of_cell h2
  have x1 := (bcell hB2 b1 0 q1).trans h1
  have x2 := (bcell hB2 b2 0 q2).trans h2
  have x3 := (bcell hB2 g 0 hlt).trans C0.out
  have n1 : b1 ≠ w.heap.size := Nat.ne_of_lt q1
  have n2 : b2 ≠ w.heap.size := Nat.ne_of_lt q2
  have n3 : g ≠ w.heap.size := Nat.ne_of_lt hlt
  have far := fun (W : World) cs b o h => cell_row_far (w := W) (n0 := w.heap.size) cs b o h
  have kb : 0 ≤ (s.bytes.length : Int) ∧ (s.bytes.length : Int) ≤ ((s.bytes.length + t.length : Nat) : Int) := by omega
  obtain ⟨off, hoff, hsl⟩ : ∃ off, s.bytes ++ t = (s.bytes ++ List.replicate t.length 0).take off ++ t ++ (s.bytes ++ List.replicate t.length 0).drop (off + t.length) ∧ off + t.length ≤ s.bytes.length + t.length ∧
      ∀ W : World, (Instr.slice 47 (.slice (some ⟨w.heap.size, 0, none⟩) (s.bytes.length + t.length) (s.bytes.length + t.length)) (some (.int .i64 (s.bytes.length : Int))) none none).run Try.prog W = .ok (.slice (some ⟨w.heap.size, off, none⟩) t.length t.length) W := by
    have hz : ∀ W : World, (sizeOf (Try.prog.elem 47)).run Try.prog W = .ok 1 W := fun W => by kernel_rfl
    have hr := fun W : World => run_slice_l (P := Try.prog) W 47 (some ⟨w.heap.size, 0, none⟩) (s.bytes.length + t.length) (s.bytes.length + t.length) (by kernel_rfl) .i64 s.bytes.length (by omega) (by omega)
    by_cases h0 : t.length = 0
    · refine ⟨0, ?_, by omega, fun W => ?_⟩
      · have : t = [] := List.eq_nil_of_length_eq_zero h0
        subst this; simp
      · rw [hr W, hz W]
        simp [sliced, h0]
    · refine ⟨s.bytes.length, ?_, by omega, fun W => ?_⟩
      · simp
      · rw [hr W, hz W]
        have hne : ¬ (s.bytes.length + t.length = s.bytes.length) := by omega
        have ht0 : ¬ t = [] := fun e => h0 (by rw [e]; rfl)
        by_cases hs0 : s.bytes = []
        · simp [sliced, Addr.add, hs0, ht0]
        · simp [sliced, Addr.add, hs0, ht0]
  obtain ⟨hof, hsl⟩ := hsl
  have cp2 := fun ty => run_copy_str W2.drew ty w.heap.size off t.length t.length t (s.bytes ++ List.replicate t.length 0) hg2 rfl (by simp; omega)
  rw [← hoff] at cp2
  have Hoff := Lib.hid hoff
  clear hoff
  go_region_held3 (fun w' => w'.cell? ⟨b1, 0, none⟩ = some (str t) ∧ w'.cell? ⟨b2, 0, none⟩ = some (.pointer (some ⟨g, 0, none⟩)) ∧ w'.cell? ⟨g, 0, none⟩ = some (.slice A s.bytes.length c)) (go_keep) (first | fail)
  rename_i hS
  clear hS cp2 hsl far x1 x2 x3
  have hB3 : Below w.heap.size w (W2.drew.setRow w.heap.size (bcells (s.bytes ++ t)).toArray) := below_setRow hB2.drew (Nat.le_refl _) _
  have hg3 := setRow_heap W2.drew w.heap.size _ (bcells (s.bytes ++ t)).toArray 5 (0, 0) hg2
  generalize W2.drew.setRow w.heap.size (bcells (s.bytes ++ t)).toArray = W3 at hB3 hg3 ⊢
  clear hg2 hB2
  have x2 := (bcell hB3 b2 0 q2).trans h2
  have x3 := (bcell hB3 g 0 hlt).trans C0.out
  have x4 : W3.frozen? ⟨g, 0, none⟩ = false := (hB3.frozen (p := ⟨g, 0, none⟩) hlt).trans (hfr 0)
  have hfin : DiskAt (W3.setCell ⟨g, 0, none⟩ (.slice (some ⟨w.heap.size, 0, none⟩) (s.bytes.length + t.length) (s.bytes.length + t.length))) g { s with bytes := s.bytes ++ t } ∧ w.grownBy (W3.setCell ⟨g, 0, none⟩ (.slice (some ⟨w.heap.size, 0, none⟩) (s.bytes.length + t.length) (s.bytes.length + t.length))) (some g) := by
    have hd := (hB3.block g hlt).trans HH.out
    have hst := heap_set_same (i := 0) hd (.slice (some ⟨w.heap.size, 0, none⟩) (s.bytes.length + t.length) (s.bytes.length + t.length))
    have hgw := (grown_of_below (g := g) hB3).trans (grown_set W3 g 0 (.slice (some ⟨w.heap.size, 0, none⟩) (s.bytes.length + t.length) (s.bytes.length + t.length)))
    refine ⟨⟨some ⟨w.heap.size, 0, none⟩, s.bytes.length + t.length, ?_, by simp, by unfold maxLen; omega, ?_⟩, hgw⟩
    · rw [hst]; simp [dcells]
    · refine Bs.of_block (cs := (bcells (s.bytes ++ t)).toArray) ?_ ?_
      · rw [Below.heap_setCell _ _ _ _ (by simpa using n3.symm)]
        exact hg3
      · intro i hi
        simp only [Nat.zero_add]
        simp [bcells]
        have hi' : i < (s.bytes ++ t).length := hi
        rw [← List.map_append, List.getElem?_map, List.getElem?_eq_getElem hi']
        rfl
  have Hfin := Lib.hid hfin
  clear hfin hg3 hof
  go_wp2
  go_ret
  exact ⟨rfl, Hfin.out⟩
end Go.Proofs.Ytnbdkabffdaikaa
