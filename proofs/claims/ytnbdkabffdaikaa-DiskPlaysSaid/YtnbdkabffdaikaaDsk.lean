/- A disk in memory: what its block holds; the walks of New, Arm, Synced, Len, Room, Down. Condition: the numbers fit. -/
import Derived.Test.YtnbdkabffdaikaaStr
namespace Go.Proofs.Ytnbdkabffdaikaa
open Go.RowKit
set_option linter.unusedVariables false

/-- What a disk is: its bytes, how many are synced, whether it is armed, down, with how many, its room. -/
structure DS where
  bytes : List UInt8
  synced : Int
  armed : Bool
  down : Bool
  left : Int
  room : Int

/-- A slice (its address A) holds bytes, in a block of bytes. -/
def Bs (w : World) (A : Option Addr) (l : List UInt8) : Prop :=
  ∀ (i : Nat) (h : i < l.length), ∃ b o cs, A = some ⟨b, o, none⟩ ∧ w.heap[b]? = some (.cells cs 5 (0, 0)) ∧ cs[o + i]? = some (.int .u8 (l[i].toNat : Int))

/-- The cells of a disk's block. -/
def dcells (A : Option Addr) (n c : Nat) (s : DS) : Array Value := #[.slice A n c, .int .i64 s.synced, .bool s.armed, .bool s.down, .int .i64 s.left, .int .i64 s.room]

def DiskAt (w : World) (g : Nat) (s : DS) : Prop :=
  ∃ A c, w.heap[g]? = some (.cells (dcells A s.bytes.length c s) 53 (0, 0)) ∧ s.bytes.length ≤ c ∧ c ≤ maxLen ∧ Bs w A s.bytes

/-- What every walk of a disk wants: its six cells, none of them frozen. -/
theorem disk_cells {w : World} {g : Nat} {A : Option Addr} {n c : Nat} {s : DS} (h : w.heap[g]? = some (.cells (dcells A n c s) 53 (0, 0))) :
    w.cell? ⟨g, 0, none⟩ = some (.slice A n c) ∧ w.cell? ⟨g, 1, none⟩ = some (.int .i64 s.synced) ∧ w.cell? ⟨g, 2, none⟩ = some (.bool s.armed) ∧ w.cell? ⟨g, 3, none⟩ = some (.bool s.down) ∧ w.cell? ⟨g, 4, none⟩ = some (.int .i64 s.left) ∧ w.cell? ⟨g, 5, none⟩ = some (.int .i64 s.room) ∧ (∀ i, w.frozen? ⟨g, i, none⟩ = false) ∧ g < w.heap.size := by
  have hc : ∀ i, w.cell? ⟨g, i, none⟩ = (dcells A n c s)[i]? := fun i => by simp [World.cell?, h]
  refine ⟨hc 0, hc 1, hc 2, hc 3, hc 4, hc 5, fun i => by simp [World.frozen?, h], (Array.getElem?_eq_some_iff.1 h).1⟩

set_option maxHeartbeats 400000 in
theorem New_bad (room : Int) (h : room < 0 ∨ 1048576 < room) (w : World) :
    Calls Try.prog 8 #[.int .i64 room] w fun e w' => e = .returned (.tuple #[.pointer none, .int .i64 2]) ∧ w = w' := by
  rcases h with h | h
  · go_enter Try.func8, Try.ntmps8
    go_wp2
    go_ret2
    exact ⟨rfl, rfl⟩
  · have h0 : 0 ≤ room := by omega
    go_enter Try.func8, Try.ntmps8
    go_wp2
    go_ret2
    exact ⟨rfl, rfl⟩

set_option maxHeartbeats 400000 in
theorem New_good (room : Int) (h0 : 0 ≤ room) (h1 : room ≤ 1048576) (w : World) :
    Calls Try.prog 8 #[.int .i64 room] w fun e w' => e = .returned (.tuple #[.pointer (some ⟨w.heap.size, 0, none⟩), .int .i64 0]) ∧ w' = w.alloc (.cells (dcells none 0 0 ⟨[], 0, false, false, 0, room⟩) 53) := by
  go_enter Try.func8, Try.ntmps8
  go_wp2
  go_ret2
  exact ⟨rfl, rfl⟩

/-! ### What a walk leaves of a disk -/
theorem heap_set_same {w : World} {g i : Nat} {cs : Array Value} {t : TypeId} {fz : Nat × Nat} (h : w.heap[g]? = some (.cells cs t fz)) (u : Value) : (w.setCell ⟨g, i, none⟩ u).heap[g]? = some (.cells (cs.setIfInBounds i u) t fz) := by
  simp [World.setCell, Array.getElem?_modify, h]
theorem grown_set (w : World) (g i : Nat) (u : Value) : w.grownBy (w.setCell ⟨g, i, none⟩ u) (some g) :=
  ⟨rfl, rfl, rfl, by simp [World.setCell], fun k _ hk => Below.heap_setCell _ _ _ _ (fun e => hk (by rw [e]))⟩
theorem grown_drew {w w' : World} {r : Option Nat} (h : w.grownBy w' r) (n : Nat) : w.grownBy (w'.drewN n) r := ⟨h.os, h.tape, h.output, h.size, h.block⟩
theorem Bs.kept {w w' : World} {g : Nat} {A : Option Addr} {l : List UInt8} {cs : Array Value} (h : Bs w A l) (hg : w.grownBy w' (some g)) (hd : w.heap[g]? = some (.cells cs 53 (0, 0))) : Bs w' A l := fun i hi => by
  obtain ⟨b, o, ds, e, hb, hc⟩ := h i hi
  have hne : b ≠ g := by
    rintro rfl
    rw [hd] at hb
    injection hb with hb
    injection hb with _ ht
    exact absurd ht (by decide)
  exact ⟨b, o, ds, e, (hg.block b (Array.getElem?_eq_some_iff.1 hb).1 (fun e => hne (Option.some.inj e))).trans hb, hc⟩
theorem Bs.cell {w : World} {A : Option Addr} {l : List UInt8} (h : Bs w A l) (i : Nat) (hi : i < l.length) : ∃ b o, A = some ⟨b, o, none⟩ ∧ w.cell? ⟨b, o + i, none⟩ = some (.int .u8 (l[i].toNat : Int)) := by
  obtain ⟨b, o, ds, e, hb, hc⟩ := h i hi
  exact ⟨b, o, e, by simp [World.cell?, hb, hc]⟩
theorem DiskAt.other {w w' : World} {g g' : Nat} {s s' : DS} (h : DiskAt w g' s') (hd : DiskAt w g s) (hne : g' ≠ g) (hg : w.grownBy w' (some g)) : DiskAt w' g' s' := by
  obtain ⟨A, c, h1, h2, h3, h4⟩ := h
  obtain ⟨A', c', d1, _⟩ := hd
  exact ⟨A, c, (hg.block g' (Array.getElem?_eq_some_iff.1 h1).1 (fun e => hne (Option.some.inj e))).trans h1, h2, h3, h4.kept hg d1⟩

set_option maxHeartbeats 400000 in
theorem Arm_any (g : Nat) (n : Int) (s : DS) (w : World) (hD : DiskAt w g s) :
    Calls Try.prog 9 #[.pointer (some ⟨g, 0, none⟩), .int .i64 n] w fun e w' => e = .returned (.tuple #[]) ∧ DiskAt w' g { s with armed := true, left := max n 0 } ∧ w.grownBy w' (some g) := by
  obtain ⟨A, c, h, h2, h3, h4⟩ := hD
  have hr : ∀ m : Int, m = max n 0 → DiskAt ((w.setCell ⟨g, 2, none⟩ (.bool true)).setCell ⟨g, 4, none⟩ (.int .i64 m)) g { s with armed := true, left := max n 0 } ∧ w.grownBy ((w.setCell ⟨g, 2, none⟩ (.bool true)).setCell ⟨g, 4, none⟩ (.int .i64 m)) (some g) := by
    rintro m rfl
    have hg := (grown_set w g 2 (.bool true)).trans (grown_set _ g 4 (.int .i64 (max n 0)))
    exact ⟨⟨A, c, heap_set_same (heap_set_same h _) _, h2, h3, h4.kept hg h⟩, hg⟩
  have Hr := Lib.hid hr
  obtain ⟨c0, c1, c2, c3, c4, c5, hf, hlt⟩ := disk_cells h
  clear h hr
  rcases Int.lt_or_le n 0 with hn | hn
  · go_enter Try.func9, Try.ntmps9
    go_wp2
    go_end0
    exact ⟨rfl, Hr.out 0 (by omega)⟩
  · go_enter Try.func9, Try.ntmps9
    go_wp2
    go_end0
    exact ⟨rfl, Hr.out n (by omega)⟩

theorem conv_bs (w : World) (A : Option Addr) (l : List UInt8) (c : Nat) (h : Bs w A l) : (convert 47 9 (.slice A l.length c)).run Try.prog w = .ok (str l) w := by
  cases A with
  | none =>
    have h0 : l = [] := by
      cases l with
      | nil => rfl
      | cons x r => obtain ⟨b, o, ds, e, _⟩ := h 0 (by simp); cases e
    subst h0
    rw [run_convert_bytes_nil w 47 5 Try.underlying47 Try.underlying5 _ _ 9 Try.underlying9]
    rfl
  | some a =>
    refine run_convert_bytes_back (P := Try.prog) w 47 9 5 a c l Try.underlying47 Try.underlying5 Try.underlying9 (fun j hj => ?_)
    obtain ⟨b, o, e, hc⟩ := h.cell j hj
    cases e
    rw [← hc]
    unfold Addr.add
    split
    · rename_i e; subst e; rfl
    · rfl

set_option maxHeartbeats 400000 in
theorem Bytes_any (g : Nat) (s : DS) (w : World) (hD : DiskAt w g s) :
    Calls Try.prog 10 #[.pointer (some ⟨g, 0, none⟩)] w fun e w' => e = .returned (str s.bytes) ∧ w = w' := by
  obtain ⟨A, c, h, h2, h3, h4⟩ := hD
  have hk := conv_bs w A s.bytes c h4
  obtain ⟨c0, c1, c2, c3, c4, c5, hf, hlt⟩ := disk_cells h
  clear h h4
  go_enter Try.func10, Try.ntmps10
  go_wp2
  go_ret
  exact ⟨rfl, rfl⟩

set_option maxHeartbeats 400000 in
theorem Synced_any (g : Nat) (s : DS) (w : World) (hD : DiskAt w g s) :
    Calls Try.prog 11 #[.pointer (some ⟨g, 0, none⟩)] w fun e w' => e = .returned (.int .i64 s.synced) ∧ w = w' := by
  obtain ⟨A, c, h, h2, h3, h4⟩ := hD
  obtain ⟨c0, c1, c2, c3, c4, c5, hf, hlt⟩ := disk_cells h
  clear h h4
  go_enter Try.func11, Try.ntmps11
  go_wp2
  go_ret
  exact ⟨rfl, rfl⟩

set_option maxHeartbeats 400000 in
theorem Len_any (g : Nat) (s : DS) (w : World) (hD : DiskAt w g s) :
    Calls Try.prog 17 #[.pointer (some ⟨g, 0, none⟩)] w fun e w' => e = .returned (.int .i64 s.bytes.length) ∧ w = w' := by
  obtain ⟨A, c, h, h2, h3, h4⟩ := hD
  obtain ⟨c0, c1, c2, c3, c4, c5, hf, hlt⟩ := disk_cells h
  clear h h4
  go_enter Try.func17, Try.ntmps17
  go_wp2
  go_ret
  exact ⟨rfl, rfl⟩

set_option maxHeartbeats 400000 in
theorem Room_any (g : Nat) (s : DS) (w : World) (hD : DiskAt w g s) (hr : 0 ≤ s.room ∧ s.room ≤ 1048576) (hl : (s.bytes.length : Int) ≤ s.room) :
    Calls Try.prog 25 #[.pointer (some ⟨g, 0, none⟩)] w fun e w' => e = .returned (.int .i64 (s.room - s.bytes.length)) ∧ ∃ n, w' = w.drewN n := by
  obtain ⟨A, c, h, h2, h3, h4⟩ := hD
  obtain ⟨c0, c1, c2, c3, c4, c5, hf, hlt⟩ := disk_cells h
  clear h h4
  have e1 : IntKind.i64.wrap (s.room - (s.bytes.length : Int)) = s.room - (s.bytes.length : Int) := IntWalk.i64_in _ (by omega)
  go_enter Try.func25, Try.ntmps25
  go_wp2
  go_quiet (fail)
  go_wp2
  go_ret
  exact ⟨rfl, _, rfl⟩

set_option maxHeartbeats 400000 in
theorem Down_any (g : Nat) (s : DS) (w : World) (hD : DiskAt w g s) :
    Calls Try.prog 13 #[.pointer (some ⟨g, 0, none⟩)] w fun e w' => e = .returned (.bool s.down) ∧ w = w' := by
  obtain ⟨A, c, h, h2, h3, h4⟩ := hD
  obtain ⟨c0, c1, c2, c3, c4, c5, hf, hlt⟩ := disk_cells h
  clear h h4
  go_enter Try.func13, Try.ntmps13
  go_wp2
  go_ret
  exact ⟨rfl, rfl⟩
end Go.Proofs.Ytnbdkabffdaikaa
