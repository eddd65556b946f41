/- Small laws of the walk on strings that are written as lists of bytes: indexing, cutting, adding, comparing; helpers on 'Below'. No condition. -/
import Derived.Test.YtljfjlijobjpdaaProg
import Derived.WalkKit
import Derived.WalkSpells
import Derived.WalkLawsBesides
import Derived.Lib.Hide
import Derived.Deep.RegionWith
import Derived.Deep.DeepFit
import Derived.Deep.DeepCutAuto
import Derived.Deep.DeepMust
import Derived.Deep.RegionLaw
import Derived.Deep.QuietTactic
import Derived.Deep.RegionHeld3
import Derived.Deep.LoopGhost
import Derived.StillTailTactics
import Derived.BigQuiet
import Derived.RegionTactic
import Derived.Maps.AppendAt
namespace Go.Proofs.Ytljfjlijobjpdaa
open Go.RowKit

/-- A string, by its bytes. -/
abbrev str (l : List UInt8) : Value := Value.string ⟨l.toArray⟩

@[go_sem] theorem ba_get (l : List UInt8) (i : Nat) (h : i < (ByteArray.mk l.toArray).size) : (ByteArray.mk l.toArray)[i]'h = l[i]'(by simpa [ByteArray.size] using h) := rfl
@[go_sem] theorem extract_list (l : List UInt8) (a b : Nat) : (ByteArray.mk l.toArray).extract a b = ByteArray.mk ((l.take b).drop a).toArray := by
  apply ByteArray.ext
  rw [ByteArray.data_extract]
  simp [List.drop_take]

theorem str_add {P : Program} (a b : List UInt8) (h : a.length + b.length ≤ 9223372036854775807) (W : World) :
    (Op.stringOp .add ⟨a.toArray⟩ ⟨b.toArray⟩).run P W = .ok (str (a ++ b)) W := by
  rw [run_string_add_sum W _ _ (by simpa [ByteArray.size] using h), ByteArray.mk_append_mk]

theorem ba_list (s : ByteArray) : ∃ l : List UInt8, s = ⟨l.toArray⟩ := ⟨s.data.toList, by cases s; simp⟩

theorem bcell {W w1 : World} (hb : Below W.heap.size W w1) : ∀ b o, b < W.heap.size → w1.cell? ⟨b, o, none⟩ = W.cell? ⟨b, o, none⟩ :=
  fun b o h => hb.cell (p := ⟨b, o, none⟩) h

theorem below_then {B : Nat} {w W w1 : World} (h : Below B w W) (hb : Below W.heap.size W w1) (hB : B ≤ W.heap.size) : Below B w w1 := h.trans (hb.mono hB)

theorem drew_below {w w1 : World} (hb : Below w.drew.heap.size w.drew w1) : Below w.heap.size w w1 := below_then ((Below.refl _ w).drew) hb (Nat.le_refl _)

/-- One more step of a chain of calls, each of which leaves what was there as it was. -/
theorem below_acc {w W w1 : World} (h : Below w.heap.size w W) (hb : Below W.heap.size W w1) : Below w.heap.size w w1 := h.trans (hb.mono h.size)
theorem below_acc_drew {w W w1 : World} (h : Below w.heap.size w W) (hb : Below W.drew.heap.size W.drew w1) : Below w.heap.size w w1 := below_acc h (drew_below hb)

/-- The same where draws stand between: W' is W but for what has been drawn. -/
theorem below_step {w W W' w1 : World} (h : Below w.heap.size w W) (hb : Below W'.heap.size W' w1) (e : W'.heap = W.heap ∧ W'.os = W.os ∧ W'.tape = W.tape ∧ W'.output = W.output) : Below w.heap.size w w1 :=
  h.trans ⟨hb.os.trans e.2.1, hb.tape.trans e.2.2.1, hb.output.trans e.2.2.2, by have := hb.size; rw [e.1] at this; exact this, fun k hk => by
    have h2 := h.size
    have := hb.block k (by rw [e.1]; omega)
    rw [e.1] at this; exact this⟩

/-- Two cells, kept over a call that leaves what was there as it was. -/
theorem two_keep {w W w1 : World} {b o b' o' : Nat} {x y : Value} (hb : Below W.heap.size W w1) (h : W.cell? ⟨b, o, none⟩ = some x ∧ W.cell? ⟨b', o', none⟩ = some y ∧ b < W.heap.size ∧ b' < W.heap.size ∧ Below w.heap.size w W) :
    w1.cell? ⟨b, o, none⟩ = some x ∧ w1.cell? ⟨b', o', none⟩ = some y ∧ b < w1.heap.size ∧ b' < w1.heap.size ∧ Below w.heap.size w w1 :=
  ⟨(bcell hb b o h.2.2.1).trans h.1, (bcell hb b' o' h.2.2.2.1).trans h.2.1, Nat.lt_of_lt_of_le h.2.2.1 hb.size, Nat.lt_of_lt_of_le h.2.2.2.1 hb.size, below_acc h.2.2.2.2 hb⟩

/-- A contract that leaves the world alone, offered at a quiet region. -/
theorem calls_quiet {P : Program} {f : FuncId} {args : Array Value} {v : Value} {W w : World} (h : Calls P f args W fun e w' => e = .returned v ∧ W = w') (hW : ∃ n, W = w.drewN n) :
    Calls P f args W fun e w' => e = .returned v ∧ ∃ m, w' = w.drewN m :=
  h.mono fun e w' ⟨he, hw⟩ => ⟨he, by rw [← hw]; exact hW⟩
theorem drew_drewN (w : World) : w.drew = w.drewN 1 := rfl

theorem ret_str {a b : List UInt8} (h : a = b) : Ending.returned (str a) = .returned (str b) := by rw [h]
theorem ret_bool {a b : Bool} (h : a = b) : Ending.returned (.bool a) = .returned (.bool b) := by rw [h]

theorem or_byte (a b : Nat) (ha : a < 72057594037927936) (hb : b < 256) : bits .or .u64 ((a : Int) * 256) (IntKind.u64.wrap (b : Int)) = ((a * 256 + b : Nat) : Int) := by
  rw [IntWalk.u64_in _ (by omega), show (a : Int) * 256 = ((a * 256 : Nat) : Int) by omega, u64_or_nat _ _ (by omega) (by omega), nat_join 8 _ _ (by omega) (by omega)]
end Go.Proofs.Ytljfjlijobjpdaa
