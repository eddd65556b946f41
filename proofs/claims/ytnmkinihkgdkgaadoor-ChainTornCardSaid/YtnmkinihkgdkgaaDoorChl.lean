/- What the walk of chain's iterator of steps leans on: links compared, steps built, its memory. Condition: sizes that a machine has. -/
import Derived.Test.YtnmkinihkgdkgaaDoorChs
import Derived.Test.YtnmkinihkgdkgaaDoorRnf
import Derived.Stop.BytesEq
import Derived.WalkMore
namespace Go.Proofs.YtnmkinihkgdkgaaDoor
open Go.RowKit
set_option linter.unusedVariables false
set_option linter.unusedSimpArgs false

abbrev stepV (rec next : List UInt8) (a : Int) (is : Bool) : Value := .agg (#[str rec] ++ (byc next).toArray ++ #[.int .i64 a, .bool is])
abbrev zero35 : Value := .agg #[str [], .int .u8 0, .int .u8 0, .int .u8 0, .int .u8 0, .int .u8 0, .int .u8 0, .int .u8 0, .int .u8 0, .int .u8 0, .int .u8 0, .int .u8 0, .int .u8 0, .int .u8 0, .int .u8 0, .int .u8 0, .int .u8 0, .int .u8 0, .int .u8 0, .int .u8 0, .int .u8 0, .int .u8 0, .int .u8 0, .int .u8 0, .int .u8 0, .int .u8 0, .int .u8 0, .int .u8 0, .int .u8 0, .int .u8 0, .int .u8 0, .int .u8 0, .int .u8 0, .int .i64 0, .bool false]
theorem eql_link (x y : List UInt8) (hx : x.length = 32) (hy : y.length = 32) (W : World) : (binOp .eql 49 (lkv x) (lkv y)).run Tryd.prog W = .ok (.bool (x == y)) W :=
  run_eql_bytes W 49 5 32 Tryd.underlying49 Tryd.underlying5 (fun W => by go_simp) x y hx hy
theorem built_step (r n : List UInt8) (hn : n.length = 32) (a : Int) (b : Bool) : Tryd.prog.built 51 [(0, str r), (1, lkv n), (2, .int .i64 a), (3, .bool b)] = some (#[str r] ++ (byc n).toArray ++ #[.int .i64 a, .bool b]) := by
  match n, hn with
  | [x0, x1, x2, x3, x4, x5, x6, x7, x8, x9, x10, x11, x12, x13, x14, x15, x16, x17, x18, x19, x20, x21, x22, x23, x24, x25, x26, x27, x28, x29, x30, x31], _ => show _ = _; kernel_rfl
theorem build_step (r n : List UInt8) (hn : n.length = 32) (a : Int) (b : Bool) (W : World) : (Instr.build 51 #[(0, str r), (1, lkv n), (2, .int .i64 a), (3, .bool b)]).run Tryd.prog W = .ok (stepV r n a b) W :=
  run_build W _ _ _ (built_step r n hn a b)
theorem load_link {W : World} {g : Nat} {k : List UInt8} (h : W.heap[g]? = some (.cells (byc k).toArray 49 (0, 0))) (hk : k.length = 32) : (loadVar 49 ⟨g, 0, none⟩).run Tryd.prog W = .ok (lkv k) W :=
  run_loadVar_row W g 49 49 _ (0, 0) _ h Tryd.underlying49 rfl (size_lk k hk)

theorem built_ops (r n : List UInt8) (hn : n.length = 32) (a : Int) (b : Bool) (ev : Operand → Value) (x0 x1 x2 x3 : Operand) (h0 : ev x0 = str r) (h1 : ev x1 = lkv n) (h2 : ev x2 = .int .i64 a) (h3 : ev x3 = .bool b) :
    Tryd.prog.built 51 ((#[(0, x0), (1, x1), (2, x2), (3, x3)] : Array (Nat × Operand)).map fun (i, x) => (i, ev x)).toList = some (#[str r] ++ (byc n).toArray ++ #[.int .i64 a, .bool b]) := by
  have h := built_step r n hn a b
  rw [← h0, ← h1, ← h2, ← h3] at h
  rw [← h0, ← h2, ← h3]
  simpa using h

/-- What the iterator asks of the loop's own memory. -/
structure Stj (B b0 : Nat) (s : List UInt8) (J : Nat → List UInt8 → World → Prop) : Prop where
  c : ∀ a k W, J a k W → W.cell? ⟨b0, 0, none⟩ = some (str s)
  t : ∀ a k W, J a k W → KT W
  bel : ∀ a k W W', J a k W → Below W.heap.size W W' → J a k W'
  put : ∀ a k W W', J a k W → Below B W W' → W'.heap.size = W.heap.size → (∀ j, j ≠ B → W'.heap[j]? = W.heap[j]?) → J a k W'
/-- The iterator's memory at a round. -/
structure Stw (B : Nat) (J : Nat → List UInt8 → World → Prop) (a : Nat) (k0 k : List UInt8) (W : World) : Prop where
  r : W.heap[B]? = some (.cells (byc k).toArray 49 (0, 0))
  j : J a k0 W
theorem Stw.bel {B b0 a : Nat} {s k0 k : List UInt8} {J : Nat → List UInt8 → World → Prop} {W W' : World} (T : Stw B J a k0 k W) (hj : Stj B b0 s J) (h : Below W.heap.size W W') : Stw B J a k0 k W' :=
  ⟨(h.block B (Array.getElem?_eq_some_iff.1 T.r).1).trans T.r, hj.bel _ _ _ _ T.j h⟩
theorem Stw.lt {B a : Nat} {k0 k : List UInt8} {J : Nat → List UInt8 → World → Prop} {W : World} (T : Stw B J a k0 k W) : B < W.heap.size := (Array.getElem?_eq_some_iff.1 T.r).1
theorem Stw.put {B b0 a : Nat} {s k0 k k2 : List UInt8} {J : Nat → List UInt8 → World → Prop} {W W' : World} (T : Stw B J a k0 k W) (hj : Stj B b0 s J) (P : Put W W' B (byc k2).toArray 49) : Stw B J a k0 k2 W' :=
  ⟨P.here, hj.put _ _ _ _ T.j (P.below (Below.refl B W) (Nat.le_refl _)) P.size P.block⟩

end Go.Proofs.YtnmkinihkgdkgaaDoor
