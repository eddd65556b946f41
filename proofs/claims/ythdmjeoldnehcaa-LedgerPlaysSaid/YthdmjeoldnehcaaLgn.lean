/- The ledger's kinds of actions: a map that each call makes. Condition: none. -/
import Derived.Test.YthdmjeoldnehcaaLgk
namespace Go.Proofs.Ythdmjeoldnehcaa
open Go.RowKit
set_option linter.unusedVariables false
set_option linter.unusedSimpArgs false
attribute [local go_sem] run_makeMap

theorem check_u8 (b : Bool) (x : Int) (w : World) : (Instr.checkKey b 10000 5 (.int .u8 x)).run Try.prog w = .ok () w := by
  show (Instr.checkKey b (9999 + 1) 5 (.int .u8 x)).run Try.prog w = _
  unfold Instr.checkKey
  simp [run_underlying Try.underlying5]
theorem put_kind {W : World} {b n : Nat} {es : Array MapEntry} (h : W.heap[b]? = some (.map es n)) (k : Int) (v : Value) (hf : Instr.findNow (.int .u8) (.int .u8 k) es.toList 0 = some none) :
    (Instr.mapUpdate 59 (.map (some b)) (.int .u8 k) v).run Try.prog W = .ok () (W.putObj b (.map (es.push ⟨.int .u8 k, v, n⟩) (n + 1))) := by
  unfold Instr.mapUpdate
  simp only [Sem.run_bind, run_underlying Try.underlying59, run_underlying Try.underlying5, Result.andThen_ok, MapKept.run_getObj_map h, check_u8, Instr.findKey, hf, Sem.run_pure, MapKept.run_setObj_map _ h]
  rfl
theorem look_kind {W : World} {b n : Nat} {es : Array MapEntry} (h : W.heap[b]? = some (.map es n)) (k : Int) (c : Bool) (i : Nat) (v : Value) (hf : Instr.findNow (.int .u8) (.int .u8 k) es.toList 0 = some (some (i, v))) :
    (Instr.lookup 59 (.map (some b)) (.int .u8 k) c).run Try.prog W = .ok (if c then .tuple #[v, .bool true] else v) W := by
  unfold Instr.lookup
  simp only [Sem.run_bind, run_underlying Try.underlying59, run_underlying Try.underlying5, Result.andThen_ok, MapKept.run_getObj_map h, check_u8, Instr.findKey, hf, Sem.run_pure]
theorem look_none {W : World} {b n : Nat} {es : Array MapEntry} (h : W.heap[b]? = some (.map es n)) (k : Int) (z : Value) (hz : (zeroValue 58).run Try.prog W = .ok z W) (hf : Instr.findNow (.int .u8) (.int .u8 k) es.toList 0 = some none) :
    (Instr.lookup 59 (.map (some b)) (.int .u8 k) true).run Try.prog W = .ok (.tuple #[z, .bool false]) W := by
  unfold Instr.lookup
  simp only [Sem.run_bind, run_underlying Try.underlying59, run_underlying Try.underlying5, Result.andThen_ok, MapKept.run_getObj_map h, check_u8, Instr.findKey, hf, Sem.run_pure, hz]
  rfl
theorem wpList_insert_kind {ops : Array Oper} {rest : List Oper} {o : Oper} {a : Act} {Q : Exit → Act → World → Prop} {W : World} (hgd : o.guard = none) (m x v : Operand) (ho : o.op = .insert 59 m x v) (b n : Nat) (es : Array MapEntry) (k : Int) (u : Value)
    (hm : a.eval m = .map (some b)) (h : W.heap[b]? = some (.map es n)) (hx : a.eval x = .int .u8 k) (hv : a.eval v = u) (hf : Instr.findNow (.int .u8) (.int .u8 k) es.toList 0 = some none)
    {B : Nat} {w : World} (hB : Below B w W) (hb : B ≤ b)
    (hK : ∀ W', W'.heap[b]? = some (.map (es.push ⟨.int .u8 k, u, n⟩) (n + 1)) → Below B w W' → W'.heap.size = W.heap.size → wpList Try.prog ops Q rest (a.put o.dst undef) W') : wpList Try.prog ops Q (o :: rest) a W := by
  refine wpList_plain hgd fun K hK' => ?_
  have h1 := put_kind h k u hf
  unfold Oper.wp
  simp [execOp, ho, hm, hx, hv, h1, Result.andThen]
  exact hK' _ _ (hK _ (World.putObj_heap_same (Array.getElem?_eq_some_iff.1 h).1) (below_putObj hB hb) (by simp [World.putObj_size]))
/-- A kind. -/
def kindV (k : Nat) : Value :=
  if k = 1 then .agg #[.bool true, .bool false, .bool false, .func (.func 30) #[] #[], .func (.func 31) #[] #[]]
  else if k = 2 then .agg #[.bool false, .bool true, .bool true, .func (.func 32) #[] #[], .func (.func 33) #[] #[]]
  else if k = 3 then .agg #[.bool false, .bool false, .bool true, .func (.func 34) #[] #[], .func (.func 35) #[] #[]]
  else .agg #[.bool false, .bool true, .bool true, .func (.func 36) #[] #[], .func (.func 37) #[] #[]]
def kmap : Array MapEntry := #[⟨.int .u8 1, kindV 1, 0⟩, ⟨.int .u8 2, kindV 2, 1⟩, ⟨.int .u8 3, kindV 3, 2⟩, ⟨.int .u8 4, kindV 4, 3⟩]
def KindsAt (W : World) (b : Nat) : Prop := W.heap[b]? = some (.map kmap 4)
theorem putObj_same {W : World} {b : Nat} {o o' : Obj} (h : W.heap[b]? = some o') : (W.putObj b o).heap[b]? = some o := World.putObj_heap_same (Array.getElem?_eq_some_iff.1 h).1
theorem kinds_any (w : World) : Calls Try.prog 24 #[] w fun e w' => e = .returned (.map (some w.heap.size)) ∧ KindsAt w' w.heap.size ∧ Below w.heap.size w w' ∧ w'.heap.size = w.heap.size + 1 := by
  have M0 : (w.alloc (.map #[] 0)).heap[w.heap.size]? = some (.map #[] 0) := heap_alloc_new w _
  have B0 : Below w.heap.size w (w.alloc (.map #[] 0)) := (Below.refl _ w).alloc (Nat.le_refl _) _
  have S0 : (w.alloc (.map #[] 0)).heap.size = w.heap.size + 1 := by simp
  go_enter Try.func24, Try.ntmps24
  have M1 : True := trivial
  have M2 : True := trivial
  have M3 : True := trivial
  go_wp2_with (first
    | (refine wpList_insert_kind rfl _ _ _ rfl w.heap.size 0 #[] 1 (kindV 1) (by rfl) M0 (by rfl) (by rfl) (by rfl) B0 (Nat.le_refl _) ?_; clear M1; intro W1 M1 B1 S1; clear M0 B0)
    | (refine wpList_insert_kind rfl _ _ _ rfl w.heap.size 1 #[⟨.int .u8 1, kindV 1, 0⟩] 2 (kindV 2) (by rfl) M1 (by rfl) (by rfl) (by rfl) B1 (Nat.le_refl _) ?_; clear M2; intro W2 M2 B2 S2; clear M1 B1)
    | (refine wpList_insert_kind rfl _ _ _ rfl w.heap.size 2 #[⟨.int .u8 1, kindV 1, 0⟩, ⟨.int .u8 2, kindV 2, 1⟩] 3 (kindV 3) (by rfl) M2 (by rfl) (by rfl) (by rfl) B2 (Nat.le_refl _) ?_; clear M3; intro W3 M3 B3 S3; clear M2 B2)
    | (refine wpList_insert_kind rfl _ _ _ rfl w.heap.size 3 #[⟨.int .u8 1, kindV 1, 0⟩, ⟨.int .u8 2, kindV 2, 1⟩, ⟨.int .u8 3, kindV 3, 2⟩] 4 (kindV 4) (by rfl) M3 (by rfl) (by rfl) (by rfl) B3 (Nat.le_refl _) ?_; intro W4 M4 B4 S4; clear M3 B3))
  go_ret
  exact ⟨rfl, M4, B4, by rw [S4, S3, S2, S1, S0]⟩
end Go.Proofs.Ythdmjeoldnehcaa
