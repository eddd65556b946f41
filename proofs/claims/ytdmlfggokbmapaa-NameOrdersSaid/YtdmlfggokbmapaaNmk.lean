/- A map of runes that the call made: insert, store, look up. Condition: at most 1000 entries. -/
import Derived.Test.YtdmlfggokbmapaaNmg
import Derived.Maps.OwnSet
namespace Go.Proofs.Ytdmlfggokbmapaa
open Go.RowKit Go.Maps
set_option linter.unusedVariables false
set_option linter.unusedSimpArgs false

/-- The datum of a row of entries, put one behind the other. -/
def DM (ps : List (Int × Int)) : DataW Unit := ps.foldl (fun D p => D.put (.int .i32 p.1) (.lit (.int .i32 p.2))) (.map [])
theorem DM_snoc (ps : List (Int × Int)) (p : Int × Int) : DM (ps ++ [p]) = (DM ps).put (.int .i32 p.1) (.lit (.int .i32 p.2)) := by simp [DM, List.foldl_append]
def MapR (W : World) (b : Nat) (ps : List (Int × Int)) : Prop := W.ownsMap Try.prog 21 (plainElem Try.prog 21) b ps.length (DM ps)
theorem isMap_DM (ps : List (Int × Int)) : IsMap (DM ps) := by
  unfold DM
  have : ∀ (ps : List (Int × Int)) (D : DataW Unit), IsMap D → IsMap (ps.foldl (fun D p => D.put (.int .i32 p.1) (.lit (.int .i32 p.2))) D) := by
    intro ps
    induction ps with
    | nil => intro D h; exact h
    | cons p r ih => intro D h; exact ih _ (h.put _ _)
  exact this ps _ isMap_empty
theorem key_i32 (r : Int) : WideAt.IsKeyLit (.int .i32 r) := by simp [WideAt.IsKeyLit]
theorem lit_ne {a b : Int} (h : a ≠ b) : (Lit.int .i32 a) ≠ .int .i32 b := fun e => h (by injection e)
/-- What lies at a key: the last entry of it. -/
def lastOf (r : Int) : List (Int × Int) → Option Int → Option Int
  | [], z => z
  | p :: ps, z => lastOf r ps (if p.1 = r then some p.2 else z)
theorem lastOf_snoc (r : Int) (p : Int × Int) : ∀ (ps : List (Int × Int)) (z : Option Int), lastOf r (ps ++ [p]) z = if p.1 = r then some p.2 else lastOf r ps z
  | [], z => rfl
  | q :: ps, z => lastOf_snoc r p ps _
theorem at_DM (r : Int) (z : DataW Unit) : ∀ (n : Nat) (ps : List (Int × Int)), ps.length = n → (DM ps).atKey (.int .i32 r) z = ((lastOf r ps none).map fun v => DataW.lit (.int .i32 v)).getD z ∧ has (DM ps) (.int .i32 r) = (lastOf r ps none).isSome
  | 0, ps, h => by
    obtain rfl : ps = [] := List.eq_nil_of_length_eq_zero h
    exact ⟨rfl, rfl⟩
  | n + 1, ps, h => by
    have hne : ps ≠ [] := by rintro rfl; simp at h
    obtain ⟨qs, p, rfl⟩ : ∃ qs p, ps = qs ++ [p] := ⟨ps.dropLast, ps.getLast hne, (List.dropLast_concat_getLast hne).symm⟩
    have ih := at_DM r z n qs (by simpa using h)
    rw [DM_snoc, lastOf_snoc]
    by_cases hp : p.1 = r
    · rw [if_pos hp, hp, atKey_put_same (isMap_DM qs) (key_i32 r), has_put_same (isMap_DM qs) (key_i32 r)]
      exact ⟨rfl, rfl⟩
    · rw [if_neg hp, atKey_put_other (lit_ne (Ne.symm hp)), has_put_other (lit_ne (Ne.symm hp))]
      exact ih
theorem wf32 {r : Int} (h : -2147483648 ≤ r ∧ r ≤ 2147483647) : (Lit.int .i32 r).wf = true := by
  simpa [Lit.wf, IntKind.min, IntKind.max, IntKind.signed, IntKind.bits] using h
theorem run_put {W : World} {b : Nat} {ps : List (Int × Int)} (h : MapR W b ps) (hn : ps.length < 1000) (k d : Int) (hk : -2147483648 ≤ k ∧ k ≤ 2147483647) (hd : -2147483648 ≤ d ∧ d ≤ 2147483647) :
    ∃ W', (Instr.mapUpdate 43 (.map (some b)) (.int .i32 k) (.int .i32 d)).run Try.prog W = .ok () W' ∧ MapR W' b (ps ++ [(k, d)]) ∧ W.grownBy W' (some b) := by
  obtain ⟨W', h1, h2, h3⟩ := World.ownsMap.update (t := 43) (e := 21) h (int_keyed Try.underlying21) Try.underlying43 (by unfold maxLen; omega) (key := .int .i32 k) (val := .int .i32 d) (keyOf_int_mk Try.underlying21 (wf32 hk)) (plainElem_int Try.underlying21 (wf32 hd))
  refine ⟨W', h1, ?_, h3⟩
  unfold MapR
  rw [DM_snoc, List.length_append]
  exact h2
theorem wpList_insert_map {ops : Array Oper} {rest : List Oper} {o : Oper} {a : Act} {Q : Exit → Act → World → Prop} {W : World} (hgd : o.guard = none) (m x v : Operand) (ho : o.op = .insert 43 m x v) (b : Nat) (ps : List (Int × Int)) (hm : a.eval m = .map (some b)) (h : MapR W b ps) (hn : ps.length < 1000) (k d : Int)
    (hk : -2147483648 ≤ k ∧ k ≤ 2147483647) (hd : -2147483648 ≤ d ∧ d ≤ 2147483647) (hx : a.eval x = .int .i32 k) (hv : a.eval v = .int .i32 d)
    (hK : ∀ W', MapR W' b (ps ++ [(k, d)]) → W.grownBy W' (some b) → wpList Try.prog ops Q rest (a.put o.dst undef) W') : wpList Try.prog ops Q (o :: rest) a W := by
  refine wpList_plain hgd fun K hK' => ?_
  obtain ⟨W', h1, h2, h3⟩ := run_put h hn k d hk hd
  unfold Oper.wp
  simp [execOp, ho, hm, hx, hv, h1, Result.andThen]
  exact hK' _ _ (hK W' h2 h3)
theorem zero32 (W : World) : (zeroValue 21).run Try.prog W = .ok (.int .i32 0) W := by go_simp
/-- 'v, ok := m[r]'. -/
theorem run_look {W : World} {b : Nat} {ps : List (Int × Int)} (h : MapR W b ps) (r : Int) (hr : -2147483648 ≤ r ∧ r ≤ 2147483647) :
    (Instr.lookup 43 (.map (some b)) (.int .i32 r) true).run Try.prog W = .ok (.tuple #[.int .i32 ((lastOf r ps none).getD 0), .bool (lastOf r ps none).isSome]) W := by
  obtain ⟨v, qs, h1, h2⟩ := World.ownsMap.look_ok (t := 43) (e := 21) h (int_keyed Try.underlying21) Try.underlying43 (zero32 W) (plainElem_int Try.underlying21 (by decide)) (key := .int .i32 r) (keyOf_int_mk Try.underlying21 (wf32 hr))
  obtain ⟨e1, e2⟩ := at_DM r (.lit (.int .i32 0)) ps.length ps rfl
  obtain ⟨c, rfl, hc, hwc⟩ := plainElem_int_inv Try.underlying21 h2
  rw [h1, e2]
  rw [e1] at hc
  have : c = (lastOf r ps none).getD 0 := by
    cases hl : lastOf r ps none with
    | none => rw [hl] at hc; simp at hc; exact hc.1.symm
    | some x => rw [hl] at hc; simp at hc; simpa using hc.1.symm
  rw [this]
theorem MapR.bel {W W' : World} {b : Nat} {ps : List (Int × Int)} (h : MapR W b ps) (hb : Below W.heap.size W W') : MapR W' b ps := by
  have hlt := World.ownsMap.lt h
  obtain ⟨es, clock, hh, r⟩ := h
  exact ⟨es, clock, (hb.block b hlt).trans hh, r⟩
theorem MapR.same {W W' : World} {b : Nat} {ps : List (Int × Int)} (h : MapR W b ps) (hb : W'.heap[b]? = W.heap[b]?) : MapR W' b ps := by
  obtain ⟨es, clock, hh, r⟩ := h
  exact ⟨es, clock, hb.trans hh, r⟩
theorem MapR.lt {W : World} {b : Nat} {ps : List (Int × Int)} (h : MapR W b ps) : b < W.heap.size := World.ownsMap.lt h
theorem MapR.made (W : World) : MapR (W.alloc (.map #[] 0)) W.heap.size [] := World.ownsMap_made W _ _ _
/-- What the table says is what a rune looks like. -/
theorem look_is (r : Int) : ((lastOf r pairs none).isSome = true → (lastOf r pairs none).getD 0 = lk r) ∧ ((lastOf r pairs none).isSome = false → lk r = r) := by
  by_cases h : r ∈ pairs.map (·.1)
  · have : ∀ r ∈ pairs.map (·.1), (lastOf r pairs none).isSome = true ∧ (lastOf r pairs none).getD 0 = lk r := by decide +kernel
    obtain ⟨h1, h2⟩ := this r h
    exact ⟨fun _ => h2, fun e => by rw [h1] at e; cases e⟩
  · have hn : ∀ (ps : List (Int × Int)) (z : Option Int), r ∉ ps.map (·.1) → lastOf r ps z = z := by
      intro ps
      induction ps with
      | nil => intro z _; rfl
      | cons p qs ih =>
        intro z h
        simp only [List.map_cons, List.mem_cons, not_or] at h
        rw [lastOf, if_neg (fun e => h.1 e.symm)]
        exact ih z h.2
    rw [hn pairs none h]
    refine ⟨fun e => absurd e (by simp), fun _ => ?_⟩
    unfold lk
    rw [List.find?_eq_none.2]
    · rfl
    · intro p hp hq
      apply h
      simp at hq
      rw [← hq]
      exact List.mem_map_of_mem hp
end Go.Proofs.Ytdmlfggokbmapaa
