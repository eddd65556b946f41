/- A slice of strings of the call's own: append to it; it reads as a row of texts. Condition: sizes that a machine has. -/
import Derived.Test.YtljfjlijobjpdaaAcp
import Derived.Maps.AppendAt
namespace Go.Proofs.Ytljfjlijobjpdaa
open Go.RowKit
set_option linter.unusedVariables false

/-- A slice of strings in blocks from B on. -/
abbrev SlS (W : World) (B : Nat) (v : Value) (ls : List (List UInt8)) : Prop := W.ownsRow B 9 1 v ls.length (ls.map str)
theorem SlS.nil (W : World) (B : Nat) : SlS W B (.slice none 0 0) [] := World.ownsRow_nil W B _ _
theorem SlS.bel {W W' : World} {B : Nat} {v : Value} {ls : List (List UInt8)} (h : SlS W B v ls) (hb : Below W.heap.size W W') : SlS W' B v ls := by
  refine ⟨h.1, ?_⟩
  rcases h.2 with hn | ⟨g, cap, cur, hv, hB, hg, rest⟩
  · exact .inl hn
  · exact .inr ⟨g, cap, cur, hv, hB, (hb.block g (Array.getElem?_eq_some_iff.1 hg).1).trans hg, rest⟩
theorem SlS.heap {W W' : World} {B : Nat} {v : Value} {ls : List (List UInt8)} (h : SlS W B v ls) (e : W'.heap = W.heap) : SlS W' B v ls := by
  refine ⟨h.1, ?_⟩
  rcases h.2 with hn | ⟨g, cap, cur, hv, hB, hg, rest⟩
  · exact .inl hn
  · exact .inr ⟨g, cap, cur, hv, hB, by rw [e]; exact hg, rest⟩
theorem SlS.mono {W : World} {B B' : Nat} {v : Value} {ls : List (List UInt8)} (h : SlS W B v ls) (hB : B' ≤ B) : SlS W B' v ls :=
  ⟨h.1, h.2.imp id fun ⟨g, cap, cur, hv, hg, rest⟩ => ⟨g, cap, cur, hv, Nat.le_trans hB hg, rest⟩⟩
theorem SlS.own {W : World} {B : Nat} {v : Value} {ls : List (List UInt8)} (h : SlS W B v ls) {r : Nat} (hr : v.ownBlock = some r) : B ≤ r := by
  rcases h.2 with ⟨rfl, _⟩ | ⟨g, cap, cur, rfl, hB, _⟩
  · cases hr
  · cases hr; exact hB
theorem SlS.txt {W : World} {B : Nat} {v : Value} {ls : List (List UInt8)} (h : SlS W B v ls) : ∃ A c, v = .slice A ls.length c ∧ Txt W W.heap.size A ls := by
  rcases h.2 with ⟨rfl, h0⟩ | ⟨g, cap, cur, rfl, hB, hg, hn, hc, hcs, htk⟩
  · have : ls = [] := List.eq_nil_of_length_eq_zero h0
    subst this
    exact ⟨none, 0, rfl, fun i hi => by simp at hi⟩
  · refine ⟨_, cap, rfl, fun i hi => ⟨g, 0, rfl, (Array.getElem?_eq_some_iff.1 hg).1, ?_⟩⟩
    rw [Nat.zero_add, cell_of_row W g i _ _ (0, 0) hg]
    have h5 : (cur.toList.take (ls.length * 1))[i]? = some (str ls[i]) := by rw [htk]; simp [hi]
    rw [List.getElem?_take_of_lt (by omega)] at h5
    simpa using h5
theorem cell_new_str (W : World) (x : List UInt8) (fz : Nat × Nat) : ∀ j u, ([str x] : List Value)[j]? = some u → (W.alloc (.cells #[str x] 9 fz)).cell? ((⟨W.heap.size, 0, none⟩ : Addr).add j) = some u := by
  intro j u hu
  rw [Addr.add_lit, Nat.zero_add, World.cell?]
  have : (W.alloc (.cells #[str x] 9 fz)).heap[W.heap.size]? = some (.cells #[str x] 9 fz) := heap_alloc_new W _
  rw [this]
  simpa using hu
theorem str_inf : (Try.prog.info? 9).map (fun i => (i.zero, i.size, i.bytes)) = some (some (.string ByteArray.empty), 1, 16) := by kernel_rfl
/-- 'append(l, x)', the element in a block of its own. -/
theorem wpList_append_str {ops : Array Oper} {rest : List Oper} {o : Oper} {a : Act} {Q : Exit → Act → World → Prop} {W : World} (hgd : o.guard = none) (s x : Operand)
    (ho : o.op = .call { callee := .builtin .append, args := #[s, x], argTypes := #[32, 32] }) (B : Nat) (v : Value) (ls : List (List UInt8)) (y : List UInt8) (hs : a.eval s = v) (h : SlS W B v ls) (hB : B ≤ W.heap.size)
    (hx : a.eval x = .slice (some ⟨W.heap.size, 0, none⟩) 1 1) (hl : ls.length ≤ 1000000)
    (hK : ∀ v' w', SlS w' B v' (ls ++ [y]) → (W.alloc (.cells #[str y] 9 (0, 0))).grownBy w' v.ownBlock → (v'.ownBlock = v.ownBlock ∨ v'.ownBlock = some (W.heap.size + 1)) → Below B W w' → (∃ A c, v' = .slice A (ls.length + 1) c) → wpList Try.prog ops Q rest (a.put o.dst v') w') :
    wpList Try.prog ops Q (o :: rest) a (W.alloc (.cells #[str y] 9 (0, 0))) := by
  obtain ⟨i0, hi, hz0, hz1, hz2⟩ := info_parts str_inf
  have hba : Below B W (W.alloc (.cells #[str y] 9 (0, 0))) := (Below.refl _ _).alloc hB _
  have h2 : SlS (W.alloc (.cells #[str y] 9 (0, 0))) B v ls := h.bel ((Below.refl _ _).alloc (Nat.le_refl _) _)
  refine wpList_append_own_at _ hgd s x 32 ho B 9 i0 _ 1 16 Try.underlying32 hi hz0 hz1 hz2 rfl (by decide) v ls.length _ hs h2 ⟨W.heap.size, 0, none⟩ 1 1 [str y] hx rfl (cell_new_str W y (0, 0)) (by simp [Value.oneCell']) (by unfold maxLen; omega) (by omega) (by simp; omega) ?_
  intro v' w' q1 q2 q3 q4
  have e : SlS w' B v' (ls ++ [y]) := by
    show w'.ownsRow _ _ _ _ _ _
    simpa using q1
  refine hK v' w' e q2 (by simpa using q4) (hba.grown q2 (by simp; omega) (fun k e => h2.own e)) ?_
  obtain ⟨A, c, e2, _⟩ := e.txt
  exact ⟨A, c, by rw [e2]; simp⟩
end Go.Proofs.Ytljfjlijobjpdaa
