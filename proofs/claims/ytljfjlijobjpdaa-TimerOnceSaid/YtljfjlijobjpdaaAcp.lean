/- A copy of a row of texts by append. Condition: sizes that a machine has. -/
import Derived.Test.YtljfjlijobjpdaaTxt
namespace Go.Proofs.Ytljfjlijobjpdaa
open Go.RowKit
set_option linter.unusedVariables false

/-! ### A copy by append -/
theorem str_info : (Try.prog.info? 9).map (fun i => (i.zero, i.size, i.bytes)) = some (some (.string ByteArray.empty), 1, 16) := by kernel_rfl

theorem run_append_copy (w : World) (A : Option Addr) (c : Nat) (ls : List (List UInt8)) (h : Txt w w.heap.size A ls) (hl : ls.length ≤ 65536) :
    ∃ A' c' w', (Builtin.append_ #[32, 32] 32 #[.slice none 0 0, .slice A ls.length c]).run Try.prog w = .ok (.slice A' ls.length c') w' ∧ Txt w' w'.heap.size A' ls ∧ Below w.heap.size w w' := by
  obtain ⟨i0, hi, hz0, hz1, hz2⟩ := info_parts str_info
  cases A with
  | none =>
    have h0 : ls = [] := by
      cases ls with
      | nil => rfl
      | cons x r => obtain ⟨b, o, e, _⟩ := h 0 (by simp); cases e
    subst h0
    refine ⟨none, 0, w, ?_, fun i hi => by simp at hi, Below.refl _ _⟩
    simp [Builtin.append_, run_underlying Try.underlying32, sizeOf, typeInfo, hi, Builtin.lenOf, Builtin.firstCells]
  | some ad =>
    have hcell : ∀ j u, (ls.map str)[j]? = some u → w.cell? (ad.add j) = some u := by
      intro j u hu
      simp only [List.getElem?_map, Option.map_eq_some_iff] at hu
      obtain ⟨x, hx, rfl⟩ := hu
      obtain ⟨hj, rfl⟩ := List.getElem?_eq_some_iff.1 hx
      obtain ⟨b, o, e, _, hc⟩ := h j hj
      cases e
      rw [← hc]
      unfold Addr.add
      split
      · rename_i h0; subst h0; rfl
      · rfl
    obtain ⟨v', w', hrun, hown, hgr, hnil, hat⟩ := run_append_own_at (P := Try.prog) w w.heap.size 32 32 9 i0 _ 1 16 Try.underlying32 hi hz0 hz1 hz2 rfl (by omega) (.slice none 0 0) 0 []
      (World.ownsRow_nil w _ _ _) ad ls.length c (ls.map str) (by simp) hcell (by intro u hu; simp only [List.mem_map] at hu; obtain ⟨x, _, rfl⟩ := hu; rfl) (by simp only [maxLen]; omega) (by omega) (Nat.le_refl _)
    have hbl : Below w.heap.size w w' := (Below.refl _ _).grown hgr (Nat.le_refl _) (by simp [Value.ownBlock])
    simp only [Nat.zero_add, List.nil_append] at hown
    rcases hown.2 with ⟨rfl, h0⟩ | ⟨g, cap, cur, rfl, hbg, hg, hnc, hcm, hcs, htk⟩
    · have h1 : ls = [] := List.eq_nil_of_length_eq_zero h0
      subst h1
      exact ⟨none, 0, w', hrun, fun i hi => by simp at hi, hbl⟩
    · refine ⟨_, _, w', hrun, fun i hi => ⟨g, 0, rfl, ?_, ?_⟩, hbl⟩
      · have := (Array.getElem?_eq_some_iff.1 hg).1; exact this
      · have := hown.cells (g := g) rfl i (str ls[i]) (by simp [hi])
        rw [← this]
        unfold Addr.add
        split
        · rename_i e; subst e; rfl
        · rfl

theorem wpList_append_copy {ops : Array Oper} {rest : List Oper} {o : Oper} {a : Act} {Q : Exit → Act → World → Prop} {w : World} (hgd : o.guard = none) (s x : Operand)
    (ho : o.op = .call { callee := .builtin .append, args := #[s, x], argTypes := #[32, 32] }) (hty : o.type = 32)
    (A : Option Addr) (c : Nat) (ls : List (List UInt8)) (hs : a.eval s = .slice none 0 0) (hx : a.eval x = .slice A ls.length c)
    (hT : Txt w w.heap.size A ls) (hl : ls.length ≤ 65536)
    (h : ∀ A' c' w', Txt w' w'.heap.size A' ls → Below w.heap.size w w' → wpList Try.prog ops Q rest (a.put o.dst (.slice A' ls.length c')) w') :
    wpList Try.prog ops Q (o :: rest) a w := by
  refine wpList_plain hgd fun K hK => ?_
  obtain ⟨A', c', w', hr, h2, h3⟩ := run_append_copy w A c ls hT hl
  unfold Oper.wp execOp
  simp only [ho, hty, resolve, invoke, builtin, Sem.run_bind, Sem.run_pure, Result.andThen_ok, List.map_toArray, List.map_cons, List.map_nil, hs, hx, hr]
  exact hK _ _ (h A' c' w' h2 h3)
end Go.Proofs.Ytljfjlijobjpdaa
