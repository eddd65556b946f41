/- An append of a whole slice of strings to a slice of strings of the call's own. Condition: at most 65536 strings. -/
import Derived.Test.YtnmkinihkgdkgaaDoorStl
namespace Go.Proofs.YtnmkinihkgdkgaaDoor
open Go.RowKit
set_option linter.unusedVariables false

theorem sls_reads {W : World} {B n c : Nat} {A : Option Addr} {ls : List (List UInt8)} (h : SlS W B (.slice A n c) ls) : Txt W W.heap.size A ls := by
  obtain ⟨A', c', e, ht⟩ := h.txt
  injection e with e1
  subst e1; exact ht
theorem run_append_strs (w : World) (B : Nat) (v : Value) (ls : List (List UInt8)) (hs : SlS w B v ls) (hB : B ≤ w.heap.size) (A : Option Addr) (c : Nat) (ms : List (List UInt8)) (h : Txt w w.heap.size A ms) (hl : ls.length ≤ 65536) (hm : ms.length ≤ 65536) :
    ∃ v' w', (Builtin.append_ #[23, 23] 23 #[v, .slice A ms.length c]).run Tryd.prog w = .ok v' w' ∧ SlS w' B v' (ls ++ ms) ∧ Below B w w' := by
  obtain ⟨i0, hi, hz0, hz1, hz2⟩ := info_parts str_info
  cases A with
  | none =>
    have h0 : ms = [] := by
      cases ms with
      | nil => rfl
      | cons x r => obtain ⟨b, o, e, _⟩ := h 0 (by simp); cases e
    subst h0
    refine ⟨v, w, ?_, by rw [List.append_nil]; exact hs, Below.refl _ _⟩
    rcases hs.2 with ⟨rfl, _⟩ | ⟨g, cap, cur, rfl, hBg, hg, hn, _⟩
    · simp [Builtin.append_, run_underlying Tryd.underlying23, sizeOf, typeInfo, hi, Builtin.lenOf, Builtin.firstCells]
    · simp [Builtin.append_, run_underlying Tryd.underlying23, sizeOf, typeInfo, hi, Builtin.lenOf, Builtin.firstCells, hn, storeCells, Result.andThen]
  | some ad =>
    have hcell : ∀ j u, (ms.map str)[j]? = some u → w.cell? (ad.add j) = some u := by
      intro j u hu
      simp only [List.getElem?_map, Option.map_eq_some_iff] at hu
      obtain ⟨x, hx, rfl⟩ := hu
      obtain ⟨hj, rfl⟩ := List.getElem?_eq_some_iff.1 hx
      obtain ⟨b, o, e, _, hc⟩ := h j hj
      cases e
      rw [← hc]
      unfold Addr.add
      split
      · rename_i h0; subst h0; rfl
      · rfl
    obtain ⟨v', w', hrun, hown, hgr, hnil, hat⟩ := run_append_own_at (P := Tryd.prog) w B 23 23 9 i0 _ 1 16 Tryd.underlying23 hi hz0 hz1 hz2 rfl (by omega) v ls.length (ls.map str)
      hs ad ms.length c (ms.map str) (by simp) hcell (by intro u hu; simp only [List.mem_map] at hu; obtain ⟨x, _, rfl⟩ := hu; rfl) (by simp only [maxLen]; omega) (by omega) hB
    refine ⟨v', w', hrun, ?_, (Below.refl _ _).grown hgr hB (fun k e => hs.own e)⟩
    show w'.ownsRow _ _ _ _ _ _
    simpa using hown
theorem wpList_append_strs {ops : Array Oper} {rest : List Oper} {o : Oper} {a : Act} {Q : Exit → Act → World → Prop} {w : World} (hgd : o.guard = none) (s x : Operand)
    (ho : o.op = .call { callee := .builtin .append, args := #[s, x], argTypes := #[23, 23] }) (hty : o.type = 23)
    (B : Nat) (v : Value) (ls : List (List UInt8)) (hs : a.eval s = v) (hS : SlS w B v ls) (hB : B ≤ w.heap.size) (A : Option Addr) (c : Nat) (ms : List (List UInt8)) (hx : a.eval x = .slice A ms.length c)
    (hT : Txt w w.heap.size A ms) (hl : ls.length ≤ 65536) (hm : ms.length ≤ 65536)
    (h : ∀ v' w', SlS w' B v' (ls ++ ms) → Below B w w' → wpList Tryd.prog ops Q rest (a.put o.dst v') w') :
    wpList Tryd.prog ops Q (o :: rest) a w := by
  refine wpList_plain hgd fun K hK => ?_
  obtain ⟨v', w', hr, h2, h3⟩ := run_append_strs w B v ls hS hB A c ms hT hl hm
  unfold Oper.wp execOp
  simp only [ho, hty, resolve, invoke, builtin, Sem.run_bind, Sem.run_pure, Result.andThen_ok, List.map_toArray, List.map_cons, List.map_nil, hs, hx, hr]
  exact hK _ _ (h v' w' h2 h3)
end Go.Proofs.YtnmkinihkgdkgaaDoor
