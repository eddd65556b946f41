/- The walk of a disk's Copy. Condition: the numbers fit. -/
import Derived.Test.YtnbdkabffdaikaaDske
namespace Go.Proofs.Ytnbdkabffdaikaa
open Go.RowKit
set_option linter.unusedVariables false

theorem run_append_bs (w : World) (A : Option Addr) (c : Nat) (l : List UInt8) (h : Bs w A l) (hl : l.length ≤ 1048576) :
    ∃ A' c' w', (Builtin.append_ #[47, 47] 47 #[.slice none 0 0, .slice A l.length c]).run Try.prog w = .ok (.slice A' l.length c') w' ∧ Bs w' A' l ∧ l.length ≤ c' ∧ c' ≤ maxLen ∧ Below w.heap.size w w' := by
  obtain ⟨i0, hi, hz0, hz1, hz2⟩ := info_parts byte_info
  cases A with
  | none =>
    have h0 : l = [] := by
      cases l with
      | nil => rfl
      | cons x r => obtain ⟨b, o, ds, e, _⟩ := h 0 (by simp); cases e
    subst h0
    refine ⟨none, 0, w, ?_, fun i hi => by simp at hi, by simp, by simp, Below.refl _ _⟩
    simp [Builtin.append_, run_underlying Try.underlying47, sizeOf, typeInfo, hi, Builtin.lenOf, Builtin.firstCells]
  | some ad =>
    have hcell : ∀ j u, (bcells l)[j]? = some u → w.cell? (ad.add j) = some u := by
      intro j u hu
      simp only [bcells, List.getElem?_map, Option.map_eq_some_iff] at hu
      obtain ⟨x, hx, rfl⟩ := hu
      obtain ⟨hj, rfl⟩ := List.getElem?_eq_some_iff.1 hx
      obtain ⟨b, o, e, hc⟩ := h.cell j hj
      cases e
      rw [← hc]
      unfold Addr.add
      split
      · rename_i h0; subst h0; rfl
      · rfl
    obtain ⟨v', w', hrun, hown, hgr, hnil, hat⟩ := run_append_own_at (P := Try.prog) w w.heap.size 47 47 5 i0 _ 1 1 Try.underlying47 hi hz0 hz1 hz2 rfl (by omega) (.slice none 0 0) 0 []
      (World.ownsRow_nil w _ _ _) ad l.length c (bcells l) (by simp [bcells]) hcell (by intro u hu; simp only [bcells, List.mem_map] at hu; obtain ⟨x, _, rfl⟩ := hu; rfl) (by simp only [maxLen]; omega) (by omega) (Nat.le_refl _)
    have hbl : Below w.heap.size w w' := (Below.refl _ _).grown hgr (Nat.le_refl _) (by simp [Value.ownBlock])
    simp only [Nat.zero_add, List.nil_append] at hown
    rcases hown.2 with ⟨rfl, h0⟩ | ⟨g, cap, cur, rfl, hbg, hg, hnc, hcm, hcs, htk⟩
    · have h1 : l = [] := List.eq_nil_of_length_eq_zero h0
      subst h1
      exact ⟨none, 0, w', hrun, fun i hi => by simp at hi, by simp, by simp, hbl⟩
    · refine ⟨_, _, w', hrun, fun i hi => ⟨g, 0, cur, rfl, hg, ?_⟩, hnc, hcm, hbl⟩
      have h5 : (cur.toList.take (l.length * 1))[i]? = some (Value.int .u8 (l[i].toNat : Int)) := by rw [htk]; simp [bcells, hi]
      rw [List.getElem?_take_of_lt (by omega)] at h5
      simpa using h5

theorem wpList_append_bs {ops : Array Oper} {rest : List Oper} {o : Oper} {a : Act} {Q : Exit → Act → World → Prop} {w : World} (hgd : o.guard = none) (s x : Operand)
    (ho : o.op = .call { callee := .builtin .append, args := #[s, x], argTypes := #[47, 47] }) (hty : o.type = 47)
    (A : Option Addr) (c : Nat) (l : List UInt8) (hs : a.eval s = .slice none 0 0) (hx : a.eval x = .slice A l.length c)
    (hT : Bs w A l) (hl : l.length ≤ 1048576)
    (h : ∀ A' c' w', Bs w' A' l → l.length ≤ c' → c' ≤ maxLen → Below w.heap.size w w' → wpList Try.prog ops Q rest (a.put o.dst (.slice A' l.length c')) w') :
    wpList Try.prog ops Q (o :: rest) a w := by
  refine wpList_plain hgd fun K hK => ?_
  obtain ⟨A', c', w', hr, h2, h3, h4, h5⟩ := run_append_bs w A c l hT hl
  unfold Oper.wp execOp
  simp only [ho, hty, resolve, invoke, builtin, Sem.run_bind, Sem.run_pure, Result.andThen_ok, List.map_toArray, List.map_cons, List.map_nil, hs, hx, hr]
  exact hK _ _ (h A' c' w' h2 h3 h4 h5)

theorem copy_end {w w2 : World} {A A' : Option Addr} {c c' : Nat} {s : DS} (hb : Below (w.heap.size + 1) (w.alloc (.cells (dcells A s.bytes.length c s) 53)) w2) (hB : Bs w2 A' s.bytes) (hl : s.bytes.length ≤ c') (hc : c' ≤ maxLen) :
    DiskAt (w2.setCell ⟨w.heap.size, 0, none⟩ (.slice A' s.bytes.length c')) w.heap.size s ∧ Below w.heap.size w (w2.setCell ⟨w.heap.size, 0, none⟩ (.slice A' s.bytes.length c')) := by
  have h0 : w2.heap[w.heap.size]? = some (.cells (dcells A s.bytes.length c s) 53 (0, 0)) := (hb.block _ (by omega)).trans (heap_alloc_new w _)
  have hg := grown_set w2 w.heap.size 0 (.slice A' s.bytes.length c')
  refine ⟨⟨A', c', ?_, hl, hc, hB.kept hg h0⟩, ?_⟩
  · rw [heap_set_same h0]; simp [dcells]
  · exact (((Below.refl _ w).alloc (Nat.le_refl _) _).trans (hb.mono (by omega))).setCell (p := ⟨w.heap.size, 0, none⟩) (Nat.le_refl _) _

set_option maxHeartbeats 1000000 in
theorem Copy_any (g : Nat) (s : DS) (w : World) (hD : DiskAt w g s) (hl : s.bytes.length ≤ 1048576) :
    Calls Try.prog 20 #[.pointer (some ⟨g, 0, none⟩)] w fun e w' => ∃ g', e = .returned (.pointer (some ⟨g', 0, none⟩)) ∧ w.heap.size ≤ g' ∧ DiskAt w' g' s ∧ Below w.heap.size w w' := by
  obtain ⟨A, c, h, h2, h3, h4⟩ := hD
  obtain ⟨c0, c1, c2, c3, c4, c5, hf, hlt⟩ := disk_cells h
  have H4 := Lib.hid (h4.below ((Below.refl w.heap.size w).alloc (Nat.le_refl _) (.cells (dcells A s.bytes.length c s) 53)))
  have E := fun (A' : Option Addr) (c' : Nat) (w2 : World) => copy_end (w := w) (w2 := w2) (A := A) (A' := A') (c := c) (c' := c') (s := s)
  clear h h4
  go_enter Try.func20, Try.ntmps20
  have E2 := Lib.hid E
  clear E
  go_wp2_with (refine wpList_append_bs rfl _ _ rfl rfl A c s.bytes rfl rfl H4.out (by omega) ?_; intro A' c' w2 hB2 hl2 hc2 hb2; have z0 : w2.cell? ⟨w.heap.size, 0, none⟩ = some (.slice A s.bytes.length c) := (hb2.cell (p := ⟨w.heap.size, 0, none⟩) (by simp)).trans (by simp); have zf : w2.frozen? ⟨w.heap.size, 0, none⟩ = false := (hb2.frozen (p := ⟨w.heap.size, 0, none⟩) (by simp)).trans (by simp); have Hq := Lib.hid (E2.out A' c' w2 (by simpa [dcells] using hb2) hB2 hl2 hc2); clear hb2 hB2 E2 H4)
  go_ret
  exact ⟨_, rfl, Nat.le_refl _, Hq.out⟩
end Go.Proofs.Ytnbdkabffdaikaa
