/- A ledger and the reference side by side in memory; a copy of a row of actions by append. No walk. Condition: sizes that a machine has. -/
import Derived.Test.YthdmjeoldnehcaaLrj
namespace Go.Proofs.Ythdmjeoldnehcaa
open Go.RowKit
set_option linter.unusedVariables false
set_option linter.unusedSimpArgs false

/-- The reference of a call's own, behind some actions that were done. -/
structure Ra (w : World) (hp bad : Nat) (L : List Ac) (W : World) : Prop where
  r : ∃ v, Rf W w.heap.size hp v bad L
  b : Below w.heap.size w W
theorem Ra.bel {w : World} {hp bad : Nat} {L : List Ac} {W W' : World} (h : Ra w hp bad L W) (hb : Below W.heap.size W W') : Ra w hp bad L W' := ⟨h.r.imp fun v hv => hv.bel hb, below_acc h.b hb⟩
theorem Ra.apply {w : World} {hp bad : Nat} {L : List Ac} {W : World} (h : Ra w hp bad L W) {R : List Rw} (bt : Bt bad L R) (a : Ac) (hlen : L.length ≤ 100000) (hbad : bad < 256) (horgs : a.orgs < 256) (hkind : a.kind < 256) :
    Calls Try.prog 9 #[.pointer (some ⟨hp, 0, none⟩), .agg a.cells.toArray] W fun r w' => r = .returned (.int .i64 (errOf bad R a : Int)) ∧ Ra w hp bad (if errOf bad R a = 0 then L ++ [a] else L) w' := by
  obtain ⟨⟨v, hv⟩, hb⟩ := h
  rw [← errR_is bt horgs]
  exact (rApply_any hv bt.ok a hlen hbad horgs hkind hb.size).mono fun e w' ⟨h1, h2⟩ => ⟨h1, by
    obtain ⟨v', r1, r2, r3⟩ := h2
    exact ⟨⟨v', r1⟩, r3.below hb hb.size (fun n hn => (hv.bl_lt n hn).1)⟩⟩
/-- A ledger and the reference, apart. -/
structure Bo (w : World) (g m hp bad : Nat) (R : List Rw) (L : List Ac) (W : World) : Prop where
  ex : ∃ sl v, Lg W w.heap.size g m sl bad R ∧ Rf W w.heap.size hp v bad L ∧ ∀ k, Bl g m sl k → ¬ Rl hp v k
  b : Below w.heap.size w W
theorem Bo.bel {w : World} {g m hp bad : Nat} {R : List Rw} {L : List Ac} {W W' : World} (h : Bo w g m hp bad R L W) (hb : Below W.heap.size W W') : Bo w g m hp bad R L W' := by
  obtain ⟨⟨sl, v, h1, h2, h3⟩, hb1⟩ := h
  exact ⟨⟨sl, v, h1.bel hb, h2.bel hb, h3⟩, below_acc hb1 hb⟩
theorem Bo.ra {w : World} {g m hp bad : Nat} {R : List Rw} {L : List Ac} {W : World} (h : Bo w g m hp bad R L W) : Ra w hp bad L W := by
  obtain ⟨⟨sl, v, h1, h2, h3⟩, hb⟩ := h
  exact ⟨⟨v, h2⟩, hb⟩
theorem Bo.rapply {w : World} {g m hp bad : Nat} {R : List Rw} {L : List Ac} {W : World} (h : Bo w g m hp bad R L W) {R' : List Rw} (bt : Bt bad L R') (a : Ac) (hlen : L.length ≤ 100000) (hbad : bad < 256) (horgs : a.orgs < 256) (hkind : a.kind < 256) :
    Calls Try.prog 9 #[.pointer (some ⟨hp, 0, none⟩), .agg a.cells.toArray] W fun r w' => r = .returned (.int .i64 (errOf bad R' a : Int)) ∧ Bo w g m hp bad R (if errOf bad R' a = 0 then L ++ [a] else L) w' := by
  obtain ⟨⟨sl, v, h1, h2, h3⟩, hb⟩ := h
  rw [← errR_is bt horgs]
  exact (rApply_any h2 bt.ok a hlen hbad horgs hkind hb.size).mono fun e w' ⟨he, hr⟩ => ⟨he, by
    obtain ⟨v', r1, r2, r3⟩ := hr
    refine ⟨⟨sl, v', h1.chg r3 (fun k hk hl => h3 k hk hl), r1, fun k hk hl => ?_⟩, r3.below hb hb.size (fun n hn => (h2.bl_lt n hn).1)⟩
    rcases hl with rfl | hl
    · exact h3 _ hk (.inl rfl)
    · rcases r2 with q | ⟨j, hj, q⟩
      · exact h3 k hk (.inr (q ▸ hl))
      · have h4 := h1.bl_lt k hk
        rw [q] at hl
        have := Option.some.inj hl
        omega⟩
theorem Bo.apply {w : World} {g m hp bad : Nat} {R : List Rw} {L : List Ac} {W : World} (h : Bo w g m hp bad R L W) (a : Ac) (hlen : R.length ≤ 100000) (hbad : bad < 256) (horgs : a.orgs < 256) :
    Calls Try.prog 14 #[.pointer (some ⟨g, 0, none⟩), .agg a.cells.toArray] W fun r w' => r = .returned (.int .i64 (errOf bad R a : Int)) ∧ Bo w g m hp bad (step bad R a) L w' := by
  obtain ⟨⟨sl, v, h1, h2, h3⟩, hb⟩ := h
  refine (Apply_any h1 a hlen hbad horgs hb.size).mono fun e w' ⟨he, hd⟩ => ⟨he, ?_⟩
  obtain ⟨sl', l1, l2, l3⟩ := hd
  refine ⟨⟨sl', v, l1, h2.same (fun k hk => l3.block k (h2.bl_lt k hk).2 (fun q => h3 k q hk)), fun k hk hl => ?_⟩, l3.below hb hb.size (fun n hn => h1.bl_le n hn)⟩
  rcases hk with rfl | rfl | hk
  · exact h3 _ (.inl rfl) hl
  · exact h3 _ (.inr (.inl rfl)) hl
  · rcases l2 with q | ⟨j, hj, q⟩
    · exact h3 k (.inr (.inr (q ▸ hk))) hl
    · have h4 := (h2.bl_lt k hl).2
      rw [q] at hk
      have := Option.some.inj hk
      omega
theorem Bo.rows {w : World} {g m hp bad : Nat} {R : List Rw} {L : List Ac} {W : World} (h : Bo w g m hp bad R L W) (hlen : R.length ≤ 100000) :
    Calls Try.prog 11 #[.pointer (some ⟨g, 0, none⟩)] W fun e w' => ∃ ob cap, e = .returned (.slice ob R.length cap) ∧ RowsAt w' (.slice ob R.length cap) R ∧ Bo w g m hp bad R L w' := by
  have h' := h
  obtain ⟨⟨sl, v, h1, h2, h3⟩, hb⟩ := h
  refine (Rows_any h1 hlen).mono fun e w' ⟨v', he, ho, hbl⟩ => ?_
  obtain ⟨ob, cap, rfl⟩ := own_slice ho
  exact ⟨ob, cap, he, RowsAt.of ho rfl, h'.bel hbl⟩
theorem Bo.rrows {w : World} {g m hp bad : Nat} {R : List Rw} {L : List Ac} {W : World} (h : Bo w g m hp bad R L W) {R' : List Rw} (bt : Bt bad L R') (hlen : L.length ≤ 100000) :
    Calls Try.prog 12 #[.pointer (some ⟨hp, 0, none⟩)] W fun e w' => ∃ ob cap, e = .returned (.slice ob R'.length cap) ∧ RowsAt w' (.slice ob R'.length cap) R' ∧ Below W.heap.size W w' := by
  obtain ⟨⟨sl, v, h1, h2, h3⟩, hb⟩ := h
  have e : rwTo L L.length = R' := bt.rows.symm
  refine (rRows_any h2 bt.ok hlen).mono fun e' w' ⟨v', he, ho, hbl⟩ => ?_
  rw [e] at ho
  obtain ⟨ob, cap, rfl⟩ := own_slice ho
  exact ⟨ob, cap, he, RowsAt.of ho rfl, hbl⟩
/-- The reference is made. -/
theorem Ra.new {w W : World} (hb : Below w.heap.size w W) (bad : Nat) : Ra w W.heap.size bad [] (W.alloc (.cells #[.int .u8 (bad : Int), .slice none 0 0] 30 (0, 0))) :=
  ⟨⟨.slice none 0 0, heap_alloc_new W _, ⟨rfl, .inl ⟨rfl, rfl⟩⟩, hb.size, by simp [Value.ownBlock]⟩, hb.alloc hb.size _⟩
theorem Bo.new {w W : World} {g m bad : Nat} {R : List Rw} (h : Rm w g m bad R W) : Bo w g m W.heap.size bad R [] (W.alloc (.cells #[.int .u8 (bad : Int), .slice none 0 0] 30 (0, 0))) := by
  obtain ⟨⟨sl, hl⟩, hb⟩ := h
  refine ⟨⟨sl, .slice none 0 0, hl.bel ((Below.refl _ W).alloc (Nat.le_refl _) _), ⟨heap_alloc_new W _, ⟨rfl, .inl ⟨rfl, rfl⟩⟩, hb.size, by simp [Value.ownBlock]⟩, fun k hk hr => ?_⟩, hb.alloc hb.size _⟩
  rcases hr with rfl | hr
  · have := hl.bl_lt _ hk
    omega
  · cases hr

/-- The first action that can't be done. -/
theorem first_bad (P : Nat → Prop) : ∀ n : Nat, (∀ j, j < n → P j) ∨ ∃ k, k < n ∧ (∀ j, j < k → P j) ∧ ¬ P k
  | 0 => .inl fun j hj => by omega
  | n + 1 => by
    rcases first_bad P n with h | ⟨k, h1, h2, h3⟩
    · by_cases hn : P n
      · refine .inl fun j hj => ?_
        by_cases e : j = n
        · rw [e]; exact hn
        · exact h j (by omega)
      · exact .inr ⟨n, by omega, h, hn⟩
    · exact .inr ⟨k, by omega, h2, h3⟩
theorem aflat_at' {d : List Ac} {j : Nat} {u : Value} (h : (aflat d)[j]? = some u) : ∃ (k : Nat) (hk : k < d.length), (d[k]).cells[j - k * 7]? = some u ∧ k * 7 ≤ j ∧ j < k * 7 + 7 := by
  have hj := (List.getElem?_eq_some_iff.1 h).1
  rw [aflat_len] at hj
  have hk : j / 7 < d.length := by omega
  have hm := Nat.div_add_mod j 7
  have hr := Nat.mod_lt j (show 0 < 7 by omega)
  refine ⟨j / 7, hk, ?_, by omega, by omega⟩
  have := aflat_at d (j / 7) hk (j % 7) hr
  rw [show j / 7 * 7 + j % 7 = j by omega, h] at this
  rw [show j - j / 7 * 7 = j % 7 by omega]
  exact this.symm
theorem run_append_acopy (w : World) (A : Option Addr) (c : Nat) (ls : List Ac) (h : Acts w w.heap.size A ls) (hl : ls.length ≤ 65536) (ty : TypeId) :
    ∃ A' c' w', (Builtin.append_ #[22, 22] ty #[.slice none 0 0, .slice A ls.length c]).run Try.prog w = .ok (.slice A' ls.length c') w' ∧ Acts w' w'.heap.size A' ls ∧ Below w.heap.size w w' := by
  obtain ⟨i0, hi, hz, hsz, hby⟩ := info_parts info_ac
  cases A with
  | none =>
    have h0 : ls = [] := by
      cases ls with
      | nil => rfl
      | cons x r => obtain ⟨b, o, e, _⟩ := h 0 (by simp); cases e
    subst h0
    refine ⟨none, 0, w, ?_, fun i hi => by simp at hi, Below.refl _ _⟩
    simp [Builtin.append_, run_underlying Try.underlying22, sizeOf, typeInfo, hi, Builtin.lenOf, Builtin.firstCells]
  | some ad =>
    have hcell : ∀ j u, (aflat ls)[j]? = some u → w.cell? (ad.add j) = some u := by
      intro j u hu
      obtain ⟨k, hk, h1, h2, h3⟩ := aflat_at' hu
      obtain ⟨b, o, e, _, hr⟩ := h k hk
      cases e
      rw [Addr.add_mid]
      have := hr (j - k * 7) u h1
      rwa [show o + k * 7 + (j - k * 7) = o + j by omega] at this
    obtain ⟨v', w', hrun, hown, hgr, hnil, hat⟩ := run_append_own_at (P := Try.prog) w w.heap.size 22 ty 35 i0 _ 7 48 Try.underlying22 hi hz hsz hby rfl (by omega) (.slice none 0 0) 0 []
      (World.ownsRow_nil w _ _ _) ad ls.length c (aflat ls) (aflat_len ls) hcell (aflat_one ls) (by simp only [maxLen]; omega) (by omega) (Nat.le_refl _)
    have hbl : Below w.heap.size w w' := (Below.refl _ _).grown hgr (Nat.le_refl _) (by simp [Value.ownBlock])
    simp only [Nat.zero_add, List.nil_append] at hown
    obtain ⟨ob, cap, rfl⟩ := own_slice hown
    refine ⟨ob, cap, w', hrun, fun i hi => ?_, hbl⟩
    obtain ⟨rb, cap2, e, hr⟩ := own_act hown hi
    cases e
    refine ⟨rb, 0, rfl, (own_range hown rb rfl).2, ?_⟩
    rw [Nat.zero_add]
    exact hr i hi
theorem wpList_append_acopy {ops : Array Oper} {rest : List Oper} {o : Oper} {a : Act} {Q : Exit → Act → World → Prop} {w : World} (hgd : o.guard = none) (s x : Operand)
    (ho : o.op = .call { callee := .builtin .append, args := #[s, x], argTypes := #[22, 22] })
    (hs : a.eval s = .slice none 0 0) (A : Option Addr) (c : Nat) (ls : List Ac) (hx : a.eval x = .slice A ls.length c)
    (hT : Acts w w.heap.size A ls) (hl : ls.length ≤ 65536)
    (h : ∀ A' c' w', Acts w' w'.heap.size A' ls → Below w.heap.size w w' → wpList Try.prog ops Q rest (a.put o.dst (.slice A' ls.length c')) w') :
    wpList Try.prog ops Q (o :: rest) a w := by
  refine wpList_plain hgd fun K hK => ?_
  obtain ⟨A', c', w', hr, h2, h3⟩ := run_append_acopy w A c ls hT hl o.type
  unfold Oper.wp execOp
  simp only [ho, resolve, invoke, builtin, Sem.run_bind, Sem.run_pure, Result.andThen_ok, List.map_toArray, List.map_cons, List.map_nil, hs, hx, hr]
  exact hK _ _ (h A' c' w' h2 h3)
end Go.Proofs.Ythdmjeoldnehcaa
