/- What a ledger's Apply leaves, without a walk: a row put behind the others, a row turned in place; the law for the append of a row. Condition: none. -/
import Derived.Test.YthdmjeoldnehcaaLgl
namespace Go.Proofs.Ythdmjeoldnehcaa
open Go.RowKit
set_option linter.unusedVariables false
set_option linter.unusedSimpArgs false

theorem info_rw : (Try.prog.info? 43).map (fun i => (i.zero, i.size, i.bytes)) = some (some (.agg zrow.toArray), 10, 32) := by kernel_rfl
theorem info_parts {i : Option TypeInfo} {z : Option Value} {s b : Nat} (h : i.map (fun i => (i.zero, i.size, i.bytes)) = some (z, s, b)) : ∃ i0, i = some i0 ∧ i0.zero = z ∧ i0.size = s ∧ i0.bytes = b := by
  cases i with
  | none => cases h
  | some i =>
    simp only [Option.map_some, Option.some.injEq, Prod.mk.injEq] at h
    exact ⟨i, rfl, h.1, h.2.1, h.2.2⟩
theorem run_append_rows (W : World) (B : Nat) (v : Value) (n : Nat) (xs : List Value) (h : W.ownsRow B 43 10 v n xs) (hB : B ≤ W.heap.size) (ad : Addr) (m c : Nat) (news : List Value) (hl : news.length = m * 10)
    (hn : ∀ j u, news[j]? = some u → W.cell? (ad.add j) = some u) (h1 : ∀ u ∈ news, u.oneCell' = true) (hb : n + m ≤ 1000000) (ty : TypeId) :
    ∃ v' W', (Builtin.append_ #[37, 37] ty #[v, .slice (some ad) m c]).run Try.prog W = .ok v' W' ∧ W'.ownsRow B 43 10 v' (n + m) (xs ++ news) ∧ W.grownBy W' v.ownBlock ∧ (v'.ownBlock = v.ownBlock ∨ v'.ownBlock = some W.heap.size) := by
  obtain ⟨i0, hi, hz, hs, hby⟩ := info_parts info_rw
  obtain ⟨v', w', hr, h2, h3, _, h5⟩ := run_append_own_at (P := Try.prog) W B 37 ty 43 i0 _ 10 32 Try.underlying37 hi hz hs hby rfl (by omega) v n xs h ad m c news hl hn h1 (by simp only [maxLen]; omega) (by omega) hB
  exact ⟨v', w', hr, h2, h3, h5⟩
theorem step_append_rows {ops : Array Oper} {o : Oper} {a : Act} {K : Act → World → Prop} {Q : Exit → Act → World → Prop} {E : Prop} {w : World} (hgd : o.guard = none) (s x : Operand)
    (ho : o.op = .call { callee := .builtin .append, args := #[s, x], argTypes := #[37, 37] })
    (B : Nat) (v : Value) (n : Nat) (xs : List Value) (hs : a.eval s = v) (hT : w.ownsRow B 43 10 v n xs) (hB : B ≤ w.heap.size) (ad : Addr) (m c : Nat) (news : List Value) (hx : a.eval x = .slice (some ad) m c) (hl : news.length = m * 10)
    (hn : ∀ j u, news[j]? = some u → w.cell? (ad.add j) = some u) (h1 : ∀ u ∈ news, u.oneCell' = true) (hb : n + m ≤ 1000000)
    (h : ∀ v' w', w'.ownsRow B 43 10 v' (n + m) (xs ++ news) → w.grownBy w' v.ownBlock → (v'.ownBlock = v.ownBlock ∨ v'.ownBlock = some w.heap.size) → K (a.put o.dst v') w') :
    if Region.wanted o (yielded ops a.tmps) = true then Oper.wp Try.prog o a w K Q else E := by
  have hw : Region.wanted o (yielded ops a.tmps) = true := by simp [Region.wanted, hgd]
  rw [if_pos hw]
  obtain ⟨v', w', hr, h2, h3, h4⟩ := run_append_rows w B v n xs hT hB ad m c news hl hn h1 hb o.type
  unfold Oper.wp execOp
  simp only [ho, resolve, invoke, builtin, Sem.run_bind, Sem.run_pure, Result.andThen_ok, List.map_toArray, List.map_cons, List.map_nil, hs, hx, hr]
  exact h v' w' h2 h3 h4
theorem wpList_append_rows {ops : Array Oper} {rest : List Oper} {o : Oper} {a : Act} {Q : Exit → Act → World → Prop} {w : World} (hgd : o.guard = none) (s x : Operand)
    (ho : o.op = .call { callee := .builtin .append, args := #[s, x], argTypes := #[37, 37] })
    (B : Nat) (v : Value) (n : Nat) (xs : List Value) (hs : a.eval s = v) (hT : w.ownsRow B 43 10 v n xs) (hB : B ≤ w.heap.size) (ad : Addr) (m c : Nat) (news : List Value) (hx : a.eval x = .slice (some ad) m c) (hl : news.length = m * 10)
    (hn : ∀ j u, news[j]? = some u → w.cell? (ad.add j) = some u) (h1 : ∀ u ∈ news, u.oneCell' = true) (hb : n + m ≤ 1000000)
    (h : ∀ v' w', w'.ownsRow B 43 10 v' (n + m) (xs ++ news) → w.grownBy w' v.ownBlock → (v'.ownBlock = v.ownBlock ∨ v'.ownBlock = some w.heap.size) → wpList Try.prog ops Q rest (a.put o.dst v') w') :
    wpList Try.prog ops Q (o :: rest) a w := by
  refine wpList_plain hgd fun K hK => ?_
  obtain ⟨v', w', hr, h2, h3, h4⟩ := run_append_rows w B v n xs hT hB ad m c news hl hn h1 hb o.type
  unfold Oper.wp execOp
  simp only [ho, resolve, invoke, builtin, Sem.run_bind, Sem.run_pure, Result.andThen_ok, List.map_toArray, List.map_cons, List.map_nil, hs, hx, hr]
  exact hK _ _ (h v' w' h2 h3 h4)

/-- A row in place: what RowP says of the whole. -/
theorem own_set {W : World} {B rb cap k : Nat} {rows : List Rw} {cs0 : Array Value} (hB : B ≤ rb) (hs : cs0.size = cap * 10) (hc : rows.length ≤ cap) (hm : cap ≤ maxLen) (ht : cs0.toList.take (rows.length * 10) = flat rows) (hk : k < rows.length) {r : Rw}
    (h : RowP W rb 43 (k * 10) r.cells cs0) : W.ownsRow B 43 10 (.slice (some ⟨rb, 0, none⟩) rows.length cap) (rows.set k r).length (flat (rows.set k r)) := by
  obtain ⟨cs, h1, h2, h3, h4⟩ := h
  refine ⟨flat_len _, .inr ⟨rb, cap, cs, by simp, hB, h1, by simpa using hc, hm, by omega, ?_⟩⟩
  apply List.ext_getElem?
  intro i
  rw [flat_set rows k r hk, List.length_set]
  by_cases hi : i < rows.length * 10
  · rw [List.getElem?_take_of_lt hi]
    by_cases hr : k * 10 ≤ i ∧ i < k * 10 + 10
    · rw [if_pos hr]
      have := h3 (i - k * 10) (by omega)
      rw [show k * 10 + (i - k * 10) = i by omega] at this
      simpa using this
    · rw [if_neg hr, ← ht, List.getElem?_take_of_lt hi]
      have := h4 i (by omega)
      simpa using this
  · rw [List.getElem?_eq_none (by rw [List.length_take]; omega), if_neg (by omega), List.getElem?_eq_none (by rw [flat_len]; omega)]
theorem own_open {W : World} {B : Nat} {sl : Value} {rows : List Rw} (h : W.ownsRow B 43 10 sl rows.length (flat rows)) {k : Nat} (hk : k < rows.length) :
    ∃ rb cap cs0, sl = .slice (some ⟨rb, 0, none⟩) rows.length cap ∧ B ≤ rb ∧ cs0.size = cap * 10 ∧ rows.length ≤ cap ∧ cap ≤ maxLen ∧ cs0.toList.take (rows.length * 10) = flat rows ∧ RowP W rb 43 (k * 10) (rows[k]).cells cs0 := by
  rcases h.2 with ⟨_, h0⟩ | ⟨g, cap, cur, rfl, h1, h2, h3, h4, h5, h6⟩
  · omega
  · refine ⟨g, cap, cur, rfl, h1, h5, h3, h4, h6, cur, h2, rfl, fun j hj => ?_, fun _ _ => rfl⟩
    have e := flat_at rows k hk j hj
    rw [← h6, List.getElem?_take_of_lt (by omega)] at e
    simpa using e
theorem set_last (rows : List Rw) (q r : Rw) : (rows ++ [q]).set rows.length r = rows ++ [r] := by simp
theorem putRow_none {rows : List Rw} {r : Rw} (h : idx rows r.tx = none) : putRow rows r = rows ++ [r] := by unfold putRow; rw [h]
theorem putRow_some {rows : List Rw} {r : Rw} {k : Nat} (h : idx rows r.tx = some k) : putRow rows r = rows.set k r := by unfold putRow; rw [h]
end Go.Proofs.Ythdmjeoldnehcaa
