/- The walk of the reference's Apply. Condition: the reference lies at the pointer. -/
import Derived.Test.YthdmjeoldnehcaaLrh
namespace Go.Proofs.Ythdmjeoldnehcaa
open Go.RowKit
set_option linter.unusedVariables false
set_option linter.unusedSimpArgs false

theorem run_append_acts (W : World) (B : Nat) (v : Value) (n : Nat) (xs : List Value) (h : W.ownsRow B 35 7 v n xs) (hB : B ≤ W.heap.size) (ad : Addr) (m c : Nat) (news : List Value) (hl : news.length = m * 7)
    (hn : ∀ j u, news[j]? = some u → W.cell? (ad.add j) = some u) (h1 : ∀ u ∈ news, u.oneCell' = true) (hb : n + m ≤ 1000000) (ty : TypeId) :
    ∃ v' W', (Builtin.append_ #[22, 22] ty #[v, .slice (some ad) m c]).run Try.prog W = .ok v' W' ∧ W'.ownsRow B 35 7 v' (n + m) (xs ++ news) ∧ W.grownBy W' v.ownBlock ∧ (v'.ownBlock = v.ownBlock ∨ v'.ownBlock = some W.heap.size) := by
  obtain ⟨i0, hi, hz, hs, hby⟩ := info_parts info_ac
  obtain ⟨v', w', hr, h2, h3, _, h5⟩ := run_append_own_at (P := Try.prog) W B 22 ty 35 i0 _ 7 48 Try.underlying22 hi hz hs hby rfl (by omega) v n xs h ad m c news hl hn h1 (by simp only [maxLen]; omega) (by omega) hB
  exact ⟨v', w', hr, h2, h3, h5⟩
theorem step_append_acts {ops : Array Oper} {o : Oper} {a : Act} {K : Act → World → Prop} {Q : Exit → Act → World → Prop} {E : Prop} {w : World} (hgd : o.guard = none) (s x : Operand)
    (ho : o.op = .call { callee := .builtin .append, args := #[s, x], argTypes := #[22, 22] })
    (B : Nat) (v : Value) (n : Nat) (xs : List Value) (hs : a.eval s = v) (hT : w.ownsRow B 35 7 v n xs) (hB : B ≤ w.heap.size) (ad : Addr) (m c : Nat) (news : List Value) (hx : a.eval x = .slice (some ad) m c) (hl : news.length = m * 7)
    (hn : ∀ j u, news[j]? = some u → w.cell? (ad.add j) = some u) (h1 : ∀ u ∈ news, u.oneCell' = true) (hb : n + m ≤ 1000000)
    (h : ∀ v' w', w'.ownsRow B 35 7 v' (n + m) (xs ++ news) → w.grownBy w' v.ownBlock → (v'.ownBlock = v.ownBlock ∨ v'.ownBlock = some w.heap.size) → K (a.put o.dst v') w') :
    if Region.wanted o (yielded ops a.tmps) = true then Oper.wp Try.prog o a w K Q else E := by
  have hw : Region.wanted o (yielded ops a.tmps) = true := by simp [Region.wanted, hgd]
  rw [if_pos hw]
  obtain ⟨v', w', hr, h2, h3, h4⟩ := run_append_acts w B v n xs hT hB ad m c news hl hn h1 hb o.type
  unfold Oper.wp execOp
  simp only [ho, resolve, invoke, builtin, Sem.run_bind, Sem.run_pure, Result.andThen_ok, List.map_toArray, List.map_cons, List.map_nil, hs, hx, hr]
  exact h v' w' h2 h3 h4
theorem aflat_snoc (L : List Ac) (a : Ac) : aflat (L ++ [a]) = aflat L ++ a.cells := by
  rw [aflat_app]
  simp [aflat]
/-- What Apply leaves of the reference. -/
def RDone (w : World) (B hp : Nat) (v : Value) (bad : Nat) (L : List Ac) (w' : World) : Prop :=
  ∃ v', Rf w' B hp v' bad L ∧ (v'.ownBlock = v.ownBlock ∨ ∃ k, w.heap.size ≤ k ∧ v'.ownBlock = some k) ∧ Chg (Rl hp v) w w'
theorem RDone.off {w w' : World} {B hp bad : Nat} {v : Value} {L : List Ac} (h : Rf w B hp v bad L) (hb : Below w.heap.size w w') : RDone w B hp v bad L w' := ⟨v, h.bel hb, .inl rfl, Chg.of_below hb⟩
theorem rgrow {w W5 W6 : World} {B hp bad : Nat} {v v6 : Value} {L : List Ac} {a : Ac} (h : Rf w B hp v bad L) (hBw : B ≤ w.heap.size) (b5 : Below w.heap.size w W5) (OW : W6.ownsRow B 35 7 v6 (L.length + 1) (aflat L ++ a.cells)) (G6 : W5.grownBy W6 v.ownBlock)
    (OB : v6.ownBlock = v.ownBlock ∨ v6.ownBlock = some W5.heap.size) : RDone w B hp v bad (L ++ [a]) (W6.setCell ⟨hp, 1, none⟩ v6) := by
  have hs : ∀ k, k ≠ hp → (W6.setCell ⟨hp, 1, none⟩ v6).heap[k]? = W6.heap[k]? := fun k hk => Below.heap_setCell _ _ _ _ hk
  have hpl := lt_of_heap h.top
  have tg := (G6.block hp (Nat.lt_of_lt_of_le hpl b5.size) (fun q => h.nh q.symm)).trans ((b5.block hp hpl).trans h.top)
  have n6 : v6.ownBlock ≠ some hp := fun q => by
    rcases OB with e | e
    · exact h.nh (e ▸ q)
    · rw [e] at q
      have := Option.some.inj q
      have := b5.size
      omega
  refine ⟨v6, ⟨?_, ?_, h.bh, n6⟩, ?_, ?_⟩
  · simp [World.setCell, Array.getElem?_modify, tg]
  · have ho : (W6.setCell ⟨hp, 1, none⟩ v6).ownsRow B 35 7 v6 (L.length + 1) (aflat L ++ a.cells) := ownsRow_same OW fun k hk => hs k (fun q => n6 (q ▸ hk))
    rw [List.length_append, List.length_singleton, aflat_snoc]
    exact ho
  · rcases OB with e | e
    · exact .inl e
    · exact .inr ⟨_, b5.size, e⟩
  · refine ((Chg.of_below b5 (P := Rl hp v)).trans (Chg.of_grown (P := fun k => v.ownBlock = some k) G6 (fun k q => q)) (fun k _ q => .inr q)).trans (Q := fun k => k = hp) ⟨rfl, rfl, rfl, by simp [World.setCell], fun k _ hk => hs k hk⟩ (fun k _ q => .inl q)
theorem acs_at {W : World} {b kind : Nat} {c e s org : Int} {yes : Bool} {orgs : Nat} (p : W.heap[b]? = some (.cells #[.int .u8 (kind : Int), .int .i64 c, .int .i64 e, .int .i64 s, .int .i64 org, .bool yes, .int .u8 (orgs : Int)] 35 (0, 0))) :
    W.cell? ⟨b, 0, none⟩ = some (.int .u8 (kind : Int)) ∧ W.cell? ⟨b, 1, none⟩ = some (.int .i64 c) ∧ W.cell? ⟨b, 2, none⟩ = some (.int .i64 e) ∧ W.cell? ⟨b, 3, none⟩ = some (.int .i64 s) ∧ W.cell? ⟨b, 4, none⟩ = some (.int .i64 org) ∧ W.cell? ⟨b, 5, none⟩ = some (.bool yes) ∧ W.cell? ⟨b, 6, none⟩ = some (.int .u8 (orgs : Int)) :=
  ⟨cell_of_row _ _ 0 _ _ (0, 0) p, cell_of_row _ _ 1 _ _ (0, 0) p, cell_of_row _ _ 2 _ _ (0, 0) p, cell_of_row _ _ 3 _ _ (0, 0) p, cell_of_row _ _ 4 _ _ (0, 0) p, cell_of_row _ _ 5 _ _ (0, 0) p, cell_of_row _ _ 6 _ _ (0, 0) p⟩
set_option maxHeartbeats 8000000 in
theorem rApply_any {B hp bad : Nat} {v : Value} {L : List Ac} {w : World} (h : Rf w B hp v bad L) (ok : ∀ a ∈ L, Okd bad a) (a : Ac) (hlen : L.length ≤ 100000) (hbad : bad < 256) (horgs : a.orgs < 256) (hkind : a.kind < 256) (hBw : B ≤ w.heap.size) :
    Calls Try.prog 9 #[.pointer (some ⟨hp, 0, none⟩), .agg a.cells.toArray] w fun r w' => r = .returned (.int .i64 (errR bad L a : Int)) ∧ RDone w B hp v bad (if errR bad L a = 0 then L ++ [a] else L) w' := by
  have hm : ∀ W : World, Rf W B hp v bad L → Calls Try.prog 21 #[.pointer (some ⟨hp, 0, none⟩), .agg a.cells.toArray] W fun e w' => e = .returned (.int .i64 (errR bad L a : Int)) ∧ Below W.heap.size W w' := fun W hW => rMay_any hW ok a hlen hbad horgs hkind
  generalize errR bad L a = er at hm ⊢
  have b0 := (Below.refl w.heap.size w).alloc (Nat.le_refl _) (.cells a.cells.toArray 35 (0, 0))
  have p0 := heap_alloc_new w (.cells a.cells.toArray 35 (0, 0))
  have H1 := Lib.hid (h.bel b0)
  have H0 := Lib.hid h
  have B1 := Lib.hid b0
  have P1 := Lib.hid p0
  have HM := Lib.hid hm
  obtain ⟨ob, cap, rfl⟩ := h.slice
  clear h b0 p0 hm
  obtain ⟨kind, ⟨c, e, s⟩, org, yes, orgs⟩ := a
  simp only [Ac.cells] at *
  go_enter Try.func9, Try.ntmps9
  go_upto_region 1 with (fail)
  generalize w.alloc (.cells #[.int .u8 (kind : Int), .int .i64 c, .int .i64 e, .int .i64 s, .int .i64 org, .bool yes, .int .u8 (orgs : Int)] 35 (0, 0)) = w1 at H1 B1 P1 ⊢
  obtain ⟨q0, q1, q2, q3, q4, q5, q6⟩ := acs_at P1.out
  by_cases he : er = 0
  rotate_left
  · have d1 : ((er : Int) == 0) = false := by simp; omega
    have HE := Lib.hid he
    clear he
    go_wp2_with (go_at_call 21; (with_reducible refine (HM.out _ H1.out).mono ?_); rintro r W2 ⟨rfl, hb⟩; have B2 := Lib.hid (below_acc B1.out hb); clear hb)
    go_ret
    exact ⟨rfl, RDone.off H0.out B2.out⟩
  subst he
  have HM2 : Hid (∀ W : World, Rf W B hp (.slice ob L.length cap) bad L → Calls Try.prog 21 #[.pointer (some ⟨hp, 0, none⟩), .agg #[.int .u8 (kind : Int), .int .i64 c, .int .i64 e, .int .i64 s, .int .i64 org, .bool yes, .int .u8 (orgs : Int)]] W fun e w' => e = .returned (.int .i64 0) ∧ Below W.heap.size W w') := HM.out
  clear HM
  go_upto_region 3 with (go_at_call 21; (with_reducible refine (HM2.out _ H1.out).mono ?_); rintro r W2 ⟨rfl, hb⟩; have B2 := Lib.hid (below_acc B1.out hb); have P2 := Lib.hid ((hb.block _ (lt_of_heap P1.out)).trans P1.out); clear hb)
  clear q0 q1 q2 q3 q4 q5 q6 HM2 H1 B1 P1
  obtain ⟨q0, q1, q2, q3, q4, q5, q6⟩ := acs_at P2.out
  have t1 := cell_of_row _ _ 1 _ _ (0, 0) (H0.out.bel B2.out).top
  simp only [List.getElem?_toArray, List.getElem?_cons_zero, List.getElem?_cons_succ] at t1
  have B5 : Hid (Below w.heap.size w (W2.drew.alloc (.cells #[.int .u8 (kind : Int), .int .i64 c, .int .i64 e, .int .i64 s, .int .i64 org, .bool yes, .int .u8 (orgs : Int)] 35 (0, 0)))) := B2.out.drew.alloc B2.out.size _
  have H5 := Lib.hid (H0.out.bel B5.out)
  have NW : Hid (∀ j u, (Ac.cells ⟨kind, ⟨c, e, s⟩, org, yes, orgs⟩)[j]? = some u → (W2.drew.alloc (.cells #[.int .u8 (kind : Int), .int .i64 c, .int .i64 e, .int .i64 s, .int .i64 org, .bool yes, .int .u8 (orgs : Int)] 35 (0, 0))).cell? ((⟨W2.heap.size, 0, none⟩ : Addr).add j) = some u) := by
    intro j u hu
    rw [Addr.add_mid, Nat.zero_add]
    refine (cell_of_row _ _ j _ _ (0, 0) (heap_alloc_new W2.drew _)).trans ?_
    rw [← hu]
    simp [Ac.cells]
  have hBW : B ≤ W2.heap.size := Nat.le_trans hBw B2.out.size
  have tg5 := Lib.hid H5.out.top
  have nh5 : (Value.slice ob L.length cap).ownBlock ≠ some hp := H0.out.nh
  have t1a : (W2.alloc (.cells #[.int .u8 (kind : Int), .int .i64 c, .int .i64 e, .int .i64 s, .int .i64 org, .bool yes, .int .u8 (orgs : Int)] 35 (0, 0))).cell? ⟨hp, 1, none⟩ = some (.slice ob L.length cap) := cell_of_row _ _ 1 _ _ (0, 0) H5.out.top
  go_region_law (first
    | (refine step_append_acts (by rfl) _ _ (by rfl) B _ L.length (aflat L) (by rfl) H5.out.own (by simp; omega) ⟨W2.heap.size, 0, none⟩ 1 1 (Ac.cells ⟨kind, ⟨c, e, s⟩, org, yes, orgs⟩) (by rfl) (by rfl) NW.out (fun u hu => aflat_one [⟨kind, ⟨c, e, s⟩, org, yes, orgs⟩] u (by simpa [aflat] using hu)) (by omega) ?_
       intro v6 W6 OW6 G6 OB6
       obtain ⟨ob6, cap6, rfl⟩ := own_slice OW6
       have RD := Lib.hid (rgrow H0.out hBw B5.out OW6 G6 OB6)
       have tg := (G6.block hp (lt_of_heap tg5.out) (fun q => nh5 q.symm)).trans tg5.out
       have c1 := cell_of_row _ _ 1 _ _ (0, 0) tg
       have fz := frozen_of_row _ _ 1 _ _ tg
       simp only [List.getElem?_toArray, List.getElem?_cons_zero, List.getElem?_cons_succ] at c1
       clear OW6 G6 OB6 tg))
  all_goals
    have RD2 := Lib.hid RD.out
    clear RD c1 fz t1a t1 q0 q1 q2 q3 q4 q5 q6 NW B5 H5 tg5
    generalize W6.setCell ⟨hp, 1, none⟩ (.slice ob6 (L.length + 1) cap6) = W8 at RD2 ⊢
    go_wp2_with fail
    go_ret
    exact ⟨rfl, RD2.out⟩
end Go.Proofs.Ythdmjeoldnehcaa
