/- The memory of LedgerOne: a ledger, the actions that were done, the rows as they were; what each call leaves of it. No walk. Condition: none. -/
import Derived.Test.YthdmjeoldnehcaaLsm
namespace Go.Proofs.Ythdmjeoldnehcaa
open Go.RowKit
set_option linter.unusedVariables false
set_option linter.unusedSimpArgs false

def aflat (d : List Ac) : List Value := d.flatMap Ac.cells
theorem acells_len (a : Ac) : a.cells.length = 7 := rfl
theorem aflat_len : ∀ d : List Ac, (aflat d).length = d.length * 7
  | [] => rfl
  | a :: d => by
    show (a.cells ++ aflat d).length = _
    rw [List.length_append, aflat_len d, acells_len, List.length_cons]
    omega
theorem aflat_app (a b : List Ac) : aflat (a ++ b) = aflat a ++ aflat b := by simp [aflat]
theorem aflat_at : ∀ (d : List Ac) (k : Nat) (h : k < d.length) (j : Nat), j < 7 → (aflat d)[k * 7 + j]? = (d[k]).cells[j]?
  | [], k, h, _, _ => by simp at h
  | a :: d, 0, h, j, hj => by
    show (a.cells ++ aflat d)[_]? = _
    rw [List.getElem?_append_left (by rw [acells_len]; omega)]
    simp
  | a :: d, k + 1, h, j, hj => by
    show (a.cells ++ aflat d)[_]? = _
    rw [List.getElem?_append_right (by rw [acells_len]; omega), acells_len, show (k + 1) * 7 + j - 7 = k * 7 + j by omega]
    exact aflat_at d k (by simpa using h) j hj
theorem aflat_one (d : List Ac) : ∀ u ∈ aflat d, u.oneCell' = true := by
  intro u hu
  unfold aflat at hu
  rw [List.mem_flatMap] at hu
  obtain ⟨a, _, ha⟩ := hu
  simp only [Ac.cells, List.mem_cons, List.not_mem_nil, or_false] at ha
  rcases ha with rfl | rfl | rfl | rfl | rfl | rfl | rfl <;> rfl
theorem info_ac : (Try.prog.info? 35).map (fun i => (i.zero, i.size, i.bytes)) = some (some (.agg zac.toArray), 7, 48) := by kernel_rfl
/-- The k-th action of an own slice. -/
theorem own_act {W : World} {B : Nat} {v : Value} {d : List Ac} (h : W.ownsRow B 35 7 v d.length (aflat d)) {k : Nat} (hk : k < d.length) :
    ∃ rb cap, v = .slice (some ⟨rb, 0, none⟩) d.length cap ∧ ∀ k (hk : k < d.length), W.rangeAt rb (k * 7) (d[k]).cells := by
  rcases h.2 with ⟨_, h0⟩ | ⟨g, cap, cur, rfl, h1, h2, h3, h4, h5, h6⟩
  · omega
  · refine ⟨g, cap, rfl, fun k hk j v hv => ?_⟩
    have hj : j < 7 := by
      have := (List.getElem?_eq_some_iff.1 hv).1
      rwa [acells_len] at this
    have e := aflat_at d k hk j hj
    rw [← h6, hv, List.getElem?_take_of_lt (by omega)] at e
    simp only [World.cell?, h2]
    simpa using e
/-- A ledger, the actions that were done (v), the rows as they were (u). -/
structure On (w : World) (g m bad : Nat) (R : List Rw) (v : Value) (d : List Ac) (u : Value) (Q : List Rw) (W : World) : Prop where
  ex : ∃ sl, Lg W w.heap.size g m sl bad R ∧ (∀ k, v.ownBlock = some k → ¬ Bl g m sl k) ∧ ∀ k, u.ownBlock = some k → ¬ Bl g m sl k
  ov : W.ownsRow w.heap.size 35 7 v d.length (aflat d)
  ou : W.ownsRow w.heap.size 43 10 u Q.length (flat Q)
  vu : ∀ k, v.ownBlock = some k → u.ownBlock ≠ some k
  b : Below w.heap.size w W
theorem On.bel {w : World} {g m bad : Nat} {R : List Rw} {v : Value} {d : List Ac} {u : Value} {Q : List Rw} {W W' : World} (h : On w g m bad R v d u Q W) (hb : Below W.heap.size W W') : On w g m bad R v d u Q W' := by
  obtain ⟨⟨sl, h1, h2, h3⟩, h4, h5, h6, h7⟩ := h
  exact ⟨⟨sl, h1.bel hb, h2, h3⟩, ownsRow_same h4 fun k hk => hb.block k (own_range h4 k hk).2, ownsRow_same h5 fun k hk => hb.block k (own_range h5 k hk).2, h6, below_acc h7 hb⟩
theorem On.draw {w : World} {g m bad : Nat} {R : List Rw} {v : Value} {d : List Ac} {u : Value} {Q : List Rw} {W : World} (h : On w g m bad R v d u Q W) (n : Nat) : On w g m bad R v d u Q (W.drewN n) := h.bel (below_drewN (Below.refl _ W) n)
theorem On.rm {w : World} {g m bad : Nat} {R : List Rw} {v : Value} {d : List Ac} {u : Value} {Q : List Rw} {W : World} (h : On w g m bad R v d u Q W) : Rm w g m bad R W := ⟨h.ex.imp fun sl h => h.1, h.b⟩
theorem On.rows {w : World} {g m bad : Nat} {R : List Rw} {v : Value} {d : List Ac} {u : Value} {Q : List Rw} {W : World} (h : On w g m bad R v d u Q W) : RowsAt W u Q := ⟨h.ou.1, h.ou.2.imp id fun ⟨b, cap, cur, e, h1, h2⟩ => ⟨b, cap, cur, e, Nat.zero_le _, h2⟩⟩
/-- 'was := g.Rows()', or 'now'. -/
theorem On.fresh {w : World} {g m bad : Nat} {R : List Rw} {v : Value} {d : List Ac} {u : Value} {Q : List Rw} {W : World} (h : On w g m bad R v d u Q W) (hlen : R.length ≤ 100000) :
    Calls Try.prog 11 #[.pointer (some ⟨g, 0, none⟩)] W fun e w' => ∃ ob cap, e = .returned (.slice ob R.length cap) ∧ RowsAt w' (.slice ob R.length cap) R ∧ On w g m bad R v d u Q w' ∧ On w g m bad R v d (.slice ob R.length cap) R w' := by
  have h' := h
  obtain ⟨⟨sl, h1, h2, h3⟩, h4, h5, h6, h7⟩ := h
  refine (Rows_any h1 hlen).mono fun e w' ⟨v', he, ho, hb⟩ => ?_
  obtain ⟨ob, cap, rfl⟩ := own_slice ho
  have hn := h'.bel hb
  refine ⟨ob, cap, he, RowsAt.of ho rfl, hn, ⟨sl, h1.bel hb, h2, fun k hk hl => ?_⟩, hn.ov, ⟨ho.1, ho.2.imp id fun ⟨b, cap, cur, e, q1, q2⟩ => ⟨b, cap, cur, e, Nat.le_trans h7.size q1, q2⟩⟩, fun k hk hu => ?_, hn.b⟩
  · have := (own_range ho k hk).1
    have := h1.bl_lt k hl
    omega
  · have := (own_range ho k hu).1
    have := (own_range h4 k hk).2
    omega
theorem On.apply {w : World} {g m bad : Nat} {R : List Rw} {v : Value} {d : List Ac} {u : Value} {Q : List Rw} {W : World} (h : On w g m bad R v d u Q W) (a : Ac) (hlen : R.length ≤ 100000) (hbad : bad < 256) (horgs : a.orgs < 256) :
    Calls Try.prog 14 #[.pointer (some ⟨g, 0, none⟩), .agg a.cells.toArray] W fun r w' => r = .returned (.int .i64 (errOf bad R a : Int)) ∧ On w g m bad (step bad R a) v d u Q w' := by
  obtain ⟨⟨sl, h1, h2, h3⟩, h4, h5, h6, h7⟩ := h
  refine (Apply_any h1 a hlen hbad horgs h7.size).mono fun e w' ⟨he, hd⟩ => ⟨he, ?_⟩
  obtain ⟨sl', l1, l2, l3⟩ := hd
  have ap : ∀ k, k < W.heap.size → ¬ Bl g m sl k → ¬ Bl g m sl' k := fun k hk hn hb => by
    rcases hb with q | q | q
    · exact hn (.inl q)
    · exact hn (.inr (.inl q))
    · rcases l2 with l2 | ⟨j, hj, l2⟩
      · exact hn (.inr (.inr (l2 ▸ q)))
      · rw [l2] at q
        have := Option.some.inj q
        omega
  refine ⟨⟨sl', l1, fun k hk => ap k (own_range h4 k hk).2 (h2 k hk), fun k hk => ap k (own_range h5 k hk).2 (h3 k hk)⟩, ownsRow_same h4 fun k hk => l3.block k (own_range h4 k hk).2 (h2 k hk), ownsRow_same h5 fun k hk => l3.block k (own_range h5 k hk).2 (h3 k hk), h6, l3.below h7 h7.size (fun n hn => h1.bl_le n hn)⟩
theorem wpList_append_acts {w0 : World} {g m bad : Nat} {R : List Rw} {d : List Ac} {u : Value} {Q : List Rw} {ops : Array Oper} {rest : List Oper} {o : Oper} {a : Act} {Q' : Exit → Act → World → Prop} {w : World} (hgd : o.guard = none) (s x : Operand)
    (ho : o.op = .call { callee := .builtin .append, args := #[s, x], argTypes := #[22, 22] })
    (v : Value) (hs : a.eval s = v) (hT : On w0 g m bad R v d u Q w) (ad : Addr) (c : Nat) (ac : Ac) (hx : a.eval x = .slice (some ad) 1 c)
    (hn : ∀ j q, ac.cells[j]? = some q → w.cell? (ad.add j) = some q) (hb : d.length ≤ 100000)
    (h : ∀ v' w', On w0 g m bad R v' (d ++ [ac]) u Q w' → wpList Try.prog ops Q' rest (a.put o.dst v') w') :
    wpList Try.prog ops Q' (o :: rest) a w := by
  refine wpList_plain hgd fun K hK => ?_
  obtain ⟨i0, hi, hz, hsz, hby⟩ := info_parts info_ac
  have hT' := hT
  obtain ⟨⟨sl, h1, h2, h3⟩, h4, h5, h6, h7⟩ := hT
  obtain ⟨v', w', hr, o1, o2, _, o4⟩ := run_append_own_at (P := Try.prog) w w0.heap.size 22 o.type 35 i0 _ 7 48 Try.underlying22 hi hz hsz hby rfl (by omega) v d.length (aflat d) h4 ad 1 c ac.cells (by rfl) hn (fun u hu => aflat_one [ac] u (by simpa [aflat] using hu)) (by simp only [maxLen]; omega) (by omega) h7.size
  have ho2 : w'.ownsRow w0.heap.size 35 7 v' (d ++ [ac]).length (aflat (d ++ [ac])) := by
    rw [List.length_append, aflat_app]
    have : aflat [ac] = ac.cells := by simp [aflat]
    rw [this]
    exact o1
  have hvb : ∀ k, v'.ownBlock = some k → v.ownBlock = some k ∨ k = w.heap.size := fun k hk => by
    rcases o4 with e | e
    · exact .inl (e ▸ hk)
    · rw [e] at hk; exact .inr (Option.some.inj hk).symm
  have hkeep : ∀ k, k < w.heap.size → v.ownBlock ≠ some k → w'.heap[k]? = w.heap[k]? := fun k hk hne => o2.block k hk (fun q => hne q.symm)
  unfold Oper.wp execOp
  simp only [ho, resolve, invoke, builtin, Sem.run_bind, Sem.run_pure, Result.andThen_ok, List.map_toArray, List.map_cons, List.map_nil, hs, hx, hr]
  refine hK _ _ (h v' w' ⟨⟨sl, h1.same fun k hk => hkeep k (h1.bl_lt k hk) (fun q => h2 k q hk), fun k hk => ?_, h3⟩, ho2, ownsRow_same h5 fun k hk => hkeep k (own_range h5 k hk).2 (fun q => h6 k q hk), fun k hk hu => ?_, ?_⟩)
  · rcases hvb k hk with q | q
    · exact h2 k q
    · intro hl
      have := h1.bl_lt k hl
      omega
  · rcases hvb k hk with q | q
    · exact h6 k q hu
    · have := (own_range h5 k hu).2
      omega
  · exact h7.grown o2 h7.size (fun r e => (own_range h4 r e).1)
end Go.Proofs.Ythdmjeoldnehcaa
