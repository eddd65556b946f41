/- The memory of TimerOnce: the timers, the keys that should be there, those that stay, those that were due, the step. No walk. Condition: none. -/
import Derived.Test.YtljfjlijobjpdaaTik
import Derived.Test.YtljfjlijobjpdaaTii
namespace Go.Proofs.Ytljfjlijobjpdaa
open Go.RowKit
set_option linter.unusedVariables false
set_option linter.unusedSimpArgs false

def sflat (d : List Sp) : List Value := d.flatMap Sp.cells
theorem scells_len (a : Sp) : a.cells.length = 3 := rfl
theorem sflat_len : ∀ d : List Sp, (sflat d).length = d.length * 3
  | [] => rfl
  | a :: d => by
    show (a.cells ++ sflat d).length = _
    rw [List.length_append, sflat_len d, scells_len, List.length_cons]
    omega
theorem sflat_app (a b : List Sp) : sflat (a ++ b) = sflat a ++ sflat b := by simp [sflat]
theorem sflat_at : ∀ (d : List Sp) (k : Nat) (h : k < d.length) (j : Nat), j < 3 → (sflat d)[k * 3 + j]? = (d[k]).cells[j]?
  | [], k, h, _, _ => by simp at h
  | a :: d, 0, h, j, hj => by
    show (a.cells ++ sflat d)[_]? = _
    rw [List.getElem?_append_left (by rw [scells_len]; omega)]
    simp
  | a :: d, k + 1, h, j, hj => by
    show (a.cells ++ sflat d)[_]? = _
    rw [List.getElem?_append_right (by rw [scells_len]; omega), scells_len, show (k + 1) * 3 + j - 3 = k * 3 + j by omega]
    exact sflat_at d k (by simpa using h) j hj
theorem sflat_one (d : List Sp) : ∀ u ∈ sflat d, u.oneCell' = true := by
  intro u hu
  unfold sflat at hu
  rw [List.mem_flatMap] at hu
  obtain ⟨a, _, ha⟩ := hu
  simp only [Sp.cells, List.mem_cons, List.not_mem_nil, or_false] at ha
  rcases ha with rfl | rfl | rfl <;> rfl
theorem info_sp : (Try.prog.info? 28).map (fun i => (i.zero, i.size, i.bytes)) = some (some (.agg (Sp.cells ⟨0, [], 0⟩).toArray), 3, 32) := by kernel_rfl
/-- The k-th step of an own slice. -/
theorem own_sp {W : World} {B : Nat} {v : Value} {d : List Sp} (h : W.ownsRow B 28 3 v d.length (sflat d)) {k : Nat} (hk : k < d.length) :
    ∃ rb cap, v = .slice (some ⟨rb, 0, none⟩) d.length cap ∧ ∀ k (hk : k < d.length), W.rangeAt rb (k * 3) (d[k]).cells := by
  rcases h.2 with ⟨_, h0⟩ | ⟨g, cap, cur, rfl, h1, h2, h3, h4, h5, h6⟩
  · omega
  · refine ⟨g, cap, rfl, fun k hk j v hv => ?_⟩
    have hj : j < 3 := by
      have := (List.getElem?_eq_some_iff.1 hv).1
      rwa [scells_len] at this
    have e := sflat_at d k hk j hj
    rw [← h6, hv, List.getElem?_take_of_lt (by omega)] at e
    simp only [World.cell?, h2]
    simpa using e
theorem sls_range {W : World} {B : Nat} {v : Value} {ls : List (List UInt8)} (h : SlS W B v ls) (k : Nat) (hk : v.ownBlock = some k) : B ≤ k ∧ k < W.heap.size := own_range h k hk
/-- The timers; the keys that should be there (v); those that stay (u); what was due (x); the step's box. -/
structure Wm (w : World) (gb mb : Nat) (l : List On1) (M : Mp) (no : Nat) (v : Value) (want : List Sp) (u : Value) (rs : List Sp) (x : Value) (ks : List (List UInt8)) (sb : Nat) (so : Option Obj) (W : World) : Prop where
  ex : ∃ sl, Tm W w.heap.size gb mb sl l M no ∧ (∀ k, v.ownBlock = some k → ¬ Tl gb mb sl k) ∧ (∀ k, u.ownBlock = some k → ¬ Tl gb mb sl k) ∧ ∀ o, so = some o → ¬ Tl gb mb sl sb
  ov : W.ownsRow w.heap.size 28 3 v want.length (sflat want)
  ou : W.ownsRow w.heap.size 28 3 u rs.length (sflat rs)
  ox : SlS W w.heap.size x ks
  vu : ∀ k, v.ownBlock = some k → u.ownBlock ≠ some k
  xu : ∀ k, x.ownBlock = some k → u.ownBlock ≠ some k
  bx : ∀ o, so = some o → W.heap[sb]? = some o ∧ u.ownBlock ≠ some sb
  b : Below w.heap.size w W
section
variable {w : World} {gb mb no : Nat} {l : List On1} {M : Mp} {v u x : Value} {want rs : List Sp} {ks : List (List UInt8)} {sb : Nat} {so : Option Obj} {W W' : World}
theorem Wm.bel (h : Wm w gb mb l M no v want u rs x ks sb so W) (hb : Below W.heap.size W W') : Wm w gb mb l M no v want u rs x ks sb so W' := by
  obtain ⟨⟨sl, h1, h2, h3, h4⟩, ov, ou, ox, vu, xu, bx, b⟩ := h
  exact ⟨⟨sl, h1.bel hb, h2, h3, h4⟩, ownsRow_same ov fun k hk => hb.block k (own_range ov k hk).2, ownsRow_same ou fun k hk => hb.block k (own_range ou k hk).2, ownsRow_same ox fun k hk => hb.block k (own_range ox k hk).2, vu, xu, fun o ho => ⟨(hb.block _ (lt_of_heap (bx o ho).1)).trans (bx o ho).1, (bx o ho).2⟩, below_acc b hb⟩
theorem Wm.draw (h : Wm w gb mb l M no v want u rs x ks sb so W) (n : Nat) : Wm w gb mb l M no v want u rs x ks sb so (W.drewN n) := h.bel (below_drewN (Below.refl _ W) n)
theorem Wm.vs (h : Wm w gb mb l M no v want u rs x ks sb so W) : ∃ o c, v = .slice o want.length c := own_slice h.ov
theorem Wm.us (h : Wm w gb mb l M no v want u rs x ks sb so W) : ∃ o c, u = .slice o rs.length c := own_slice h.ou
/-- The start. -/
theorem Wm.start {w W : World} {gb mb : Nat} {sl : Value} (hT : Tm W w.heap.size gb mb sl [] [] 0) (hb : Below w.heap.size w W) : Wm w gb mb [] [] 0 (.slice none 0 0) [] (.slice none 0 0) [] (.slice none 0 0) [] 0 none W :=
  ⟨⟨sl, hT, fun _ q => (by cases q), fun _ q => (by cases q), fun _ q => (by cases q)⟩, ⟨rfl, .inl ⟨rfl, rfl⟩⟩, ⟨rfl, .inl ⟨rfl, rfl⟩⟩, SlS.nil _ _, fun _ q => (by cases q), fun _ q => (by cases q), fun _ q => (by cases q), hb⟩
/-- The step's box is made. -/
theorem Wm.box (h : Wm w gb mb l M no v want (.slice none 0 0) [] (.slice none 0 0) [] 0 none W) (o : Obj) : Wm w gb mb l M no v want (.slice none 0 0) [] (.slice none 0 0) [] W.heap.size (some o) (W.alloc o) := by
  have hb := (Below.refl W.heap.size W).alloc (Nat.le_refl _) o
  have h' := h.bel hb
  obtain ⟨⟨sl, h1, h2, h3, h4⟩, -⟩ := h
  refine ⟨⟨sl, h1.bel hb, h2, h3, fun o' _ hl => ?_⟩, h'.ov, h'.ou, h'.ox, h'.vu, h'.xu, fun o' ho => ⟨?_, fun q => (by cases q)⟩, h'.b⟩
  · have := (h1.bl _ hl).2
    omega
  · cases ho
    exact heap_alloc_new W o
/-- Behind a call that turns the timers. -/
theorem Wm.done {l' : List On1} {M' : Mp} {no' : Nat} (h : Wm w gb mb l M no v want (.slice none 0 0) [] (.slice none 0 0) [] sb so W) {sl : Value} (h1 : Tm W w.heap.size gb mb sl l M no) (h2 : ∀ k, v.ownBlock = some k → ¬ Tl gb mb sl k) (h4 : ∀ o, so = some o → ¬ Tl gb mb sl sb)
    (hd : TDone W w.heap.size gb mb sl l' M' no' W') : Wm w gb mb l' M' no' v want (.slice none 0 0) [] (.slice none 0 0) [] sb so W' := by
  obtain ⟨sl', k1, k2, k3⟩ := hd
  have tl : ∀ k, k < W.heap.size → ¬ Tl gb mb sl k → ¬ Tl gb mb sl' k := fun k hk hn q => by
    rcases q with q | q | q
    · exact hn (.inl q)
    · exact hn (.inr (.inl q))
    · rcases k2 with e | ⟨j, hj, e⟩
      · exact hn (.inr (.inr (e ▸ q)))
      · rw [e] at q
        have := Option.some.inj q
        omega
  obtain ⟨-, ov, ou, ox, vu, xu, bx, b⟩ := h
  refine ⟨⟨sl', k1, fun k hk => tl k (own_range ov k hk).2 (h2 k hk), fun _ q => (by cases q), fun o ho => tl sb (lt_of_heap (bx o ho).1) (h4 o ho)⟩, ownsRow_same ov fun k hk => k3.block k (own_range ov k hk).2 (h2 k hk), ⟨rfl, .inl ⟨rfl, rfl⟩⟩, SlS.nil _ _, vu, xu, fun o ho => ⟨(k3.block _ (lt_of_heap (bx o ho).1) (h4 o ho)).trans (bx o ho).1, (bx o ho).2⟩, k3.below b b.size fun n hn => (h1.bl n hn).1⟩
theorem Wm.set_long (h : Wm w gb mb l M no v want (.slice none 0 0) [] (.slice none 0 0) [] sb so W) (k : List UInt8) (a : Int) (h256 : 256 < k.length) (hk : k.length ≤ 9223372036854775807) :
    Calls Try.prog 7 #[.pointer (some ⟨gb, 0, none⟩), str k, .int .i64 a] W fun e w' => e = .returned (.int .i64 5) ∧ Wm w gb mb l M no v want (.slice none 0 0) [] (.slice none 0 0) [] sb so w' := by
  obtain ⟨sl, h1, h2, h3, h4⟩ := h.ex
  exact (Set_long h1 k a h256 hk).mono fun e w' ⟨he, hd⟩ => ⟨he, h.done h1 h2 h4 hd⟩
theorem Wm.set_ok (h : Wm w gb mb l M no v want (.slice none 0 0) [] (.slice none 0 0) [] sb so W) (inv : Inv l M) (k : List UInt8) (a : Int) (hM : M.length ≤ 1000) (hlen : l.length ≤ 100000) (hno : no ≤ 100000) (h256 : k.length ≤ 256) :
    Calls Try.prog 7 #[.pointer (some ⟨gb, 0, none⟩), str k, .int .i64 a] W fun e w' => e = .returned (.int .i64 0) ∧ ∃ l', l'.length = l.length + 1 ∧ Inv l' (putM k a (no + 1) M) ∧ Wm w gb mb l' (putM k a (no + 1) M) (no + 1) v want (.slice none 0 0) [] (.slice none 0 0) [] sb so w' := by
  obtain ⟨sl, h1, h2, h3, h4⟩ := h.ex
  exact (Set_ok h1 inv k a hM hlen hno h.b.size h256).mono fun e w' ⟨he, l', hl, hi, hd⟩ => ⟨he, l', hl, hi, h.done h1 h2 h4 hd⟩
theorem Wm.drop (h : Wm w gb mb l M no v want (.slice none 0 0) [] (.slice none 0 0) [] sb so W) (k : List UInt8) :
    Calls Try.prog 8 #[.pointer (some ⟨gb, 0, none⟩), str k] W fun e w' => e = .returned (.int .i64 (errD k M)) ∧ Wm w gb mb l (delM k M) no v want (.slice none 0 0) [] (.slice none 0 0) [] sb so w' := by
  obtain ⟨sl, h1, h2, h3, h4⟩ := h.ex
  exact (Drop_any h1 k h.b.size).mono fun e w' ⟨he, hd⟩ => ⟨he, h.done h1 h2 h4 hd⟩
theorem Wm.len (h : Wm w gb mb l M no v want u rs x ks sb so W) :
    Calls Try.prog 10 #[.pointer (some ⟨gb, 0, none⟩)] W fun e w' => e = .returned (.int .i64 (M.length : Int)) ∧ W = w' := by
  obtain ⟨sl, h1, h2, h3, h4⟩ := h.ex
  exact Len_any h1
theorem Wm.due (h : Wm w gb mb l M no v want (.slice none 0 0) [] (.slice none 0 0) [] sb so W) (inv : Inv l M) (t : Int) (hl : l.length ≤ 100000) :
    Calls Try.prog 9 #[.pointer (some ⟨gb, 0, none⟩), .int .i64 t] W fun e w' => ∃ (ov : Value) (del : List On1) (l' : List On1) (M' : Mp), e = .returned ov ∧ Wm w gb mb l' M' no v want (.slice none 0 0) [] ov (del.map On1.key) sb so w' ∧ DInv M t l' M' del ∧ (∀ y ∈ l', t < y.at_) ∧ l'.length ≤ l.length := by
  obtain ⟨sl, h1, h2, h3, h4⟩ := h.ex
  refine (Due_any h1 inv t hl).mono fun e w' ⟨ov, del, sl', l', M', he, hs, hT, ho, hc, hD, hy, hle⟩ => ⟨ov, del, l', M', he, ?_, hD, hy, hle⟩
  have h' := h.done h1 h2 h4 ⟨sl', hT, .inl ho, hc⟩
  exact ⟨h'.ex, h'.ov, h'.ou, hs.mono h.b.size, h'.vu, fun _ _ q => (by cases q), h'.bx, h'.b⟩
/-- 'want = rest'. -/
theorem Wm.turn (h : Wm w gb mb l M no v want u rs x ks sb so W) : Wm w gb mb l M no u rs (.slice none 0 0) [] (.slice none 0 0) [] 0 none W := by
  obtain ⟨⟨sl, h1, h2, h3, h4⟩, ov, ou, ox, vu, xu, bx, b⟩ := h
  exact ⟨⟨sl, h1, h3, fun _ q => (by cases q), fun _ q => (by cases q)⟩, ou, ⟨rfl, .inl ⟨rfl, rfl⟩⟩, SlS.nil _ _, fun _ _ q => (by cases q), fun _ q => (by cases q), fun _ q => (by cases q), b⟩
theorem Wm.forget (h : Wm w gb mb l M no v want u rs x ks sb so W) : Wm w gb mb l M no v want (.slice none 0 0) [] (.slice none 0 0) [] 0 none W := by
  obtain ⟨⟨sl, h1, h2, h3, h4⟩, ov, ou, ox, vu, xu, bx, b⟩ := h
  exact ⟨⟨sl, h1, h2, fun _ q => (by cases q), fun _ q => (by cases q)⟩, ov, ⟨rfl, .inl ⟨rfl, rfl⟩⟩, SlS.nil _ _, fun _ _ q => (by cases q), fun _ q => (by cases q), fun _ q => (by cases q), b⟩
/-- The step's cells. -/
theorem Wm.sp {s : Sp} (h : Wm w gb mb l M no v want u rs x ks sb (some (.cells s.cells.toArray 28 (0, 0))) W) :
    W.cell? ⟨sb, 0, none⟩ = some (.int .u8 (s.do_ : Int)) ∧ W.cell? ⟨sb, 1, none⟩ = some (str s.key) ∧ W.cell? ⟨sb, 2, none⟩ = some (.int .i64 s.at_) := by
  have p := (h.bx _ rfl).1
  exact ⟨cell_of_row _ _ 0 _ _ (0, 0) p, cell_of_row _ _ 1 _ _ (0, 0) p, cell_of_row _ _ 2 _ _ (0, 0) p⟩
/-- One that should be there. -/
theorem Wm.at (h : Wm w gb mb l M no v want u rs x ks sb so W) {k : Nat} (hk : k < want.length) :
    ∃ rb cap, v = .slice (some ⟨rb, 0, none⟩) want.length cap ∧ W.cell? ⟨rb, k * 3, none⟩ = some (.int .u8 ((want[k]).do_ : Int)) ∧ W.cell? ⟨rb, k * 3 + 1, none⟩ = some (str (want[k]).key) ∧ W.cell? ⟨rb, k * 3 + 2, none⟩ = some (.int .i64 (want[k]).at_) := by
  obtain ⟨rb, cap, e, hr⟩ := own_sp h.ov hk
  have hx := hr k hk
  exact ⟨rb, cap, e, hx 0 _ rfl, hx 1 _ rfl, hx 2 _ rfl⟩
end
theorem wpList_append_sp {w0 : World} {gb mb no : Nat} {l : List On1} {M : Mp} {v x : Value} {want rs : List Sp} {ks : List (List UInt8)} {sb : Nat} {so : Option Obj} {ops : Array Oper} {rest : List Oper} {o : Oper} {a : Act} {Q' : Exit → Act → World → Prop} {w : World} (hgd : o.guard = none) (s y : Operand)
    (ho : o.op = .call { callee := .builtin .append, args := #[s, y], argTypes := #[22, 22] })
    (u : Value) (hs : a.eval s = u) (hT : Wm w0 gb mb l M no v want u rs x ks sb so w) (ad : Addr) (c : Nat) (p : Sp) (hx : a.eval y = .slice (some ad) 1 c)
    (hn : ∀ j q, p.cells[j]? = some q → w.cell? (ad.add j) = some q) (hb : rs.length ≤ 100000)
    (h : ∀ u' w', Wm w0 gb mb l M no v want u' (rs ++ [p]) x ks sb so w' → wpList Try.prog ops Q' rest (a.put o.dst u') w') :
    wpList Try.prog ops Q' (o :: rest) a w := by
  refine wpList_plain hgd fun K hK => ?_
  obtain ⟨i0, hi, hz, hsz, hby⟩ := info_parts info_sp
  obtain ⟨⟨sl, h1, h2, h3, h4⟩, ov, ou, ox, vu, xu, bx, b⟩ := hT
  obtain ⟨u', w', hr, o1, o2, _, o4⟩ := run_append_own_at (P := Try.prog) w w0.heap.size 22 o.type 28 i0 _ 3 32 Try.underlying22 hi hz hsz hby rfl (by omega) u rs.length (sflat rs) ou ad 1 c p.cells (by rfl) hn (fun q hq => sflat_one [p] q (by simpa [sflat] using hq)) (by simp only [maxLen]; omega) (by omega) b.size
  have ho2 : w'.ownsRow w0.heap.size 28 3 u' (rs ++ [p]).length (sflat (rs ++ [p])) := by
    rw [List.length_append, sflat_app]
    have : sflat [p] = p.cells := by simp [sflat]
    rw [this]
    exact o1
  have hub : ∀ k, u'.ownBlock = some k → u.ownBlock = some k ∨ k = w.heap.size := fun k hk => by
    rcases o4 with e | e
    · exact .inl (e ▸ hk)
    · rw [e] at hk; exact .inr (Option.some.inj hk).symm
  have hkeep : ∀ k, k < w.heap.size → u.ownBlock ≠ some k → w'.heap[k]? = w.heap[k]? := fun k hk hne => o2.block k hk (fun q => hne q.symm)
  have hnew : ∀ k, k < w.heap.size → u.ownBlock ≠ some k → u'.ownBlock ≠ some k := fun k hk hne q => by
    rcases hub k q with e | e
    · exact hne e
    · omega
  unfold Oper.wp execOp
  simp only [ho, resolve, invoke, builtin, Sem.run_bind, Sem.run_pure, Result.andThen_ok, List.map_toArray, List.map_cons, List.map_nil, hs, hx, hr]
  refine hK _ _ (h u' w' ⟨⟨sl, h1.same fun k hk => hkeep k (h1.bl k hk).2 (fun q => h3 k q hk), h2, fun k hk => ?_, h4⟩, ownsRow_same ov fun k hk => hkeep k (own_range ov k hk).2 (vu k hk), ho2, ownsRow_same ox fun k hk => hkeep k (sls_range ox k hk).2 (xu k hk),
    fun k hk => hnew k (own_range ov k hk).2 (vu k hk), fun k hk => hnew k (sls_range ox k hk).2 (xu k hk), fun o ho => ⟨(hkeep _ (lt_of_heap (bx o ho).1) (bx o ho).2).trans (bx o ho).1, hnew _ (lt_of_heap (bx o ho).1) (bx o ho).2⟩, b.grown o2 b.size (fun r e => (own_range ou r e).1)⟩)
  rcases hub k hk with q | q
  · exact h3 k q
  · intro hl
    have := (h1.bl k hl).2
    omega
end Go.Proofs.Ytljfjlijobjpdaa
