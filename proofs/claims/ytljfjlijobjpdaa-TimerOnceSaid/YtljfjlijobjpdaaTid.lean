/- The walk of the heap's push. Condition: the timers lie at the pointer. -/
import Derived.Test.YtljfjlijobjpdaaTic
import Derived.Deep.RegionLaw
namespace Go.Proofs.Ytljfjlijobjpdaa
open Go.RowKit
set_option linter.unusedVariables false
set_option linter.unusedSimpArgs false

theorem info_parts {i : Option TypeInfo} {z : Option Value} {s b : Nat} (h : i.map (fun i => (i.zero, i.size, i.bytes)) = some (z, s, b)) : ∃ i0, i = some i0 ∧ i0.zero = z ∧ i0.size = s ∧ i0.bytes = b := by
  cases i with
  | none => cases h
  | some i =>
    simp only [Option.map_some, Option.some.injEq, Prod.mk.injEq] at h
    exact ⟨i, rfl, h.1, h.2.1, h.2.2⟩
theorem run_append_ones (W : World) (B : Nat) (v : Value) (n : Nat) (xs : List Value) (h : W.ownsRow B 48 3 v n xs) (hB : B ≤ W.heap.size) (ad : Addr) (m c : Nat) (news : List Value) (hl : news.length = m * 3)
    (hn : ∀ j u, news[j]? = some u → W.cell? (ad.add j) = some u) (h1 : ∀ u ∈ news, u.oneCell' = true) (hb : n + m ≤ 1000000) (ty : TypeId) :
    ∃ v' W', (Builtin.append_ #[37, 37] ty #[v, .slice (some ad) m c]).run Try.prog W = .ok v' W' ∧ W'.ownsRow B 48 3 v' (n + m) (xs ++ news) ∧ W.grownBy W' v.ownBlock ∧ (v'.ownBlock = v.ownBlock ∨ v'.ownBlock = some W.heap.size) := by
  obtain ⟨i0, hi, hz, hs, hby⟩ := info_parts info_on
  obtain ⟨v', w', hr, h2, h3, _, h5⟩ := run_append_own_at (P := Try.prog) W B 37 ty 48 i0 _ 3 32 Try.underlying37 hi hz hs hby rfl (by omega) v n xs h ad m c news hl hn h1 (by simp only [maxLen]; omega) (by omega) hB
  exact ⟨v', w', hr, h2, h3, h5⟩
theorem step_append_ones {ops : Array Oper} {o : Oper} {a : Act} {K : Act → World → Prop} {Q : Exit → Act → World → Prop} {E : Prop} {w : World} (hgd : o.guard = none) (s x : Operand)
    (ho : o.op = .call { callee := .builtin .append, args := #[s, x], argTypes := #[37, 37] })
    (B : Nat) (v : Value) (n : Nat) (xs : List Value) (hs : a.eval s = v) (hT : w.ownsRow B 48 3 v n xs) (hB : B ≤ w.heap.size) (ad : Addr) (m c : Nat) (news : List Value) (hx : a.eval x = .slice (some ad) m c) (hl : news.length = m * 3)
    (hn : ∀ j u, news[j]? = some u → w.cell? (ad.add j) = some u) (h1 : ∀ u ∈ news, u.oneCell' = true) (hb : n + m ≤ 1000000)
    (h : ∀ v' w', w'.ownsRow B 48 3 v' (n + m) (xs ++ news) → w.grownBy w' v.ownBlock → (v'.ownBlock = v.ownBlock ∨ v'.ownBlock = some w.heap.size) → K (a.put o.dst v') w') :
    if Region.wanted o (yielded ops a.tmps) = true then Oper.wp Try.prog o a w K Q else E := by
  have hw : Region.wanted o (yielded ops a.tmps) = true := by simp [Region.wanted, hgd]
  rw [if_pos hw]
  obtain ⟨v', w', hr, h2, h3, h4⟩ := run_append_ones w B v n xs hT hB ad m c news hl hn h1 hb o.type
  unfold Oper.wp execOp
  simp only [ho, resolve, invoke, builtin, Sem.run_bind, Sem.run_pure, Result.andThen_ok, List.map_toArray, List.map_cons, List.map_nil, hs, hx, hr]
  exact h v' w' h2 h3 h4
/-- What a call leaves of the timers. -/
def TDone (w : World) (B gb mb : Nat) (sl : Value) (l : List On1) (M : Mp) (no : Nat) (w' : World) : Prop :=
  ∃ sl', Tm w' B gb mb sl' l M no ∧ (sl'.ownBlock = sl.ownBlock ∨ ∃ k, w.heap.size ≤ k ∧ sl'.ownBlock = some k) ∧ Chg (Tl gb mb sl) w w'
theorem TDone.off {w w' : World} {B gb mb : Nat} {sl : Value} {l : List On1} {M : Mp} {no : Nat} (h : Tm w B gb mb sl l M no) (hb : Below w.heap.size w w') : TDone w B gb mb sl l M no w' := ⟨sl, h.bel hb, .inl rfl, Chg.of_below hb⟩
theorem tgrow {w W5 W6 : World} {B gb mb no : Nat} {sl v6 : Value} {l : List On1} {M : Mp} {x : On1} (h : Tm w B gb mb sl l M no) (b5 : Below w.heap.size w W5) (OW : W6.ownsRow B 48 3 v6 (l.length + 1) (oflat l ++ x.cells)) (G6 : W5.grownBy W6 sl.ownBlock)
    (OB : v6.ownBlock = sl.ownBlock ∨ v6.ownBlock = some W5.heap.size) : TDone w B gb mb sl (l ++ [x]) M no (W6.setCell ⟨gb, 0, none⟩ v6) := by
  have hs : ∀ k, k ≠ gb → (W6.setCell ⟨gb, 0, none⟩ v6).heap[k]? = W6.heap[k]? := fun k hk => Below.heap_setCell _ _ _ _ hk
  have hpl := lt_of_heap h.top
  have hml := h.map.lt
  have b5s := b5.size
  have tg := (G6.block gb (by omega) (fun q => h.ng q.symm)).trans ((b5.block gb hpl).trans h.top)
  have ne : ∀ k, k < w.heap.size → sl.ownBlock ≠ some k → v6.ownBlock ≠ some k := fun k hk hn q => by
    rcases OB with e | e
    · exact hn (e ▸ q)
    · rw [e] at q
      have := Option.some.inj q
      omega
  refine ⟨v6, ⟨?_, ?_, ?_, h.bg, h.bm, h.ngm, ne gb hpl h.ng, ne mb hml h.nm⟩, ?_, ?_⟩
  · simp [World.setCell, Array.getElem?_modify, tg]
  · have ho : (W6.setCell ⟨gb, 0, none⟩ v6).ownsRow B 48 3 v6 (l.length + 1) (oflat l ++ x.cells) := ownsRow_same OW fun k hk => hs k (fun q => ne gb hpl h.ng (q ▸ hk))
    rw [List.length_append, List.length_singleton, oflat_snoc]
    exact ho
  · exact h.map.same ((hs mb (fun q => h.ngm q.symm)).trans ((G6.block mb (by omega) (fun q => h.nm q.symm)).trans (b5.block mb hml)))
  · rcases OB with e | e
    · exact .inl e
    · exact .inr ⟨_, b5s, e⟩
  · refine ((Chg.of_below b5 (P := Tl gb mb sl)).trans (Chg.of_grown (P := fun k => sl.ownBlock = some k) G6 (fun k q => q)) (fun k _ q => .inr (.inr q))).trans (Q := fun k => k = gb) ⟨rfl, rfl, rfl, by simp [World.setCell], fun k _ hk => hs k hk⟩ (fun k _ q => .inl q)
theorem cell_kept {W W' : World} (hb : Below W.heap.size W W') {a : Addr} {v : Value} (hc : W.cell? a = some v) : W'.cell? a = some v := (hb.cell (block_lt_of_cell hc)).trans hc
/-- While the heap is put in order: its block alone is turned. -/
structure Swm (W0 : World) (b cap : Nat) (l : List On1) (W : World) : Prop where
  blk : Blk W b cap l
  ch : Chg (fun k => k = b) W0 W
theorem Swm.bel {W0 W W' : World} {b cap : Nat} {l : List On1} (h : Swm W0 b cap l W) (hb : Below W.heap.size W W') : Swm W0 b cap l W' := ⟨h.blk.same (hb.block b h.blk.lt), h.ch.trans (Chg.of_below hb) (fun _ _ q => q)⟩
theorem Swm.cell {W0 W : World} {b cap : Nat} {l : List On1} (h : Swm W0 b cap l W) {a : Addr} {v : Value} (hc : W0.cell? a = some v) (hn : a.block ≠ b) : W.cell? a = some v := by
  have := h.ch.block a.block (block_lt_of_cell hc) hn
  simp only [World.cell?, this] at hc ⊢
  exact hc
theorem chg_three (W : World) (b : Nat) (a1 a2 a3 : Nat) (v1 v2 v3 : Value) : Chg (fun k => k = b) W (((W.setCell ⟨b, a1, none⟩ v1).setCell ⟨b, a2, none⟩ v2).setCell ⟨b, a3, none⟩ v3) :=
  ((Chg.cell W ⟨b, a1, none⟩ v1 (P := fun k => k = b) rfl).trans (Chg.cell _ ⟨b, a2, none⟩ v2 (P := fun k => k = b) rfl) (fun _ _ q => q)).trans (Chg.cell _ ⟨b, a3, none⟩ v3 (P := fun k => k = b) rfl) (fun _ _ q => q)
theorem heap_drewN (W : World) (n : Nat) : (W.drewN n).heap = W.heap := rfl
theorem Swm.set3 {W0 W : World} {b cap : Nat} {l : List On1} (h : Swm W0 b cap l W) (k : Nat) (hk : k < l.length) (x : On1) :
    Swm W0 b cap (l.set k x) (((W.setCell ⟨b, k * 3, none⟩ (str x.key)).setCell ⟨b, k * 3 + 1, none⟩ (.int .i64 x.at_)).setCell ⟨b, k * 3 + 2, none⟩ (.int .i64 (x.no : Int))) :=
  ⟨h.blk.set k hk x, h.ch.trans (chg_three W b _ _ _ _ _ _) (fun _ _ q => q)⟩
theorem Swm.draw {W0 W : World} {b cap : Nat} {l : List On1} (h : Swm W0 b cap l W) (n : Nat) : Swm W0 b cap l (W.drewN n) := ⟨h.blk.same (by rw [heap_drewN]), h.ch.drewN n⟩
theorem Swm.swap {W0 W : World} {b cap : Nat} {l : List On1} (h : Swm W0 b cap l W) (i j : Nat) (hi : i < l.length) (hj : j < l.length) (hij : i ≠ j) {xi xj : On1} (ei : g l i = xi) (ej : g l j = xj) (n : Nat) :
    Swm W0 b cap (swp l i j) ((((((((W.setCell ⟨b, i * 3, none⟩ (str xj.key)).setCell ⟨b, i * 3 + 1, none⟩ (.int .i64 xj.at_)).setCell ⟨b, i * 3 + 2, none⟩ (.int .i64 (xj.no : Int))).setCell ⟨b, j * 3, none⟩ (str xi.key)).setCell ⟨b, j * 3 + 1, none⟩ (.int .i64 xi.at_)).setCell ⟨b, j * 3 + 2, none⟩ (.int .i64 (xi.no : Int)))).drewN n) := by
  have h1 := ((h.set3 i hi xj).set3 j (by simpa using hj) xi).draw n
  unfold swp
  rw [ei, ej]
  exact h1
/-- The timers, behind the heap's being put in order. -/
theorem Swm.tm {W0 W : World} {B gb mb no b cap : Nat} {l l' : List On1} {M : Mp} (h : Tm W0 B gb mb (.slice (some ⟨b, 0, none⟩) l.length cap) l M no) (hs : Swm W0 b cap l' W) (hl : l'.length = l.length) (hc : cap ≤ maxLen) (hB : B ≤ b) : Tm W B gb mb (.slice (some ⟨b, 0, none⟩) l'.length cap) l' M no := by
  have e : ∀ k, k < W0.heap.size → k ≠ b → W.heap[k]? = W0.heap[k]? := hs.ch.block
  have hng : gb ≠ b := fun q => h.ng (by rw [q]; rfl)
  have hnm : mb ≠ b := fun q => h.nm (by rw [q]; rfl)
  refine ⟨?_, own_of_blk hs.blk hB hc, h.map.same (e mb h.map.lt hnm), h.bg, h.bm, h.ngm, h.ng, h.nm⟩
  rw [e gb (lt_of_heap h.top) hng, hl]
  exact h.top
set_option maxRecDepth 100000 in
set_option maxHeartbeats 8000000 in
theorem push_any {B gb mb no : Nat} {sl : Value} {l : List On1} {M : Mp} {w : World} (h : Tm w B gb mb sl l M no) (hh : Heap l) (x : On1) (hlen : l.length ≤ 100000) (hBw : B ≤ w.heap.size) :
    Calls Try.prog 13 #[.pointer (some ⟨gb, 0, none⟩), .agg x.cells.toArray] w fun e w' => e = .returned (.tuple #[]) ∧ ∃ l', l'.Perm (l ++ [x]) ∧ Heap l' ∧ TDone w B gb mb sl l' M no w' := by
  have b0 := (Below.refl w.heap.size w).alloc (Nat.le_refl _) (.cells x.cells.toArray 48 (0, 0))
  have p0 := heap_alloc_new w (.cells x.cells.toArray 48 (0, 0))
  have H0 := Lib.hid h
  have B1 := Lib.hid b0
  have P1 := Lib.hid p0
  have HH := Lib.hid (up_start hh x)
  obtain ⟨ob, cap, rfl⟩ := h.slice
  clear h b0 p0 hh
  obtain ⟨xk, xa, xn⟩ := x
  simp only [On1.cells] at *
  go_enter Try.func13, Try.ntmps13
  go_upto_region 1 with (fail)
  generalize w.alloc (.cells #[str xk, .int .i64 xa, .int .i64 (xn : Int)] 48 (0, 0)) = w1 at B1 P1 ⊢
  go_cut [13] (fun v wx => Hid (TDone w B gb mb (.slice ob l.length cap) (l ++ [⟨xk, xa, xn⟩]) M no wx))
  case first =>
    have q0 := cell_of_row _ _ 0 _ _ (0, 0) P1.out
    have q1 := cell_of_row _ _ 1 _ _ (0, 0) P1.out
    have q2 := cell_of_row _ _ 2 _ _ (0, 0) P1.out
    simp only [List.getElem?_toArray, List.getElem?_cons_zero, List.getElem?_cons_succ] at q0 q1 q2
    have t1 := (H0.out.bel B1.out).s.1
    have B5 : Hid (Below w.heap.size w (w1.drew.alloc (.cells #[str xk, .int .i64 xa, .int .i64 (xn : Int)] 48 (0, 0)))) := B1.out.drew.alloc B1.out.size _
    have H5 := Lib.hid (H0.out.bel B5.out)
    have NW : Hid (∀ j u, (On1.cells ⟨xk, xa, xn⟩)[j]? = some u → (w1.drew.alloc (.cells #[str xk, .int .i64 xa, .int .i64 (xn : Int)] 48 (0, 0))).cell? ((⟨w1.heap.size, 0, none⟩ : Addr).add j) = some u) := by
      intro j u hu
      rw [Addr.add_mid, Nat.zero_add]
      refine (cell_of_row _ _ j _ _ (0, 0) (heap_alloc_new w1.drew _)).trans ?_
      rw [← hu]
      simp [On1.cells]
    have hBW : B ≤ w1.heap.size := Nat.le_trans hBw B1.out.size
    have tg5 := Lib.hid H5.out.top
    have nh5 : (Value.slice ob l.length cap).ownBlock ≠ some gb := H0.out.ng
    have t1a : (w1.alloc (.cells #[str xk, .int .i64 xa, .int .i64 (xn : Int)] 48 (0, 0))).cell? ⟨gb, 0, none⟩ = some (.slice ob l.length cap) := H5.out.s.1
    go_region_law (first
      | (refine step_append_ones (by rfl) _ _ (by rfl) B _ l.length (oflat l) (by rfl) H5.out.own (by simp; omega) ⟨w1.heap.size, 0, none⟩ 1 1 (On1.cells ⟨xk, xa, xn⟩) (by rfl) (by rfl) NW.out (fun u hu => oflat_one [⟨xk, xa, xn⟩] u (by simpa [oflat] using hu)) (by omega) ?_
         intro v6 W6 OW6 G6 OB6
         obtain ⟨ob6, cap6, rfl⟩ := own_slice OW6
         have RD := Lib.hid (tgrow H0.out B5.out OW6 G6 OB6)
         have tg := (G6.block gb (lt_of_heap tg5.out) (fun q => nh5 q.symm)).trans tg5.out
         have c1 := cell_of_row _ _ 0 _ _ (0, 0) tg
         have fz := frozen_of_row _ _ 0 _ _ tg
         simp only [List.getElem?_toArray, List.getElem?_cons_zero, List.getElem?_cons_succ] at c1
         clear OW6 G6 OB6 tg))
    all_goals
      have RD2 := Lib.hid RD.out
      clear RD c1 fz t1a t1 q0 q1 q2 NW B5 H5 tg5
      generalize W6.setCell ⟨gb, 0, none⟩ (.slice ob6 (l.length + 1) cap6) = W8 at RD2 ⊢
      go_wp2_with fail
      go_meet
      case rel => exact RD2.out
  case rest =>
    obtain ⟨sl, hT, hob, hch⟩ := hcut.out
    have hl1 : 0 < (l ++ [(⟨xk, xa, xn⟩ : On1)]).length := by simp
    obtain ⟨b, cap8, rfl, hBb, hcm, hblk⟩ := blk_of_own hT.own hl1
    have T8 := Lib.hid hT
    have CH := Lib.hid (And.intro hob hch)
    have R8 := Lib.hid (Swm.mk hblk (Chg.refl (fun k => k = b) wc))
    obtain ⟨s0, s1, -⟩ := hT.s
    have hgb : gb ≠ b := fun q => hT.ng (by rw [q]; rfl)
    clear hT hob hch hblk hcut B1 P1
    obtain ⟨L0, hL0⟩ : ∃ L0, l ++ [(⟨xk, xa, xn⟩ : On1)] = L0 := ⟨_, rfl⟩
    have hLl : L0.length = l.length + 1 := by rw [← hL0]; simp
    rw [hL0] at T8 R8 HH s0
    have FIN : Hid (∀ (lc : List On1) (W : World), Swm wc b cap8 lc W → lc.Perm L0 → Heap lc → ∃ l', l'.Perm (l ++ [⟨xk, xa, xn⟩]) ∧ Heap l' ∧ TDone w B gb mb (.slice ob l.length cap) l' M no W) := fun lc W hs hp hhe => by
      have hll := hp.length_eq
      refine ⟨lc, by rw [hL0]; exact hp, hhe, .slice (some ⟨b, 0, none⟩) lc.length cap8, hs.tm T8.out hll hcm hBb, CH.out.1, CH.out.2.trans hs.ch (fun n hn q => ?_)⟩
      subst q
      rcases CH.out.1 with e | ⟨j, hj, e⟩
      · exact .inr (.inr e.symm)
      · have e2 : n = j := Option.some.inj e
        omega
    have HLl := Lib.hid hLl
    have e1 : IntKind.i64.wrap (((L0.length : Nat) : Int) - 1) = (l.length : Int) := by rw [hLl]; exact (IntWalk.i64_in _ (by omega)).trans (by omega)
    clear hL0 CH hl1 hLl
    go_wp2_with fail
    go_loopw [4] (fun kv wr => ∃ (k : Nat) (lc : List On1), kv = .int .i64 (k : Int) ∧ k < L0.length ∧ lc.length = L0.length ∧ Hid (Swm wc b cap8 lc wr ∧ lc.Perm L0 ∧ UpInv lc k)) (fun kv _ => (intOf kv).toNat)
    case atStart => exact ⟨l.length, L0, rfl, by have := HLl.out; omega, rfl, R8.out, List.Perm.refl _, HH.out⟩
    case round =>
      clear R8 HH
      obtain ⟨k, lc, rfl, hk, hlc, H⟩ := hrel
      have t0 := H.out.1.cell s0 hgb
      have t1 := H.out.1.cell s1 hgb
      by_cases hk0 : k = 0
      · subst hk0
        have F := Lib.hid (FIN.out lc wr H.out.1 H.out.2.1 (up_stop H.out.2.2 (.inl rfl)))
        clear FIN H
        go_wp2_with fail
        go_end0
        exact ⟨rfl, F.out⟩
      obtain ⟨p, hp⟩ : ∃ p, p = (k - 1) / 2 := ⟨_, rfl⟩
      have hpk : p < k := by omega
      have hkl : k < lc.length := by omega
      have hpl : p < lc.length := by omega
      have UP := Lib.hid (up_step H.out.2.2 (by omega) hkl)
      have UQ := Lib.hid (fun q => up_stop H.out.2.2 (.inr q))
      have SP := Lib.hid (swp_perm lc k ((k - 1) / 2) hkl (by omega))
      have SL := swp_len lc k ((k - 1) / 2)
      rw [← hp] at UP UQ SP SL
      have HP := Lib.hid hp
      obtain ⟨x0, x1, x2⟩ := H.out.1.blk.cell k hkl
      obtain ⟨y0, y1, y2⟩ := H.out.1.blk.cell p hpl
      have SW := Lib.hid (fun (W : World) (h : Swm wc b cap8 lc W) (xi xj : On1) (e1 : g lc k = xi) (e2 : g lc p = xj) n => h.swap k p hkl hpl (by omega) e1 e2 n)
      generalize hxi : g lc k = xi at x0 x1 x2 UP UQ SW
      generalize hxj : g lc p = xj at y0 y1 y2 UP UQ SW
      have hd1 : Int.tdiv ((k : Int) - 1) 2 = (p : Int) := by rw [Int.tdiv_eq_ediv_of_nonneg (by omega)]; omega
      have hw1 : IntKind.i64.wrap ((k : Int) - 1) = (k : Int) - 1 := IntWalk.i64_in _ (by have := HLl.out; omega)
      have hw2 : IntKind.i64.wrap (p : Int) = (p : Int) := IntWalk.i64_in _ (by have := HLl.out; omega)
      clear hp
      have kb : 0 ≤ (k : Int) ∧ (k : Int) < (L0.length : Int) := by omega
      have pb : 0 ≤ (p : Int) ∧ (p : Int) < (L0.length : Int) := by omega
      have d0 : decide (0 < (k : Int)) = true := by simp; omega
      have CA : Hid (∀ W : World, Calls Try.prog 12 #[.agg #[str xi.key, .int .i64 xi.at_, .int .i64 (xi.no : Int)], .agg #[str xj.key, .int .i64 xj.at_, .int .i64 (xj.no : Int)]] W fun e w' => e = .returned (.bool (ltB xi xj)) ∧ Below W.heap.size W w') := fun W => ahead_any xi xj W
      have SS : Hid (∀ W : World, Below wr.heap.size wr W → W.cell? ⟨gb, 0, none⟩ = some (.slice (some ⟨b, 0, none⟩) L0.length cap8) ∧ W.cell? ⟨gb, 1, none⟩ = some (.func (.func 12) #[] #[]) ∧ W.cell? ⟨b, k * 3, none⟩ = some (str xi.key) ∧ W.cell? ⟨b, k * 3 + 1, none⟩ = some (.int .i64 xi.at_) ∧ W.cell? ⟨b, k * 3 + 2, none⟩ = some (.int .i64 (xi.no : Int)) ∧ W.cell? ⟨b, p * 3, none⟩ = some (str xj.key) ∧ W.cell? ⟨b, p * 3 + 1, none⟩ = some (.int .i64 xj.at_) ∧ W.cell? ⟨b, p * 3 + 2, none⟩ = some (.int .i64 (xj.no : Int))) := fun W hb => ⟨cell_kept hb t0, cell_kept hb t1, cell_kept hb x0, cell_kept hb x1, cell_kept hb x2, cell_kept hb y0, cell_kept hb y1, cell_kept hb y2⟩
      go_upto_region 5 with fail
      generalize ltB xi xj = lt at CA UP UQ
      go_region_held3 (fun W => W.cell? ⟨gb, 0, none⟩ = some (.slice (some ⟨b, 0, none⟩) L0.length cap8) ∧ W.cell? ⟨gb, 1, none⟩ = some (.func (.func 12) #[] #[]) ∧ W.cell? ⟨b, k * 3, none⟩ = some (str xi.key) ∧ W.cell? ⟨b, k * 3 + 1, none⟩ = some (.int .i64 xi.at_) ∧ W.cell? ⟨b, k * 3 + 2, none⟩ = some (.int .i64 (xi.no : Int)) ∧ W.cell? ⟨b, p * 3, none⟩ = some (str xj.key) ∧ W.cell? ⟨b, p * 3 + 1, none⟩ = some (.int .i64 xj.at_) ∧ W.cell? ⟨b, p * 3 + 2, none⟩ = some (.int .i64 (xj.no : Int)))
        (first | assumption | exact SS.out _ (Below.refl _ wr).drew | exact SS.out _ B9.out)
        (first | (go_at_call 12; (with_reducible refine (CA.out _).mono ?_); rintro e W9 ⟨rfl, hb⟩; have B9 := Lib.hid (drew_below hb); clear hb))
      rename_i hS
      have H9 := Lib.hid (And.intro (H.out.1.bel B9.out) H.out.2.1)
      clear hS
      cases lt
      · have F := Lib.hid (FIN.out lc W9 H9.out.1 H9.out.2 (UQ.out rfl))
        clear FIN H9 UP UQ SP SW SS CA
        go_wp2_with fail
        refine bodyPost_ret (results_none rfl _ _ _) rfl ?_
        exact ⟨rfl, F.out⟩
      · have UPP := Lib.hid (UP.out rfl)
        obtain ⟨t0', t1', x0', x1', x2', y0', y1', y2'⟩ := SS.out _ B9.out
        have fz := fun i => H9.out.1.blk.free i
        clear UP UQ CA SS t0 t1 x0 x1 x2 y0 y1 y2 H B9
        go_upto_region 6 with fail
        go_region
        go_wp2_with fail
        go_roundw
        case rel => exact ⟨p, swp lc k p, rfl, by omega, by omega, SW.out W9 H9.out.1 xi xj rfl rfl 1, SP.out.trans H9.out.2, UPP.out⟩
        case measure => simp [intOf]; omega
end Go.Proofs.Ytljfjlijobjpdaa
