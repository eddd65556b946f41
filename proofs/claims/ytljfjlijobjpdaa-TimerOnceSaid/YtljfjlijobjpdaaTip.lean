/- The walk of the heap's pop. Condition: the timers lie at the pointer; there is one at least. -/
import Derived.Test.YtljfjlijobjpdaaTid
import Derived.Deep.QuietTactic
import Derived.BigQuiet
namespace Go.Proofs.Ytljfjlijobjpdaa
open Go.RowKit
set_option linter.unusedVariables false
set_option linter.unusedSimpArgs false

/-- The same, the heap in its old block. -/
def TKeep (w : World) (B gb mb : Nat) (sl : Value) (l : List On1) (M : Mp) (no : Nat) (w' : World) : Prop :=
  ∃ sl', Tm w' B gb mb sl' l M no ∧ sl'.ownBlock = sl.ownBlock ∧ Chg (Tl gb mb sl) w w'
/-- What a store of a whole struct leaves: the block holds the cells, all else is as it was. -/
structure Put (w W : World) (g : Nat) (cs : Array Value) (t : TypeId) : Prop where
  os : W.os = w.os
  tape : W.tape = w.tape
  output : W.output = w.output
  size : W.heap.size = w.heap.size
  block : ∀ k, k ≠ g → W.heap[k]? = w.heap[k]?
  here : W.heap[g]? = some (.cells cs t (0, 0))
theorem wpList_store_put {P : Program} {ops : Array Oper} {rest : List Oper} {o : Oper} {a : Act} {w : World} {Q : Exit → Act → World → Prop} (hgd : o.guard = none) (ty : TypeId) (x y : Operand) (ho : o.op = .store ty x y)
    (g : Nat) (cells : Array Value) (hx : a.eval x = .pointer (some ⟨g, 0, none⟩)) (hy : a.eval y = .agg cells)
    (t : TypeId) (old : Array Value) (hg : w.heap[g]? = some (.cells old t (0, 0))) (hi : (P.info? ty).map (·.size) = some cells.size)
    (hold : old.size = cells.size) (h1 : cells.all (·.oneCell') = true)
    (h : ∀ W, Put w W g cells t → wpList P ops Q rest (a.put o.dst undef) W) : wpList P ops Q (o :: rest) a w :=
  wpList_store_row hgd ty x y ho g cells hx hy t old hg hi hold h1
    (h _ ⟨rfl, rfl, rfl, by simp, fun k hk => setRow_other w g k cells hk, setRow_heap w g old cells t (0, 0) hg⟩)
theorem Put.below {w w1 W : World} {g : Nat} {cs : Array Value} {t : TypeId} (h : Put w1 W g cs t) {B : Nat} (hb : Below B w w1) (hg : B ≤ g) : Below B w W :=
  ⟨h.os.trans hb.os, h.tape.trans hb.tape, h.output.trans hb.output, by rw [h.size]; exact hb.size, fun k hk => (h.block k (by omega)).trans (hb.block k hk)⟩
theorem Put.chg {P : Nat → Prop} {w W : World} {g : Nat} {cs : Array Value} {t : TypeId} (h : Put w W g cs t) (hp : P g) : Chg P w W :=
  ⟨h.os, h.tape, h.output, Nat.le_of_eq h.size.symm, fun k _ hn => h.block k (fun q => hn (q ▸ hp))⟩
theorem pop_cut {w W2 W3 : World} {B gb mb no b cap last : Nat} {l : List On1} {M : Mp} {y : On1} (h : Tm w B gb mb (.slice (some ⟨b, 0, none⟩) l.length cap) l M no) (b2 : Below w.heap.size w W2) (s : Swm W2 b cap (l.set 0 y) W3) (hy : g l last = y) (hl : l.length = last + 1) (hcm : cap ≤ maxLen) (hBb : B ≤ b) (hbl : b < w.heap.size) :
    Tm (W3.setCell ⟨gb, 0, none⟩ (.slice (some ⟨b, 0, none⟩) last cap)) B gb mb (.slice (some ⟨b, 0, none⟩) last cap) (cutL l) M no ∧ Chg (Tl gb mb (.slice (some ⟨b, 0, none⟩) l.length cap)) w (W3.setCell ⟨gb, 0, none⟩ (.slice (some ⟨b, 0, none⟩) last cap)) ∧
      Blk (W3.setCell ⟨gb, 0, none⟩ (.slice (some ⟨b, 0, none⟩) last cap)) b cap (cutL l) ∧ ∀ k, k < W2.heap.size → k ≠ gb → k ≠ b → (W3.setCell ⟨gb, 0, none⟩ (.slice (some ⟨b, 0, none⟩) last cap)).heap[k]? = W2.heap[k]? := by
  have hng : gb ≠ b := fun q => h.ng (by rw [q]; rfl)
  have hnm : mb ≠ b := fun q => h.nm (by rw [q]; rfl)
  have hs : ∀ k, k ≠ gb → (W3.setCell ⟨gb, 0, none⟩ (.slice (some ⟨b, 0, none⟩) last cap)).heap[k]? = W3.heap[k]? := fun k hk => Below.heap_setCell _ _ _ _ hk
  have hpl := lt_of_heap h.top
  have hml := h.map.lt
  have b2s := b2.size
  have tg := (s.ch.block gb (by omega) hng).trans ((b2.block gb hpl).trans h.top)
  have e : cutL l = (l.set 0 y).take last := by
    unfold cutL
    rw [show l.length - 1 = last by omega, hy]
  have hc : (cutL l).length = last := by rw [cutL_len]; omega
  have K : Blk (W3.setCell ⟨gb, 0, none⟩ (.slice (some ⟨b, 0, none⟩) last cap)) b cap (cutL l) := by
    rw [e]
    exact (s.blk.same (hs b (fun q => hng q.symm))).take last
  refine ⟨⟨?_, ?_, h.map.same ((hs mb (fun q => h.ngm q.symm)).trans ((s.ch.block mb (by omega) hnm).trans (b2.block mb hml))), h.bg, h.bm, h.ngm, h.ng, h.nm⟩, ?_, K, fun k hk h1 h2 => (hs k h1).trans (s.ch.block k hk h2)⟩
  · simp [World.setCell, Array.getElem?_modify, tg]
  · have := own_of_blk K hBb hcm
    rw [hc] at this ⊢
    exact this
  · refine ((Chg.of_below b2 (P := Tl gb mb (.slice (some ⟨b, 0, none⟩) l.length cap))).trans s.ch (fun n _ q => .inr (.inr (by rw [q]; rfl)))).trans (Q := fun k => k = gb) ⟨rfl, rfl, rfl, by simp [World.setCell], fun k _ hk => hs k hk⟩ (fun k _ q => .inl q)
set_option maxRecDepth 100000 in
set_option maxHeartbeats 8000000 in
theorem pop_any {B gb mb no : Nat} {sl : Value} {l : List On1} {M : Mp} {w : World} (h : Tm w B gb mb sl l M no) (hh : Heap l) (hl0 : 0 < l.length) (hlen : l.length ≤ 100000) :
    Calls Try.prog 16 #[.pointer (some ⟨gb, 0, none⟩)] w fun e w' => e = .returned (.agg (g l 0).cells.toArray) ∧ ∃ l', (g l 0 :: l').Perm l ∧ Heap l' ∧ TKeep w B gb mb sl l' M no w' := by
  obtain ⟨b, cap, rfl, hBb, hcm, hblk⟩ := blk_of_own h.own hl0
  have hgb : gb ≠ b := fun q => h.ng (by rw [q]; rfl)
  obtain ⟨last, hlast⟩ : ∃ n, l.length = n + 1 := ⟨l.length - 1, by omega⟩
  have b0 := (Below.refl w.heap.size w).alloc (Nat.le_refl _) (.cells (On1.cells ⟨[], 0, 0⟩).toArray 48 (0, 0))
  have p0 := heap_alloc_new w (.cells (On1.cells ⟨[], 0, 0⟩).toArray 48 (0, 0))
  have H0 := Lib.hid h
  have HH := Lib.hid hh
  have K1 := Lib.hid (hblk.same (W' := w.alloc (.cells (On1.cells ⟨[], 0, 0⟩).toArray 48 (0, 0))) (b0.block b hblk.lt))
  have T1 := Lib.hid (h.bel b0)
  have B1 := Lib.hid b0
  have P1 := Lib.hid p0
  clear h hh b0 p0 hblk
  go_enter Try.func16, Try.ntmps16
  go_upto_region 1 with (fail)
  change Code.wp _ _ _ _ (w.alloc (.cells (On1.cells ⟨[], 0, 0⟩).toArray 48 (0, 0)))
  generalize w.alloc (.cells (On1.cells ⟨[], 0, 0⟩).toArray 48 (0, 0)) = w1 at B1 P1 K1 T1 ⊢
  obtain ⟨x0, x1, x2⟩ := K1.out.cell 0 hl0
  have t0 := T1.out.s.1
  have HL := Lib.hid hlast
  have lb : (0 : Int) < (l.length : Int) := by omega
  have e1 : IntKind.i64.wrap ((l.length : Int) - 1) = (last : Int) := by rw [hlast]; exact (IntWalk.i64_in _ (by omega)).trans (by omega)
  generalize hf : g l 0 = first at x0 x1 x2
  have HF := Lib.hid hf
  simp only [Nat.zero_mul, Nat.zero_add] at x0 x1 x2
  clear hf hlast
  have ba := (Below.refl w1.heap.size w1).alloc (Nat.le_refl _) (.cells #[.string ⟨#[]⟩, .int .i64 0, .int .i64 0] 48 (0, 0))
  have t0a := cell_kept ba t0
  have x0a := cell_kept ba x0
  have x1a := cell_kept ba x1
  have x2a := cell_kept ba x2
  have bb := (Below.refl w1.heap.size w1).alloc (Nat.le_refl _) (.cells #[.string ⟨first.key.toArray⟩, .int .i64 first.at_, .int .i64 (first.no : Int)] 48 (0, 0))
  have t0b := cell_kept bb t0
  clear ba bb
  go_region
  have bb := ((Below.refl w1.heap.size w1).alloc (Nat.le_refl _) (.cells first.cells.toArray 48 (0, 0))).drew
  have B2 := Lib.hid (below_acc B1.out bb)
  have K2 := Lib.hid (K1.out.same (bb.block b K1.out.lt))
  have P2 := Lib.hid ((bb.block _ (lt_of_heap P1.out)).trans P1.out)
  have F2 : Hid ((w1.alloc (.cells first.cells.toArray 48 (0, 0))).drew.heap[w1.heap.size]? = some (.cells first.cells.toArray 48 (0, 0))) := heap_alloc_new w1 _
  have hfb : w.heap.size < w1.heap.size := lt_of_heap P1.out
  have t2 := cell_kept bb t0
  have fz2 : ∀ i, (w1.alloc (.cells first.cells.toArray 48 (0, 0))).drew.frozen? ⟨gb, i, none⟩ = false := (T1.out.bel bb).s.2.2.2.2
  clear bb t0 x0 x1 x2 t0a x0a x1a x2a t0b B1 P1 K1 T1
  change Exit.then _ _ _ _ ((w1.alloc (.cells first.cells.toArray 48 (0, 0))).drew)
  generalize (w1.alloc (.cells first.cells.toArray 48 (0, 0))).drew = W2 at B2 K2 P2 F2 t2 fz2 ⊢
  generalize w1.heap.size = fb at F2 hfb ⊢
  have hll := HL.out
  obtain ⟨x0, x1, x2⟩ := K2.out.cell 0 hl0
  obtain ⟨y0, y1, y2⟩ := K2.out.cell last (by omega)
  have S3 := Lib.hid (fun y => (((Swm.mk K2.out (Chg.refl _ W2)).set3 0 hl0 y)).draw 1)
  have hcap := K2.out.le
  have lb2 : 0 ≤ (last : Int) ∧ (last : Int) < (l.length : Int) := by omega
  have lb3 : 0 ≤ (last : Int) ∧ (last : Int) ≤ (cap : Int) := by omega
  have kfz := fun i => K2.out.free i
  rw [HF.out] at x0 x1 x2
  generalize hy : g l last = y at y0 y1 y2
  have HY := Lib.hid hy
  simp only [Nat.zero_mul, Nat.zero_add] at x0 x1 x2 S3
  clear hy hll hcap
  go_upto_region 2 with fail
  go_region
  change Exit.then _ _ _ _ (((W2.setCell ⟨b, 0, none⟩ (str y.key)).setCell ⟨b, 1, none⟩ (.int .i64 y.at_)).setCell ⟨b, 2, none⟩ (.int .i64 (y.no : Int))).drew
  have S4 : Hid (Swm W2 b cap (l.set 0 y) (((W2.setCell ⟨b, 0, none⟩ (str y.key)).setCell ⟨b, 1, none⟩ (.int .i64 y.at_)).setCell ⟨b, 2, none⟩ (.int .i64 (y.no : Int))).drew) := S3.out y
  clear x0 x1 x2 y0 y1 y2 kfz S3
  generalize (((W2.setCell ⟨b, 0, none⟩ (str y.key)).setCell ⟨b, 1, none⟩ (.int .i64 y.at_)).setCell ⟨b, 2, none⟩ (.int .i64 (y.no : Int))).drew = W3 at S4 ⊢
  have t3 := S4.out.cell t2 hgb
  have fz3 : ∀ i, W3.frozen? ⟨gb, i, none⟩ = false := fun i => by
    have := fz2 i
    simp only [World.frozen?, S4.out.ch.block gb (block_lt_of_cell t2) hgb] at this ⊢
    exact this
  have hbw : b < w.heap.size := (H0.out.bl b (.inr (.inr rfl))).2
  obtain ⟨T4, C4, K4, E4⟩ := pop_cut H0.out B2.out S4.out HY.out HL.out hcm hBb hbw
  have P4 := Lib.hid ((E4 w.heap.size (lt_of_heap P2.out) (by have := lt_of_heap H0.out.top; omega) (by omega)).trans P2.out)
  have F4 := Lib.hid ((E4 fb (lt_of_heap F2.out) (by have := lt_of_heap H0.out.top; omega) (by omega)).trans F2.out)
  have T4' := Lib.hid T4
  have C4' := Lib.hid C4
  have K4' := Lib.hid K4
  clear T4 C4 K4
  have D4 := Lib.hid (cutL_down HH.out)
  have Q4 : Hid ((first :: cutL l).Perm l) := by
    have := cutL_perm hl0
    rw [HF.out] at this
    exact this
  have hcl : (cutL l).length = last := by rw [cutL_len, HL.out]; omega
  have TL : Hid (∀ k, Tl gb mb (.slice (some ⟨b, 0, none⟩) l.length cap) k → k < w.heap.size) := fun k hk => (H0.out.bl k hk).2
  go_upto_region 4 with fail
  clear t2 fz2 t3 fz3 E4 S4 P2 F2 K2 B2 HH HY lb
  generalize W3.setCell ⟨gb, 0, none⟩ (.slice (some ⟨b, 0, none⟩) last cap) = W4 at T4' C4' K4' P4 F4 ⊢
  generalize cutL l = L0 at T4' K4' D4 Q4 hcl
  have FIN : Hid (∀ (lc : List On1) (W W5 : World), Swm W4 b cap lc W → lc.Perm L0 → Heap lc → Put W W5 w.heap.size first.cells.toArray 48 → ∃ l', (g l 0 :: l').Perm l ∧ Heap l' ∧ TKeep w B gb mb (.slice (some ⟨b, 0, none⟩) l.length cap) l' M no W5) := fun lc W W5 hs hp hhe hput => by
    have hll : lc.length = L0.length := hp.length_eq
    have htm : Tm W4 B gb mb (.slice (some ⟨b, 0, none⟩) L0.length cap) L0 M no := by rw [hcl]; exact T4'.out
    refine ⟨lc, ?_, hhe, .slice (some ⟨b, 0, none⟩) lc.length cap, ?_, rfl, ?_⟩
    · rw [HF.out]
      exact (hp.cons first).trans Q4.out
    · refine (hs.tm htm hll hcm hBb).chg (P := fun k => k = w.heap.size) (hput.chg rfl) fun k hk q => ?_
      have := TL.out k (by rcases hk with q | q | q; exact .inl q; exact .inr (.inl q); exact .inr (.inr q))
      omega
    · refine (C4'.out.trans hs.ch (fun n _ q => .inr (.inr (by rw [q]; rfl)))).trans (hput.chg (P := fun k => k = w.heap.size) rfl) (fun n hn q => ?_)
      omega
  obtain ⟨s0, s1, -⟩ := T4'.out.s
  have R4 := Lib.hid (Swm.mk K4'.out (Chg.refl (fun k => k = b) W4))
  have hbw2 : w.heap.size ≠ b := by omega
  have hfb2 : fb ≠ b := by omega
  have hs0 : 0 ≤ last := Nat.zero_le _
  have hl5 : last ≤ 100000 := by have := HL.out; omega
  clear H0 T4' C4' K4' Q4 TL HL e1 lb2 lb3
  go_wp2_with fail
  go_loopw [5] (fun kv wr => ∃ (k : Nat) (lc : List On1), kv = .int .i64 (k : Int) ∧ (k < last ∨ k = 0) ∧ lc.length = last ∧ Hid (Swm W4 b cap lc wr ∧ lc.Perm L0 ∧ DownInv lc k)) (fun kv _ => last - (intOf kv).toNat)
  case atStart => exact ⟨0, L0, rfl, .inr rfl, hcl, R4.out, List.Perm.refl _, D4.out⟩
  case round =>
    clear R4 D4
    obtain ⟨k, lc, rfl, hk, hlc, H⟩ := hrel
    obtain ⟨wo, rfl⟩ : ∃ wo, wo = wr := ⟨_, rfl⟩
    obtain ⟨dA, hA⟩ : ∃ d, d = 2 * k + 1 := ⟨_, rfl⟩
    obtain ⟨dB, hB⟩ : ∃ d, d = 2 * k + 2 := ⟨_, rfl⟩
    have m1 : IntKind.i64.wrap (2 * (k : Int)) = 2 * (k : Int) := IntWalk.i64_in _ (by omega)
    have m2 : IntKind.i64.wrap (2 * (k : Int) + 1) = (dA : Int) := by rw [hA]; exact (IntWalk.i64_in _ (by omega)).trans (by omega)
    have m3 : IntKind.i64.wrap (2 * (k : Int) + 2) = (dB : Int) := by rw [hB]; exact (IntWalk.i64_in _ (by omega)).trans (by omega)
    have HA := Lib.hid (And.intro hA hB)
    clear hA hB
    go_upto_region 7 with fail
    have R5 : Hid (Swm W4 b cap lc (wo.alloc (.cells #[.int .i64 (dA : Int), .int .i64 (dB : Int)] 3 (0, 0)))) := H.out.1.bel ((Below.refl _ wo).alloc (Nat.le_refl _) _)
    have q5 := heap_alloc_new wo (.cells #[.int .i64 (dA : Int), .int .i64 (dB : Int)] 3 (0, 0))
    have Q5 := Lib.hid q5
    have LP := Lib.hid H.out.2.1
    have DI := Lib.hid H.out.2.2
    clear H q5 m1 m2 m3
    generalize wo.alloc (.cells #[.int .i64 (dA : Int), .int .i64 (dB : Int)] 3 (0, 0)) = W5 at R5 Q5 ⊢
    generalize wo.heap.size = sb at Q5 ⊢
    go_loopw [6, 51] (fun mv iv wj => ∃ (m i : Nat), mv = .int .i64 (m : Int) ∧ iv = .int .i64 (i : Int) ∧ i ≤ 2 ∧ (m = k ∨ k < m ∧ m < last) ∧ Hid (Swm W4 b cap lc wj ∧ wj.heap[sb]? = some (.cells #[.int .i64 (dA : Int), .int .i64 (dB : Int)] 3 (0, 0)) ∧ (m = k ∨ (m - 1) / 2 = k) ∧ le (g lc m) (g lc k) ∧ ∀ c, 0 < c → c < last → (c - 1) / 2 = k → c < 2 * k + 1 + i → le (g lc m) (g lc c))) (fun _ iv _ => 2 - (intOf iv).toNat)
    case atStart => exact ⟨k, 0, rfl, rfl, by omega, .inl rfl, R5.out, Q5.out, .inl rfl, le_refl _, fun c c0 cl cp ck => by omega⟩
    case round =>
      clear R5 Q5
      obtain ⟨m, i, rfl, rfl, hi, hm, J⟩ := hrel
      by_cases hi2 : i < 2
      · obtain ⟨dn, hdn⟩ : ∃ d, d = 2 * k + 1 + i := ⟨_, rfl⟩
        have cc : wr.cell? ⟨sb, i, none⟩ = some (.int .i64 (dn : Int)) := by
          rw [cell_of_row _ _ _ _ _ (0, 0) J.out.2.1, hdn]
          obtain ⟨a1, a2⟩ := HA.out
          rcases (show i = 0 ∨ i = 1 by omega) with q | q
          · rw [q, a1]; rfl
          · rw [q, a2]; rfl
        have ib : 0 ≤ (i : Int) ∧ (i : Int) < 2 := by omega
        have iw : IntKind.i64.wrap ((i : Int) + 1) = (i : Int) + 1 := IntWalk.i64_in _ (by omega)
        have HD := Lib.hid hdn
        clear hdn
        by_cases hdl : dn < last
        rotate_left
        · have g1 : decide (dn < last) = false := decide_eq_false hdl
          have g2 : decide ((dn : Int) < (last : Int)) = false := decide_eq_false (by omega)
          have J2 : Hid (∀ n, Swm W4 b cap lc (wr.drewN n) ∧ (wr.drewN n).heap[sb]? = some (.cells #[.int .i64 (dA : Int), .int .i64 (dB : Int)] 3 (0, 0)) ∧ (m = k ∨ (m - 1) / 2 = k) ∧ le (g lc m) (g lc k) ∧ ∀ c, 0 < c → c < last → (c - 1) / 2 = k → c < 2 * k + 1 + (i + 1) → le (g lc m) (g lc c)) := fun n => by
            obtain ⟨j1, j2, j3, j4, j5⟩ := J.out
            exact ⟨j1.draw n, j2, j3, j4, fun c c0 cl cp ck => j5 c c0 cl cp (by have := HD.out; omega)⟩
          clear hdl J
          go_wp2_with fail
          go_quiet (fail)
          go_wp2_with fail
          go_roundw
          case rel => exact ⟨m, i + 1, rfl, by go_num, by omega, hm, J2.out _⟩
          case measure => simp [intOf]; omega
        have g2 : decide ((dn : Int) < (last : Int)) = true := decide_eq_true (by omega)
        have g1 : decide (dn < last) = true := decide_eq_true hdl
        have hml : m < last := by omega
        obtain ⟨x0, x1, x2⟩ := J.out.1.blk.cell dn (by omega)
        obtain ⟨y0, y1, y2⟩ := J.out.1.blk.cell m (by omega)
        have t0 := J.out.1.cell s0 hgb
        have t1 := J.out.1.cell s1 hgb
        have db : 0 ≤ (dn : Int) ∧ (dn : Int) < (last : Int) := by omega
        have mb2 : 0 ≤ (m : Int) ∧ (m : Int) < (last : Int) := by omega
        generalize hxi : g lc dn = xi at x0 x1 x2
        generalize hxj : g lc m = xj at y0 y1 y2 J
        have HX := Lib.hid hxi
        have HXJ := Lib.hid hxj
        clear hxi hxj
        have CA : Hid (∀ W : World, Calls Try.prog 12 #[.agg #[str xi.key, .int .i64 xi.at_, .int .i64 (xi.no : Int)], .agg #[str xj.key, .int .i64 xj.at_, .int .i64 (xj.no : Int)]] W fun e w' => e = .returned (.bool (ltB xi xj)) ∧ Below W.heap.size W w') := fun W => ahead_any xi xj W
        have SS : Hid (∀ W : World, Below wr.heap.size wr W → W.cell? ⟨gb, 0, none⟩ = some (.slice (some ⟨b, 0, none⟩) last cap) ∧ W.cell? ⟨gb, 1, none⟩ = some (.func (.func 12) #[] #[]) ∧ W.cell? ⟨b, dn * 3, none⟩ = some (str xi.key) ∧ W.cell? ⟨b, dn * 3 + 1, none⟩ = some (.int .i64 xi.at_) ∧ W.cell? ⟨b, dn * 3 + 2, none⟩ = some (.int .i64 (xi.no : Int)) ∧ W.cell? ⟨b, m * 3, none⟩ = some (str xj.key) ∧ W.cell? ⟨b, m * 3 + 1, none⟩ = some (.int .i64 xj.at_) ∧ W.cell? ⟨b, m * 3 + 2, none⟩ = some (.int .i64 (xj.no : Int))) := fun W hb => ⟨cell_kept hb t0, cell_kept hb t1, cell_kept hb x0, cell_kept hb x1, cell_kept hb x2, cell_kept hb y0, cell_kept hb y1, cell_kept hb y2⟩
        go_upto_region 9 with fail
        have LE := Lib.hid (le_of_lt (a := xi) (b := xj))
        have NL := Lib.hid (le_of_not (a := xi) (b := xj))
        generalize ltB xi xj = lt at CA LE NL
        go_region_held3 (fun W => W.cell? ⟨gb, 0, none⟩ = some (.slice (some ⟨b, 0, none⟩) last cap) ∧ W.cell? ⟨gb, 1, none⟩ = some (.func (.func 12) #[] #[]) ∧ W.cell? ⟨b, dn * 3, none⟩ = some (str xi.key) ∧ W.cell? ⟨b, dn * 3 + 1, none⟩ = some (.int .i64 xi.at_) ∧ W.cell? ⟨b, dn * 3 + 2, none⟩ = some (.int .i64 (xi.no : Int)) ∧ W.cell? ⟨b, m * 3, none⟩ = some (str xj.key) ∧ W.cell? ⟨b, m * 3 + 1, none⟩ = some (.int .i64 xj.at_) ∧ W.cell? ⟨b, m * 3 + 2, none⟩ = some (.int .i64 (xj.no : Int)))
          (first | assumption | exact SS.out _ (Below.refl _ wr).drew | exact SS.out _ B9.out)
          (first | (go_at_call 12; (with_reducible refine (CA.out _).mono ?_); rintro e W9 ⟨rfl, hb⟩; have B9 := Lib.hid (drew_below hb); clear hb))
        rename_i hS
        have J9 := Lib.hid (And.intro (J.out.1.bel B9.out) (And.intro ((B9.out.block _ (lt_of_heap J.out.2.1)).trans J.out.2.1) J.out.2.2))
        clear hS J CA SS x0 x1 x2 y0 y1 y2 t0 t1 cc
        have hdk : k < dn := by have := HD.out; omega
        have hdp : (dn - 1) / 2 = k := by have := HD.out; omega
        cases lt
        · have J2 : Hid (Swm W4 b cap lc W9 ∧ W9.heap[sb]? = some (.cells #[.int .i64 (dA : Int), .int .i64 (dB : Int)] 3 (0, 0)) ∧ (m = k ∨ (m - 1) / 2 = k) ∧ le (g lc m) (g lc k) ∧ ∀ c, 0 < c → c < last → (c - 1) / 2 = k → c < 2 * k + 1 + (i + 1) → le (g lc m) (g lc c)) := by
            obtain ⟨j1, j2, j3, j4, j5⟩ := J9.out
            rw [HXJ.out]
            refine ⟨j1, j2, j3, j4, fun c c0 cl cp ck => ?_⟩
            by_cases q : c = dn
            · rw [q, HX.out]
              exact NL.out rfl
            · exact j5 c c0 cl cp (by have := HD.out; omega)
          clear J9 LE NL
          go_wp2_with fail
          go_roundw
          case rel => exact ⟨m, i + 1, rfl, by go_num, by omega, hm, J2.out⟩
          case measure => simp [intOf]; omega
        · have J2 : Hid (Swm W4 b cap lc W9 ∧ W9.heap[sb]? = some (.cells #[.int .i64 (dA : Int), .int .i64 (dB : Int)] 3 (0, 0)) ∧ (dn = k ∨ (dn - 1) / 2 = k) ∧ le (g lc dn) (g lc k) ∧ ∀ c, 0 < c → c < last → (c - 1) / 2 = k → c < 2 * k + 1 + (i + 1) → le (g lc dn) (g lc c)) := by
            obtain ⟨j1, j2, j3, j4, j5⟩ := J9.out
            rw [HX.out]
            have hle := LE.out rfl
            refine ⟨j1, j2, .inr hdp, le_trans hle j4, fun c c0 cl cp ck => ?_⟩
            by_cases q : c = dn
            · rw [q, HX.out]
              exact le_refl _
            · exact le_trans hle (j5 c c0 cl cp (by have := HD.out; omega))
          clear J9 LE NL
          go_wp2_with fail
          go_roundw
          case rel => exact ⟨dn, i + 1, rfl, by go_num, by omega, .inr ⟨hdk, hdl⟩, J2.out⟩
          case measure => simp [intOf]; omega
      · obtain rfl : i = 2 := by omega
        obtain ⟨j1, j2, j3, j4, j5⟩ := J.out
        have CH : Hid (∀ c, 0 < c → c < lc.length → (c - 1) / 2 = k → le (g lc m) (g lc c)) := fun c c0 cl cp => j5 c c0 (by omega) cp (by omega)
        have R6 := Lib.hid j1
        have LE := Lib.hid j4
        clear J j1 j2 j4 j5 hi2
        by_cases hmk : m = k
        · subst hmk
          have hheap := Lib.hid (down_stop DI.out CH.out)
          have F6 := Lib.hid ((R6.out.ch.block fb (lt_of_heap F4.out) hfb2).trans F4.out)
          have P6 := Lib.hid ((R6.out.ch.block w.heap.size (lt_of_heap P4.out) hbw2).trans P4.out)
          have ee : ((m : Int) == (m : Int)) = true := by simp
          clear CH LE DI F4 P4 j3
          go_wp2_with (first
            | (refine wpList_load_row rfl 48 _ rfl fb (by rfl) 48 _ (0, 0) _ F6.out Try.underlying48 rfl (size_on _) ?_)
            | (refine wpList_store_put rfl 48 _ _ rfl w.heap.size first.cells.toArray (by rfl) (by rfl) 48 _ P6.out (size_on _) (by rfl) (one_on _) ?_; intro W7 P7))
          have F := Lib.hid (FIN.out lc _ W7 R6.out LP.out hheap.out P7)
          exact bodyPost_ret (results_cell_row rfl _ _ w.heap.size 48 _ (0, 0) _ rfl P7.here Try.underlying48 rfl (size_on _)) rfl ⟨by rw [HF.out], F.out⟩
        · have hkm : k < m ∧ m < last := by omega
          have hpm : (m - 1) / 2 = k := by omega
          have ee : ((m : Int) == (k : Int)) = false := by simp; omega
          have SP := Lib.hid (swp_perm lc k m (by omega) (by omega))
          have SL := swp_len lc k m
          have DN := Lib.hid (down_step DI.out (by omega) (by omega) hpm LE.out CH.out)
          have SW := Lib.hid (fun (W : World) (h : Swm W4 b cap lc W) (xi xj : On1) (e1 : g lc k = xi) (e2 : g lc m = xj) n => h.swap k m (by omega) (by omega) (by omega) e1 e2 n)
          obtain ⟨x0, x1, x2⟩ := R6.out.blk.cell k (by omega)
          obtain ⟨y0, y1, y2⟩ := R6.out.blk.cell m (by omega)
          have t0 := R6.out.cell s0 hgb
          have kb : 0 ≤ (k : Int) ∧ (k : Int) < (last : Int) := by omega
          have mb2 : 0 ≤ (m : Int) ∧ (m : Int) < (last : Int) := by omega
          have fz := fun i => R6.out.blk.free i
          generalize hxi : g lc k = xi at x0 x1 x2
          generalize hxj : g lc m = xj at y0 y1 y2
          have HX := Lib.hid (And.intro hxi hxj)
          clear hxi hxj CH LE DI hmk hm j3 hpm hk hi wo s0 s1
          obtain ⟨hkm1, hkm2⟩ := hkm
          go_upto_region 14 with fail
          go_cut [109, 110] (fun v1 v2 wx => wx = ((((((wr.setCell ⟨b, k * 3, none⟩ (str xj.key)).setCell ⟨b, k * 3 + 1, none⟩ (.int .i64 xj.at_)).setCell ⟨b, k * 3 + 2, none⟩ (.int .i64 (xj.no : Int))).setCell ⟨b, m * 3, none⟩ (str xi.key)).setCell ⟨b, m * 3 + 1, none⟩ (.int .i64 xi.at_)).setCell ⟨b, m * 3 + 2, none⟩ (.int .i64 (xi.no : Int))).drew)
          case first =>
            clear SW SP DN HX HA FIN LP R6 F4 P4 HF SL hcl hlc hl5 hs0 hfb2 hbw2 hbw hfb hl0 hlen hcm hBb
            go_region
            go_wp2_with fail
            go_meet
            case rel => rfl
          case rest =>
            have R7 : Hid (Swm W4 b cap (swp lc k m) (((((((wr.setCell ⟨b, k * 3, none⟩ (str xj.key)).setCell ⟨b, k * 3 + 1, none⟩ (.int .i64 xj.at_)).setCell ⟨b, k * 3 + 2, none⟩ (.int .i64 (xj.no : Int))).setCell ⟨b, m * 3, none⟩ (str xi.key)).setCell ⟨b, m * 3 + 1, none⟩ (.int .i64 xi.at_)).setCell ⟨b, m * 3 + 2, none⟩ (.int .i64 (xi.no : Int))).drew)) := SW.out _ R6.out xi xj HX.out.1 HX.out.2 1
            have hcut2 := hcut
            rw [← hcut2] at R7
            clear hcut hcut2 x0 x1 x2 y0 y1 y2 t0 fz
            go_wp2_with fail
            go_roundw
            case rel => exact ⟨m, swp lc k m, rfl, .inl hkm2, by omega, R7.out, SP.out.trans LP.out, DN.out⟩
            case measure => simp [intOf]; omega
end Go.Proofs.Ytljfjlijobjpdaa
