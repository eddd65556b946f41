/- The walk of the ledger's Apply, where it does the action. Condition: the ledger lies at the pointer. -/
import Derived.Test.YthdmjeoldnehcaaLgq
namespace Go.Proofs.Ythdmjeoldnehcaa
open Go.RowKit
set_option linter.unusedVariables false
set_option linter.unusedSimpArgs false

theorem field_kind (a b c d x : Value) (W : World) : (Instr.field 58 (.agg #[a, b, c, d, x]) 4).run Try.prog W = .ok x W := by
  unfold Instr.field
  simp [run_underlying Try.underlying58]
  go_simp
  simp [asAgg]
/-- The memory of Apply: the ledger's own block, the action's box. -/
structure App (w : World) (g mb : Nat) (sl : Value) (bad : Nat) (kind : Nat) (c e s org : Int) (yes : Bool) (orgs : Nat) (P : Nat → Prop) (M : Obj) (W : World) : Prop where
  top : W.heap[g]? = some (.cells #[.int .u8 (bad : Int), sl, .map (some mb)] 53 (0, 0))
  ac : W.heap[w.heap.size]? = some (.cells #[.int .u8 (kind : Int), .int .i64 c, .int .i64 e, .int .i64 s, .int .i64 org, .bool yes, .int .u8 (orgs : Int)] 35 (0, 0))
  mp : W.heap[mb]? = some M
  ch : Chg P w W
theorem App.s {w : World} {g mb : Nat} {sl : Value} {bad kind : Nat} {c e s org : Int} {yes : Bool} {orgs : Nat} {P : Nat → Prop} {M : Obj} {W : World} (h : App w g mb sl bad kind c e s org yes orgs P M W) :
    W.cell? ⟨g, 1, none⟩ = some sl ∧ W.cell? ⟨g, 2, none⟩ = some (.map (some mb)) ∧ W.cell? ⟨w.heap.size, 0, none⟩ = some (.int .u8 (kind : Int)) ∧ W.cell? ⟨w.heap.size, 1, none⟩ = some (.int .i64 c) ∧ W.cell? ⟨w.heap.size, 2, none⟩ = some (.int .i64 e) ∧ W.cell? ⟨w.heap.size, 3, none⟩ = some (.int .i64 s) ∧
      W.cell? ⟨w.heap.size, 4, none⟩ = some (.int .i64 org) ∧ W.cell? ⟨w.heap.size, 5, none⟩ = some (.bool yes) ∧ W.cell? ⟨w.heap.size, 6, none⟩ = some (.int .u8 (orgs : Int)) ∧ App w g mb sl bad kind c e s org yes orgs P M W :=
  ⟨cell_of_row _ _ 1 _ _ (0, 0) h.top, cell_of_row _ _ 2 _ _ (0, 0) h.top, cell_of_row _ _ 0 _ _ (0, 0) h.ac, cell_of_row _ _ 1 _ _ (0, 0) h.ac, cell_of_row _ _ 2 _ _ (0, 0) h.ac, cell_of_row _ _ 3 _ _ (0, 0) h.ac, cell_of_row _ _ 4 _ _ (0, 0) h.ac, cell_of_row _ _ 5 _ _ (0, 0) h.ac, cell_of_row _ _ 6 _ _ (0, 0) h.ac, h⟩
theorem App.chg {w : World} {g mb : Nat} {sl : Value} {bad kind : Nat} {c e s org : Int} {yes : Bool} {orgs : Nat} {P Q : Nat → Prop} {M : Obj} {W W' : World} (h : App w g mb sl bad kind c e s org yes orgs P M W) (hc : Chg Q W W') (hg : ¬ Q g) (ha : ¬ Q w.heap.size) (hm : ¬ Q mb) (hq : ∀ k, k < w.heap.size → Q k → P k) : App w g mb sl bad kind c e s org yes orgs P M W' :=
  ⟨(hc.block g (lt_of_heap h.top) hg).trans h.top, (hc.block _ (lt_of_heap h.ac) ha).trans h.ac, (hc.block mb (lt_of_heap h.mp) hm).trans h.mp, h.ch.trans hc hq⟩
theorem App.bel {w : World} {g mb : Nat} {sl : Value} {bad kind : Nat} {c e s org : Int} {yes : Bool} {orgs : Nat} {P : Nat → Prop} {M : Obj} {W W' : World} (h : App w g mb sl bad kind c e s org yes orgs P M W) (hb : Below W.heap.size W W') : App w g mb sl bad kind c e s org yes orgs P M W' :=
  h.chg (Chg.of_below (P := fun _ => False) hb) id id id (fun _ _ q => q.elim)
theorem App.draw {w : World} {g mb : Nat} {sl : Value} {bad kind : Nat} {c e s org : Int} {yes : Bool} {orgs : Nat} {P : Nat → Prop} {M : Obj} {W : World} (h : App w g mb sl bad kind c e s org yes orgs P M W) : App w g mb sl bad kind c e s org yes orgs P M W.drew := h.bel (Below.refl _ W).drew
theorem own_some {W : World} {B : Nat} {T : TypeId} {v : Value} {n : Nat} {xs : List Value} (h : W.ownsRow B T 10 v n xs) (hn : 0 < n) :
    ∃ rb cap cs, v = .slice (some ⟨rb, 0, none⟩) n cap ∧ B ≤ rb ∧ W.heap[rb]? = some (.cells cs T (0, 0)) ∧ n ≤ cap ∧ cap ≤ maxLen ∧ cs.size = cap * 10 ∧ cs.toList.take (n * 10) = xs := by
  rcases h.2 with ⟨_, h0⟩ | ⟨g, cap, cur, e, h1, h2, h3, h4, h5, h6⟩
  · omega
  · exact ⟨g, cap, cur, e, h1, h2, h3, h4, h5, h6⟩
theorem app_grow {w : World} {g mb : Nat} {sl : Value} {bad kind : Nat} {c e s org : Int} {yes : Bool} {orgs : Nat} {M : Obj} {W5 W6 : World} {rb n cap6 : Nat} (A5 : App w g mb sl bad kind c e s org yes orgs (Bl g mb sl) M W5) (G6 : W5.grownBy W6 sl.ownBlock)
    (OB : (Value.slice (some ⟨rb, 0, none⟩) n cap6).ownBlock = sl.ownBlock ∨ (Value.slice (some ⟨rb, 0, none⟩) n cap6).ownBlock = some W5.heap.size) (ng : sl.ownBlock ≠ some g) (nm : sl.ownBlock ≠ some mb) (NB : ∀ k, Bl g mb sl k → k < w.heap.size) (hgm : g ≠ mb) :
    App w g mb (.slice (some ⟨rb, 0, none⟩) n cap6) bad kind c e s org yes orgs (Bl g mb sl) M (W6.setCell ⟨g, 1, none⟩ (.slice (some ⟨rb, 0, none⟩) n cap6)) ∧ (rb ≠ g ∧ rb ≠ w.heap.size ∧ rb ≠ mb ∧ (rb < w.heap.size → Bl g mb sl rb)) ∧
      (∀ k, k ≠ g → (W6.setCell ⟨g, 1, none⟩ (.slice (some ⟨rb, 0, none⟩) n cap6)).heap[k]? = W6.heap[k]?) ∧ (sl.ownBlock = some rb ∨ w.heap.size ≤ rb) := by
  have hs : ∀ k, k ≠ g → (W6.setCell ⟨g, 1, none⟩ (.slice (some ⟨rb, 0, none⟩) n cap6)).heap[k]? = W6.heap[k]? := fun k hk => Below.heap_setCell _ _ _ _ hk
  have hle := A5.ch.size
  have hgl := lt_of_heap A5.top
  have hml := lt_of_heap A5.mp
  have hal := lt_of_heap A5.ac
  have hgw : g < w.heap.size := NB g (.inl rfl)
  have hmw : mb < w.heap.size := NB mb (.inr (.inl rfl))
  have hrb : sl.ownBlock = some rb ∨ rb = W5.heap.size := by
    rcases OB with h | h
    · exact .inl h.symm
    · exact .inr (Option.some.inj h)
  have tg := (G6.block g hgl (fun q => ng q.symm)).trans A5.top
  refine ⟨⟨?_, ?_, ?_, ?_⟩, ⟨?_, ?_, ?_, ?_⟩, hs, ?_⟩
  · simp [World.setCell, Array.getElem?_modify, tg]
  · refine (hs _ (by omega)).trans ((G6.block _ hal (fun q => ?_)).trans A5.ac)
    have := NB _ (.inr (.inr q.symm))
    omega
  · exact (hs mb (fun q => hgm q.symm)).trans ((G6.block mb hml (fun q => nm q.symm)).trans A5.mp)
  · refine (A5.ch.trans (Chg.of_grown (P := fun k => sl.ownBlock = some k) G6 (fun k q => q)) (fun k _ q => .inr (.inr q))).trans (Q := fun k => k = g) ⟨rfl, rfl, rfl, by simp [World.setCell], fun k _ hk => hs k hk⟩ (fun k _ q => .inl q)
  · intro q
    rcases hrb with h | h
    · exact ng (h.trans (by rw [q]))
    · omega
  · intro q
    rcases hrb with h | h
    · have := NB rb (.inr (.inr h))
      omega
    · omega
  · intro q
    rcases hrb with h | h
    · exact nm (h.trans (by rw [q]))
    · omega
  · intro q
    rcases hrb with h | h
    · exact .inr (.inr h)
    · omega
  · rcases hrb with h | h
    · exact .inl h
    · exact .inr (by omega)
/-- What Apply leaves of a ledger. -/
def Done (w : World) (B g mb : Nat) (sl : Value) (bad : Nat) (rows : List Rw) (w' : World) : Prop :=
  ∃ sl', Lg w' B g mb sl' bad rows ∧ (sl'.ownBlock = sl.ownBlock ∨ ∃ k, w.heap.size ≤ k ∧ sl'.ownBlock = some k) ∧ Chg (Bl g mb sl) w w'

set_option maxHeartbeats 8000000 in
theorem Apply_kind (B g mb bad : Nat) (sl : Value) (rows : List Rw) (kind : Nat) (c e s org : Int) (yes : Bool) (orgs : Nat) (ko kg ky : Bool) (f1 f2 : Value) (F : Nat) (r' : Rw) (w : World) (h : Lg w B g mb sl bad rows) (hlen : rows.length ≤ 100000) (hBw : B ≤ w.heap.size)
    (hf2 : f2 = .func (.func F) #[] #[])
    (hl : ∀ (W : World) (kb : Nat), KindsAt W kb → (Instr.lookup 59 (.map (some kb)) (.int .u8 (kind : Int)) false).run Try.prog W = .ok (.agg #[.bool ko, .bool kg, .bool ky, f1, f2]) W)
    (hcf : ∀ args (W : World), (callFunc F args).run Try.prog W = .ok (.enter F args) W)
    (hmay : ∀ W : World, Lg W B g mb sl bad rows → Calls Try.prog 20 #[.pointer (some ⟨g, 0, none⟩), .agg #[.int .u8 (kind : Int), .int .i64 c, .int .i64 e, .int .i64 s, .int .i64 org, .bool yes, .int .u8 (orgs : Int)]] W fun r w' => r = .returned (.int .i64 0) ∧ Below W.heap.size W w')
    (hdo : ∀ (W : World) (b o : Nat) (cs0 : Array Value), RowP W b 43 o (rowOf rows ⟨c, e, s⟩).cells cs0 → Calls Try.prog F #[.pointer (some ⟨g, 0, none⟩), .pointer (some ⟨b, o, none⟩), .agg #[.int .u8 (kind : Int), .int .i64 c, .int .i64 e, .int .i64 s, .int .i64 org, .bool yes, .int .u8 (orgs : Int)]] W fun r w' => r = .returned (.tuple #[]) ∧ RowP w' b 43 o r'.cells cs0 ∧ W.grownBy w' (some b))
    (htx : r'.tx = ⟨c, e, s⟩) (hsd : Sound bad r') :
    Calls Try.prog 14 #[.pointer (some ⟨g, 0, none⟩), .agg #[.int .u8 (kind : Int), .int .i64 c, .int .i64 e, .int .i64 s, .int .i64 org, .bool yes, .int .u8 (orgs : Int)]] w fun r w' => r = .returned (.int .i64 0) ∧ Done w B g mb sl bad (putRow rows r') w' := by
  have hgl : g < w.heap.size := lt_of_heap h.top
  have b0 := (Below.refl w.heap.size w).alloc (Nat.le_refl _) (.cells #[.int .u8 (kind : Int), .int .i64 c, .int .i64 e, .int .i64 s, .int .i64 org, .bool yes, .int .u8 (orgs : Int)] 35 (0, 0))
  have L1 := Lib.hid (h.bel b0)
  have A1 := Lib.hid (App.mk (w := w) (P := Bl g mb sl) (h.bel b0).top (heap_alloc_new w (.cells #[.int .u8 (kind : Int), .int .i64 c, .int .i64 e, .int .i64 s, .int .i64 org, .bool yes, .int .u8 (orgs : Int)] 35 (0, 0))) (h.bel b0).map (Chg.of_below b0))
  have NB := Lib.hid (fun k (hk : Bl g mb sl k) => h.bl_lt k hk)
  have HL := Lib.hid hl
  have HM := Lib.hid hmay
  have HD := Lib.hid hdo
  have HF := Lib.hid hcf
  have HH := Lib.hid h
  clear hl hmay hdo hcf h b0
  go_enter Try.func14, Try.ntmps14
  go_upto_region 1 with (fail)
  generalize w.alloc (.cells #[.int .u8 (kind : Int), .int .i64 c, .int .i64 e, .int .i64 s, .int .i64 org, .bool yes, .int .u8 (orgs : Int)] 35 (0, 0)) = w1 at L1 A1 ⊢
  obtain ⟨t1, t2, q0, q1, q2, q3, q4, q5, q6, -⟩ := A1.out.s
  go_upto_region 4 with (go_at_call 20; refine (HM.out _ L1.out).mono ?_; rintro r W2 ⟨rfl, hb⟩; have L2 := Lib.hid (L1.out.bel hb); have A2 := Lib.hid (A1.out.bel hb); clear hb)
  clear t1 t2 q0 q1 q2 q3 q4 q5 q6 L1 A1 HM
  have L := fun (W : World) (hW : W.heap[mb]? = some (.map (ents rows) rows.length)) => look_tx hW ⟨c, e, s⟩
  simp only [Tx.cells] at L
  subst hf2
  cases hix : idx rows ⟨c, e, s⟩ with
  | some k =>
    have hk := idx_lt hix
    rw [hix] at L
    simp only [Option.getD_some, Option.isSome_some] at L
    have HP := Lib.hid (putRow_some (r := r') (htx ▸ hix))
    have hro := rowOf_some hix
    rw [hro] at HD
    obtain ⟨rb, cap, cs0, rfl, hBr, hcs, hnc, hcm, htk, hrp⟩ := own_open L2.out.own hk
    have HO := Lib.hid (And.intro hBr (And.intro hcs (And.intro hnc (And.intro hcm htk))))
    have htk2 := (idx_some hix).2
    have RP0 := Lib.hid hrp
    clear hro hBr hcs hnc hcm htk hrp
    obtain ⟨t1, t2, q0, q1, q2, q3, q4, q5, q6, -⟩ := A2.out.s
    have kb : 0 ≤ (k : Int) ∧ (k : Int) < (rows.length : Int) := by omega
    have HT : Hid ((rows[k]).tx = r'.tx) := by show _ = _; rw [htk2, htx]
    generalize hr0 : rows[k] = r0 at HD RP0 htk2
    have HR0 := Lib.hid hr0
    have HIX := Lib.hid hix
    clear hix htk2 hr0
    have HLK := Lib.hid (L (W2.drew) L2.out.map)
    clear L
    go_region_held3 (fun W => W.cell? ⟨g, 1, none⟩ = some (.slice (some ⟨rb, 0, none⟩) rows.length cap) ∧ W.cell? ⟨g, 2, none⟩ = some (.map (some mb)) ∧ W.cell? ⟨w.heap.size, 0, none⟩ = some (.int .u8 (kind : Int)) ∧ W.cell? ⟨w.heap.size, 1, none⟩ = some (.int .i64 c) ∧ W.cell? ⟨w.heap.size, 2, none⟩ = some (.int .i64 e) ∧ W.cell? ⟨w.heap.size, 3, none⟩ = some (.int .i64 s) ∧ W.cell? ⟨w.heap.size, 4, none⟩ = some (.int .i64 org) ∧ W.cell? ⟨w.heap.size, 5, none⟩ = some (.bool yes) ∧ W.cell? ⟨w.heap.size, 6, none⟩ = some (.int .u8 (orgs : Int)) ∧ (Instr.lookup 51 (.map (some mb)) (.agg #[.int .i64 c, .int .i64 e, .int .i64 s]) true).run Try.prog W = .ok (.tuple #[.int .i64 (k : Int), .bool true]) W ∧ App w g mb (.slice (some ⟨rb, 0, none⟩) rows.length cap) bad kind c e s org yes orgs (Bl g mb (.slice (some ⟨rb, 0, none⟩) rows.length cap)) (.map (ents rows) rows.length) W)
      (first | assumption | exact (fun q => ⟨q.1, q.2.1, q.2.2.1, q.2.2.2.1, q.2.2.2.2.1, q.2.2.2.2.2.1, q.2.2.2.2.2.2.1, q.2.2.2.2.2.2.2.1, q.2.2.2.2.2.2.2.2.1, HLK.out, q.2.2.2.2.2.2.2.2.2⟩) (A2.out.draw).s)
      (fail)
    rename_i hS
    clear hS HLK
    have A3 := Lib.hid A2.out.draw
    have L3 : Hid (Lg W2.drew B g mb (.slice (some ⟨rb, 0, none⟩) rows.length cap) bad rows) := L2.out.bel (Below.refl _ W2).drew
    clear A2 L2
    have RP : Hid (RowP W2.drew rb 43 (k * 10) r0.cells cs0) := RP0.out.same rfl
    clear RP0 t1 t2 q0 q1 q2 q3 q4 q5 q6
    generalize W2.drew = W3 at A3 L3 RP ⊢
    go_upto_region 9 with (fail)
    have HRB : Hid (rb ≠ g ∧ rb ≠ w.heap.size ∧ rb ≠ mb ∧ (rb < w.heap.size → Bl g mb (.slice (some ⟨rb, 0, none⟩) rows.length cap) rb)) := by
      refine ⟨fun q => HH.out.ng (by rw [q]; rfl), fun q => ?_, fun q => HH.out.nm (by rw [q]; rfl), fun _ => .inr (.inr rfl)⟩
      have := NB.out rb (.inr (.inr rfl))
      omega
    obtain ⟨t1, t2, q0, q1, q2, q3, q4, q5, q6, -⟩ := A3.out.s
    have hfd := fun W : World => field_kind (.bool ko) (.bool kg) (.bool ky) f1 (.func (.func F) #[] #[]) W
    have hrl : rb < W3.heap.size := RP.out.at.lt
    go_region_held3 (fun W => W.cell? ⟨g, 1, none⟩ = some (.slice (some ⟨rb, 0, none⟩) rows.length cap) ∧ W.cell? ⟨g, 2, none⟩ = some (.map (some mb)) ∧ W.cell? ⟨w.heap.size, 0, none⟩ = some (.int .u8 (kind : Int)) ∧ W.cell? ⟨w.heap.size, 1, none⟩ = some (.int .i64 c) ∧ W.cell? ⟨w.heap.size, 2, none⟩ = some (.int .i64 e) ∧ W.cell? ⟨w.heap.size, 3, none⟩ = some (.int .i64 s) ∧ W.cell? ⟨w.heap.size, 4, none⟩ = some (.int .i64 org) ∧ W.cell? ⟨w.heap.size, 5, none⟩ = some (.bool yes) ∧ W.cell? ⟨w.heap.size, 6, none⟩ = some (.int .u8 (orgs : Int)) ∧ App w g mb (.slice (some ⟨rb, 0, none⟩) rows.length cap) bad kind c e s org yes orgs (Bl g mb (.slice (some ⟨rb, 0, none⟩) rows.length cap)) (.map (ents rows) rows.length) W)
      (first | assumption | exact (A3.out.draw).s | exact (A5.out).s | exact (A6.out).s)
      (first
        | (go_at_call 24; (with_reducible refine (kinds_any _).mono ?_); rintro r W5 ⟨rfl, hk, hb, -⟩; have hk2 : KindsAt W5 W3.heap.size := hk; have hlk := HL.out _ _ hk2; clear hk2; have A5 := Lib.hid (A3.out.draw.bel hb); have R5 := Lib.hid (RP.out.same (W' := W5) (hb.block rb hrl)); have hcf := HF.out; clear hb hk)
        | ((with_reducible refine (HD.out _ _ _ _ R5.out).mono ?_); rintro r W6 ⟨rfl, R6, G6⟩; have A6 := Lib.hid (A5.out.chg (Chg.of_grown (P := fun k => k = rb) G6 (fun k e => (Option.some.inj e).symm)) (fun q => HRB.out.1 q.symm) (fun q => HRB.out.2.1 q.symm) (fun q => HRB.out.2.2.1 q.symm) (fun k hk q => (fun z => q ▸ z) (HRB.out.2.2.2 (q ▸ hk)))); have G7 := Lib.hid G6; have R7 := Lib.hid R6; clear R6 G6))
    rename_i hS
    clear hS
    have OW := Lib.hid (own_set HO.out.1 HO.out.2.1 HO.out.2.2.1 HO.out.2.2.2.1 HO.out.2.2.2.2 hk R7.out)
    have DN : Hid (Done w B g mb (.slice (some ⟨rb, 0, none⟩) rows.length cap) bad (putRow rows r') W6) := by
      show Done _ _ _ _ _ _ _ _
      rw [HP.out]
      refine ⟨_, ⟨A6.out.top, OW.out, ?_, HH.out.bg, HH.out.bm, HH.out.ngm, HH.out.ng, HH.out.nm, ?_⟩, .inl rfl, A6.out.ch⟩
      · rw [ents_set rows k r' hk HT.out, List.length_set]; exact A6.out.mp
      · intro q hq
        rcases List.mem_or_eq_of_mem_set hq with h1 | rfl
        · exact HH.out.sd q h1
        · exact hsd
    clear OW A6 A5 R7 G7 RP A3 L3 HO HT HR0 HIX HD HL HF R5 hfd t1 t2 q0 q1 q2 q3 q4 q5 q6
    go_wp2_with fail
    go_ret
    exact ⟨rfl, DN.out⟩
  | none =>
    rw [hix] at L
    simp only [Option.getD_none, Option.isSome_none] at L
    have HP := Lib.hid (putRow_none (r := r') (htx ▸ hix))
    rw [rowOf_none hix] at HD
    obtain ⟨ob, cap, rfl⟩ : ∃ ob cap, sl = .slice ob rows.length cap := by
      rcases HH.out.own.2 with ⟨h1, h2⟩ | ⟨g0, cap, cur, h1, _⟩
      · exact ⟨none, 0, by rw [h1, h2]⟩
      · exact ⟨_, _, h1⟩
    have HIX := Lib.hid hix
    clear hix
    obtain ⟨t1, t2, q0, q1, q2, q3, q4, q5, q6, -⟩ := A2.out.s
    have HLK := Lib.hid (L (W2.drew) L2.out.map)
    clear L
    go_region_held3 (fun W => W.cell? ⟨g, 1, none⟩ = some (.slice ob rows.length cap) ∧ W.cell? ⟨g, 2, none⟩ = some (.map (some mb)) ∧ W.cell? ⟨w.heap.size, 0, none⟩ = some (.int .u8 (kind : Int)) ∧ W.cell? ⟨w.heap.size, 1, none⟩ = some (.int .i64 c) ∧ W.cell? ⟨w.heap.size, 2, none⟩ = some (.int .i64 e) ∧ W.cell? ⟨w.heap.size, 3, none⟩ = some (.int .i64 s) ∧ W.cell? ⟨w.heap.size, 4, none⟩ = some (.int .i64 org) ∧ W.cell? ⟨w.heap.size, 5, none⟩ = some (.bool yes) ∧ W.cell? ⟨w.heap.size, 6, none⟩ = some (.int .u8 (orgs : Int)) ∧ (Instr.lookup 51 (.map (some mb)) (.agg #[.int .i64 c, .int .i64 e, .int .i64 s]) true).run Try.prog W = .ok (.tuple #[.int .i64 ((0 : Nat) : Int), .bool false]) W ∧ App w g mb (.slice ob rows.length cap) bad kind c e s org yes orgs (Bl g mb (.slice ob rows.length cap)) (.map (ents rows) rows.length) W)
      (first | assumption | exact (fun q => ⟨q.1, q.2.1, q.2.2.1, q.2.2.2.1, q.2.2.2.2.1, q.2.2.2.2.2.1, q.2.2.2.2.2.2.1, q.2.2.2.2.2.2.2.1, q.2.2.2.2.2.2.2.2.1, HLK.out, q.2.2.2.2.2.2.2.2.2⟩) (A2.out.draw).s)
      (fail)
    rename_i hS
    clear hS HLK
    have A3 := Lib.hid A2.out.draw
    have L3 : Hid (Lg W2.drew B g mb (.slice ob rows.length cap) bad rows) := L2.out.bel (Below.refl _ W2).drew
    clear A2 L2
    clear t1 t2 q0 q1 q2 q3 q4 q5 q6
    generalize W2.drew = W3 at A3 L3 ⊢
    obtain ⟨t1, t2, q0, q1, q2, q3, -⟩ := A3.out.s
    go_upto_region 7 with (fail)
    have HU := upd_tx (W := W3.drew) (mb := mb) (rows := rows) L3.out.map ⟨c, e, s⟩ HIX.out
    simp only [Tx.cells] at HU
    have hne : g ≠ mb := HH.out.ngm
    have hnb : w.heap.size ≠ mb := by
      have := NB.out mb (.inr (.inl rfl))
      omega
    generalize hM : Obj.map (ents (rows ++ [row0 ⟨c, e, s⟩])) (rows.length + 1) = M4 at HU
    have PC : Hid (∀ b j, b ≠ mb → (W3.drew.putObj mb M4).cell? ⟨b, j, none⟩ = W3.cell? ⟨b, j, none⟩) := fun b j hb => by
      simp only [World.cell?, World.putObj_heap_other (w := W3.drew) (o := M4) hb]
      rfl
    go_region_held3 (fun W => W.cell? ⟨g, 1, none⟩ = some (.slice ob rows.length cap) ∧ W.cell? ⟨g, 2, none⟩ = some (.map (some mb)) ∧ W.cell? ⟨w.heap.size, 0, none⟩ = some (.int .u8 (kind : Int)) ∧ W.cell? ⟨w.heap.size, 1, none⟩ = some (.int .i64 c) ∧ W.cell? ⟨w.heap.size, 2, none⟩ = some (.int .i64 e) ∧ W.cell? ⟨w.heap.size, 3, none⟩ = some (.int .i64 s))
      (first | assumption | exact ⟨t1, t2, q0, q1, q2, q3⟩ | exact ⟨(PC.out _ _ hne).trans t1, (PC.out _ _ hne).trans t2, (PC.out _ _ hnb).trans q0, (PC.out _ _ hnb).trans q1, (PC.out _ _ hnb).trans q2, (PC.out _ _ hnb).trans q3⟩)
      (fail)
    rename_i hS
    clear hS
    have A4 : Hid (App w g mb (.slice ob rows.length cap) bad kind c e s org yes orgs (Bl g mb (.slice ob rows.length cap)) M4 (W3.drew.putObj mb M4)) :=
      ⟨(World.putObj_heap_other hne).trans A3.out.top, (World.putObj_heap_other hnb).trans A3.out.ac, World.putObj_heap_same (lt_of_heap A3.out.mp), A3.out.ch.os, A3.out.ch.tape, A3.out.ch.output, by rw [World.putObj_size]; exact A3.out.ch.size, fun k hk hp => (World.putObj_heap_other (fun q => hp (.inr (.inl q)))).trans (A3.out.ch.block k hk hp)⟩
    have OW4 : Hid ((W3.drew.putObj mb M4).ownsRow B 43 10 (.slice ob rows.length cap) rows.length (flat rows)) :=
      ownsRow_same L3.out.own fun k hk => World.putObj_heap_other (fun q => HH.out.nm (q ▸ hk))
    clear HU PC t1 t2 q0 q1 q2 q3 A3 L3
    generalize W3.drew.putObj mb M4 = W4 at A4 OW4 ⊢
    obtain ⟨t1, t2, q0, q1, q2, q3, -⟩ := A4.out.s
    go_upto_region 8 with (fail)
    have hz0 : (row0 ⟨c, e, s⟩).cells = [.int .i64 c, .int .i64 e, .int .i64 s, .bool false, .int .u8 0, .int .u8 0, .int .u8 0, .bool false, .bool false, .int .u8 0] := rfl
    have A5 : Hid (App w g mb (.slice ob rows.length cap) bad kind c e s org yes orgs (Bl g mb (.slice ob rows.length cap)) M4 (W4.drew.alloc (.cells #[.int .i64 c, .int .i64 e, .int .i64 s, .bool false, .int .u8 0, .int .u8 0, .int .u8 0, .bool false, .bool false, .int .u8 0] 43 (0, 0)))) := A4.out.draw.bel ((Below.refl _ _).alloc (Nat.le_refl _) _)
    have obl : Hid (∀ k, (Value.slice ob rows.length cap).ownBlock = some k → k < W4.heap.size) := fun k hk => Nat.lt_of_lt_of_le (NB.out k (.inr (.inr hk))) A4.out.ch.size
    have OW5 : Hid ((W4.drew.alloc (.cells #[.int .i64 c, .int .i64 e, .int .i64 s, .bool false, .int .u8 0, .int .u8 0, .int .u8 0, .bool false, .bool false, .int .u8 0] 43 (0, 0))).ownsRow B 43 10 (.slice ob rows.length cap) rows.length (flat rows)) :=
      ownsRow_same OW4.out fun k hk => Below.heap_alloc W4.drew _ k (obl.out k hk)
    have hng : (Value.slice ob rows.length cap).ownBlock ≠ some g := HH.out.ng
    have hnm : (Value.slice ob rows.length cap).ownBlock ≠ some mb := HH.out.nm
    have hW4 : w.heap.size ≤ W4.heap.size := A4.out.ch.size
    have NW : Hid (∀ j u, (row0 ⟨c, e, s⟩).cells[j]? = some u → (W4.drew.alloc (.cells #[.int .i64 c, .int .i64 e, .int .i64 s, .bool false, .int .u8 0, .int .u8 0, .int .u8 0, .bool false, .bool false, .int .u8 0] 43 (0, 0))).cell? ((⟨W4.heap.size, 0, none⟩ : Addr).add j) = some u) := by
      intro j u hu
      rw [Addr.add_mid, Nat.zero_add]
      refine (cell_of_row _ _ j _ _ (0, 0) (heap_alloc_new W4.drew _)).trans ?_
      rw [← hu, hz0]
      simp
    clear hz0
    have t1a : (W4.alloc (.cells #[.int .i64 c, .int .i64 e, .int .i64 s, .bool false, .int .u8 0, .int .u8 0, .int .u8 0, .bool false, .bool false, .int .u8 0] 43 (0, 0))).cell? ⟨g, 1, none⟩ = some (.slice ob rows.length cap) := A5.out.s.1
    go_region_law (first
      | (refine step_append_rows (by rfl) _ _ (by rfl) B _ rows.length (flat rows) (by rfl) OW5.out (by simp; omega) ⟨W4.heap.size, 0, none⟩ 1 1 (row0 ⟨c, e, s⟩).cells (by rfl) (by rfl) NW.out (fun u hu => flat_one [row0 ⟨c, e, s⟩] u (by simpa [flat] using hu)) (by omega) ?_
         intro v6 W6 OW6 G6 OB6
         obtain ⟨N, hN⟩ : ∃ N, N = rows.length + 1 := ⟨_, rfl⟩
         have HN := Lib.hid hN
         rw [← hN] at OW6
         obtain ⟨rb, cap6, cs6, rfl, hb1, hb2, hb3, hb4, hb5, hb6⟩ := own_some OW6 (by omega)
         clear hN
         have HOW6 := Lib.hid (And.intro hb1 (And.intro hb2 (And.intro hb3 (And.intro hb4 (And.intro hb5 hb6)))))
         clear hb1 hb2 hb3 hb4 hb5 hb6
         have HG6 := Lib.hid G6
         have HOB6 := Lib.hid OB6
         have tg := (G6.block g (lt_of_heap A5.out.top) (fun q => hng q.symm)).trans A5.out.top
         have c1 := cell_of_row _ _ 1 _ _ (0, 0) tg
         have fz := frozen_of_row _ _ 1 _ _ tg
         have HTG := Lib.hid tg
         simp only [List.getElem?_toArray, List.getElem?_cons_zero, List.getElem?_cons_succ] at c1
         clear OW6 G6 OB6 tg))
    all_goals
      have QA := app_grow A5.out HG6.out HOB6.out hng hnm NB.out hne
      have A8 := Lib.hid QA.1
      have HRB := Lib.hid QA.2.1
      have HS8 := Lib.hid QA.2.2.1
      have HSB := Lib.hid QA.2.2.2
      have RP : Hid (RowP (W6.setCell ⟨g, 1, none⟩ (.slice (some ⟨rb, 0, none⟩) N cap6)) rb 43 (rows.length * 10) (row0 ⟨c, e, s⟩).cells cs6) := by
        refine ⟨cs6, (HS8.out rb HRB.out.1).trans HOW6.out.2.1, rfl, fun j hj => ?_, fun _ _ => rfl⟩
        have h6 : (cs6.toList.take (N * 10))[rows.length * 10 + j]? = (row0 ⟨c, e, s⟩).cells[j]? := by
          rw [HOW6.out.2.2.2.2.2, List.getElem?_append_right (by rw [flat_len]; omega), flat_len]
          congr 1
          omega
        rw [List.getElem?_take_of_lt (by have := HN.out; omega)] at h6
        simpa using h6
      clear QA A5 OW5 NW t1a obl HG6 HOB6 A4 OW4 t1 t2 q0 q1 q2 q3
      generalize W6.setCell ⟨g, 1, none⟩ (.slice (some ⟨rb, 0, none⟩) N cap6) = W8 at A8 RP HS8 ⊢
      go_upto_region 9 with (fail)
      have kb : 0 ≤ (rows.length : Int) ∧ (rows.length : Int) < (N : Int) := by have := HN.out; omega
      obtain ⟨t1, t2, q0, q1, q2, q3, q4, q5, q6, -⟩ := A8.out.s
      have hfd := fun W : World => field_kind (.bool ko) (.bool kg) (.bool ky) f1 (.func (.func F) #[] #[]) W
      have hrl : rb < W8.heap.size := RP.out.at.lt
      go_region_held3 (fun W => W.cell? ⟨g, 1, none⟩ = some (.slice (some ⟨rb, 0, none⟩) N cap6) ∧ W.cell? ⟨g, 2, none⟩ = some (.map (some mb)) ∧ W.cell? ⟨w.heap.size, 0, none⟩ = some (.int .u8 (kind : Int)) ∧ W.cell? ⟨w.heap.size, 1, none⟩ = some (.int .i64 c) ∧ W.cell? ⟨w.heap.size, 2, none⟩ = some (.int .i64 e) ∧ W.cell? ⟨w.heap.size, 3, none⟩ = some (.int .i64 s) ∧ W.cell? ⟨w.heap.size, 4, none⟩ = some (.int .i64 org) ∧ W.cell? ⟨w.heap.size, 5, none⟩ = some (.bool yes) ∧ W.cell? ⟨w.heap.size, 6, none⟩ = some (.int .u8 (orgs : Int)) ∧ App w g mb (.slice (some ⟨rb, 0, none⟩) N cap6) bad kind c e s org yes orgs (Bl g mb (.slice ob rows.length cap)) M4 W)
        (first | assumption | exact (A8.out.draw).s | exact (A5.out).s | exact (A6.out).s)
        (first
          | (go_at_call 24; (with_reducible refine (kinds_any _).mono ?_); rintro r W5 ⟨rfl, hk, hb, -⟩; have hk2 : KindsAt W5 W8.heap.size := hk; have hlk := HL.out _ _ hk2; clear hk2; have A5 := Lib.hid (A8.out.draw.bel hb); have R5 := Lib.hid (RP.out.same (W' := W5) (hb.block rb hrl)); have hcf := HF.out; clear hb hk)
          | ((with_reducible refine (HD.out _ _ _ _ R5.out).mono ?_); rintro r W9 ⟨rfl, R6, G6⟩; have A6 := Lib.hid (A5.out.chg (Chg.of_grown (P := fun k => k = rb) G6 (fun k e => (Option.some.inj e).symm)) (fun q => HRB.out.1 q.symm) (fun q => HRB.out.2.1 q.symm) (fun q => HRB.out.2.2.1 q.symm) (fun k hk q => (fun z => q ▸ z) (HRB.out.2.2.2 (q ▸ hk)))); have G7 := Lib.hid G6; have R7 := Lib.hid R6; clear R6 G6))
      rename_i hS
      clear hS
      have DN : Hid (Done w B g mb (.slice ob rows.length cap) bad (putRow rows r') W9) := by
        show Done _ _ _ _ _ _ _ _
        rw [HP.out]
        have hl2 : (rows ++ [row0 ⟨c, e, s⟩]).length = N := by rw [HN.out]; simp
        have ht2 : cs6.toList.take ((rows ++ [row0 ⟨c, e, s⟩]).length * 10) = flat (rows ++ [row0 ⟨c, e, s⟩]) := by
          rw [hl2, HOW6.out.2.2.2.2.2, flat_app]
          simp [flat]
        have ow := own_set (rows := rows ++ [row0 ⟨c, e, s⟩]) (k := rows.length) HOW6.out.1 HOW6.out.2.2.2.2.1 (by rw [hl2]; exact HOW6.out.2.2.1) HOW6.out.2.2.2.1 ht2 (by simp) R7.out
        rw [set_last, hl2] at ow
        refine ⟨_, ⟨A6.out.top, ow, ?_, HH.out.bg, HH.out.bm, HH.out.ngm, fun q => HRB.out.1 (Option.some.inj q), fun q => HRB.out.2.2.1 (Option.some.inj q), ?_⟩, ?_, A6.out.ch⟩
        · rw [ents_snoc, htx]
          have hm := A6.out.mp
          rw [← hM, ents_snoc] at hm
          rw [List.length_append]
          exact hm
        · intro q hq
          rcases List.mem_append.1 hq with h1 | h1
          · exact HH.out.sd q h1
          · rw [List.mem_singleton.1 h1]; exact hsd
        · rcases HSB.out with h1 | h1
          · exact .inl h1.symm
          · exact .inr ⟨rb, h1, rfl⟩
      clear A6 A5 R7 G7 RP HD HL HF R5 hfd t1 t2 q0 q1 q2 q3 q4 q5 q6 HS8 HSB HRB A8 HOW6 HN
      go_wp2_with fail
      go_ret
      exact ⟨rfl, DN.out⟩
end Go.Proofs.Ythdmjeoldnehcaa
