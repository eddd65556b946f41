/- The walk of the stream's iterator: it hands over the stream's bytes, till a round says no more. Condition: sizes that a machine has; at most 4096 bytes; the table k reads as the standard's numbers. -/
import Derived.Test.YtgajfbmaoahpgaaDoorCip
import Derived.Test.YtgajfbmaoahpgaaDoorHmt
import Derived.Test.YtgajfbmaoahpgaaDoorRng
namespace Go.Proofs.YtgajfbmaoahpgaaDoor
open Go.RowKit
set_option linter.unusedVariables false
set_option linter.unusedSimpArgs false

/-- What lies from B on lies on. -/
structure Keep (B : Nat) (W W' : World) : Prop where
  size : W.heap.size ≤ W'.heap.size
  same : ∀ k, B ≤ k → k < W.heap.size → W'.heap[k]? = W.heap[k]?
theorem Keep.cell {B : Nat} {W W' : World} (h : Keep B W W') {a : Addr} (hB : B ≤ a.block) (hl : a.block < W.heap.size) : W'.cell? a = W.cell? a := by
  have := h.same _ hB hl
  simp only [World.cell?, this]
theorem Keep.frozen {B : Nat} {W W' : World} (h : Keep B W W') {a : Addr} (hB : B ≤ a.block) (hl : a.block < W.heap.size) : W'.frozen? a = W.frozen? a := by
  have := h.same _ hB hl
  simp only [World.frozen?, this]
theorem Keep.refl (B : Nat) (W : World) : Keep B W W := ⟨Nat.le_refl _, fun _ _ _ => rfl⟩
theorem Keep.trans {B : Nat} {X Y Z : World} (h : Keep B X Y) (k : Keep B Y Z) : Keep B X Z := ⟨Nat.le_trans h.size k.size, fun i hB hi => (k.same i hB (Nat.lt_of_lt_of_le hi h.size)).trans (h.same i hB hi)⟩
theorem Keep.bel {B : Nat} {W W' : World} (h : Below W.heap.size W W') : Keep B W W' := ⟨h.size, fun k _ hk => h.block k hk⟩
theorem ByS.keep {W W' : World} {B B1 : Nat} {v : Value} {l : List UInt8} (h : ByS W B v l) (hk : Keep B1 W W') (hB : B1 ≤ B) : ByS W' B v l := by
  rcases h with h | ⟨g, cap, e, hg, hl, h1, h2, h3, h4⟩
  · exact .inl h
  · refine .inr ⟨g, cap, e, hg, Nat.lt_of_lt_of_le hl hk.size, h1, h2, fun j hj => ?_, fun j hj => ?_⟩
    · rw [hk.cell (a := ⟨g, j, none⟩) (Nat.le_trans hB hg) hl, hk.frozen (a := ⟨g, j, none⟩) (Nat.le_trans hB hg) hl]; exact h3 j hj
    · rw [hk.cell (a := ⟨g, j, none⟩) (Nat.le_trans hB hg) hl]; exact h4 j hj

/-! ### '[]byte(s)', as an equation -/
theorem bytes_ex (W : World) (l : List UInt8) (hl : l.length ≤ 70368744177664) : ∃ x : Nat × World, (convert 9 31 (str l)).run Tryd.prog W = .ok (.slice (some ⟨W.heap.size, 0, none⟩) l.length x.1) x.2 ∧ ByS x.2 W.heap.size (.slice (some ⟨W.heap.size, 0, none⟩) l.length x.1) l ∧ Below W.heap.size W x.2 ∧ x.2.heap.size = W.heap.size + 1 := by
  obtain ⟨v, W', h1, h2, h3, h4, c, rfl⟩ := run_bytes_str W l hl
  exact ⟨(c, W'), h1, h2, h3, h4⟩
open Classical in
noncomputable def bytesX (W : World) (l : List UInt8) : Nat × World := if h : l.length ≤ 70368744177664 then Classical.choose (bytes_ex W l h) else (0, W)
noncomputable def bytesC (W : World) (l : List UInt8) : Nat := (bytesX W l).1
noncomputable def bytesW (W : World) (l : List UInt8) : World := (bytesX W l).2
theorem bytes_run (l : List UInt8) (hl : l.length ≤ 70368744177664) (W : World) : (convert 9 31 (str l)).run Tryd.prog W = .ok (.slice (some ⟨W.heap.size, 0, none⟩) l.length (bytesC W l)) (bytesW W l) := by
  have h := (Classical.choose_spec (bytes_ex W l hl)).1
  unfold bytesC bytesW bytesX
  rw [dif_pos hl]; exact h
theorem bytes_all (l : List UInt8) (hl : l.length ≤ 70368744177664) (W : World) : ByS (bytesW W l) W.heap.size (.slice (some ⟨W.heap.size, 0, none⟩) l.length (bytesC W l)) l ∧ Below W.heap.size W (bytesW W l) ∧ (bytesW W l).heap.size = W.heap.size + 1 := by
  have h := (Classical.choose_spec (bytes_ex W l hl)).2
  unfold bytesC bytesW bytesX
  rw [dif_pos hl]; exact h

/-- The counter's four bytes. -/
def atc (i : Nat) : Array Value := #[.int .u8 0, .int .u8 0, .int .u8 0, .int .u8 (i : Int)]
theorem conv_at (W : World) (g i : Nat) (hi : i < 256) (h : W.heap[g]? = some (.cells (atc i) 53 (0, 0))) :
    (convert 31 9 (.slice (some ⟨g, 0, none⟩) 4 4)).run Tryd.prog W = .ok (str (ctr i)) W := by
  refine run_convert_bytes_back (P := Tryd.prog) W 31 9 5 ⟨g, 0, none⟩ 4 (ctr i) Tryd.underlying31 Tryd.underlying5 Tryd.underlying9 (fun j hj => ?_)
  rw [Addr.add_lit, Nat.zero_add, cell_of_row W g j _ _ (0, 0) h]
  have hj4 : j < 4 := hj
  have : (UInt8.ofNat i).toNat = i := by simp; omega
  match j, hj4 with
  | 0, _ => rfl
  | 1, _ => rfl
  | 2, _ => rfl
  | 3, _ => simp [atc, ctr]; omega
def atI (W : World) (g : Nat) : Nat := match W.cell? ⟨g, 3, none⟩ with
  | some v => (intOf v).toNat
  | none => 0
theorem atI_of {W : World} {g i : Nat} (h : W.heap[g]? = some (.cells (atc i) 53 (0, 0))) : atI W g = i := by
  unfold atI
  rw [cell_of_row W g 3 _ _ (0, 0) h]
  simp [atc, intOf]

/-- What the iterator asks of the loop's own memory. -/
structure Jok (B b4 b5 g1 h1 h2 : Nat) (p2 : Value) (key nonce : List UInt8) (J : Nat → World → Prop) : Prop where
  pr : ∀ j W, J j W → W.heap[b4]? = some (.cells #[.pointer (some ⟨g1, 0, none⟩), p2] 36 (0, 0))
  no : ∀ j W, J j W → W.heap[b5]? = some (.cells #[str nonce] 9 (0, 0))
  k : ∀ j W, J j W → KeyAt W g1 key h1 h2
  t : ∀ j W, J j W → KT W
  bel : ∀ j W W', J j W → Below W.heap.size W W' → J j W'
  set : ∀ j W a v, J j W → B ≤ a.block → J j (W.setCell a v)
  size : ∀ j W, J j W → B ≤ W.heap.size
  draw : ∀ j W, J j W → J j W.drew

/-- The iterator's memory in block i's round. -/
structure It (B b4 b5 g1 : Nat) (p2 : Value) (nonce : List UInt8) (J : Nat → World → Prop) (i j : Nat) (W : World) : Prop where
  a : W.heap[B]? = some (.cells (atc i) 53 (0, 0))
  j : J j W
theorem It.lt {B b4 b5 g1 : Nat} {p2 : Value} {nonce : List UInt8} {J : Nat → World → Prop} {i j : Nat} {W : World} (T : It B b4 b5 g1 p2 nonce J i j W) : B < W.heap.size := (Array.getElem?_eq_some_iff.1 T.a).1
theorem It.bel {B b4 b5 g1 h1 h2 : Nat} {p2 : Value} {key nonce : List UInt8} {J : Nat → World → Prop} {i j : Nat} {W W' : World} (T : It B b4 b5 g1 p2 nonce J i j W) (hj : Jok B b4 b5 g1 h1 h2 p2 key nonce J) (hb : Below W.heap.size W W') : It B b4 b5 g1 p2 nonce J i j W' :=
  ⟨(hb.block B T.lt).trans T.a, hj.bel _ _ _ T.j hb⟩
theorem It.draw {B b4 b5 g1 h1 h2 : Nat} {p2 : Value} {key nonce : List UInt8} {J : Nat → World → Prop} {i j : Nat} {W : World} (T : It B b4 b5 g1 p2 nonce J i j W) (hj : Jok B b4 b5 g1 h1 h2 p2 key nonce J) : It B b4 b5 g1 p2 nonce J i j W.drew :=
  ⟨T.a, hj.draw _ _ T.j⟩
theorem It.s {B b4 b5 g1 h1 h2 : Nat} {p2 : Value} {key nonce : List UInt8} {J : Nat → World → Prop} {i j : Nat} {W : World} (T : It B b4 b5 g1 p2 nonce J i j W) (hj : Jok B b4 b5 g1 h1 h2 p2 key nonce J) (hi : i < 256) :
    W.cell? ⟨b4, 0, none⟩ = some (.pointer (some ⟨g1, 0, none⟩)) ∧ W.cell? ⟨b5, 0, none⟩ = some (str nonce) ∧ (convert 31 9 (.slice (some ⟨B, 0, none⟩) 4 4)).run Tryd.prog W = .ok (str (ctr i)) W ∧ It B b4 b5 g1 p2 nonce J i j W :=
  ⟨cell_of_row _ _ 0 _ _ (0, 0) (hj.pr _ _ T.j), cell_of_row _ _ 0 _ _ (0, 0) (hj.no _ _ T.j), conv_at W B i hi T.a, T⟩
theorem KSum_at {B b4 b5 g1 h1 h2 : Nat} {p2 : Value} {key nonce : List UInt8} {J : Nat → World → Prop} {i j : Nat} {W : World} (hj : Jok B b4 b5 g1 h1 h2 p2 key nonce J) (T : It B b4 b5 g1 p2 nonce J i j W) (x : List UInt8) (hl : x.length ≤ 1099511627000) :
    Calls Tryd.prog 16 #[.pointer (some ⟨g1, 0, none⟩), str x] W fun e w' => e = .returned (str (hm key x)) ∧ Below W.heap.size W w' :=
  KSum_any g1 h1 h2 key x W (hj.k _ _ T.j) (hj.t _ _ T.j) hl

set_option maxRecDepth 100000 in
set_option maxHeartbeats 8000000 in
theorem bytes_iter (b4 b5 g1 h1 h2 l n : Nat) (g2 : Addr) (key nonce : List UInt8) (J : Nat → World → Prop) (Jx : World → Prop) (w : World) (hj : Jok w.heap.size b4 b5 g1 h1 h2 (.pointer (some g2)) key nonce J)
    (hn : n ≤ 4096) (h0 : 0 < n) (hno : nonce.length ≤ 1099511626000) (hJ0 : J 0 w)
    (hY : ∀ j W, j < n → J j W → YieldAt Fence.wide 0 Tryd.prog l #[bv (stk key nonce j)] W fun e W' => Keep w.heap.size W W' ∧ ((e = .returned (.bool true) ∧ j + 1 < n ∧ J (j + 1) W') ∨ (e = .returned (.bool false) ∧ Jx W'))) :
    Calls Tryd.prog 29 #[.func (.yield l) #[] #[], .pointer (some ⟨b4, 0, none⟩), .pointer (some ⟨b5, 0, none⟩)] w fun e W' => (∃ v, e = .returned v) ∧ Jx W' := by
  have HJ := Lib.hid hj
  have HY := Lib.hid hY
  have HJ0 := Lib.hid hJ0
  have c0 := cell_of_row _ _ 0 _ _ (0, 0) (hj.pr 0 w hJ0)
  have c1 := cell_of_row _ _ 1 _ _ (0, 0) (hj.pr 0 w hJ0)
  clear hj hY hJ0
  have eq1 : ∀ (W : World) (a : Addr), (Op.equalIn 9999 34 (.pointer (some a)) (.pointer none)).run Tryd.prog W = .ok false W := fun W a => run_equalIn_pointer_nil (P := Tryd.prog) W 9998 34 (some a) (by kernel_rfl)
  have HA : Hid ((w.alloc (.cells (atc 0) 53 (0, 0))).heap[w.heap.size]? = some (.cells (atc 0) 53 (0, 0)) ∧ J 0 (w.alloc (.cells (atc 0) 53 (0, 0))) ∧ w.heap.size < (w.alloc (.cells (atc 0) 53 (0, 0))).heap.size) :=
    ⟨heap_alloc_new w _, HJ.out.bel 0 _ _ HJ0.out ((Below.refl _ w).alloc (Nat.le_refl _) _), by simp⟩
  go_enter Tryd.func29, Tryd.ntmps29
  go_wp2_with fail
  clear eq1 c0 c1
  go_loopw [20] (fun v wr => ∃ i : Nat, Hid (32 * i < n) ∧ Hid (It w.heap.size b4 b5 g1 (.pointer (some g2)) nonce J i (32 * i) wr)) (fun _ wr => n - 32 * atI wr w.heap.size)
  case atStart => exact ⟨0, (by show _ < _; omega), ⟨HA.out.1, HA.out.2.1⟩⟩
  case round =>
    obtain ⟨i, hi, hI⟩ := hrel
    clear HA HJ0
    have hi2 : i < 256 := by have := hi.out; omega
    have cl := blkS_len key nonce i
    have HS : Hid (hm key (nonce ++ ctr i) = blkS key nonce i ∧ ∀ q, q < 32 → stk key nonce (32 * i + q) = byt (blkS key nonce i) q) := ⟨rfl, fun q hq => stk_at key nonce i q hq⟩
    generalize hcq : blkS key nonce i = c at cl HS
    have cv := bytes_run c (by omega)
    have HB := Lib.hid (bytes_all c (by omega))
    have HL := Lib.hid cl
    have sa := str_add (P := Tryd.prog) nonce (ctr i) (by rw [ctr_len]; omega)
    have hnl : (nonce ++ ctr i).length ≤ 1099511627000 := by rw [List.length_append, ctr_len]; omega
    have KS : Hid (∀ W, It w.heap.size b4 b5 g1 (.pointer (some g2)) nonce J i (32 * i) W → W.cell? ⟨b4, 0, none⟩ = some (.pointer (some ⟨g1, 0, none⟩)) ∧ W.cell? ⟨b5, 0, none⟩ = some (str nonce) ∧ (convert 31 9 (.slice (some ⟨w.heap.size, 0, none⟩) 4 4)).run Tryd.prog W = .ok (str (ctr i)) W ∧ It w.heap.size b4 b5 g1 (.pointer (some g2)) nonce J i (32 * i) W) :=
      fun W T => T.s HJ.out hi2
    have KD : Hid (It w.heap.size b4 b5 g1 (.pointer (some g2)) nonce J i (32 * i) wr.drew) := hI.out.draw HJ.out
    have KB : Hid (∀ W W', It w.heap.size b4 b5 g1 (.pointer (some g2)) nonce J i (32 * i) W → Below W.heap.size W W' → It w.heap.size b4 b5 g1 (.pointer (some g2)) nonce J i (32 * i) W') := fun W W' T h => T.bel HJ.out h
    obtain ⟨s1, s2, s3, _⟩ := KS.out wr hI.out
    clear cl hcq
    generalize ctr i = ct at KS sa hnl HS s3
    generalize nonce ++ ct = nc at sa HS hnl
    rename_i hx
    clear hx
    go_wp2_with fail
    refine wp_region_held_drew (S := (fun w' => w'.cell? ⟨b4, 0, none⟩ = some (.pointer (some ⟨g1, 0, none⟩)) ∧ w'.cell? ⟨b5, 0, none⟩ = some (str nonce) ∧ (convert 31 9 (.slice (some ⟨w.heap.size, 0, none⟩) 4 4)).run Tryd.prog w' = .ok (str ct) w' ∧ It w.heap.size b4 b5 g1 (.pointer (some g2)) nonce J i (32 * i) w')) (by kernel_rfl) (KS.out _ KD.out) (fun hH0 => ?_)
    refine wpAnyH_take (i := 0) (v := .pointer (some ⟨b4, 0, none⟩)) rfl (by kernel_rfl) (by kernel_rfl) (by kernel_rfl) (fun _ _ _ h => h) (Or.inl ⟨by rfl, ?_⟩) (by assumption) ?_
    · intro w hSw; go_simp
    try simp only [Act.put, List.setIfInBounds_toArray, List.set_cons_zero, List.set_cons_succ]
    refine wpAnyH_take (i := 1) (v := .pointer (some ⟨g1, 0, none⟩)) rfl (by kernel_rfl) (by kernel_rfl) (by kernel_rfl) (fun _ _ _ h => h) (Or.inl ⟨by rfl, ?_⟩) (by assumption) ?_
    · intro w hSw; go_simp
    try simp only [Act.put, List.setIfInBounds_toArray, List.set_cons_zero, List.set_cons_succ]
    refine wpAnyH_take (i := 2) (v := str nonce) rfl (by kernel_rfl) (by kernel_rfl) (by kernel_rfl) (fun _ _ _ h => h) (Or.inl ⟨by rfl, ?_⟩) (by assumption) ?_
    · intro w hSw; go_simp
    try simp only [Act.put, List.setIfInBounds_toArray, List.set_cons_zero, List.set_cons_succ]
    refine wpAnyH_take (i := 3) (v := .slice (some ⟨w.heap.size, 0, none⟩) 4 4) rfl (by kernel_rfl) (by kernel_rfl) (by kernel_rfl) (fun _ _ _ h => h) (Or.inl ⟨by rfl, ?_⟩) (by assumption) ?_
    · intro w hSw; go_simp
    try simp only [Act.put, List.setIfInBounds_toArray, List.set_cons_zero, List.set_cons_succ]
    refine wpAnyH_take (i := 4) (v := str ct) rfl (by kernel_rfl) (by kernel_rfl) (by kernel_rfl) (fun _ _ _ h => h) (Or.inl ⟨by rfl, ?_⟩) (by assumption) ?_
    · intro w hSw; go_simp
    try simp only [Act.put, List.setIfInBounds_toArray, List.set_cons_zero, List.set_cons_succ]
    refine wpAnyH_take (i := 5) (v := str nc) rfl (by kernel_rfl) (by kernel_rfl) (by kernel_rfl) (fun _ _ _ h => h) (Or.inl ⟨by rfl, ?_⟩) (by assumption) ?_
    · intro w hSw; go_simp
    try simp only [Act.put, List.setIfInBounds_toArray, List.set_cons_zero, List.set_cons_succ]
    refine wpAnyH_take (i := 9) (v := .int .i64 0) rfl (by kernel_rfl) (by kernel_rfl) (by kernel_rfl) (fun _ _ _ h => h) (Or.inl ⟨by rfl, ?_⟩) (by assumption) ?_
    · intro w hSw; go_simp
    try simp only [Act.put, List.setIfInBounds_toArray, List.set_cons_zero, List.set_cons_succ]
    refine wpAnyH_ready (rs := [6]) (by kernel_rfl) (by simp) (AllReadyH.cons rfl (fun K hK => ?_) AllReadyH.nil)
    go_simp
    refine (KSum_at (i := i) (j := 32 * i) HJ.out hH0.2.2.2 nc hnl).mono ?_
    rintro e w1 ⟨rfl, hb⟩
    rw [HS.out.1]
    refine hK.out _ _ (KS.out _ (KB.out _ _ hH0.2.2.2 hb)) (fun hH1 => ?_)
    clear hK K
    try simp only [Act.put, List.setIfInBounds_toArray, List.set_cons_zero, List.set_cons_succ]
    refine wpAnyH_ready (rs := [7]) (by kernel_rfl) (by simp) (AllReadyH.cons rfl (fun K hK => ?_) AllReadyH.nil)
    go_simp
    refine hK.out _ _ (KS.out _ (KB.out _ _ hH1.2.2.2 (HB.out w1).2.1)) (fun hH2 => ?_)
    clear hK K
    try simp only [Act.put, List.setIfInBounds_toArray, List.set_cons_zero, List.set_cons_succ]
    refine wpAnyH_ready (rs := [8]) (by kernel_rfl) (by simp) (AllReadyH.cons rfl (fun K hK => ?_) AllReadyH.nil)
    go_simp
    refine hK.out _ _ hH2 (fun hH3 => ?_)
    clear hK K
    try simp only [Act.put, List.setIfInBounds_toArray, List.set_cons_zero, List.set_cons_succ]
    refine wpAnyH_done (by kernel_rfl) ?_ _
    go_wp2_with fail
    have IN : Hid (It w.heap.size b4 b5 g1 (.pointer (some g2)) nonce J i (32 * i + 0) (bytesW w1 c) ∧ ByS (bytesW w1 c) w1.heap.size (.slice (some ⟨w1.heap.size, 0, none⟩) c.length (bytesC w1 c)) c ∧ w.heap.size ≤ w1.heap.size) :=
      ⟨hH3.2.2.2, (HB.out w1).1, Nat.le_trans (Nat.le_of_lt hI.out.lt) hb.size⟩
    generalize bytesW w1 c = w2 at IN ⊢
    generalize bytesC w1 c = cap at IN ⊢
    generalize w1.heap.size = g at IN ⊢
    clear hH0 hH1 hH2 hH3 HB KS KD KB s1 s2 s3 sa hnl cv hb
    have cl64 : c.length ≤ 64 := by have := HL.out; omega
    go_loopw [20] (fun v wr => ∃ q : Nat, q ≤ c.length ∧ v = .int .i64 q ∧ Hid (32 * i + q < n) ∧ Hid (It w.heap.size b4 b5 g1 (.pointer (some g2)) nonce J i (32 * i + q) wr ∧ ByS wr g (.slice (some ⟨g, 0, none⟩) c.length cap) c ∧ w.heap.size ≤ g)) (fun v _ => c.length - (intOf v).toNat)
    case atStart => exact ⟨0, by omega, rfl, hi, IN.out⟩
    case round =>
      obtain ⟨q, hq, rfl, hqn, hT⟩ := hrel
      clear IN
      by_cases hlt : q < c.length
      · obtain ⟨hz, hB, hgl, ho⟩ := hT.out.2.1.opened
        obtain ⟨c1, f1⟩ := ho q hlt
        have hy1 := HY.out (32 * i + q) _ hqn.out hT.out.1.j
        rw [HS.out.2 q (by have := HL.out; omega)] at hy1
        obtain ⟨fn, tmps, assign, body, hy, hR⟩ := hy1
        have kb : 0 ≤ (q : Int) ∧ (q : Int) < (c.length : Int) := by omega
        have HR := Lib.hid hR
        clear ho hz f1 hR
        go_upto_region 5 with (fail)
        refine (wpIn_wide (n := 0)).1 ?_
        gi_wp2
        refine ⟨rfl, HR.out.mono ?_⟩
        rintro e W3 ⟨hk, ⟨rfl, hlt3, hJ3⟩ | ⟨rfl, hJx⟩⟩
        · have IT : Hid (It w.heap.size b4 b5 g1 (.pointer (some g2)) nonce J i (32 * i + (q + 1)) W3 ∧ ByS W3 g (.slice (some ⟨g, 0, none⟩) c.length cap) c ∧ w.heap.size ≤ g) :=
            ⟨⟨(hk.same _ (Nat.le_refl _) hT.out.1.lt).trans hT.out.1.a, hJ3⟩, hT.out.2.1.keep hk hT.out.2.2, hT.out.2.2⟩
          have HLT : Hid (32 * i + (q + 1) < n) := hlt3
          clear hk hJ3 hlt3 hT c1 HR hy
          gi_wp2
          go_wp2_with fail
          go_roundw
          case rel => exact ⟨q + 1, by omega, by go_num, HLT, IT⟩
          case measure => simp [intOf]; omega
        · clear hk c1 HR hy
          gi_wp2
          go_wp2_with fail
          refine bodyPost_ret (results_none rfl _ _ _) rfl ?_
          exact ⟨⟨_, rfl⟩, hJx⟩
      · obtain rfl : q = c.length := by omega
        have e32 := HL.out
        have HN : Hid (32 * (i + 1) < n) := by have := hqn.out; show _ < _; omega
        have IA := hT.out.1.a
        have J0 := hT.out.1.j
        rw [e32, show 32 * i + 32 = 32 * (i + 1) by omega] at J0
        have JJ := Lib.hid J0
        have c3 : wr.cell? ⟨w.heap.size, 3, none⟩ = some (.int .u8 (i : Int)) := cell_of_row _ _ 3 _ _ (0, 0) IA
        have f3 := frozen_of_row _ _ 3 _ _ IA
        have NI : Hid (It w.heap.size b4 b5 g1 (.pointer (some g2)) nonce J (i + 1) (32 * (i + 1)) (wr.setCell ⟨w.heap.size, 3, none⟩ (.int .u8 ((i : Int) + 1)))) :=
          ⟨heap_setCell_same _ _ 3 _ _ _ IA, HJ.out.set _ _ _ _ J0 (Nat.le_refl _)⟩
        have hi3 : i < 200 := by have := HN.out; omega
        clear J0 IA hT e32 hqn hlt JJ
        go_wp2_with fail
        refine wp_loop_rounds 1 ?_
        rw [rounds_succ]
        go_wp2_with fail
        refine ⟨⟨i + 1, HN, NI⟩, ?_⟩
        have m1 := atI_of NI.out.a
        have m2 := atI_of hI.out.a
        have m3 := hi.out
        show n - 32 * atI _ _ < n - 32 * atI _ _
        rw [m1, m2]
        omega
end Go.Proofs.YtgajfbmaoahpgaaDoor
