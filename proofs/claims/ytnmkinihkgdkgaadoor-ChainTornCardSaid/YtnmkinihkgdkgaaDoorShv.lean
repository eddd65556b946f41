/- A sha.Hash to which a text was written; the walk of Write. Condition: the table k reads as the standard's numbers; sizes that a machine has. -/
import Derived.Test.YtnmkinihkgdkgaaDoorShu
import Derived.Test.YtnmkinihkgdkgaaDoorShs
namespace Go.Proofs.YtnmkinihkgdkgaaDoor
open Go.RowKit
set_option linter.unusedVariables false

def WaitOk (t wait : List UInt8) : Prop := wait.take (t.length % 64) = t.drop (64 * (t.length / 64))
/-- Block g is a hash to which t was written. -/
def HashAt (W : World) (g : Nat) (t : List UInt8) : Prop := ∃ wait, HRow W g (hs t (t.length / 64)).list wait t.length ∧ WaitOk t wait

theorem wait_more (t r wait : List UInt8) (hw : wait.length = 64) (h : WaitOk t wait) (hr : t.length % 64 + r.length < 64) :
    WaitOk (t ++ r) (wait.take (t.length % 64) ++ r ++ wait.drop (t.length % 64 + r.length)) ∧ hs (t ++ r) ((t ++ r).length / 64) = hs t (t.length / 64) := by
  have hl : (t ++ r).length = t.length + r.length := List.length_append
  have q : (t ++ r).length / 64 = t.length / 64 := by omega
  have p : (t ++ r).length % 64 = t.length % 64 + r.length := by omega
  refine ⟨?_, by rw [q]; exact hs_app t r _ (by omega)⟩
  unfold WaitOk at *
  rw [q, p, List.drop_append_of_le_length (by omega), ← h]
  have h1 : (wait.take (t.length % 64)).length = t.length % 64 := by rw [List.length_take]; omega
  exact List.take_left' (by rw [List.length_append, h1])
theorem wait_full (t r wait : List UInt8) (hw : wait.length = 64) (h : WaitOk t wait) (hr : t.length % 64 + r.length = 64) :
    WaitOk (t ++ r) (wait.take (t.length % 64) ++ r ++ wait.drop (t.length % 64 + r.length)) ∧ hs (t ++ r) ((t ++ r).length / 64) = tk (hs t (t.length / 64)) (wait.take (t.length % 64) ++ r ++ wait.drop (t.length % 64 + r.length)) := by
  have hl : (t ++ r).length = t.length + r.length := List.length_append
  have q : (t ++ r).length / 64 = t.length / 64 + 1 := by omega
  have p : (t ++ r).length % 64 = 0 := by omega
  have hd : wait.drop (t.length % 64 + r.length) = [] := List.drop_eq_nil_of_le (by omega)
  refine ⟨?_, ?_⟩
  · unfold WaitOk
    rw [q, p, List.take_zero, List.drop_eq_nil_of_le (by omega)]
  · rw [q, hs_succ, hs_app t r _ (by omega), hd, List.append_nil]
    unfold WaitOk at h
    rw [h, List.drop_append_of_le_length (by omega), List.take_of_length_le (by rw [List.length_append, List.length_drop]; omega)]

theorem run_lenOf_string {P : Program} (w : World) (t : List UInt8) : (Builtin.lenOf (str t)).run P w = .ok t.length w := by simp [Builtin.lenOf, ByteArray.size]
theorem put_mid {α : Type} (X Y Z r : List α) (x y a m : Nat) (hx : X.length = x) (hy : Y.length = y) (hr : a + m ≤ y) :
    ((X ++ Y ++ Z).take (x + a) ++ r ++ (X ++ Y ++ Z).drop (x + a + m)) = X ++ (Y.take a ++ r ++ Y.drop (a + m)) ++ Z := by
  subst hx hy
  rw [List.append_assoc X Y Z, List.take_length_add_append, Nat.add_assoc, List.drop_length_add_append, List.take_append_of_le_length (by omega), List.drop_append_of_le_length hr]
  simp only [List.append_assoc]
theorem hcells_put (l : List UInt32) (wait r : List UInt8) (n a : Nat) (h8 : l.length = 8) (hw : wait.length = 64) (hr : a + r.length ≤ 64) :
    ((hcells l wait n).toList.take (8 + a) ++ byc r ++ (hcells l wait n).toList.drop (8 + a + r.length)).toArray = hcells l (wait.take a ++ r ++ wait.drop (a + r.length)) n := by
  have hx : (l.map wv).length = 8 := by simp [h8]
  have hy : (byc wait).length = 64 := by rw [byc_len, hw]
  have ht : byc (wait.take a ++ r ++ wait.drop (a + r.length)) = (byc wait).take a ++ byc r ++ (byc wait).drop (a + r.length) := by simp [byc, List.map_append, List.map_take, List.map_drop]
  unfold hcells
  rw [List.toList_toArray, ht, put_mid _ _ _ _ 8 64 a r.length hx hy hr]
theorem run_copy_wait (W : World) (ty : TypeId) (g at' n : Nat) (l : List UInt32) (wait : List UInt8) (h : HRow W g l wait n) (hat : at' < 64) (s : List UInt8) (m : Nat) (hm : m = min (64 - at') s.length) :
    (Builtin.copy_ #[44, 9] ty #[.slice (some ⟨g, 8 + at', none⟩) (64 - at') (64 - at'), str s]).run Tryd.prog W = .ok (goInt m) (W.setRow g (hcells l (wait.take at' ++ s.take m ++ wait.drop (at' + m)) n)) := by
  obtain ⟨i0, hi, hz0, hz1, hz2⟩ := info_parts u8_info
  have h8 := h.l8
  have h64 := h.w64
  have hml : (s.take m).length = m := by rw [List.length_take]; omega
  have hst := run_storeCells_at Tryd.prog g (8 + at') 74 (byc (s.take m)) 0 (hcells l wait n) W h.row (by simp [byc_len, hcells, h8, h64]; omega) (byc_one _)
  have hfc : (Builtin.firstCells 1 m (str s)).run Tryd.prog W = .ok (byc (s.take m)).toArray W := by
    simp [Builtin.firstCells, byc]
  simp only [Nat.add_zero] at hst
  have hmm : min (64 - at') s.length = m := hm.symm
  have hmn : s.length.min (64 - at') = m := by rw [hm]; exact Nat.min_comm ..
  simp [Builtin.copy_, run_underlying Tryd.underlying44, run_lenOf_string, sizeOf, typeInfo, hi, hz1, hmn, hfc, hst]
  have e := hcells_put l wait (s.take m) n at' h8 h64 (by omega)
  rw [hml] at e
  simp only [byc_len, hml, ← List.append_assoc]
  rw [← e]
theorem grown_setRow {a w : World} {g : Nat} (h : a.grownBy w (some g)) (cs : Array Value) : a.grownBy (w.setRow g cs) (some g) :=
  ⟨h.os, h.tape, h.output, by simpa [World.setRow] using h.size, fun i hi hne => (setRow_other w g i cs (fun e => hne (by rw [e]))).trans (h.block i hi hne)⟩
def sizeOfStr : Value → Nat
  | .string b => b.size
  | _ => 0

/-- The memory between two rounds of Write. -/
structure Wm (w W : World) (g : Nat) (l : List UInt32) (wait : List UInt8) (n : Nat) : Prop where
  h : HRow W g l wait n
  k : KT W
  gr : w.grownBy W (some g)
theorem Wm.mem {w W W' : World} {g : Nat} {l : List UInt32} {wait : List UInt8} {n : Nat} (T : Wm w W g l wait n) (e : W'.heap = W.heap ∧ W'.os = W.os ∧ W'.tape = W.tape ∧ W'.output = W.output) : Wm w W' g l wait n :=
  ⟨T.h.heap e.1, T.k.heap e.1, grown_mem T.gr e⟩
theorem Wm.row {w W : World} {g : Nat} {l : List UInt32} {wait : List UInt8} {n : Nat} (T : Wm w W g l wait n) (hne : 0 ≠ g) (wait' : List UInt8) (h' : wait'.length = 64) : Wm w (W.setRow g (hcells l wait' n)) g l wait' n :=
  ⟨⟨setRow_heap W g _ _ _ _ T.h.row, T.h.l8, h'⟩, fun i hi => (cell_setRow_other W g _ _ hne).trans (T.k i hi), grown_setRow T.gr _⟩
theorem Wm.num {w W : World} {g : Nat} {l : List UInt32} {wait : List UInt8} {n : Nat} (T : Wm w W g l wait n) (hne : 0 ≠ g) (m : Nat) : Wm w (W.setCell ⟨g, 72, none⟩ (.int .i64 (m : Int))) g l wait m :=
  ⟨T.h.setNum m, fun i hi => (World.cell?_setCell_far _ _ _ _ (Ne.symm hne)).trans (T.k i hi), grown_put T.gr (p := ⟨g, 72, none⟩) (.inl rfl) _⟩

set_option maxRecDepth 100000 in
set_option maxHeartbeats 8000000 in
theorem Write_any (g : Nat) (t s : List UInt8) (w : World) (hA : HashAt w g t) (hK : KT w) (hne : 0 ≠ g) (hb : t.length + s.length < 4611686018427387904) :
    Calls Tryd.prog 38 #[.pointer (some ⟨g, 0, none⟩), str s] w fun e w' => e = .returned (.tuple #[]) ∧ HashAt w' g (t ++ s) ∧ w.grownBy w' (some g) := by
  obtain ⟨wait0, hH0, hw0⟩ := hA
  have H0 : Hid (Wm w w g (hs t (t.length / 64)).list wait0 t.length ∧ WaitOk t wait0) := ⟨⟨hH0, hK, World.grownBy.refl _ _⟩, hw0⟩
  clear hH0 hK hw0
  go_enter Tryd.func38, Tryd.ntmps38
  go_wp2_with fail
  go_loopw [1] (fun v wr => ∃ (d r wait : List UInt8), Hid (d ++ r = s) ∧ v = str r ∧ Hid (Wm w wr g (hs (t ++ d) ((t ++ d).length / 64)).list wait (t ++ d).length ∧ WaitOk (t ++ d) wait)) (fun v _ => sizeOfStr v)
  case atStart => exact ⟨[], s, wait0, rfl, rfl, by show _ ∧ _; rw [List.append_nil]; exact H0.out⟩
  case round =>
    clear H0
    obtain ⟨d, r, wait, hd, rfl, hT⟩ := hrel
    by_cases hr : r = []
    · subst hr
      go_wp2_with fail
      go_end0
      have e := hd.out
      rw [List.append_nil] at e
      subst e
      exact ⟨rfl, ⟨wait, hT.out.1.h, hT.out.2⟩, hT.out.1.gr⟩
    · have hrl : 0 < r.length := List.length_pos_iff.2 hr
      have E1 : Hid (t.length + d.length + r.length < 4611686018427387904) := by
        show _ < _
        have := congrArg List.length hd.out
        rw [List.length_append] at this
        omega
      have E2 : Hid ((t ++ d).length = t.length + d.length) := List.length_append
      obtain ⟨hW, hO⟩ := hT.out
      have HO := Lib.hid hO
      have HH := Lib.hid hd.out
      clear hT hO hd
      generalize hst : hs (t ++ d) ((t ++ d).length / 64) = st at hW
      have HS := Lib.hid hst
      clear hst
      generalize hn : (t ++ d).length = n at hW E2 HS HO
      have HN := Lib.hid hn
      clear hn
      generalize hq : n % 64 = q
      have HQ := Lib.hid hq
      have hq64 : q < 64 := by omega
      have x1 : (n : Int).tmod 64 = (q : Int) := by rw [Int.tmod_eq_emod_of_nonneg (by omega)]; omega
      generalize hm : min (64 - q) r.length = m
      have hmr : m ≤ r.length := by omega
      have hm0 : 0 < m := by omega
      have hm64 : q + m ≤ 64 := by omega
      have HM := Lib.hid hm
      clear hq hm
      have c1 := hW.h.num
      have HW := Lib.hid hW
      have sl := run_wait_l g q hq64 (q : Int) rfl
      have cp := fun ty => run_copy_wait wr ty g q n st.list wait hW.h hq64 r m HM.out.symm
      generalize hwt : wait.take q ++ r.take m ++ wait.drop (q + m) = wt at cp
      have HWT := Lib.hid hwt
      clear hwt
      have hie : r.isEmpty = false := by simpa using hr
      clear hW
      go_wp2_with fail
      clear cp sl c1 x1
      have hw' : wt.length = 64 := by
        have := HW.out.h.w64
        rw [← HWT.out]
        simp only [List.length_append, List.length_take, List.length_drop]
        omega
      have HW1 := Lib.hid (HW.out.row hne _ hw')
      generalize wr.setRow g (hcells st.list wt n) = w1 at HW1 ⊢
      have c1 := HW1.out.h.num
      have c2 := HW1.out.h.frozen 72
      have E3 : Hid (n < 4611686018427387904) := by show _ < _; have := E1.out; have := E2.out; omega
      generalize hp : n + m = p
      have x2 : IntKind.i64.wrap ((n : Int) + (m : Int)) = (p : Int) := by rw [← hp]; exact IntWalk.i64_in _ (by have := E3.out; omega)
      have HP := Lib.hid hp
      go_region
      have HW2 := Lib.hid ((HW1.out.num hne p).mem (W' := (w1.setCell ⟨g, 72, none⟩ (.int .i64 (p : Int))).drew) ⟨rfl, rfl, rfl, rfl⟩)
      clear c1 c2 x2 HW1 hp
      generalize (w1.setCell ⟨g, 72, none⟩ (.int .i64 (p : Int))).drew = w2 at HW2 ⊢
      have c1 := HW2.out.h.num
      by_cases hz : p % 64 = 0
      · have x3 : (p : Int).tmod 64 = 0 := by rw [Int.tmod_eq_emod_of_nonneg (by omega)]; omega
        have HK := Lib.hid (take_any g st wt p w2 HW2.out.h HW2.out.k hne)
        go_wp2_with (first | (go_at_call 46; (with_reducible refine HK.out.mono ?_); rintro e w3 ⟨rfl, hH3, hg3⟩))
        refine ⟨⟨d ++ r.take m, r.drop m, wt, ?_, rfl, ?_⟩, by simp [sizeOfStr, ByteArray.size]; omega⟩
        · show _ = _
          rw [List.append_assoc, List.take_append_drop]; exact HH.out
        · show _ ∧ _
          have hl : (r.take m).length = m := by rw [List.length_take]; omega
          have hrr : (t ++ d).length % 64 + (r.take m).length = 64 := by rw [HN.out, HQ.out, hl]; have := HP.out; have := HQ.out; have := HM.out; omega
          have hw := wait_full (t ++ d) (r.take m) wait HW.out.h.w64 HO.out hrr
          rw [HN.out, HQ.out, hl, HWT.out, HS.out] at hw
          have e : (t ++ d ++ r.take m).length = p := by rw [List.length_append, HN.out, hl]; exact HP.out
          rw [← List.append_assoc, hw.2, e]
          exact ⟨⟨hH3, HW2.out.k.grown hg3 hne, HW2.out.gr.trans hg3⟩, hw.1⟩
      · generalize hzz : p % 64 = z
        have x3 : (p : Int).tmod 64 = (z : Int) := by rw [Int.tmod_eq_emod_of_nonneg (by omega)]; omega
        have x4 : decide ((z : Int) = 0) = false := by simp; omega
        go_wp2_with fail
        refine ⟨⟨d ++ r.take m, r.drop m, wt, ?_, rfl, ?_⟩, by simp [sizeOfStr, ByteArray.size]; omega⟩
        · show _ = _
          rw [List.append_assoc, List.take_append_drop]; exact HH.out
        · show _ ∧ _
          have hl : (r.take m).length = m := by rw [List.length_take]; omega
          have hrr : (t ++ d).length % 64 + (r.take m).length < 64 := by rw [HN.out, HQ.out, hl]; have := HP.out; have := HQ.out; have := HM.out; omega
          have hw := wait_more (t ++ d) (r.take m) wait HW.out.h.w64 HO.out hrr
          rw [HN.out, HQ.out, hl, HWT.out, HS.out] at hw
          have e : (t ++ d ++ r.take m).length = p := by rw [List.length_append, HN.out, hl]; exact HP.out
          rw [← List.append_assoc, hw.2, e]
          exact ⟨HW2.out, hw.1⟩
end Go.Proofs.YtnmkinihkgdkgaaDoor
