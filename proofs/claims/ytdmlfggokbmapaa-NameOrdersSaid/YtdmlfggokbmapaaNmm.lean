/- The walks of name's Look, look, Check, Script, Skeleton, Clash. Condition: sizes that a machine has. -/
import Derived.Test.YtdmlfggokbmapaaNml
import Derived.Maps.AppendAt
namespace Go.Proofs.Ytdmlfggokbmapaa
open Go.RowKit
set_option linter.unusedVariables false
set_option linter.unusedSimpArgs false

theorem Look_any (r : Int) (hr : -2147483648 ≤ r ∧ r ≤ 2147483647) (w : World) :
    Calls Try.prog 15 #[.int .i32 r] w fun e w' => e = .returned (.int .i32 (lk r)) ∧ Below w.heap.size w w' := by
  have CL := Lib.hid (looks_any w)
  obtain ⟨l1, l2⟩ := look_is r
  cases hs : (lastOf r pairs none).isSome
  · have e1 := l2 hs
    rw [e1]
    go_enter Try.func15, Try.ntmps15
    go_wp2_with (refine CL.out.mono ?_; rintro e w1 ⟨rfl, hM, hb⟩; have hL := run_look hM r hr; rw [hs] at hL; have BB := Lib.hid hb; clear hM hb)
    go_ret
    exact ⟨rfl, BB.out⟩
  · have e1 := l1 hs
    go_enter Try.func15, Try.ntmps15
    go_wp2_with (refine CL.out.mono ?_; rintro e w1 ⟨rfl, hM, hb⟩; have hL := run_look hM r hr; rw [hs] at hL; have BB := Lib.hid hb; clear hM hb)
    go_ret
    exact ⟨rfl, BB.out⟩

/-- A slice of runes in blocks from B on. -/
abbrev RnS (W : World) (B : Nat) (v : Value) (xs : List Int) : Prop := W.ownsRow B 21 1 v xs.length (xs.map fun (r : Int) => Value.int .i32 r)
def Rns (w : World) (A : Option Addr) (xs : List Int) : Prop := ∀ (i : Nat) (h : i < xs.length), ∃ b o, A = some ⟨b, o, none⟩ ∧ b < w.heap.size ∧ w.cell? ⟨b, o + i, none⟩ = some (.int .i32 xs[i])
theorem RnS.bel {W W' : World} {B : Nat} {v : Value} {ls : List Int} (h : RnS W B v ls) (hb : Below W.heap.size W W') : RnS W' B v ls := by
  refine ⟨h.1, ?_⟩
  rcases h.2 with hn | ⟨g, cap, cur, hv, hB, hg, rest⟩
  · exact .inl hn
  · exact .inr ⟨g, cap, cur, hv, hB, (hb.block g (Array.getElem?_eq_some_iff.1 hg).1).trans hg, rest⟩
theorem RnS.other {W W' : World} {B k : Nat} {v : Value} {ls : List Int} (h : RnS W B v ls) (hk : k < B) (hh : ∀ j, j ≠ k → W'.heap[j]? = W.heap[j]?) : RnS W' B v ls := by
  refine ⟨h.1, ?_⟩
  rcases h.2 with hn | ⟨g, cap, cur, hv, hB, hg, rest⟩
  · exact .inl hn
  · exact .inr ⟨g, cap, cur, hv, hB, (hh g (by omega)).trans hg, rest⟩
theorem RnS.own {W : World} {B : Nat} {v : Value} {ls : List Int} (h : RnS W B v ls) {r : Nat} (hr : v.ownBlock = some r) : B ≤ r := by
  rcases h.2 with ⟨rfl, _⟩ | ⟨g, cap, cur, rfl, hB, _⟩
  · cases hr
  · cases hr; exact hB
theorem RnS.txt {W : World} {B : Nat} {v : Value} {ls : List Int} (h : RnS W B v ls) : ∃ A c, v = .slice A ls.length c ∧ Rns W A ls := by
  rcases h.2 with ⟨rfl, h0⟩ | ⟨g, cap, cur, rfl, hB, hg, hn, hc, hcs, htk⟩
  · have : ls = [] := List.eq_nil_of_length_eq_zero h0
    subst this
    exact ⟨none, 0, rfl, fun i hi => by simp at hi⟩
  · refine ⟨_, cap, rfl, fun i hi => ⟨g, 0, rfl, (Array.getElem?_eq_some_iff.1 hg).1, ?_⟩⟩
    rw [Nat.zero_add, cell_of_row W g i _ _ (0, 0) hg]
    have h5 : (cur.toList.take (ls.length * 1))[i]? = some (.int .i32 ls[i]) := by rw [htk]; simp [hi]
    rw [List.getElem?_take_of_lt (by omega)] at h5
    simpa using h5
theorem Rns.below {w w' : World} {A : Option Addr} {ls : List Int} (h : Rns w A ls) (hb : Below w.heap.size w w') : Rns w' A ls := fun i hi => by
  obtain ⟨b, o, e, hl, hc⟩ := h i hi
  exact ⟨b, o, e, Nat.lt_of_lt_of_le hl hb.size, (hb.cell (p := ⟨b, o + i, none⟩) hl).trans hc⟩
theorem cell_new_rune (W : World) (x : Int) (fz : Nat × Nat) : ∀ j u, ([.int .i32 x] : List Value)[j]? = some u → (W.alloc (.cells #[.int .i32 x] 21 fz)).cell? ((⟨W.heap.size, 0, none⟩ : Addr).add j) = some u := by
  intro j u hu
  rw [Addr.add_lit, Nat.zero_add, World.cell?]
  have : (W.alloc (.cells #[.int .i32 x] 21 fz)).heap[W.heap.size]? = some (.cells #[.int .i32 x] 21 fz) := heap_alloc_new W _
  rw [this]
  simpa using hu
theorem rune_inf : (Try.prog.info? 21).map (fun i => (i.zero, i.size, i.bytes)) = some (some (.int .i32 0), 1, 4) := by kernel_rfl
theorem wpList_append_rune {ops : Array Oper} {rest : List Oper} {o : Oper} {a : Act} {Q : Exit → Act → World → Prop} {W : World} (hgd : o.guard = none) (s x : Operand)
    (ho : o.op = .call { callee := .builtin .append, args := #[s, x], argTypes := #[36, 36] }) (B : Nat) (v : Value) (ls : List Int) (y : Int) (hs : a.eval s = v) (h : RnS W B v ls) (hB : B ≤ W.heap.size)
    (hx : a.eval x = .slice (some ⟨W.heap.size, 0, none⟩) 1 1) (hl : ls.length ≤ 1000000)
    (hK : ∀ v' w', RnS w' B v' (ls ++ [y]) → (W.alloc (.cells #[.int .i32 y] 21 (0, 0))).grownBy w' v.ownBlock → Below B W w' → wpList Try.prog ops Q rest (a.put o.dst v') w') :
    wpList Try.prog ops Q (o :: rest) a (W.alloc (.cells #[.int .i32 y] 21 (0, 0))) := by
  obtain ⟨i0, hi, hz0, hz1, hz2⟩ := info_parts rune_inf
  have hba : Below B W (W.alloc (.cells #[.int .i32 y] 21 (0, 0))) := (Below.refl _ _).alloc hB _
  have h2 : RnS (W.alloc (.cells #[.int .i32 y] 21 (0, 0))) B v ls := h.bel ((Below.refl _ _).alloc (Nat.le_refl _) _)
  refine wpList_append_own_at _ hgd s x 36 ho B 21 i0 _ 1 4 Try.underlying36 hi hz0 hz1 hz2 rfl (by decide) v ls.length _ hs h2 ⟨W.heap.size, 0, none⟩ 1 1 [.int .i32 y] hx rfl (cell_new_rune W y (0, 0)) (by simp [Value.oneCell']) (by unfold maxLen; omega) (by omega) (by simp; omega) ?_
  intro v' w' q1 q2 q3 q4
  have e : RnS w' B v' (ls ++ [y]) := by
    show w'.ownsRow _ _ _ _ _ _
    simpa using q1
  exact hK v' w' e q2 (hba.grown q2 (by simp; omega) (fun k e => h2.own e))
/-- 'string(runes)'. -/
theorem conv_runes {W : World} {B : Nat} {v : Value} {xs : List Int} (h : RnS W B v xs) : (convert 36 9 v).run Try.prog W = .ok (str (enc xs)) W := by
  have e : (str (enc xs)) = .string (runesBytes xs) := by
    unfold enc
    cases runesBytes xs
    simp
  rw [e]
  rcases h.2 with ⟨rfl, h0⟩ | ⟨g, cap, cur, rfl, hB, hg, hn, hc, hcs, htk⟩
  · have : xs = [] := List.eq_nil_of_length_eq_zero h0
    subst this
    rw [run_convert_runes_string W _ _ 21 _ _ _ Try.underlying36 Try.underlying21 Try.underlying9]
    simp [Conv.runesToString, runesBytes, Sem.run_pure]
  · rw [run_convert_runes_string W _ _ 21 _ _ _ Try.underlying36 Try.underlying21 Try.underlying9]
    refine run_runesToString W _ _ _ xs ?_
    have := run_loadCells_list (P := Try.prog) W ⟨g, 0, none⟩ (xs.map (Value.int .i32)) (fun j u hj => by
      rw [Addr.add_lit, Nat.zero_add, cell_of_row W g j _ _ (0, 0) hg]
      have hj' : j < xs.length := by have := (List.getElem?_eq_some_iff.1 hj).1; simpa using this
      have h5 : (cur.toList.take (xs.length * 1))[j]? = some u := by rw [htk]; exact hj
      rw [List.getElem?_take_of_lt (by omega)] at h5
      simpa using h5)
    simpa using this
set_option maxRecDepth 100000 in
set_option maxHeartbeats 4000000 in
theorem look_any (l : List UInt8) (hl : l.length ≤ 100000) (w : World) :
    Calls Try.prog 21 #[str l] w fun e w' => ∃ v, e = .returned v ∧ RnS w' w.heap.size v (lks l) ∧ Below w.heap.size w w' := by
  have CL := Lib.hid (looks_any w)
  go_enter Try.func21, Try.ntmps21
  go_wp2_with (refine CL.out.mono ?_; rintro e w1 ⟨rfl, hM, hb⟩; have HM := Lib.hid (And.intro hM hb); clear hM hb)
  have I0 : Hid (MapR (w1.iter (ba l) 0) w.heap.size pairs ∧ (w1.iter (ba l) 0).heap[w1.heap.size]? = some (.stringIter (ba l) 0) ∧ Below w.heap.size w (w1.iter (ba l) 0) ∧ w.heap.size < w1.heap.size) :=
    ⟨HM.out.1.bel ((Below.refl _ w1).alloc (Nat.le_refl _) _), World.iter_heap _ _ _, HM.out.2.alloc HM.out.2.size _, HM.out.1.lt⟩
  have hz := ba_size l
  have hrl := rn_len l
  have HR : Hid (∃ acc, acc ++ (rnAt (ba l) 0).map lk = lks l ∧ acc = []) := ⟨[], rfl, rfl⟩
  show Code.wp _ _ _ _ (w1.iter (ba l) 0)
  generalize w1.iter (ba l) 0 = W0 at I0 ⊢
  generalize w1.heap.size = g at I0 ⊢
  clear HM CL
  have hlk : (lks l).length ≤ 100000 := by unfold lks; rw [List.length_map]; omega
  go_loopw [4] (fun v wr => ∃ (acc : List Int) (p : Nat), acc.length ≤ 100000 ∧ Hid (acc ++ (rnAt (ba l) p).map lk = lks l ∧ RnS wr (g + 1) v acc ∧ MapR wr w.heap.size pairs ∧ wr.heap[g]? = some (.stringIter (ba l) p) ∧ Below w.heap.size w wr ∧ w.heap.size < g)) (fun _ wr => l.length - wr.iterPos g)
  case atStart => exact ⟨[], 0, by simp, rfl, World.ownsRow_nil _ _ _ _, I0.out.1, I0.out.2.1, I0.out.2.2⟩
  case round =>
    clear I0 HR
    obtain ⟨acc, p, hacc, hI⟩ := hrel
    have hip := Lib.hid (iterPos_at hI.out.2.2.2.1)
    by_cases hp : p < (ba l).size
    · have nx := next_more wr _ _ _ hI.out.2.2.2.1 hp
      have hm := rnAt_more (ba l) p hp
      have hwd := Lib.decode_width_pos (ba l) p hp
      have hdl := decode_range (ba l) p
      obtain ⟨i1, i2, i3, i4, i5, i6⟩ := hI.out
      rw [hm, List.map_cons] at i1
      have oth : ∀ j, j ≠ g → (wr.iterAt g (ba l) (p + (Utf8.decode (ba l) p).2)).heap[j]? = wr.heap[j]? := fun j hj => Lib.iterAt_other _ _ _ _ _ hj
      have J2 := Lib.iterAt_heap wr g (ba l) p (p + (Utf8.decode (ba l) p).2) i4
      have J3 := Lib.below_iterAt i5 (Nat.le_of_lt i6) (ba l) (p + (Utf8.decode (ba l) p).2)
      generalize hd : Utf8.decode (ba l) p = d at nx i1 hwd hdl oth J2 J3
      obtain ⟨r0, wd⟩ := d
      simp only at nx i1 hwd hdl oth J2 J3
      have hr0 : -2147483648 ≤ (r0 : Int) ∧ (r0 : Int) ≤ 2147483647 := by omega
      generalize (r0 : Int) = r at nx i1 hr0
      generalize wr.iterAt g (ba l) (p + wd) = W2 at nx oth J2 J3
      have K1 : RnS W2 (g + 1) _ acc := i2.other (k := g) (by omega) oth
      have K2 : MapR W2 w.heap.size pairs := i3.same (oth _ (by omega))
      have hL := run_look K2 r hr0
      obtain ⟨l1, l2⟩ := look_is r
      have hlen : acc.length + 1 ≤ 100000 := by
        have := congrArg List.length i1
        simp at this
        omega
      have HI := Lib.hid (And.intro i1 (And.intro K1 (And.intro K2 (And.intro J2 (And.intro J3 i6)))))
      have hgs : g + 1 ≤ W2.heap.size := (Array.getElem?_eq_some_iff.1 J2).1
      clear hI hm i1 i2 i3 i4 i5 i6 oth J2 J3 K1 K2 hdl hd
      have HLL := Lib.hid l1
      have HLN := Lib.hid l2
      clear l1 l2
      cases hs : (lastOf r pairs none).isSome
      · have e1 := HLN.out hs
        rw [hs] at hL
        rw [e1] at HI
        clear HLL HLN e1 hs
        go_wp2_with (at_builtin; refine wpList_append_rune rfl (.tmp 23) (.tmp 25) rfl (g + 1) _ acc r (by rfl) HI.out.2.1 hgs (by rfl) (by omega) ?_; intro v' w5 g1 g2 g3; have S5 := Lib.hid (And.intro g1 (And.intro g2 g3)); clear g1 g2 g3)
        have M5 : MapR w5 w.heap.size pairs := HI.out.2.2.1.same (S5.out.2.2.block _ (by have := HI.out.2.2.2.2.2; omega))
        have T5 := (S5.out.2.2.block g (by omega)).trans HI.out.2.2.2.1
        have B5 := HI.out.2.2.2.2.1.trans (S5.out.2.2.mono (show w.heap.size ≤ g + 1 by have := HI.out.2.2.2.2.2; omega))
        have TT := Lib.hid (And.intro M5 (And.intro T5 B5))
        clear M5 T5 B5
        go_roundw
        case rel => exact ⟨acc ++ [r], p + wd, by simp; omega, by rw [List.append_assoc]; exact HI.out.1, S5.out.1, TT.out.1, TT.out.2.1, TT.out.2.2, HI.out.2.2.2.2.2⟩
        case measure =>
          have h1 := iterPos_at TT.out.2.1
          have h2 := hip.out
          omega
      · have e1 := HLL.out hs
        rw [hs, e1] at hL
        clear HLL HLN e1 hs
        generalize lk r = r2 at HI hL
        go_wp2_with (at_builtin; refine wpList_append_rune rfl (.tmp 23) (.tmp 25) rfl (g + 1) _ acc r2 (by rfl) HI.out.2.1 hgs (by rfl) (by omega) ?_; intro v' w5 g1 g2 g3; have S5 := Lib.hid (And.intro g1 (And.intro g2 g3)); clear g1 g2 g3)
        have M5 : MapR w5 w.heap.size pairs := HI.out.2.2.1.same (S5.out.2.2.block _ (by have := HI.out.2.2.2.2.2; omega))
        have T5 := (S5.out.2.2.block g (by omega)).trans HI.out.2.2.2.1
        have B5 := HI.out.2.2.2.2.1.trans (S5.out.2.2.mono (show w.heap.size ≤ g + 1 by have := HI.out.2.2.2.2.2; omega))
        have TT := Lib.hid (And.intro M5 (And.intro T5 B5))
        clear M5 T5 B5
        go_roundw
        case rel => exact ⟨acc ++ [r2], p + wd, by simp; omega, by rw [List.append_assoc]; exact HI.out.1, S5.out.1, TT.out.1, TT.out.2.1, TT.out.2.2, HI.out.2.2.2.2.2⟩
        case measure =>
          have h1 := iterPos_at TT.out.2.1
          have h2 := hip.out
          omega
    · have nx := next_end wr _ _ _ hI.out.2.2.2.1 hp
      have he := rnAt_end (ba l) p hp
      obtain ⟨i1, i2, i3, i4, i5, i6⟩ := hI.out
      rw [he] at i1
      have ha : acc = lks l := by simpa using i1
      subst ha
      have FIN := Lib.hid (And.intro i2 (And.intro i5 i6))
      clear hI i1 i2 i3 i4 i5 i6 he hip
      go_wp2_with fail
      go_ret
      refine ⟨_, rfl, ?_, FIN.out.2.1⟩
      exact ⟨FIN.out.1.1, FIN.out.1.2.imp id fun ⟨g', cap, cur, hv, hg, rest⟩ => ⟨g', cap, cur, hv, by have := FIN.out.2.2; omega, rest⟩⟩
end Go.Proofs.Ytdmlfggokbmapaa
