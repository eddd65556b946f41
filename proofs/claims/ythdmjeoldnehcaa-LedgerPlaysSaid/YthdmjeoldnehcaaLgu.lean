/- The walks of the ledger's Rows and Copy: clones of its rows and of its map. Condition: the ledger lies at the pointer. -/
import Derived.Test.YthdmjeoldnehcaaLgt
import Derived.Laws.Externs
namespace Go.Proofs.Ythdmjeoldnehcaa
open Go.RowKit
set_option linter.unusedVariables false
set_option linter.unusedSimpArgs false

theorem eq_sl (b : Addr) (n c : Nat) (W : World) : (binOp .eql 37 (.slice (some b) n c) (.slice none 0 0)).run Try.prog W = .ok (.bool false) W := by
  show (do pure (Value.bool (← Op.equalIn (9999 + 1) 37 (.slice (some b) n c) (.slice none 0 0))) : Sem Value).run Try.prog W = _
  unfold Op.equalIn
  simp [run_underlying Try.underlying37]
theorem eq_nil (W : World) : (binOp .eql 37 (.slice none 0 0) (.slice none 0 0)).run Try.prog W = .ok (.bool true) W := by
  show (do pure (Value.bool (← Op.equalIn (9999 + 1) 37 (.slice none 0 0) (.slice none 0 0))) : Sem Value).run Try.prog W = _
  unfold Op.equalIn
  simp [run_underlying Try.underlying37]
theorem eq_map (mb : Nat) (W : World) : (binOp .eql 51 (.map (some mb)) (.map none)).run Try.prog W = .ok (.bool false) W := by
  show (do pure (Value.bool (← Op.equalIn (9999 + 1) 51 (.map (some mb)) (.map none))) : Sem Value).run Try.prog W = _
  unfold Op.equalIn
  simp [run_underlying Try.underlying51]
set_option maxHeartbeats 1000000 in
theorem clone_any (B n : Nat) (v : Value) (xs : List Value) (w : World) (h : w.ownsRow B 43 10 v n xs) (h1 : ∀ u ∈ xs, u.oneCell' = true) (hn : n ≤ 100000) :
    Calls Try.prog 23 #[v] w fun e w' => ∃ v', e = .returned v' ∧ w'.ownsRow w.heap.size 43 10 v' n xs ∧ Below w.heap.size w w' := by
  rcases h.2 with ⟨rfl, h0⟩ | ⟨g, cap, cur, rfl, hB, hg, hc, hm, hs, ht⟩
  · subst h0
    have HX := Lib.hid (show w.ownsRow w.heap.size 43 10 (.slice none 0 0) 0 xs from ⟨h.1, .inl ⟨rfl, rfl⟩⟩)
    clear h
    have hq := eq_nil
    go_enter Try.func23, Try.ntmps23
    go_wp2_with fail
    exact bodyPost_ret (results_tmp (t := 2) rfl _ _ _) rfl ⟨_, rfl, HX.out, Below.refl _ _⟩
  · have b0 := (Below.refl w.heap.size w).alloc (Nat.le_refl _) (.cells #[] 43 (0, 0))
    have O0 : Hid ((w.alloc (.cells #[] 43 (0, 0))).ownsRow w.heap.size 43 10 (.slice (some ⟨w.heap.size, 0, none⟩) 0 0) 0 []) :=
      ⟨rfl, .inr ⟨w.heap.size, 0, #[], rfl, Nat.le_refl _, heap_alloc_new w _, Nat.le_refl _, by simp [maxLen], rfl, rfl⟩⟩
    have HN : Hid (∀ j u, xs[j]? = some u → (w.alloc (.cells #[] 43 (0, 0))).cell? ((⟨g, 0, none⟩ : Addr).add j) = some u) := by
      intro j u hu
      have hj : j < n * 10 := by
        have := (List.getElem?_eq_some_iff.1 hu).1
        rwa [h.1] at this
      rw [Addr.add_mid, Nat.zero_add]
      refine (cell_of_row _ _ j _ _ (0, 0) ((Below.heap_alloc w _ g (lt_of_heap hg)).trans hg)).trans ?_
      rw [← hu, ← ht, List.getElem?_take_of_lt hj]
      simp
    have HL := Lib.hid h.1
    have B0 := Lib.hid b0
    have H1 := Lib.hid h1
    clear h b0 hB hg hc hm hs ht h1
    have hq := eq_sl ⟨g, 0, none⟩ n cap
    go_enter Try.func23, Try.ntmps23
    go_wp2_with (refine wpList_append_rows rfl _ _ rfl w.heap.size _ 0 [] (by rfl) O0.out (by simp) ⟨g, 0, none⟩ n cap xs (by rfl) HL.out HN.out H1.out (by omega) ?_; intro v6 W6 OW6 G6 OB6; rw [Nat.zero_add, List.nil_append] at OW6; have HO := Lib.hid OW6; have HB := Lib.hid (B0.out.grown G6 (by simp) (fun r e => by cases e; exact Nat.le_refl _)); clear OW6 G6 OB6)
    exact bodyPost_ret (results_tmp (t := 2) rfl _ _ _) rfl ⟨_, rfl, HO.out, HB.out⟩
theorem Rows_any {B g mb bad : Nat} {sl : Value} {rows : List Rw} {w : World} (h : Lg w B g mb sl bad rows) (hlen : rows.length ≤ 100000) :
    Calls Try.prog 11 #[.pointer (some ⟨g, 0, none⟩)] w fun e w' => ∃ v', e = .returned v' ∧ w'.ownsRow w.heap.size 43 10 v' rows.length (flat rows) ∧ Below w.heap.size w w' := by
  have t1 := cell_of_row _ _ 1 _ _ (0, 0) h.top
  simp only [List.getElem?_toArray, List.getElem?_cons_zero, List.getElem?_cons_succ] at t1
  have C := Lib.hid (clone_any B rows.length sl (flat rows) w h.own (flat_one rows) hlen)
  clear h
  go_enter Try.func11, Try.ntmps11
  go_wp2_with (refine C.out.mono ?_; rintro e w1 ⟨v', rfl, ho, hb⟩; have HO := Lib.hid ho; have HB := Lib.hid hb; clear ho hb)
  exact bodyPost_ret (results_tmp (t := 2) rfl _ _ _) rfl ⟨_, rfl, HO.out, HB.out⟩
theorem Rows_nil (w : World) : Calls Try.prog 11 #[.pointer none] w fun e w' => e = .returned (.slice none 0 0) ∧ w' = w := by
  go_enter Try.func11, Try.ntmps11
  go_wp2_with fail
  go_ret
  exact ⟨rfl, rfl⟩
theorem Copy_nil (w : World) : Calls Try.prog 17 #[.pointer none] w fun e w' => e = .returned (.pointer none) ∧ w' = w := by
  go_enter Try.func17, Try.ntmps17
  go_wp2_with fail
  go_ret
  exact ⟨rfl, rfl⟩
theorem run_clone {w : World} {mb n : Nat} {es : Array MapEntry} (h : w.heap[mb]? = some (.map es n)) : (callFunc 38 #[.iface 51 (.map (some mb))]).run Try.prog w = .ok (.value (.iface 51 (.map (some w.heap.size)))) (w.alloc (.map es n)) := by
  rw [run_callFunc_extern Try.func38 (e := Extern.MapsClone.clone) (by kernel_rfl) (by kernel_rfl) (by kernel_rfl) (by kernel_rfl)]
  have hr : (Extern.MapsClone.clone #[.iface 51 (.map (some mb))]).run Try.prog w = .ok (.iface 51 (.map (some w.heap.size))) (w.alloc (.map es n)) := by
    refine (Sem.run_bind (x := getObj mb) ..).trans ?_
    rw [MapKept.run_getObj_map h]
    rfl
  rw [hr]
  rfl
theorem assert_map (v : Value) (x : TypeId) (W : World) : (Instr.typeAssert (.iface 51 v) x 51 false).run Try.prog W = .ok v W := by
  unfold Instr.typeAssert
  simp [run_underlying Try.underlying51]
theorem clone_map {w : World} {mb n : Nat} {es : Array MapEntry} (h : w.heap[mb]? = some (.map es n)) :
    Calls Try.prog 25 #[.map (some mb)] w fun e w' => e = .returned (.map (some w.heap.size)) ∧ w' = w.alloc (.map es n) := by
  have hq := fun W => eq_map mb W
  have hc := run_clone h
  have ha := assert_map (.map (some w.heap.size)) 20
  go_enter Try.func25, Try.ntmps25
  go_wp2_with fail
  go_ret
  exact ⟨rfl, rfl⟩
end Go.Proofs.Ythdmjeoldnehcaa
