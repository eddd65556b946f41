/- The walks of the timers' New, Set, Drop, Len. Condition: the timers lie at the pointer. -/
import Derived.Test.YtljfjlijobjpdaaTid
namespace Go.Proofs.Ytljfjlijobjpdaa
open Go.RowKit
set_option linter.unusedVariables false
set_option linter.unusedSimpArgs false
attribute [local go_sem] run_makeMap

theorem New_any (w : World) : Calls Try.prog 6 #[] w fun r w' => r = .returned (.pointer (some ⟨w.heap.size + 1, 0, none⟩)) ∧ Tm w' w.heap.size (w.heap.size + 1) w.heap.size (.slice none 0 0) [] [] 0 ∧ Below w.heap.size w w' := by
  have b0 := (Below.refl w.heap.size w).alloc (Nat.le_refl _) (.map #[] 0)
  have b1 := b0.alloc b0.size (.cells #[.slice none 0 0, .func (.func 12) #[] #[], .map (some w.heap.size), .int .i64 0] 42 (0, 0))
  have p0 := (Below.heap_alloc (w.alloc (.map #[] 0)) (.cells #[.slice none 0 0, .func (.func 12) #[] #[], .map (some w.heap.size), .int .i64 0] 42 (0, 0)) w.heap.size (by simp)).trans (heap_alloc_new w (.map #[] 0))
  have p1 := heap_alloc_new (w.alloc (.map #[] 0)) (.cells #[.slice none 0 0, .func (.func 12) #[] #[], .map (some w.heap.size), .int .i64 0] 42 (0, 0))
  rw [World.size_alloc] at p1
  have HL : Hid (Tm ((w.alloc (.map #[] 0)).alloc (.cells #[.slice none 0 0, .func (.func 12) #[] #[], .map (some w.heap.size), .int .i64 0] 42 (0, 0))) w.heap.size (w.heap.size + 1) w.heap.size (.slice none 0 0) [] [] 0 ∧ Below w.heap.size w ((w.alloc (.map #[] 0)).alloc (.cells #[.slice none 0 0, .func (.func 12) #[] #[], .map (some w.heap.size), .int .i64 0] 42 (0, 0)))) :=
    ⟨⟨p1, ⟨rfl, .inl ⟨rfl, rfl⟩⟩, ⟨_, _, p0, rfl⟩, by omega, Nat.le_refl _, by omega, by simp [Value.ownBlock], by simp [Value.ownBlock]⟩, b1⟩
  clear b0 b1 p0 p1
  go_enter Try.func6, Try.ntmps6
  go_wp2_with fail
  go_ret
  exact ⟨rfl, HL.out⟩
theorem Len_any {B gb mb no : Nat} {sl : Value} {l : List On1} {M : Mp} {w : World} (h : Tm w B gb mb sl l M no) :
    Calls Try.prog 10 #[.pointer (some ⟨gb, 0, none⟩)] w fun e w' => e = .returned (.int .i64 (M.length : Int)) ∧ w = w' := by
  have t2 := h.s.2.2.1
  have hq := run_len h.map 3
  clear h
  go_enter Try.func10, Try.ntmps10
  go_wp2_with fail
  go_ret
  exact ⟨rfl, rfl⟩
/-- What Drop answers. -/
def errD (k : List UInt8) (M : Mp) : Int := if (lookM k M).isSome then 0 else 3
theorem tm_put {W : World} {B gb mb no : Nat} {sl : Value} {l : List On1} {M M' : Mp} {o : Obj} (h : Tm W B gb mb sl l M no) (hm : MapS (W.putObj mb o) mb M') : Tm (W.putObj mb o) B gb mb sl l M' no :=
  ⟨(World.putObj_heap_other h.ngm).trans h.top, ownsRow_same h.own (fun k hk => World.putObj_heap_other (fun q => h.nm (q ▸ hk))), hm, h.bg, h.bm, h.ngm, h.ng, h.nm⟩
theorem wpList_del {ops : Array Oper} {rest : List Oper} {o : Oper} {a : Act} {Q : Exit → Act → World → Prop} {W : World} {mb : Nat} {M : Mp} (hgd : o.guard = none) (m x : Operand)
    (ho : o.op = .call { callee := .builtin .delete, args := #[m, x], argTypes := #[40, 9] }) (k : List UInt8) (hm : a.eval m = .map (some mb)) (hx : a.eval x = str k) (h : MapS W mb M)
    (hK : ∀ o', MapS (W.putObj mb o') mb (delM k M) → wpList Try.prog ops Q rest (a.put o.dst (.tuple #[])) (W.putObj mb o')) : wpList Try.prog ops Q (o :: rest) a W := by
  refine wpList_plain hgd fun K hK' => ?_
  obtain ⟨o', hr, h2⟩ := run_del h k o.type
  unfold Oper.wp
  simp [execOp, ho, resolve, invoke, builtin, hm, hx, hr, Result.andThen]
  exact hK' _ _ (hK o' h2)
theorem step_del {ops : Array Oper} {o : Oper} {a : Act} {K : Act → World → Prop} {Q : Exit → Act → World → Prop} {E : Prop} {W : World} {mb : Nat} {M : Mp} (hgd : o.guard = none) (m x : Operand)
    (ho : o.op = .call { callee := .builtin .delete, args := #[m, x], argTypes := #[40, 9] }) (k : List UInt8) (hm : a.eval m = .map (some mb)) (hx : a.eval x = str k) (h : MapS W mb M)
    (hK : ∀ o', MapS (W.putObj mb o') mb (delM k M) → K (a.put o.dst (.tuple #[])) (W.putObj mb o')) :
    if Region.wanted o (yielded ops a.tmps) = true then Oper.wp Try.prog o a W K Q else E := by
  have hw : Region.wanted o (yielded ops a.tmps) = true := by simp [Region.wanted, hgd]
  rw [if_pos hw]
  obtain ⟨o', hr, h2⟩ := run_del h k o.type
  unfold Oper.wp
  simp [execOp, ho, resolve, invoke, builtin, hm, hx, hr, Result.andThen]
  exact hK o' h2
theorem step_put {ops : Array Oper} {o : Oper} {a : Act} {K : Act → World → Prop} {Q : Exit → Act → World → Prop} {E : Prop} {W : World} {mb : Nat} {M : Mp} (hgd : o.guard = none) (m x v : Operand)
    (ho : o.op = .mapUpdate 40 m x v) (k : List UInt8) (at_ : Int) (n : Nat) (hm : a.eval m = .map (some mb)) (hx : a.eval x = str k) (hv : a.eval v = .agg #[.int .i64 at_, .int .i64 (n : Int)]) (h : MapS W mb M)
    (hK : ∀ o', MapS (W.putObj mb o') mb (putM k at_ n M) → K (a.put o.dst undef) (W.putObj mb o')) :
    if Region.wanted o (yielded ops a.tmps) = true then Oper.wp Try.prog o a W K Q else E := by
  have hw : Region.wanted o (yielded ops a.tmps) = true := by simp [Region.wanted, hgd]
  rw [if_pos hw]
  obtain ⟨o', hr, h2⟩ := run_put h k at_ n
  unfold Oper.wp
  simp [execOp, ho, hm, hx, hv, hr, Result.andThen]
  exact hK o' h2
theorem delM_none {k : List UInt8} : ∀ {M : Mp}, lookM k M = none → delM k M = M
  | [], _ => rfl
  | e :: M, h => by
    rw [lookM] at h
    rw [delM]
    by_cases q : e.1 = k
    · rw [if_pos q] at h; cases h
    · rw [if_neg q] at h ⊢
      rw [delM_none h]
set_option maxHeartbeats 1000000 in
theorem Drop_any {B gb mb no : Nat} {sl : Value} {l : List On1} {M : Mp} {w : World} (h : Tm w B gb mb sl l M no) (k : List UInt8) (hBw : B ≤ w.heap.size) :
    Calls Try.prog 8 #[.pointer (some ⟨gb, 0, none⟩), str k] w fun e w' => e = .returned (.int .i64 (errD k M)) ∧ TDone w B gb mb sl l (delM k M) no w' := by
  have H0 := Lib.hid h
  have t2 := h.s.2.2.1
  have hlk := run_look h.map k true
  simp only [if_true] at hlk
  have hst : lkV (lookM k M) = .agg #[.int .i64 ((lookM k M).getD (0, 0)).1, .int .i64 (((lookM k M).getD (0, 0)).2 : Int)] := rfl
  rw [hst] at hlk
  generalize ((lookM k M).getD (0, 0)).1 = va at hlk
  generalize ((lookM k M).getD (0, 0)).2 = vn at hlk
  clear h hst
  have bl := (Below.refl w.heap.size w).alloc (Nat.le_refl _) (.cells #[.int .i64 va, .int .i64 (vn : Int)] 44 (0, 0))
  have B1 := Lib.hid bl
  have T1 := Lib.hid (H0.out.bel bl)
  clear bl
  cases hl : (lookM k M).isSome
  · rw [hl] at hlk
    have hD : errD k M = 3 := by unfold errD; rw [hl]; rfl
    have hdl : delM k M = M := delM_none (by simpa using hl)
    have HD := Lib.hid (And.intro hD hdl)
    clear hD hdl hl
    go_enter Try.func8, Try.ntmps8
    go_wp2_with fail
    go_ret
    exact ⟨by rw [HD.out.1]; rfl, by rw [HD.out.2]; exact TDone.off H0.out B1.out⟩
  · rw [hl] at hlk
    have HD : Hid (errD k M = 0) := by
      show _ = _
      unfold errD; rw [hl]; rfl
    clear hl
    go_enter Try.func8, Try.ntmps8
    go_upto_region 6 with fail
    generalize w.alloc (.cells #[.int .i64 va, .int .i64 (vn : Int)] 44 (0, 0)) = w1 at B1 T1 ⊢
    have t3 := T1.out.s.2.2.1
    clear t2 hlk
    obtain ⟨o2, hdel, hM⟩ := run_del T1.out.map k 0
    have T2 := Lib.hid (tm_put T1.out hM)
    clear hM
    go_wp2_with fail
    have RD : Hid (TDone w B gb mb sl l (delM k M) no (w1.putObj mb o2)) := ⟨sl, T2.out, .inl rfl, (Chg.of_below B1.out).trans (Chg.put (P := fun k => k = mb) w1 mb o2 rfl) (fun n _ q => .inr (.inl q))⟩
    clear T2 T1 B1
    generalize w1.putObj mb o2 = w2 at RD ⊢
    go_ret
    exact ⟨by rw [HD.out]; rfl, RD.out⟩
theorem look_put {k : List UInt8} {a : Int} {n : Nat} : ∀ M : Mp, lookM k (putM k a n M) = some (a, n)
  | [] => by simp [putM, lookM]
  | e :: M => by
    rw [putM]
    by_cases q : e.1 = k
    · rw [if_pos q, lookM, if_pos rfl]
    · rw [if_neg q, lookM, if_neg q, look_put M]
/-- The count, turned. -/
theorem tm_no {W : World} {B gb mb no n1 : Nat} {sl : Value} {l : List On1} {M : Mp} (h : Tm W B gb mb sl l M no) : Tm (W.setCell ⟨gb, 3, none⟩ (.int .i64 (n1 : Int))) B gb mb sl l M n1 ∧ Chg (Tl gb mb sl) W (W.setCell ⟨gb, 3, none⟩ (.int .i64 (n1 : Int))) := by
  have hs : ∀ k, k ≠ gb → (W.setCell ⟨gb, 3, none⟩ (.int .i64 (n1 : Int))).heap[k]? = W.heap[k]? := fun k hk => Below.heap_setCell _ _ _ _ hk
  refine ⟨⟨?_, ownsRow_same h.own (fun k hk => hs k (fun q => h.ng (q ▸ hk))), h.map.same (hs mb (fun q => h.ngm q.symm)), h.bg, h.bm, h.ngm, h.ng, h.nm⟩, Chg.cell W ⟨gb, 3, none⟩ _ (.inl rfl)⟩
  have := h.top
  simp [World.setCell, Array.getElem?_modify, this]
theorem TDone.trans {w W W' : World} {B gb mb no no' : Nat} {sl sl1 : Value} {l l' : List On1} {M M' : Mp} (h : TDone w B gb mb sl l M no W) (hs : ∀ sl1, Tm W B gb mb sl1 l M no → TDone W B gb mb sl1 l' M' no' W') : TDone w B gb mb sl l' M' no' W' := by
  obtain ⟨sl1, h1, h2, h3⟩ := h
  obtain ⟨sl2, k1, k2, k3⟩ := hs sl1 h1
  refine ⟨sl2, k1, ?_, h3.trans k3 (fun n hn q => ?_)⟩
  · rcases k2 with e | ⟨j, hj, e⟩
    · rw [e]; exact h2
    · exact .inr ⟨j, Nat.le_trans h3.size hj, e⟩
  · rcases q with q | q | q
    · exact .inl q
    · exact .inr (.inl q)
    · rcases h2 with e | ⟨j, hj, e⟩
      · exact .inr (.inr (e ▸ q))
      · rw [e] at q
        have := Option.some.inj q
        omega
theorem Set_long {B gb mb no : Nat} {sl : Value} {l : List On1} {M : Mp} {w : World} (h : Tm w B gb mb sl l M no) (k : List UInt8) (a : Int) (h256 : 256 < k.length) (hk : k.length ≤ 9223372036854775807) :
    Calls Try.prog 7 #[.pointer (some ⟨gb, 0, none⟩), str k, .int .i64 a] w fun e w' => e = .returned (.int .i64 5) ∧ TDone w B gb mb sl l M no w' := by
  have d : decide (256 < (k.length : Int)) = true := by simp; omega
  have H0 := Lib.hid h
  clear h h256
  go_enter Try.func7, Try.ntmps7
  go_wp2_with fail
  go_ret
  exact ⟨rfl, TDone.off H0.out (Below.refl _ _)⟩
set_option maxRecDepth 100000 in
set_option maxHeartbeats 4000000 in
theorem Set_ok {B gb mb no : Nat} {sl : Value} {l : List On1} {M : Mp} {w : World} (h : Tm w B gb mb sl l M no) (inv : Inv l M) (k : List UInt8) (a : Int) (hM : M.length ≤ 1000) (hlen : l.length ≤ 100000) (hno : no ≤ 100000) (hBw : B ≤ w.heap.size) (h256 : k.length ≤ 256) :
    Calls Try.prog 7 #[.pointer (some ⟨gb, 0, none⟩), str k, .int .i64 a] w fun e w' => e = .returned (.int .i64 0) ∧ ∃ l', l'.length = l.length + 1 ∧ Inv l' (putM k a (no + 1) M) ∧ TDone w B gb mb sl l' (putM k a (no + 1) M) (no + 1) w' := by
  have d : decide (256 < (k.length : Int)) = false := by simp; omega
  have H0 := Lib.hid h
  have I0 := Lib.hid inv
  obtain ⟨n1, hn1⟩ : ∃ n, n = no + 1 := ⟨_, rfl⟩
  rw [← hn1]
  have nw : IntKind.i64.wrap ((no : Int) + 1) = (n1 : Int) := by rw [hn1]; exact (IntWalk.i64_in _ (by omega)).trans (by omega)
  have t2 := h.s.2.2.1
  have hlk := run_look h.map k true
  simp only [if_true] at hlk
  have hst : lkV (lookM k M) = .agg #[.int .i64 ((lookM k M).getD (0, 0)).1, .int .i64 (((lookM k M).getD (0, 0)).2 : Int)] := rfl
  rw [hst] at hlk
  generalize ((lookM k M).getD (0, 0)).1 = va at hlk
  generalize ((lookM k M).getD (0, 0)).2 = vn at hlk
  have bl := (Below.refl w.heap.size w).alloc (Nat.le_refl _) (.cells #[.int .i64 va, .int .i64 (vn : Int)] 44 (0, 0))
  have B1 := Lib.hid bl
  have T1 := Lib.hid (h.bel bl)
  have hln := run_len T1.out.map 3
  have dm : ((M.length : Int) == 1024) = false := by simp; omega
  clear bl h hst inv h256 hn1
  generalize (lookM k M).isSome = is at hlk
  go_enter Try.func7, Try.ntmps7
  go_upto_region 6 with fail
  generalize w.alloc (.cells #[.int .i64 va, .int .i64 (vn : Int)] 44 (0, 0)) = w1 at B1 T1 hln ⊢
  clear hlk t2
  obtain ⟨t0, t1, t2, t3, fz⟩ := T1.out.s
  go_cut [32] (fun v wx => v = .bool false ∧ wx = w1)
  case first =>
    cases is
    · go_wp2_with fail
      go_meet
      case rel => exact ⟨rfl, rfl⟩
    · go_wp2_with fail
      go_meet
      case rel => exact ⟨rfl, rfl⟩
  case rest =>
    obtain ⟨rfl, rfl⟩ := hcut
    clear hln dm
    obtain ⟨TN, CN⟩ := tm_no (n1 := n1) T1.out
    have TN' := Lib.hid TN
    have CN' := Lib.hid CN
    clear TN CN
    go_upto_region 9 with fail
    clear t0 t1 t2 t3 fz
    generalize wc.setCell ⟨gb, 3, none⟩ (.int .i64 (n1 : Int)) = w2 at TN' CN' ⊢
    obtain ⟨t0, t1, t2, t3, fz⟩ := TN'.out.s
    obtain ⟨o3, hput, hMM⟩ := run_put (W := w2.drew) (M := M) (TN'.out.map) k a n1
    go_region
    have T3 := Lib.hid (tm_put (TN'.out.bel (Below.refl _ w2).drew) hMM)
    have C3 : Hid (Chg (Tl gb mb sl) w (w2.drew.putObj mb o3)) := ((Chg.of_below B1.out).trans CN'.out (fun _ _ q => q)).trans ((Chg.drewN (Chg.refl (fun k => k = mb) w2) 1).trans (Chg.put (P := fun k => k = mb) _ mb o3 rfl) (fun _ _ q => q)) (fun _ _ q => .inr (.inl q))
    clear hput hMM t0 t1 t2 t3 fz TN' CN' B1 T1
    generalize w2.drew.putObj mb o3 = w3 at T3 C3 ⊢
    have LK : Hid (∀ (W : World) (sl2 : Value) (l2 : List On1), Tm W B gb mb sl2 l2 (putM k a n1 M) n1 → W.cell? ⟨gb, 2, none⟩ = some (.map (some mb)) ∧ (Instr.lookup 40 (.map (some mb)) (str k) false).run Try.prog W = .ok (.agg #[.int .i64 a, .int .i64 (n1 : Int)]) W) := fun W sl2 l2 hT => by
      refine ⟨hT.s.2.2.1, ?_⟩
      have := run_look hT.map k false
      rw [look_put] at this
      exact this
    obtain ⟨t2, hlk⟩ := LK.out _ _ _ T3.out
    have P3 := Lib.hid (push_any (T3.out.bel (Below.refl _ w3).drew) I0.out.h ⟨k, a, n1⟩ hlen (Nat.le_trans hBw C3.out.size))
    have ec : (On1.cells ⟨k, a, n1⟩).toArray = #[str k, .int .i64 a, .int .i64 (n1 : Int)] := rfl
    rw [ec] at P3
    clear ec
    go_upto_region 10 with fail
    go_region_held3 (fun W => W.cell? ⟨gb, 2, none⟩ = some (.map (some mb)) ∧ (Instr.lookup 40 (.map (some mb)) (str k) false).run Try.prog W = .ok (.agg #[.int .i64 a, .int .i64 (n1 : Int)]) W)
      (first | assumption | exact LK.out _ _ _ (T3.out.bel (Below.refl _ w3).drew) | exact (TX.out.elim fun sl2 hh => LK.out _ _ _ hh.1))
      (first | (go_at_call 13; (with_reducible refine P3.out.mono ?_); rintro e W9 ⟨rfl, l', hp, hhp, hD⟩; have TX := Lib.hid hD; have HP := Lib.hid (And.intro hp hhp); clear hD hp hhp))
    rename_i hS
    clear hS LK
    have FIN : Hid (∃ l', l'.length = l.length + 1 ∧ Inv l' (putM k a n1 M) ∧ TDone w B gb mb sl l' (putM k a n1 M) n1 W9) := by
      obtain ⟨sl2, h1, h2, h3⟩ := TX.out
      refine ⟨l', by have := HP.out.1.length_eq; simpa using this, inv_set I0.out HP.out.1 HP.out.2, sl2, h1, ?_, ?_⟩
      · rcases h2 with e | ⟨j, hj, e⟩
        · exact .inl e
        · exact .inr ⟨j, Nat.le_trans C3.out.size hj, e⟩
      · exact C3.out.trans ((Chg.drewN (Chg.refl (Tl gb mb sl) w3) 1).trans h3 (fun _ _ q => q)) (fun _ _ q => q)
    clear TX HP P3 T3 C3 hlk t2
    go_wp2_with fail
    go_ret
    exact ⟨rfl, FIN.out⟩
theorem eqIn_st (n : Nat) (a b : Int) (x y : Nat) (w : World) : (Op.equalIn (n + 2) 44 (.agg #[.int .i64 a, .int .i64 (x : Int)]) (.agg #[.int .i64 b, .int .i64 (y : Int)])).run Try.prog w = .ok (decide (a = b) && decide (x = y)) w := by
  unfold Op.equalIn
  simp [run_underlying Try.underlying44]
  go_simp
  simp only [Int.natCast_inj]
  by_cases h1 : a = b <;> by_cases h2 : x = y <;> simp [h1, h2]
theorem neq_st (a b : Int) (x y : Nat) (w : World) : (binOp .neq 44 (.agg #[.int .i64 a, .int .i64 (x : Int)]) (.agg #[.int .i64 b, .int .i64 (y : Int)])).run Try.prog w = .ok (.bool (!(decide (a = b) && decide (x = y)))) w := by
  show (do pure (Value.bool (!(← Op.equal 44 (.agg #[.int .i64 a, .int .i64 (x : Int)]) (.agg #[.int .i64 b, .int .i64 (y : Int)])))) : Sem Value).run Try.prog w = _
  rw [Sem.run_bind, show (Op.equal 44 (.agg #[.int .i64 a, .int .i64 (x : Int)]) (.agg #[.int .i64 b, .int .i64 (y : Int)])).run Try.prog w = .ok (decide (a = b) && decide (x = y)) w from eqIn_st 9998 a b x y w]
  rfl
end Go.Proofs.Ytljfjlijobjpdaa
