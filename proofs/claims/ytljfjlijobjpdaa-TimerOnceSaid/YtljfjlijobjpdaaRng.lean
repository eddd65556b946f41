/- A range over a function: the statement by the iterator's contract at this very loop; a call of yield by the body's walk. No condition. -/
import Derived.Test.YtljfjlijobjpdaaStr
import Derived.RangeFuncRecord
import Derived.RangeFuncSeq
import Derived.RangeFuncLeaves
import Derived.RangeFuncNested
import Derived.RangeFuncBound
import Derived.RangeFuncCalls
import Derived.OwnWalkIn
import Derived.TacticsInMore
import Derived.LoopNIn
import Derived.LoopIn
import Derived.OrdersIn
import Derived.StillTail
import Derived.OrdersHeld
namespace Go.Proofs.Ytljfjlijobjpdaa
open Go.RowKit
set_option linter.unusedVariables false

/-- The loop's record. -/
abbrev lrec (fn : FuncId) (tmps : Array Value) (ps : Array Tmp) (assign body : Code) (D : Nat) (st : LoopState) (pe : Option Code) : Loop :=
  { state := st, pending := pe, fn := fn, tmps := tmps, params := ps, assign := assign, body := body, defers := D }
abbrev marked (a : Act) (D : Nat) : Act := { a with defers := { target := .collected D, args := #[] } :: a.defers }

theorem calls_marks {P : Program} {f : FuncId} {fn : Func} {c : Code} {args : Array Value} {w : World} {R : Ending → World → Prop} (hf : P.funcs[f]? = some fn) (hb : fn.body = some c)
    (h : c.wp P (bodyPostM Fence.wide 0 P fn R) { tmps := args ++ Array.replicate (fn.ntmps - args.size) undef, defers := [] } w) : Calls P f args w R :=
  (callsIn_wide (n := 0)).1 (callsIn_of_wp_marks hf hb trivial ((wpIn_wide (n := 0)).2 h))

theorem rangeFunc_wp {P : Program} {g : Operand} {ps : Array Tmp} {assign body : Code} {Q : Exit → Act → World → Prop} {a : Act} {w : World} {gf : Nat} {lb : Array Value}
    (hg : a.eval g = .func (.func gf) #[] lb) (eg : ∀ args W, (callFunc gf args).run P W = .ok (.enter gf args) W)
    (h : ∀ fn, Calls P gf (#[.func (.yield (w.heap.size + 1)) #[] #[]] ++ lb) ((w.alloc (.deferred (some []))).alloc (.loop (lrec fn a.tmps ps assign body w.heap.size .ready none))) fun e W => (∃ v, e = .returned v) ∧
      ((W.heap[w.heap.size + 1]? = some (.loop (lrec fn a.tmps ps assign body w.heap.size .ready none)) ∧ Q .normal (marked a w.heap.size) (W.putObj (w.heap.size + 1) (.loop (lrec fn a.tmps ps assign body w.heap.size .exhausted none)))) ∨
        ∃ c, W.heap[w.heap.size + 1]? = some (.loop (lrec fn a.tmps ps assign body w.heap.size .done (some c))) ∧ c.wp P Q (marked a w.heap.size) (W.putObj (w.heap.size + 1) (.loop (lrec fn a.tmps ps assign body w.heap.size .exhausted (some c)))))) :
    (Code.rangeFunc g ps assign body).wp P Q a w := by
  refine (wpIn_wide (n := 0)).1 (wpIn_rangeFunc fun fn _ => ?_)
  have he := run_enterLoop_outer (P := P) (w := w) fn a.tmps ps assign body
  have hc := h fn
  generalize (w.alloc (.deferred (some []))).alloc (.loop (lrec fn a.tmps ps assign body w.heap.size .ready none)) = W1 at he hc
  have hres : (resolve a.eval (rangeCall g (w.heap.size + 1)) 0).run P W1 = .ok { target := .fn (.func gf) lb, args := #[.func (.yield (w.heap.size + 1)) #[] #[]] } W1 := by
    simp only [resolve, hg]
    simp [go_sem]
  have hinv : (invoke (Target.fn (.func gf) lb) #[.func (.yield (w.heap.size + 1)) #[] #[]]).run P W1 = .ok (.enter gf (#[.func (.yield (w.heap.size + 1)) #[] #[]] ++ lb)) W1 := by
    simp [invoke, go_sem, eg]
  exact ⟨_, _, W1, _, W1, gf, _, W1, he, hres, (fun _ _ => trivial), hinv, (by intro hd; cases hd), (callsIn_wide (n := 0 - 1)).2 (hc.mono (by
    rintro e W ⟨⟨v, rfl⟩, ⟨hl, hq⟩ | ⟨c, hl, hq⟩⟩
    · exact ⟨none, _, run_endLoop hl (by simp), hq⟩
    · exact ⟨some c, _, run_endLoop hl (by simp), wpIn_wide.2 hq⟩))⟩

/-- How a round's body may be left. -/
def roundQ (l : Nat) (R : LoopState → Option Code → Loop) (T : Ending → World → Prop) : Exit → Act → World → Prop
  | .normal, _, W => W.heap[l]? = some (.loop (R .busy none)) ∧ T (.returned (.bool true)) (W.putObj l (.loop (R .ready none)))
  | .ret, _, W => W.heap[l]? = some (.loop (R .busy none)) ∧ T (.returned (.bool false)) (W.putObj l (.loop (R .done (some .ret))))
  | .exit id, _, W => W.heap[l]? = some (.loop (R .busy none)) ∧ T (.returned (.bool false)) (W.putObj l (.loop (R .done (some (.exit id)))))
  | .goto t, _, W => W.heap[l]? = some (.loop (R .busy none)) ∧ T (.returned (.bool false)) (W.putObj l (.loop (R .done (some (.goto t)))))
  | .panic _, _, _ => False
  | .outgrown, _, _ => False

theorem yield_at {P : Program} {l D : Nat} {fn : FuncId} {tmps : Array Value} {ps : Array Tmp} {assign body : Code} {vs : Array Value} {W : World} {T : Ending → World → Prop}
    (hl : W.heap[l]? = some (.loop (lrec fn tmps ps assign body D .ready none))) (hs : vs.size = ps.size)
    (h : assign.wpIn (Fence.wide.inRound l) 0 P (Exit.then (fun a₁ W₁ => W₁.heap[l]? = some (.loop (lrec fn tmps ps assign body D .ready none)) ∧
        body.wpIn (Fence.wide.inRound l) 0 P (roundQ l (lrec fn tmps ps assign body D) T) a₁ (W₁.putObj l (.loop (lrec fn tmps ps assign body D .busy none)))) (fun _ _ _ => False))
      { tmps := (ps.zip vs).foldl (fun t (p, v) => t.setIfInBounds p v) tmps, defers := [] } W) :
    YieldAt Fence.wide 0 P l vs W T := by
  refine ⟨fn, _, assign, body, run_yield hl hs, roundIn_of_wpIn trivial (wpIn_mono h ?_)⟩
  intro e a₁ W₁ hp
  cases e with
  | normal =>
    obtain ⟨h1, h2⟩ := hp
    refine ⟨_, run_beginRound h1 rfl, wpIn_mono h2 ?_⟩
    intro e a₂ W₂ hq
    cases e with
    | normal => exact ⟨_, _, run_endRound none hq.1, hq.2⟩
    | ret => exact ⟨_, _, run_endRound (some .ret) hq.1, hq.2⟩
    | exit id => exact ⟨_, _, run_endRound (some (.exit id)) hq.1, hq.2⟩
    | goto t => exact ⟨_, _, run_endRound (some (.goto t)) hq.1, hq.2⟩
    | panic ch => exact hq.elim
    | outgrown => exact hq.elim
  | ret => exact hp.elim
  | exit id => exact hp.elim
  | goto t => exact hp.elim
  | panic ch => exact hp.elim
  | outgrown => exact hp.elim

/-- The same, the record behind a letter. -/
theorem rangeFunc_at {P : Program} {g : Operand} {ps : Array Tmp} {assign body : Code} {Q : Exit → Act → World → Prop} {a : Act} {w : World} {gf : Nat} {lb : Array Value}
    (hg : a.eval g = .func (.func gf) #[] lb) (eg : ∀ args W, (callFunc gf args).run P W = .ok (.enter gf args) W)
    (h : ∀ R : LoopState → Option Code → Loop, Hid (∃ fn, R = lrec fn a.tmps ps assign body w.heap.size) → Calls P gf (#[.func (.yield (w.heap.size + 1)) #[] #[]] ++ lb) ((w.alloc (.deferred (some []))).alloc (.loop (R .ready none))) fun e W => (∃ v, e = .returned v) ∧
      ((W.heap[w.heap.size + 1]? = some (.loop (R .ready none)) ∧ Q .normal (marked a w.heap.size) (W.putObj (w.heap.size + 1) (.loop (R .exhausted none)))) ∨
        ∃ c, W.heap[w.heap.size + 1]? = some (.loop (R .done (some c))) ∧ c.wp P Q (marked a w.heap.size) (W.putObj (w.heap.size + 1) (.loop (R .exhausted (some c)))))) :
    (Code.rangeFunc g ps assign body).wp P Q a w :=
  rangeFunc_wp hg eg fun fn => h (lrec fn a.tmps ps assign body w.heap.size) ⟨fn, rfl⟩
theorem yield_of {P : Program} {l D : Nat} {R : LoopState → Option Code → Loop} {tmps : Array Value} {ps : Array Tmp} {assign body : Code} {vs : Array Value} {W W₁ : World} {a₁ : Act} {T : Ending → World → Prop}
    (hR : Hid (∃ fn, R = lrec fn tmps ps assign body D)) (hl : W.heap[l]? = some (.loop (R .ready none))) (hs : vs.size = ps.size)
    (ha : ∀ K : Act → World → Prop, K a₁ W₁ → assign.wpIn (Fence.wide.inRound l) 0 P (Exit.then K (fun _ _ _ => False)) { tmps := (ps.zip vs).foldl (fun t (p, v) => t.setIfInBounds p v) tmps, defers := [] } W)
    (hl1 : W₁.heap[l]? = some (.loop (R .ready none))) (hb : body.wpIn (Fence.wide.inRound l) 0 P (roundQ l R T) a₁ (W₁.putObj l (.loop (R .busy none)))) :
    YieldAt Fence.wide 0 P l vs W T := by
  obtain ⟨fn, rfl⟩ := hR.out
  exact yield_at hl hs (ha _ ⟨hl1, hb⟩)

/-- A function that holds such a loop leaves. -/
theorem leave_marked {P : Program} {fn : Func} {R : Ending → World → Prop} {tmps : Array Value} {D : Nat} {W : World} {v : Value} (hK : W.heap[D]? = some (.deferred (some [])))
    (hr : (results fn tmps).run P (W.putObj D (.deferred none)) = .ok v (W.putObj D (.deferred none))) (hR : R (.returned v) (W.putObj D (.deferred none))) :
    bodyPostM Fence.wide 0 P fn R .ret { tmps := tmps, defers := [{ target := .collected D, args := #[] }] } W :=
  ⟨by simp, .inl ⟨_, _, rfl, run_takeDeferred hK, _, hr, hR⟩⟩
theorem leave_plain {P : Program} {fn : Func} {R : Ending → World → Prop} {tmps : Array Value} {W : World} {v : Value}
    (hr : (results fn tmps).run P W = .ok v W) (hR : R (.returned v) W) : bodyPostM Fence.wide 0 P fn R .ret { tmps := tmps, defers := [] } W :=
  ⟨_, hr, hR⟩
theorem below_putObj {B k : Nat} {w W : World} {o : Obj} (h : Below B w W) (hk : B ≤ k) : Below B w (W.putObj k o) :=
  ⟨h.os, h.tape, h.output, by rw [World.putObj_size]; exact h.size, fun j hj => (World.putObj_heap_other (by omega)).trans (h.block j hj)⟩

/-! ### A region that draws its order, in a round -/
def noDefer (ops : Array Oper) : Bool := ops.toList.all fun o => match o.op with | .defer _ => false | _ => true
theorem noDefer_spec {ops : Array Oper} (h : noDefer ops = true) {i : Nat} {o : Oper} (ho : ops[i]? = some o) : ∀ c, o.op ≠ .defer c := by
  intro c e
  have hm : o ∈ ops.toList := Array.mem_toList_iff.2 (Array.mem_of_getElem? ho)
  have := List.all_eq_true.1 h o hm
  rw [e] at this
  cases this

theorem upon_round {l n : Nat} {P : Program} {o : Oper} {a : Act} {K K' : Act → World → Prop} {Q : Exit → Act → World → Prop} (hK : ∀ a w, K a w → K' a w) {r : Result Next} (h : o.upon P a K Q r) : o.uponIn (Fence.wide.inRound l) n P a K' Q r := by
  cases r with
  | ok x w' =>
    cases x with
    | value v => exact hK _ _ h
    | skip => exact hK _ _ h
    | defer d => exact hK _ _ h
    | enter f args =>
      refine ⟨(fun hd => by cases hd), CallsIn.inRound l ((callsIn_wide (n := n - 1)).2 ((show Calls P f args w' _ from h).mono ?_))⟩
      intro e w2 he
      cases e with
      | returned v => exact hK _ _ he
      | panicked c => exact he
      | outgrown => exact he
    | row row args =>
      refine ⟨(fun hd => by cases hd), fun c cs _ => ?_⟩
      obtain ⟨v, w2, h1, h2⟩ := (show Rows P row args w' _ from h) c cs
      exact ⟨v, w2, hK _ _ h1, stepsIn_wide.2 h2⟩
    | _ => exact False.elim h
  | halt x w' =>
    cases x with
    | panic v => exact h
    | _ => exact False.elim h

theorem op_round {l n : Nat} {P : Program} {ops : Array Oper} {Q : Exit → Act → World → Prop} (hL : ¬ LetsOut Q) (hd : noDefer ops = true) {i : Nat} {K K' : Act → World → Prop} (hK : ∀ a w, K a w → K' a w) {a : Act} {w : World} (h : wpOp P ops Q i K a w) :
    wpOpIn (Fence.wide.inRound l) n P ops Q i K' a w := by
  unfold wpOp at h
  unfold wpOpIn
  cases ho : ops[i]? with
  | none => rw [ho] at h; exact hK _ _ h
  | some o =>
    rw [ho] at h
    simp only at h ⊢
    split
    · rename_i hw
      rw [if_pos hw] at h
      refine ⟨fun _ _ => trivial, ?_⟩
      rw [show (Fence.wide.inRound l).round = some l from rfl, Oper.semAt_some l _ _ (noDefer_spec hd ho)]
      exact upon_round hK (h.resolve_right fun h => hL h.2)
    · rename_i hw
      rw [if_neg hw] at h
      exact ⟨fun _ _ => trivial, hK _ _ h⟩
theorem any_round {l n : Nat} {P : Program} {md : Region.Mode} {ops : Array Oper} {Q : Exit → Act → World → Prop} (hL : ¬ LetsOut Q) (hd : noDefer ops = true) : ∀ (fuel : Nat) (listed : Array Bool) (a : Act) (w : World), wpAny P md ops Q fuel listed a w → wpAnyIn (Fence.wide.inRound l) n P md ops Q fuel listed a w
  | 0, _, _, _, h => h
  | fuel + 1, listed, _, _, h => ⟨h.1, fun i hi => op_round hL hd (fun a w h => any_round hL hd fuel _ a w h) (h.2 i hi)⟩
theorem region_round {l n : Nat} {P : Program} {id : Nat} {ops : Array Oper} {Q : Exit → Act → World → Prop} {a : Act} {w : World} (hm : P.follows .mixedOrders = true) (hL : ¬ LetsOut Q) (hd : noDefer ops = true)
    (h : wpAny P .any ops Q ops.size (Array.replicate ops.size false) a { w with drawn := w.drawn + 1 }) : (Code.region id ops true).wpIn (Fence.wide.inRound l) n P Q a w :=
  wpIn_region_draw fun t => by
    simp only [Region.schedule, hm, Bool.true_or, if_true]
    exact wpAnyIn_sound ops.size t _ a _ (any_round hL hd _ _ _ _ h)

/-- Reads first, then a chain: the order of the text. -/
theorem round_still_tail {l n : Nat} {P : Program} {id : Nat} {Q : Exit → Act → World → Prop} {a : Act} {w : World} {ls : List Oper} (k : Nat) (hm : P.follows .mixedOrders = true) (hL : ¬ LetsOut Q) (hd : noDefer ls.toArray = true) (hB : Region.lexTailB .any ls.toArray k = true)
    (h : wpStill P ls.toArray { w with drawn := w.drawn + 1 } (fun a' => wpList P ls.toArray Q (ls.drop k) a' { w with drawn := w.drawn + 1 }) (ls.take k) a) : (Code.region id ls.toArray true).wpIn (Fence.wide.inRound l) n P Q a w := by
  simp only [Region.lexTailB, Bool.and_eq_true, decide_eq_true_eq] at hB
  obtain ⟨⟨⟨⟨hsel, hn⟩, hs⟩, hc⟩, hlex⟩ := hB
  have hn' : k < ls.length := by simpa using hn
  have htl : (ls.take k).length = k := by simp; omega
  have hdl : (ls.drop k).length = ls.toArray.size - k := by simp
  refine region_round hm hL hd ?_
  have inv0 : HeadInv .any ls.toArray k (Array.replicate ls.toArray.size false) :=
    ⟨by simp, fun j oj _ hl => (by rw [getD_replicate_false] at hl; cases hl), fun t _ ht => getD_in (by simpa using ht) (getD_replicate_false _ _)⟩
  have hfit : ∀ j, j < (ls.take k).length → (ls.take k)[j]? = ls.toArray[0 + j]? := fun j hj => by
    rw [htl] at hj
    simp [hj]
  have H := wpAnyL_lex (md := .any) (g := ls.toArray.size - k) hsel hs hc hn (ls.take k) 0 _ a hfit (by simpa using htl) inv0 (by rw [htl]; exact hlex) h
  have R := wpAny_of_head (Q' := Q) (g := ls.toArray.size - k) (fun listed a' hL => by
    have := wpAny_of_seq (md := .any) (Q' := Q) (ls.drop k) k listed a' { w with drawn := w.drawn + 1 } (fun j => by simp [List.getElem?_drop]) (by rw [hdl]; exact hL.1) hL.2
    rwa [hdl] at this) _ _ _ H
  rwa [htl, show k + (ls.toArray.size - k) = ls.toArray.size by omega] at R

/-! ### Reads first under a condition S, and a last operation that may end it -/
/-- Whatever order is picked, S holds behind every operation but the last one, which is operation k. -/
def anyE (P : Program) (ops : Array Oper) (Q : Exit → Act → World → Prop) (S : World → Prop) (k : Nat) : Nat → Array Bool → Act → World → Prop
  | 0, listed, a, w => Region.ready .any ops listed = [k] ∧ wpOp P ops Q k (fun a' w' => Region.ready .any ops (listed.setIfInBounds k true) = [] ∧ Q .normal a' w') a w
  | f + 1, listed, a, w => Region.ready .any ops listed ≠ [] ∧ ∀ i ∈ Region.ready .any ops listed, wpOp P ops Q i (fun a' w' => S w' ∧ anyE P ops Q S k f (listed.setIfInBounds i true) a' w') a w
theorem any_of_E {P : Program} {ops : Array Oper} {Q : Exit → Act → World → Prop} {S : World → Prop} {k : Nat} : ∀ (f : Nat) (listed : Array Bool) (a : Act) (w : World), anyE P ops Q S k f listed a w → wpAny P .any ops Q (f + 1) listed a w
  | 0, listed, a, w, h => ⟨fun h0 => (by rw [h.1] at h0; cases h0), fun i hi => by
      rw [h.1] at hi
      obtain rfl : i = k := by simpa using hi
      exact wpOp_mono (fun _ _ h' => h') h.2⟩
  | f + 1, listed, a, w, h => ⟨fun h0 => absurd h0 h.1, fun i hi => wpOp_mono (fun _ _ h' => any_of_E f _ _ _ h'.2) (h.2 i hi)⟩
theorem unlisted_of_ready {ops : Array Oper} {i : Nat} {listed : Array Bool} (h : i ∈ Region.ready .any ops listed) : listed.getD i false = false := by
  have h0 := (mem_ready.1 h).1
  cases hb : listed.getD i false with
  | false => rfl
  | true =>
    have hlt : i < listed.size := by
      rcases Nat.lt_or_ge i listed.size with h' | h'
      · exact h'
      · simp [Array.getElem?_eq_none h'] at hb
    simp [hlt] at h0 hb
    rw [h0] at hb; cases hb
theorem anyE_first {P : Program} {ops : Array Oper} {Q : Exit → Act → World → Prop} {S : World → Prop} {k i : Nat} {oi : Oper} {v : Value} (hi : ops[i]? = some oi) (hsel : ∀ (j : Nat) (o : Oper) cs b, ops[j]? = some o → o.op ≠ .select cs b)
    (hQ : ∀ c a w, Q (.panic c) (a.put oi.dst v) w → Q (.panic c) a w) (hk : Region.waitsFor .any ops k i = true) :
    ∀ (f : Nat) (listed : Array Bool) (a : Act) (w : World), (∀ j oj, ops[j]? = some oj → j ≠ i → listed.getD j true = false → (∀ e ∈ oj.after, Region.binds .any e = true → e.on ≠ i) → oi.apart ops oj = true) →
      i ∈ Region.ready .any ops listed → YieldsIf P ops S oi v a → S w → anyE P ops Q S k f (listed.setIfInBounds i true) (a.put oi.dst v) w → anyE P ops Q S k (f + 1) listed a w := by
  intro f
  induction f with
  | zero =>
    intro listed a w _ hr hy hS H
    refine ⟨fun h0 => (by rw [h0] at hr; cases hr), fun j hj => ?_⟩
    by_cases e : j = i
    · subst e; exact hy.wpOp hi hS ⟨hS, H⟩
    · have hjk := ready_mono hj e
      rw [H.1] at hjk
      obtain rfl : j = k := by simpa using hjk
      obtain ⟨ok, hok, x, hx, hb, hon⟩ := Region.waitsFor_spec hk
      obtain ⟨_, o', ho', hall⟩ := mem_ready.1 hj
      obtain rfl : ok = o' := Option.some.inj (hok.symm.trans ho')
      have := hall x hx hb
      rw [hon, unlisted_of_ready hr] at this
      cases this
  | succ f ih =>
    intro listed a w hfree hr hy hS H
    refine ⟨fun h0 => (by rw [h0] at hr; cases hr), fun j hj => ?_⟩
    by_cases e : j = i
    · subst e; exact hy.wpOp hi hS ⟨hS, H⟩
    · have h1 := H.2 j (ready_mono hj e)
      obtain ⟨hun, oj, hoj, hall⟩ := mem_ready.1 hj
      have hno : ∀ x ∈ oj.after, Region.binds .any x = true → x.on ≠ i := fun x hx hb he => by
        have h2 := hall x hx hb
        rw [he, unlisted_of_ready hr] at h2
        cases h2
      have h2 := wpOp_putIf hoj (hfree j oj hoj e hun hno) (fun cs b => hsel i oi cs b hi) (fun cs b => hsel j oj cs b hoj) hQ hy h1
      refine wpOp_mono (fun a' w' h3 => ⟨h3.2.1, ih (listed.setIfInBounds j true) a' w' (fun m om hm hmi hmu hmn => ?_) (ready_mono hr (Ne.symm e)) h3.1 h3.2.1 ?_⟩) h2
      · refine hfree m om hm hmi ?_ hmn
        by_cases hjm : j = m
        · subst hjm; exact hun
        · rwa [getD_set_ne true hjm] at hmu
      · rw [Array.setIfInBounds_comm _ _ e]
        exact h3.2.2
/-- Number i is taken first. -/
theorem anyE_take {P : Program} {ops : Array Oper} {Q : Exit → Act → World → Prop} {S : World → Prop} {k i : Nat} {oi : Oper} {v : Value} {f : Nat} {listed : Array Bool} {a : Act} {w : World} (hi : ops[i]? = some oi)
    (hs : Region.noSelect ops = true) (hk : Region.waitsFor .any ops k i = true) (hf : Region.free .any ops listed i = true) (hr : (Region.ready .any ops listed).contains i = true)
    (hQ : ∀ c a w, Q (.panic c) (a.put oi.dst v) w → Q (.panic c) a w) (hy : YieldsIf P ops S oi v a) (hS : S w)
    (h : anyE P ops Q S k f (listed.setIfInBounds i true) (a.put oi.dst v) w) : anyE P ops Q S k (f + 1) listed a w :=
  anyE_first hi (Region.noSelect_spec hs) hQ hk f listed a w (Region.free_spec hi hf) (by simpa using hr) hy hS h
/-- Number i is the one that may come up. -/
theorem anyE_one {P : Program} {ops : Array Oper} {Q : Exit → Act → World → Prop} {S : World → Prop} {k i : Nat} {o : Oper} {f : Nat} {listed : Array Bool} {a : Act} {w : World} (hr : Region.ready .any ops listed = [i]) (ho : ops[i]? = some o)
    (h : ∀ K : Act → World → Prop, Hid (∀ a w, S w → (S w → anyE P ops Q S k f (listed.setIfInBounds i true) a w) → K a w) → if Region.wanted o (yielded ops a.tmps) = true then Oper.wp P o a w K Q else K (a.put o.dst undef) w) : anyE P ops Q S k (f + 1) listed a w :=
  ⟨by rw [hr]; simp, fun j hj => by
    rw [hr] at hj
    obtain rfl : j = i := by simpa using hj
    have h1 := h (fun a' w' => S w' ∧ anyE P ops Q S k f (listed.setIfInBounds j true) a' w') (fun a w hS hW => ⟨hS, hW hS⟩)
    unfold wpOp
    rw [ho]
    simp only
    split
    · rename_i hw; rw [if_pos hw] at h1; exact .inl h1
    · rename_i hw; rw [if_neg hw] at h1; exact h1⟩
/-- The last one. -/
theorem anyE_last {P : Program} {ops : Array Oper} {Q : Exit → Act → World → Prop} {S : World → Prop} {k : Nat} {o : Oper} {listed : Array Bool} {a : Act} {w : World} (hr : Region.ready .any ops listed = [k]) (hr2 : Region.ready .any ops (listed.setIfInBounds k true) = []) (ho : ops[k]? = some o)
    (h : ∀ K : Act → World → Prop, Hid (∀ a w, Q .normal a w → K a w) → if Region.wanted o (yielded ops a.tmps) = true then Oper.wp P o a w K Q else K (a.put o.dst undef) w) : anyE P ops Q S k 0 listed a w :=
  ⟨hr, by
    have h1 := h (fun a' w' => Region.ready .any ops (listed.setIfInBounds k true) = [] ∧ Q .normal a' w') (fun a w hq => ⟨hr2, hq⟩)
    unfold wpOp
    rw [ho]
    simp only
    split
    · rename_i hw; rw [if_pos hw] at h1; exact .inl h1
    · rename_i hw; rw [if_neg hw] at h1; exact h1⟩
theorem wpOp_any {P : Program} {ops : Array Oper} {o : Oper} {a : Act} {K : Act → World → Prop} {Q : Exit → Act → World → Prop} {E : Prop} {w w' : World} {v : Value} (hgd : o.guard = none) (hr : (execOp a.eval o).run P w = .ok (.value v) w') (h : K (a.put o.dst v) w') :
    if Region.wanted o (yielded ops a.tmps) = true then Oper.wp P o a w K Q else E := by
  have hw : Region.wanted o (yielded ops a.tmps) = true := by simp [Region.wanted, hgd]
  rw [if_pos hw]
  unfold Oper.wp
  rw [hr]; exact h
end Go.Proofs.Ytljfjlijobjpdaa
