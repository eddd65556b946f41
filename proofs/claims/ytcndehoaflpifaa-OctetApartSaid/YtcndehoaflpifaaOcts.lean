/- Rows of texts: what a slice of strings reads as; the walks of long, Begins, Same, Row and the reference's Row; a copy of a row by append. Condition: sizes that a machine has. -/
import Derived.Test.YtcndehoaflpifaaOctz
namespace Go.Proofs.Ytcndehoaflpifaa
open Go.RowKit
set_option linter.unusedVariables false

/-- A slice (its address A) holds the texts ls, all of them below block B. -/
def Txt (w : World) (B : Nat) (A : Option Addr) (ls : List (List UInt8)) : Prop :=
  ∀ (i : Nat) (h : i < ls.length), ∃ b o, A = some ⟨b, o, none⟩ ∧ b < B ∧ w.cell? ⟨b, o + i, none⟩ = some (str ls[i])
theorem Txt.below {w w' : World} {B B' : Nat} {A : Option Addr} {ls : List (List UInt8)} (h : Txt w B A ls) (hb : Below B' w w') (hB : B ≤ B') : Txt w' B A ls := fun i hi => by
  obtain ⟨b, o, e, hl, hc⟩ := h i hi
  exact ⟨b, o, e, hl, (hb.cell (p := ⟨b, o + i, none⟩) (Nat.lt_of_lt_of_le hl hB)).trans hc⟩
theorem Txt.more {w : World} {B B' : Nat} {A : Option Addr} {ls : List (List UInt8)} (h : Txt w B A ls) (hB : B ≤ B') : Txt w B' A ls := fun i hi => by
  obtain ⟨b, o, e, hl, hc⟩ := h i hi
  exact ⟨b, o, e, by omega, hc⟩

/-! ### A copy by append -/
theorem str_info : (Try.prog.info? 9).map (fun i => (i.zero, i.size, i.bytes)) = some (some (.string ByteArray.empty), 1, 16) := by kernel_rfl

theorem run_append_copy (w : World) (A : Option Addr) (c : Nat) (ls : List (List UInt8)) (h : Txt w w.heap.size A ls) (hl : ls.length ≤ 65536) :
    ∃ A' c' w', (Builtin.append_ #[34, 34] 34 #[.slice none 0 0, .slice A ls.length c]).run Try.prog w = .ok (.slice A' ls.length c') w' ∧ Txt w' w'.heap.size A' ls ∧ Below w.heap.size w w' := by
  obtain ⟨i0, hi, hz0, hz1, hz2⟩ := info_parts str_info
  cases A with
  | none =>
    have h0 : ls = [] := by
      cases ls with
      | nil => rfl
      | cons x r => obtain ⟨b, o, e, _⟩ := h 0 (by simp); cases e
    subst h0
    refine ⟨none, 0, w, ?_, fun i hi => by simp at hi, Below.refl _ _⟩
    simp [Builtin.append_, run_underlying Try.underlying34, sizeOf, typeInfo, hi, Builtin.lenOf, Builtin.firstCells]
  | some ad =>
    have hcell : ∀ j u, (ls.map str)[j]? = some u → w.cell? (ad.add j) = some u := by
      intro j u hu
      simp only [List.getElem?_map, Option.map_eq_some_iff] at hu
      obtain ⟨x, hx, rfl⟩ := hu
      obtain ⟨hj, rfl⟩ := List.getElem?_eq_some_iff.1 hx
      obtain ⟨b, o, e, _, hc⟩ := h j hj
      cases e
      rw [← hc]
      unfold Addr.add
      split
      · rename_i h0; subst h0; rfl
      · rfl
    obtain ⟨v', w', hrun, hown, hgr, hnil, hat⟩ := run_append_own_at (P := Try.prog) w w.heap.size 34 34 9 i0 _ 1 16 Try.underlying34 hi hz0 hz1 hz2 rfl (by omega) (.slice none 0 0) 0 []
      (World.ownsRow_nil w _ _ _) ad ls.length c (ls.map str) (by simp) hcell (by intro u hu; simp only [List.mem_map] at hu; obtain ⟨x, _, rfl⟩ := hu; rfl) (by simp only [maxLen]; omega) (by omega) (Nat.le_refl _)
    have hbl : Below w.heap.size w w' := (Below.refl _ _).grown hgr (Nat.le_refl _) (by simp [Value.ownBlock])
    simp only [Nat.zero_add, List.nil_append] at hown
    rcases hown.2 with ⟨rfl, h0⟩ | ⟨g, cap, cur, rfl, hbg, hg, hnc, hcm, hcs, htk⟩
    · have h1 : ls = [] := List.eq_nil_of_length_eq_zero h0
      subst h1
      exact ⟨none, 0, w', hrun, fun i hi => by simp at hi, hbl⟩
    · refine ⟨_, _, w', hrun, fun i hi => ⟨g, 0, rfl, ?_, ?_⟩, hbl⟩
      · have := (Array.getElem?_eq_some_iff.1 hg).1; exact this
      · have := hown.cells (g := g) rfl i (str ls[i]) (by simp [hi])
        rw [← this]
        unfold Addr.add
        split
        · rename_i e; subst e; rfl
        · rfl

theorem wpList_append_copy {ops : Array Oper} {rest : List Oper} {o : Oper} {a : Act} {Q : Exit → Act → World → Prop} {w : World} (hgd : o.guard = none) (s x : Operand)
    (ho : o.op = .call { callee := .builtin .append, args := #[s, x], argTypes := #[34, 34] }) (hty : o.type = 34)
    (A : Option Addr) (c : Nat) (ls : List (List UInt8)) (hs : a.eval s = .slice none 0 0) (hx : a.eval x = .slice A ls.length c)
    (hT : Txt w w.heap.size A ls) (hl : ls.length ≤ 65536)
    (h : ∀ A' c' w', Txt w' w'.heap.size A' ls → Below w.heap.size w w' → wpList Try.prog ops Q rest (a.put o.dst (.slice A' ls.length c')) w') :
    wpList Try.prog ops Q (o :: rest) a w := by
  refine wpList_plain hgd fun K hK => ?_
  obtain ⟨A', c', w', hr, h2, h3⟩ := run_append_copy w A c ls hT hl
  unfold Oper.wp execOp
  simp only [ho, hty, resolve, invoke, builtin, Sem.run_bind, Sem.run_pure, Result.andThen_ok, List.map_toArray, List.map_cons, List.map_nil, hs, hx, hr]
  exact hK _ _ (h A' c' w' h2 h3)

/-! ### long -/
def longGo : Nat → List (List UInt8) → Bool
  | _, [] => false
  | n, x :: r => decide (8192 < x.length) || (decide (8192 < n + x.length) || longGo (n + x.length) r)
def longB (ls : List (List UInt8)) : Bool := longGo 0 ls || decide (300 < ls.length)

theorem longGo_false : ∀ (ls : List (List UInt8)) (n : Nat), longGo n ls = false → (∀ x ∈ ls, x.length ≤ 8192) ∧ (ls = [] ∨ n + (ls.map List.length).sum ≤ 8192)
  | [], n, _ => by simp
  | x :: r, n, h => by
    simp only [longGo, Bool.or_eq_false_iff, decide_eq_false_iff_not] at h
    obtain ⟨h1, h2, h3⟩ := h
    obtain ⟨i1, i2⟩ := longGo_false r _ h3
    refine ⟨?_, .inr ?_⟩
    · intro y hy
      rcases List.mem_cons.1 hy with rfl | hy
      · omega
      · exact i1 y hy
    · rcases i2 with rfl | i2
      · simp; omega
      · simp only [List.map_cons, List.sum_cons]; omega
theorem longB_false {ls : List (List UInt8)} (h : longB ls = false) : (∀ x ∈ ls, x.length ≤ 8192) ∧ (ls.map List.length).sum ≤ 8192 ∧ ls.length ≤ 300 := by
  simp only [longB, Bool.or_eq_false_iff, decide_eq_false_iff_not] at h
  obtain ⟨h1, h2⟩ := longGo_false ls 0 h.1
  refine ⟨h1, ?_, by omega⟩
  rcases h2 with rfl | h2
  · simp
  · omega

set_option maxHeartbeats 400000 in
theorem long_any (A : Option Addr) (c : Nat) (ls : List (List UInt8)) (hl : ls.length ≤ 9223372036854775807) (hx : ∀ x ∈ ls, x.length ≤ 9223372036854775807) (B : Nat) (w : World) (hT : Txt w B A ls) :
    Calls Try.prog 15 #[.slice A ls.length c] w fun e w' => e = .returned (.bool (longB ls)) ∧ w = w' := by
  go_enter Try.func15, Try.ntmps15
  go_wp2_with fail
  go_loop [3, 4] (fun n k => ∃ i m : Nat, i ≤ ls.length ∧ m ≤ 8192 ∧ longGo 0 ls = longGo m (ls.drop i) ∧ n = .int .i64 m ∧ k = .int .i64 i) (fun _ k => ls.length - (intOf k).toNat)
  case atStart => exact ⟨0, 0, by omega, by omega, rfl, rfl, rfl⟩
  case round =>
    obtain ⟨i, m, hi, hm, hg, rfl, rfl⟩ := hrel
    by_cases hk : i < ls.length
    · have hd : ls.drop i = ls[i] :: ls.drop (i + 1) := List.drop_eq_getElem_cons hk
      rw [hd] at hg
      simp only [longGo] at hg
      obtain ⟨b, o, rfl, _, hc⟩ := hT i hk
      have hxi := hx ls[i] (List.getElem_mem hk)
      generalize ls[i] = x at hg hc hxi
      have Hg := Lib.hid hg
      clear hg hT hx hd
      by_cases h1 : 8192 < x.length
      · go_wp2_with fail
        go_ret
        exact ⟨ret_bool (by rw [longB, Hg.out]; simp [h1]), rfl⟩
      · by_cases h2 : 8192 < m + x.length
        · go_wp2_with fail
          go_ret
          exact ⟨ret_bool (by rw [longB, Hg.out]; simp [h2]), rfl⟩
        · go_wp2_with fail
          go_round
          case rel => exact ⟨i + 1, m + x.length, by omega, by omega, by rw [Hg.out]; simp [h1, h2], by go_num, by go_num⟩
          case measure => simp [intOf]; omega
    · have Hg := Lib.hid hg
      clear hg hT hx
      have he : ls.length ≤ i := by omega
      go_wp2_with fail
      go_ret
      refine ⟨ret_bool ?_, rfl⟩
      rw [longB, Hg.out, List.drop_eq_nil_of_le he]
      simp [longGo]; omega

/-! ### Row -/
def row (ls : List (List UInt8)) : List UInt8 := (ls.map text).flatten
theorem row_snoc (ls : List (List UInt8)) (i : Nat) (h : i < ls.length) : row (ls.take (i + 1)) = row (ls.take i) ++ text ls[i] := by
  rw [List.take_succ_eq_append_getElem h]
  simp only [row, List.map_append, List.flatten_append, List.map_cons, List.map_nil, List.flatten_cons, List.flatten_nil, List.append_nil]
theorem row_take_le (ls : List (List UInt8)) (i : Nat) : (row (ls.take i)).length ≤ (row ls).length := by
  have : row ls = row (ls.take i) ++ row (ls.drop i) := by
    conv => lhs; rw [← List.take_append_drop i ls]
    simp only [row, List.map_append, List.flatten_append]
  rw [this, List.length_append]; omega

set_option maxHeartbeats 1000000 in
theorem Row_any (A : Option Addr) (c : Nat) (ls : List (List UInt8)) (hl : ls.length ≤ 9223372036854775807) (hx : ∀ x ∈ ls, x.length ≤ 9223372036854775700) (hr : (row ls).length ≤ 9223372036854775807) (w : World) (hT : Txt w w.heap.size A ls) :
    Calls Try.prog 17 #[.slice A ls.length c] w fun e w' => e = .returned (str (row ls)) ∧ Below w.heap.size w w' := by
  go_enter Try.func17, Try.ntmps17
  go_wp2_with fail
  go_loopw [3, 8] (fun s k wr => ∃ i : Nat, i ≤ ls.length ∧ s = str (row (ls.take i)) ∧ k = .int .i64 i ∧ Below w.heap.size w wr) (fun _ k _ => ls.length - (intOf k).toNat)
  case atStart => exact ⟨0, by omega, rfl, rfl, Below.refl _ _⟩
  case round =>
    obtain ⟨i, hi, rfl, rfl, hB⟩ := hrel
    by_cases hk : i < ls.length
    · obtain ⟨b, o, rfl, _, hc⟩ := (hT.below hB (Nat.le_refl _)) i hk
      have hxi := hx ls[i] (List.getElem_mem hk)
      have hs := row_snoc ls i hk
      have hle := row_take_le ls (i + 1)
      generalize ls[i] = x at hs hc hxi
      rw [hs] at hle
      have a1 := fun W => str_add (P := Try.prog) (row (ls.take i)) (text x) (by simp at hle; omega) W
      have Hs := Lib.hid hs
      clear hs hT hx hle
      go_wp2_with (go_at_call 14; refine (Text_any x hxi _).mono ?_; rintro e w1 ⟨rfl, hb⟩)
      go_roundw
      case rel => exact ⟨i + 1, by omega, by rw [Hs.out], by go_num, below_step hB hb ⟨rfl, rfl, rfl, rfl⟩⟩
      case measure => simp [intOf]; omega
    · have he : ls.take i = ls := List.take_of_length_le (by omega)
      clear hT hx
      rw [he]
      go_wp2_with fail
      go_ret
      exact ⟨rfl, hB⟩

set_option maxHeartbeats 1000000 in
theorem refRow_any (A : Option Addr) (c : Nat) (ls : List (List UInt8)) (hl : ls.length ≤ 9223372036854775807) (hx : ∀ x ∈ ls, x.length ≤ 9223372036854775700) (hr : (row ls).length ≤ 9223372036854775807) (w : World) (hT : Txt w w.heap.size A ls) :
    Calls Try.prog 21 #[.slice A ls.length c] w fun e w' => e = .returned (str (row ls)) ∧ Below w.heap.size w w' := by
  go_enter Try.func21, Try.ntmps21
  go_wp2_with fail
  go_loopw [3, 4] (fun s k wr => ∃ i : Nat, i ≤ ls.length ∧ s = str (row (ls.take i)) ∧ k = .int .i64 i ∧ Below w.heap.size w wr) (fun _ k _ => ls.length - (intOf k).toNat)
  case atStart => exact ⟨0, by omega, rfl, rfl, Below.refl _ _⟩
  case round =>
    obtain ⟨i, hi, rfl, rfl, hB⟩ := hrel
    by_cases hk : i < ls.length
    · obtain ⟨b, o, rfl, _, hc⟩ := (hT.below hB (Nat.le_refl _)) i hk
      have hxi := hx ls[i] (List.getElem_mem hk)
      have hs := row_snoc ls i hk
      have hle := row_take_le ls (i + 1)
      generalize ls[i] = x at hs hc hxi
      rw [hs] at hle
      have a1 := fun W => str_add (P := Try.prog) (row (ls.take i)) (text x) (by simp at hle; omega) W
      have Hs := Lib.hid hs
      clear hs hT hx hle
      go_wp2_with (go_at_call 19; refine (refText_any x hxi _).mono ?_; rintro e w1 ⟨rfl, hb⟩)
      go_roundw
      case rel => exact ⟨i + 1, by omega, by rw [Hs.out], by go_num, below_step hB hb ⟨rfl, rfl, rfl, rfl⟩⟩
      case measure => simp [intOf]; omega
    · have he : ls.take i = ls := List.take_of_length_le (by omega)
      clear hT hx
      rw [he]
      go_wp2_with fail
      go_ret
      exact ⟨rfl, hB⟩

/-! ### Begins -/
def begins (s t : List UInt8) : Bool := decide (t.length ≤ s.length) && (s.take t.length == t)

set_option maxHeartbeats 400000 in
theorem Begins_any (s t : List UInt8) (hs : s.length ≤ 9223372036854775807) (ht : t.length ≤ 9223372036854775807) (w : World) :
    Calls Try.prog 16 #[str s, str t] w fun e w' => e = .returned (.bool (begins s t)) ∧ w = w' := by
  by_cases h : t.length ≤ s.length
  · have hb : begins s t = (s.take t.length == t) := by simp [begins, h]
    rw [hb]
    go_enter Try.func16, Try.ntmps16
    go_wp2_with fail
    go_ret
    exact ⟨rfl, rfl⟩
  · have hb : begins s t = false := by simp [begins, h]
    rw [hb]
    go_enter Try.func16, Try.ntmps16
    go_wp2_with fail
    go_ret
    exact ⟨rfl, rfl⟩

theorem begins_iff (s t : List UInt8) : begins s t = true ↔ ∃ r, s = t ++ r := by
  unfold begins
  constructor
  · intro h
    simp only [Bool.and_eq_true, decide_eq_true_eq, beq_iff_eq] at h
    exact ⟨s.drop t.length, by rw [← h.2, List.length_take, Nat.min_eq_left h.1, List.take_append_drop]⟩
  · rintro ⟨r, rfl⟩
    simp
theorem begins_num (v w : Nat) (hv : v < 18446744073709551616) (hw : w < 18446744073709551616) : begins (num v) (num w) = decide (v = w) := by
  by_cases h : v = w
  · subst h; rw [decide_eq_true rfl]; exact (begins_iff _ _).2 ⟨[], by simp⟩
  · rw [decide_eq_false h]
    cases hb : begins (num v) (num w) with
    | false => rfl
    | true => obtain ⟨r, e⟩ := (begins_iff _ _).1 hb; exact absurd (num_begins v w hv hw r e) h
theorem begins_text (a b : List UInt8) (ha : a.length < 18446744073709551616) (hb : b.length < 18446744073709551616) : begins (text a) (text b) = (a == b) := by
  by_cases h : a = b
  · subst h; rw [beq_self_eq_true]; exact (begins_iff _ _).2 ⟨[], by simp⟩
  · rw [beq_eq_false_iff_ne.2 h]
    cases hq : begins (text a) (text b) with
    | false => rfl
    | true => obtain ⟨r, e⟩ := (begins_iff _ _).1 hq; exact absurd (text_begins a b ha hb [] r (by simpa using e)).1 h
theorem row_inj : ∀ a b : List (List UInt8), a.length = b.length → (∀ x ∈ a, x.length < 18446744073709551616) → (∀ x ∈ b, x.length < 18446744073709551616) → row a = row b → a = b
  | [], [], _, _, _, _ => rfl
  | [], _ :: _, h, _, _, _ => by simp at h
  | _ :: _, [], h, _, _, _ => by simp at h
  | x :: a, y :: b, h, ha, hb, e => by
    have e2 : text x ++ row a = text y ++ row b := e
    obtain ⟨rfl, e3⟩ := text_begins x y (ha x (by simp)) (hb y (by simp)) _ _ e2
    rw [row_inj a b (by simpa using h) (fun z hz => ha z (by simp [hz])) (fun z hz => hb z (by simp [hz])) e3]
theorem text_len_le (x : List UInt8) (h : x.length < 18446744073709551616) : (text x).length ≤ x.length + 9 := by
  have := num_len h
  simp [text]; omega
theorem row_len_le : ∀ ls : List (List UInt8), (∀ x ∈ ls, x.length < 18446744073709551616) → (row ls).length ≤ (ls.map List.length).sum + 9 * ls.length
  | [], _ => by simp [row]
  | x :: r, h => by
    have h1 := text_len_le x (h x (by simp))
    have h2 := row_len_le r (fun y hy => h y (by simp [hy]))
    have h3 : (row (x :: r)).length = (text x).length + (row r).length := by simp [row]
    rw [h3]; simp only [List.map_cons, List.sum_cons, List.length_cons]; omega

/-! ### Same -/
set_option maxHeartbeats 1000000 in
theorem Same_any (A A' : Option Addr) (c c' : Nat) (ls ms : List (List UInt8)) (hl : ls.length ≤ 9223372036854775807) (hm : ms.length ≤ 9223372036854775807) (B : Nat) (w : World) (hT : Txt w B A ls) (hU : Txt w B A' ms) :
    Calls Try.prog 18 #[.slice A ls.length c, .slice A' ms.length c'] w fun e w' => e = .returned (.bool (decide (ls = ms))) ∧ ∃ n, w' = w.drewN n := by
  by_cases he : ls.length = ms.length
  · have hne : ((ls.length : Int) != (ms.length : Int)) = false := by simp [he]
    have He := Lib.hid he
    clear he
    go_enter Try.func18, Try.ntmps18
    go_wp2_with fail
    go_loopw [5] (fun k wr => ∃ i n : Nat, i ≤ ls.length ∧ ls.take i = ms.take i ∧ k = .int .i64 i ∧ wr = w.drewN n) (fun k _ => ls.length - (intOf k).toNat)
    case atStart => exact ⟨0, 0, by omega, rfl, rfl, rfl⟩
    case round =>
      obtain ⟨i, n, hi, ht, rfl, rfl⟩ := hrel
      by_cases hk : i < ls.length
      · have hk' : i < ms.length := by have := He.out; omega
        obtain ⟨b, o, rfl, _, hc⟩ := hT i hk
        obtain ⟨b', o', rfl, _, hc'⟩ := hU i hk'
        have hs : ls.take (i + 1) = ls.take i ++ [ls[i]] := List.take_succ_eq_append_getElem hk
        have hs' : ms.take (i + 1) = ms.take i ++ [ms[i]] := List.take_succ_eq_append_getElem hk'
        have hq : ls = ms → ls[i] = ms[i] := by rintro rfl; rfl
        have Hs := Lib.hid hs
        have Hs' := Lib.hid hs'
        have Hq := Lib.hid hq
        have Ht := Lib.hid ht
        clear hs hs' hT hU ht hq
        generalize ls[i] = x at hc Hs Hq
        generalize ms[i] = y at hc' Hs' Hq
        have kb : 0 ≤ (i : Int) ∧ (i : Int) < (ls.length : Int) := by omega
        have kb' : 0 ≤ (i : Int) ∧ (i : Int) < (ms.length : Int) := by omega
        go_wp2_with fail
        go_quiet (fail)
        cases hxy : (x == y)
        · go_wp2
          go_ret
          have hne2 : ¬ ls = ms := fun e => by have h1 := Hq.out e; subst h1; simp at hxy
          exact ⟨ret_bool (by simp [hne2]), _, World.drewN_drewN _ _ _⟩
        · obtain rfl : x = y := by simpa using hxy
          clear hxy
          go_wp2
          go_roundw
          case rel => exact ⟨i + 1, n + nq, by omega, by rw [Hs.out, Hs'.out, Ht.out], by go_num, rfl⟩
          case measure => simp [intOf]; omega
      · have hil : ls.length ≤ i := by omega
        have hlm : ls = ms := by rw [List.take_of_length_le hil, List.take_of_length_le (by have := He.out; omega)] at ht; exact ht
        have Hlm := Lib.hid hlm
        clear hlm ht hT hU
        go_wp2_with fail
        go_ret
        exact ⟨ret_bool (by simp [Hlm.out]), n, rfl⟩
  · have hd : decide (ls = ms) = false := by
      rw [decide_eq_false_iff_not]
      rintro rfl
      exact he rfl
    rw [hd]
    have hne : ((ls.length : Int) != (ms.length : Int)) = true := by simp; omega
    clear he hd
    go_enter Try.func18, Try.ntmps18
    go_wp2_with fail
    go_ret
    exact ⟨rfl, 0, rfl⟩
end Go.Proofs.Ytcndehoaflpifaa
