/- The walk of the reference's Ends; l[:n] of a row of texts; how far a cut reaches. Condition: sizes that a machine has. -/
import Derived.Test.YtnmkinihkgdkgaaDoorChu
import Derived.Test.YtnmkinihkgdkgaaDoorChy
namespace Go.Proofs.YtnmkinihkgdkgaaDoor
open Go.RowKit
set_option linter.unusedVariables false
set_option linter.unusedSimpArgs false

/-- A slice of ints in blocks from B on; what it reads as. -/
abbrev IntS (W : World) (B : Nat) (v : Value) (ns : List Nat) : Prop := W.ownsRow B 3 1 v ns.length (ns.map fun (n : Nat) => Value.int .i64 (n : Int))
def Ints (w : World) (A : Option Addr) (ns : List Nat) : Prop := ∀ (i : Nat) (h : i < ns.length), ∃ b o, A = some ⟨b, o, none⟩ ∧ b < w.heap.size ∧ w.cell? ⟨b, o + i, none⟩ = some (.int .i64 (ns[i] : Int))
theorem IntS.bel {W W' : World} {B : Nat} {v : Value} {ls : List Nat} (h : IntS W B v ls) (hb : Below W.heap.size W W') : IntS W' B v ls := by
  refine ⟨h.1, ?_⟩
  rcases h.2 with hn | ⟨g, cap, cur, hv, hB, hg, rest⟩
  · exact .inl hn
  · exact .inr ⟨g, cap, cur, hv, hB, (hb.block g (Array.getElem?_eq_some_iff.1 hg).1).trans hg, rest⟩
theorem IntS.own {W : World} {B : Nat} {v : Value} {ls : List Nat} (h : IntS W B v ls) {r : Nat} (hr : v.ownBlock = some r) : B ≤ r := by
  rcases h.2 with ⟨rfl, _⟩ | ⟨g, cap, cur, rfl, hB, _⟩
  · cases hr
  · cases hr; exact hB
theorem IntS.txt {W : World} {B : Nat} {v : Value} {ls : List Nat} (h : IntS W B v ls) : ∃ A c, v = .slice A ls.length c ∧ Ints W A ls := by
  rcases h.2 with ⟨rfl, h0⟩ | ⟨g, cap, cur, rfl, hB, hg, hn, hc, hcs, htk⟩
  · have : ls = [] := List.eq_nil_of_length_eq_zero h0
    subst this
    exact ⟨none, 0, rfl, fun i hi => by simp at hi⟩
  · refine ⟨_, cap, rfl, fun i hi => ⟨g, 0, rfl, (Array.getElem?_eq_some_iff.1 hg).1, ?_⟩⟩
    rw [Nat.zero_add, cell_of_row W g i _ _ (0, 0) hg]
    have h5 : (cur.toList.take (ls.length * 1))[i]? = some (.int .i64 (ls[i] : Int)) := by rw [htk]; simp [hi]
    rw [List.getElem?_take_of_lt (by omega)] at h5
    simpa using h5
theorem Ints.below {w w' : World} {A : Option Addr} {ls : List Nat} (h : Ints w A ls) (hb : Below w.heap.size w w') : Ints w' A ls := fun i hi => by
  obtain ⟨b, o, e, hl, hc⟩ := h i hi
  exact ⟨b, o, e, Nat.lt_of_lt_of_le hl hb.size, (hb.cell (p := ⟨b, o + i, none⟩) hl).trans hc⟩
theorem cell_new_int (W : World) (x : Int) (fz : Nat × Nat) : ∀ j u, ([.int .i64 x] : List Value)[j]? = some u → (W.alloc (.cells #[.int .i64 x] 3 fz)).cell? ((⟨W.heap.size, 0, none⟩ : Addr).add j) = some u := by
  intro j u hu
  rw [Addr.add_lit, Nat.zero_add, World.cell?]
  have : (W.alloc (.cells #[.int .i64 x] 3 fz)).heap[W.heap.size]? = some (.cells #[.int .i64 x] 3 fz) := heap_alloc_new W _
  rw [this]
  simpa using hu
theorem int_inf : (Tryd.prog.info? 3).map (fun i => (i.zero, i.size, i.bytes)) = some (some (.int .i64 0), 1, 8) := by kernel_rfl
theorem wpList_append_int {ops : Array Oper} {rest : List Oper} {o : Oper} {a : Act} {Q : Exit → Act → World → Prop} {W : World} (hgd : o.guard = none) (s x : Operand)
    (ho : o.op = .call { callee := .builtin .append, args := #[s, x], argTypes := #[33, 33] }) (B : Nat) (v : Value) (ls : List Nat) (y : Nat) (hs : a.eval s = v) (h : IntS W B v ls) (hB : B ≤ W.heap.size)
    (hx : a.eval x = .slice (some ⟨W.heap.size, 0, none⟩) 1 1) (hl : ls.length ≤ 1000000)
    (hK : ∀ v' w', IntS w' B v' (ls ++ [y]) → Below B W w' → wpList Tryd.prog ops Q rest (a.put o.dst v') w') :
    wpList Tryd.prog ops Q (o :: rest) a (W.alloc (.cells #[.int .i64 (y : Int)] 3 (0, 0))) := by
  obtain ⟨i0, hi, hz0, hz1, hz2⟩ := info_parts int_inf
  have hba : Below B W (W.alloc (.cells #[.int .i64 (y : Int)] 3 (0, 0))) := (Below.refl _ _).alloc hB _
  have h2 : IntS (W.alloc (.cells #[.int .i64 (y : Int)] 3 (0, 0))) B v ls := h.bel ((Below.refl _ _).alloc (Nat.le_refl _) _)
  refine wpList_append_own_at _ hgd s x 33 ho B 3 i0 _ 1 8 Tryd.underlying33 hi hz0 hz1 hz2 rfl (by decide) v ls.length _ hs h2 ⟨W.heap.size, 0, none⟩ 1 1 [.int .i64 (y : Int)] hx rfl (cell_new_int W y (0, 0)) (by simp [Value.oneCell']) (by unfold maxLen; omega) (by omega) (by simp; omega) ?_
  intro v' w' q1 q2 q3 q4
  have e : IntS w' B v' (ls ++ [y]) := by
    show w'.ownsRow _ _ _ _ _ _
    simpa using q1
  exact hK v' w' e (hba.grown q2 (by simp; omega) (fun k e => h2.own e))

/-- Where the frames of the first i texts end. -/
def ed (ls : List (List UInt8)) (i : Nat) : Nat := (frs z32 (ls.take i)).length
theorem ed_succ (ls : List (List UInt8)) (i : Nat) (h : i < ls.length) : ed ls (i + 1) = ed ls i + (text ls[i]).length + 32 := by
  unfold ed
  rw [List.take_succ_eq_append_getElem h, frs_snoc, List.length_append, List.length_append, nx_len]
  omega
theorem ed_zero (ls : List (List UInt8)) : ed ls 0 = 0 := by simp [ed, frs]
def eds (ls : List (List UInt8)) (i : Nat) : List Nat := (List.range i).map fun j => ed ls (j + 1)
theorem eds_succ (ls : List (List UInt8)) (i : Nat) : eds ls (i + 1) = eds ls i ++ [ed ls (i + 1)] := by simp [eds, List.range_succ]
theorem eds_len (ls : List (List UInt8)) (i : Nat) : (eds ls i).length = i := by simp [eds]
theorem ed_le (ls : List (List UInt8)) (i : Nat) (h : i ≤ ls.length) : ed ls i ≤ (frs z32 ls).length := by
  unfold ed
  have := frs_app (ls.take i) (ls.drop i) z32
  rw [List.take_append_drop] at this
  rw [this, List.length_append]; omega

set_option maxRecDepth 100000 in
set_option maxHeartbeats 4000000 in
theorem refEnds_any (A : Option Addr) (c : Nat) (ls : List (List UInt8)) (hl : ls.length ≤ 60) (hx : ∀ x ∈ ls, x.length ≤ 16384) (hf : (frs z32 ls).length ≤ 1000000) (w : World) (hT : Txt w w.heap.size A ls) :
    Calls Tryd.prog 15 #[.slice A ls.length c] w fun e w' => (∃ A' c', e = .returned (.slice A' ls.length c') ∧ Ints w' A' (eds ls ls.length)) ∧ Below w.heap.size w w' := by
  have CT := Lib.hid (fun l (h : l.length ≤ 16384) W => refText_any l (by omega) W)
  have HT := Lib.hid hT
  go_enter Tryd.func15, Tryd.ntmps15
  go_wp2_with fail
  clear hT
  go_loopw [3, 4, 5] (fun v p k wr => ∃ i : Nat, i ≤ ls.length ∧ k = .int .i64 (i : Int) ∧ p = .int .i64 (ed ls i : Int) ∧ Hid (IntS wr w.heap.size v (eds ls i) ∧ Below w.heap.size w wr)) (fun _ _ k _ => ls.length - (intOf k).toNat)
  case atStart => exact ⟨0, by omega, rfl, by rw [ed_zero]; rfl, World.ownsRow_nil _ _ _ _, Below.refl _ _⟩
  case round =>
    obtain ⟨i, hi, rfl, rfl, hS⟩ := hrel
    by_cases hk : i < ls.length
    · obtain ⟨b, o, hA, hb, hc⟩ := HT.out i hk
      subst hA
      have hlx := hx _ (List.getElem_mem hk)
      have he := ed_succ ls i hk
      have hle := ed_le ls (i + 1) hk
      have hcc : wr.cell? ⟨b, o + i, none⟩ = some (str ls[i]) := (hS.out.2.cell (p := ⟨b, o + i, none⟩) hb).trans hc
      have HE := Lib.hid he
      clear he hc
      generalize ls[i] = x at hcc hlx HE
      have kb : 0 ≤ (i : Int) ∧ (i : Int) < (ls.length : Int) := by omega
      have hle2 : ed ls i + (text x).length + 32 ≤ 1000000 := by have := HE.out; omega
      clear hle
      generalize hp : ed ls i = p at HE hle2
      have HP := Lib.hid hp
      clear hp
      have CX := Lib.hid (CT.out x hlx)
      generalize text x = tx at CX HE hle2
      have w1 : IntKind.i64.wrap ((p : Int) + (tx.length : Int)) = (p : Int) + (tx.length : Int) := IntWalk.i64_in _ (by omega)
      have w2 : IntKind.i64.wrap ((p : Int) + (tx.length : Int) + 32) = ((p + tx.length + 32 : Nat) : Int) := by rw [IntWalk.i64_in _ (by omega)]; omega
      have hel := eds_len ls i
      generalize p + tx.length + 32 = pn at HE w2
      go_wp2_with (first
        | (go_at_call 27; (with_reducible refine (CX.out _).mono ?_); rintro e w3 ⟨rfl, hb3⟩; have S3 := Lib.hid (And.intro (hS.out.1.bel hb3) (below_acc hS.out.2 hb3)); clear hb3)
        | (at_builtin; refine wpList_append_int rfl (.tmp 21) (.tmp 23) rfl w.heap.size _ (eds ls i) pn (by rfl) S3.out.1 S3.out.2.size (by rfl) (by omega) ?_; intro v' w4 g1 g2; have S4 := Lib.hid (And.intro g1 (S3.out.2.trans g2)); clear g1 g2))
      go_roundw
      case rel => exact ⟨i + 1, by omega, by go_num, by rw [HE.out], by rw [eds_succ, HE.out]; exact S4.out.1, S4.out.2⟩
      case measure => simp [intOf]; omega
    · obtain rfl : i = ls.length := by omega
      obtain ⟨A', c', rfl, hI⟩ := hS.out.1.txt
      rw [eds_len]
      have HI := Lib.hid hI
      clear hI CT HT
      go_wp2_with fail
      go_ret
      exact ⟨⟨_, _, rfl, HI.out⟩, hS.out.2⟩

/-- l[:m]. -/
theorem slice_take (A : Option Addr) (c m : Nat) (ls : List (List UInt8)) (hc : ls.length ≤ c) (hm : m ≤ ls.length) : ∃ A', (∀ W, (Instr.sliceAt 23 (.slice A ls.length c) none (some (.int .i64 (m : Int))) none).run Tryd.prog W = .ok (.slice A' m c) W) ∧ ∀ W B, Txt W B A ls → Txt W B A' (ls.take m) := by
  refine ⟨if c = 0 then A else A.map (·.add (0 * 1)), fun W => ?_, fun W B h i hi => ?_⟩
  · have kb : 0 ≤ (m : Int) ∧ (m : Int) ≤ (c : Int) := by omega
    have h0 : (0 : Int) ≤ (m : Int) := by omega
    go_simp
  · have hi2 : i < ls.length := by simp at hi; omega
    obtain ⟨b, o, hA, hb, hcell⟩ := h i hi2
    subst hA
    have hc0 : ¬ c = 0 := by omega
    refine ⟨b, o, ?_, hb, by simpa using hcell⟩
    rw [if_neg hc0]
    simp [Addr.add_lit]
/-- Fuel does not matter. -/
theorem scan_fuel (u : List UInt8) (f : Nat) (hf : u.length < f) : scan f z32 u 0 [] = sc u := by
  obtain ⟨rs, rest, h1, h2, h3, h4, h5⟩ := scan_is (u.length + 1) z32 u 0 [] (by omega)
  have e : sc u = (rs, hd z32 rs, (frs z32 rs).length) := by unfold sc; rw [h5]; simp
  rw [e]
  have := scan_frs rs f z32 0 [] rest h2 h3 (by omega)
  rw [← h1] at this
  simpa using this
end Go.Proofs.YtnmkinihkgdkgaaDoor
