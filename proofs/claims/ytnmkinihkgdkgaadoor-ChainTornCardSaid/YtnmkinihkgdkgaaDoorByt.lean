/- A slice of bytes of the call's own: what it reads as; append to it; its text. Condition: sizes that a machine has. -/
import Derived.Test.YtnmkinihkgdkgaaDoorStr
import Derived.ArgAppend
import Derived.Laws.IdiomCopy
import Derived.Laws.IdiomStrings
import Derived.Laws.BytesArg
import Derived.Lib.LazyBuf
import Derived.Deep.AppendLies
namespace Go.Proofs.YtnmkinihkgdkgaaDoor
open Go.RowKit
set_option linter.unusedVariables false

/-- A slice of bytes in a block from B on: it reads as l, and may be written. -/
def ByS (W : World) (B : Nat) (v : Value) (l : List UInt8) : Prop :=
  (v = .slice none 0 0 ∧ l = []) ∨ ∃ g cap, v = .slice (some ⟨g, 0, none⟩) l.length cap ∧ B ≤ g ∧ g < W.heap.size ∧ l.length ≤ cap ∧ cap ≤ maxLen ∧
    (∀ j, j < cap → (W.cell? ⟨g, j, none⟩).isSome = true ∧ W.frozen? ⟨g, j, none⟩ = false) ∧ ∀ j (h : j < l.length), W.cell? ⟨g, j, none⟩ = some (.int .u8 (l[j].toNat : Int))

def byc (l : List UInt8) : List Value := l.map fun b => Value.int .u8 (b.toNat : Int)
theorem byc_len (l : List UInt8) : (byc l).length = l.length := by simp [byc]
theorem byc_one (l : List UInt8) : ∀ u ∈ byc l, u.oneCell' = true := by intro u hu; simp only [byc, List.mem_map] at hu; obtain ⟨x, _, rfl⟩ := hu; rfl
theorem u8_info : (Tryd.prog.info? 5).map (fun i => (i.zero, i.size, i.bytes)) = some (some (.int .u8 0), 1, 1) := by kernel_rfl

theorem ByS.nil (W : World) (B : Nat) : ByS W B (.slice none 0 0) [] := .inl ⟨rfl, rfl⟩
theorem ByS.below {W W' : World} {B : Nat} {v : Value} {l : List UInt8} (h : ByS W B v l) (hb : Below W.heap.size W W') : ByS W' B v l := by
  rcases h with h | ⟨g, cap, e, hB, hl, h1, h2, h3, h4⟩
  · exact .inl h
  · refine .inr ⟨g, cap, e, hB, Nat.lt_of_lt_of_le hl hb.size, h1, h2, fun j hj => ?_, fun j hj => ?_⟩
    · rw [hb.cell (p := ⟨g, j, none⟩) hl, hb.frozen (p := ⟨g, j, none⟩) hl]; exact h3 j hj
    · rw [hb.cell (p := ⟨g, j, none⟩) hl]; exact h4 j hj
theorem ByS.heap {W W' : World} {B : Nat} {v : Value} {l : List UInt8} (h : ByS W B v l) (e : W'.heap = W.heap) : ByS W' B v l := by
  rcases h with h | ⟨g, cap, e1, hB, hl, h1, h2, h3, h4⟩
  · exact .inl h
  · refine .inr ⟨g, cap, e1, hB, by rw [e]; exact hl, h1, h2, fun j hj => ?_, fun j hj => ?_⟩
    · have := h3 j hj
      simp only [World.cell?, World.frozen?, e] at this ⊢
      exact this
    · have := h4 j hj
      simp only [World.cell?, e] at this ⊢
      exact this
theorem ByS.of_owns {W : World} {B : Nat} {v : Value} {l : List UInt8} (h : W.ownsRow B 5 1 v l.length (byc l)) : ByS W B v l := by
  rcases h.2 with ⟨rfl, h0⟩ | ⟨g, cap, cur, rfl, hbg, hg, hnc, hcm, hcs, htk⟩
  · exact .inl ⟨rfl, List.eq_nil_of_length_eq_zero h0⟩
  · refine .inr ⟨g, cap, rfl, hbg, (Array.getElem?_eq_some_iff.1 hg).1, hnc, hcm, fun j hj => ?_, fun j hj => ?_⟩
    · have hjc : j < cur.size := by omega
      simp [World.cell?, World.frozen?, hg, hjc]
    · have h5 : (cur.toList.take (l.length * 1))[j]? = some (Value.int .u8 (l[j].toNat : Int)) := by rw [htk]; simp [byc, hj]
      rw [List.getElem?_take_of_lt (by omega)] at h5
      simp only [World.cell?, hg]
      simpa using h5

theorem byc_cells {W : World} {g o : Nat} {l : List UInt8} (h : ∀ j (hj : j < l.length), W.cell? ⟨g, o + j, none⟩ = some (.int .u8 (l[j].toNat : Int))) : ∀ j u, (byc l)[j]? = some u → W.cell? ((⟨g, o, none⟩ : Addr).add j) = some u := by
  intro j u hu
  simp only [byc, List.getElem?_map, Option.map_eq_some_iff] at hu
  obtain ⟨x, hx, rfl⟩ := hu
  obtain ⟨hj, rfl⟩ := List.getElem?_eq_some_iff.1 hx
  rw [Addr.add_lit]
  exact h j hj

theorem run_append_bys (W : World) (B : Nat) (v : Value) (l : List UInt8) (h : ByS W B v l) (hBW : B ≤ W.heap.size) (ad : Addr) (m c : Nat) (n : List UInt8) (hm : n.length = m) (hn : ∀ j u, (byc n)[j]? = some u → W.cell? (ad.add j) = some u)
    (hb : l.length + m ≤ 70368744177664) (ty : TypeId) :
    ∃ v' W', (Builtin.append_ #[44, 44] ty #[v, .slice (some ad) m c]).run Tryd.prog W = .ok v' W' ∧ ByS W' B v' (l ++ n) ∧ Below B W W' := by
  obtain ⟨i0, hi, hz0, hz1, hz2⟩ := info_parts u8_info
  subst hm
  rcases h with ⟨rfl, rfl⟩ | ⟨g, cap, rfl, hB, hl, h1, h2, h3, h4⟩
  · obtain ⟨v', w', hr, ho, hg, _⟩ := run_append_own (P := Tryd.prog) W B 44 ty 5 i0 _ 1 1 Tryd.underlying44 hi hz0 hz1 hz2 rfl (by omega) (.slice none 0 0) 0 [] (World.ownsRow_nil W _ _ _) ad n.length c (byc n) (by simp [byc_len]) hn (byc_one n) (by simp only [maxLen]; simp at hb; omega) (by simp at hb; omega) hBW
    refine ⟨v', w', hr, ?_, (Below.refl _ _).grown hg hBW (by simp [Value.ownBlock])⟩
    simp only [Nat.zero_add, List.nil_append] at ho
    exact ByS.of_owns ho
  · by_cases hroom : l.length + n.length ≤ cap
    · have hr := run_append_room_cells (P := Tryd.prog) W 44 ty 5 i0 Tryd.underlying44 hi g 0 l.length cap ad n.length c (byc n) (by simp [byc_len, hz1]) hn (byc_one n) hroom
        (fun j hj => by rw [hz1]; rw [byc_len] at hj; simpa using (h3 (0 + l.length * 1 + j) (by omega)).1) (fun j hj => by rw [hz1]; rw [byc_len] at hj; exact (h3 (0 + l.length * 1 + j) (by omega)).2)
      rw [hz1] at hr
      simp only [Nat.zero_add, Nat.mul_one] at hr
      refine ⟨_, _, hr, .inr ⟨g, cap, by simp, hB, ?_, by simpa using hroom, h2, fun j hj => ?_, fun j hj => ?_⟩, ?_⟩
      · have := (below_setCells (B := 0) (b := g) (a := W) (Nat.zero_le _) (byc n) l.length W (Below.refl _ _)).size
        omega
      · refine ⟨?_, ?_⟩
        · by_cases hin : l.length ≤ j ∧ j < l.length + n.length
          · have := World.cell?_setCells_in g (byc n) l.length W (fun k hk => by rw [byc_len] at hk; exact (h3 _ (by omega)).1) (j - l.length) (by rw [byc_len]; omega)
            rw [show l.length + (j - l.length) = j by omega] at this
            rw [this]; rfl
          · rw [World.cell?_setCells_out g (byc n) l.length W ⟨g, j, none⟩ (fun _ _ => by simp only [byc_len]; omega)]
            exact (h3 j hj).1
        · rw [World.frozen?_setCells]; exact (h3 j hj).2
      · by_cases hin : l.length ≤ j
        · have hj' : j < l.length + n.length := by simpa using hj
          have := World.cell?_setCells_in g (byc n) l.length W (fun k hk => by rw [byc_len] at hk; exact (h3 _ (by omega)).1) (j - l.length) (by rw [byc_len]; omega)
          rw [show l.length + (j - l.length) = j by omega] at this
          rw [this, List.getElem_append_right hin]
          simp [byc]
        · rw [World.cell?_setCells_out g (byc n) l.length W ⟨g, j, none⟩ (fun _ _ => by simp only [byc_len]; omega), List.getElem_append_left (by omega)]
          exact h4 j (by omega)
      · exact below_setCells hB (byc n) l.length W (Below.refl _ _)
    · obtain ⟨v', w', hr, ho, hg⟩ := run_append_arg_grows (P := Tryd.prog) W 44 ty 5 i0 _ 1 1 Tryd.underlying44 hi hz0 hz1 hz2 rfl (by omega) ⟨g, 0, none⟩ l.length cap (byc l) (by simp [byc_len]) (byc_cells (fun j hj => by rw [Nat.zero_add]; exact h4 j hj))
        ad n.length c (byc n) (by simp [byc_len]) hn (by omega) (by simp only [maxLen]; omega) (by omega)
      have ho2 : w'.ownsRow B 5 1 v' (l ++ n).length (byc (l ++ n)) := by
        have e1 : byc (l ++ n) = byc l ++ byc n := by simp [byc]
        rw [e1, List.length_append]
        exact ⟨ho.1, ho.2.imp id fun ⟨g', c', cu, a1, a2, a3⟩ => ⟨g', c', cu, a1, by omega, a3⟩⟩
      exact ⟨v', w', hr, ByS.of_owns ho2, (Below.refl _ _).grown hg hBW (by simp)⟩

theorem wpList_append_bys {ops : Array Oper} {rest : List Oper} {o : Oper} {a : Act} {Q : Exit → Act → World → Prop} {w : World} (hgd : o.guard = none) (s x : Operand)
    (ho : o.op = .call { callee := .builtin .append, args := #[s, x], argTypes := #[44, 44] })
    (B : Nat) (v : Value) (l : List UInt8) (hs : a.eval s = v) (hT : ByS w B v l) (hB : B ≤ w.heap.size) (ad : Addr) (m c : Nat) (n : List UInt8) (hx : a.eval x = .slice (some ad) m c) (hm : n.length = m) (hn : ∀ j u, (byc n)[j]? = some u → w.cell? (ad.add j) = some u)
    (hb : l.length + m ≤ 70368744177664)
    (h : ∀ v' w', ByS w' B v' (l ++ n) → Below B w w' → wpList Tryd.prog ops Q rest (a.put o.dst v') w') :
    wpList Tryd.prog ops Q (o :: rest) a w := by
  refine wpList_plain hgd fun K hK => ?_
  obtain ⟨v', w', hr, h2, h3⟩ := run_append_bys w B v l hT hB ad m c n hm hn hb o.type
  unfold Oper.wp execOp
  simp only [ho, resolve, invoke, builtin, Sem.run_bind, Sem.run_pure, Result.andThen_ok, List.map_toArray, List.map_cons, List.map_nil, hs, hx, hr]
  exact hK _ _ (h v' w' h2 h3)

theorem step_append_bys {ops : Array Oper} {o : Oper} {a : Act} {K : Act → World → Prop} {Q : Exit → Act → World → Prop} {E : Prop} {w : World} (hgd : o.guard = none) (s x : Operand)
    (ho : o.op = .call { callee := .builtin .append, args := #[s, x], argTypes := #[44, 44] })
    (B : Nat) (v : Value) (l : List UInt8) (hs : a.eval s = v) (hT : ByS w B v l) (hB : B ≤ w.heap.size) (ad : Addr) (m c : Nat) (n : List UInt8) (hx : a.eval x = .slice (some ad) m c) (hm : n.length = m) (hn : ∀ j u, (byc n)[j]? = some u → w.cell? (ad.add j) = some u)
    (hb : l.length + m ≤ 70368744177664)
    (h : ∀ v' w', ByS w' B v' (l ++ n) → Below B w w' → K (a.put o.dst v') w') :
    if Region.wanted o (yielded ops a.tmps) = true then Oper.wp Tryd.prog o a w K Q else E := by
  have hw : Region.wanted o (yielded ops a.tmps) = true := by simp [Region.wanted, hgd]
  rw [if_pos hw]
  obtain ⟨v', w', hr, h2, h3⟩ := run_append_bys w B v l hT hB ad m c n hm hn hb o.type
  unfold Oper.wp execOp
  simp only [ho, resolve, invoke, builtin, Sem.run_bind, Sem.run_pure, Result.andThen_ok, List.map_toArray, List.map_cons, List.map_nil, hs, hx, hr]
  exact h v' w' h2 h3

theorem conv_bys {W : World} {B : Nat} {v : Value} {l : List UInt8} (h : ByS W B v l) : (convert 44 9 v).run Tryd.prog W = .ok (str l) W := by
  rcases h with ⟨rfl, rfl⟩ | ⟨g, cap, rfl, hB, hl, h1, h2, h3, h4⟩
  · rw [run_convert_bytes_nil W 44 5 Tryd.underlying44 Tryd.underlying5 _ _ 9 Tryd.underlying9]
    rfl
  · refine run_convert_bytes_back (P := Tryd.prog) W 44 9 5 ⟨g, 0, none⟩ cap l Tryd.underlying44 Tryd.underlying5 Tryd.underlying9 (fun j hj => ?_)
    rw [Addr.add_lit, Nat.zero_add]; exact h4 j hj

/-- '[]byte(s)' -/
theorem run_bytes_str (W : World) (l : List UInt8) (hl : l.length ≤ 70368744177664) :
    ∃ v W', (convert 9 44 (str l)).run Tryd.prog W = .ok v W' ∧ ByS W' W.heap.size v l ∧ Below W.heap.size W W' ∧ W'.heap.size = W.heap.size + 1 ∧ ∃ c, v = .slice (some ⟨W.heap.size, 0, none⟩) l.length c := by
  have hr := run_bytes_of_string (P := Tryd.prog) W 9 44 5 ⟨l.toArray⟩ Tryd.underlying9 Tryd.underlying44 Tryd.underlying5
  have hsz : (ByteArray.mk l.toArray).size = l.length := by simp [ByteArray.size]
  rw [hsz] at hr
  have hge := grownCap_ge W l.length 0 5
  have hcm : grownCap W l.length 0 5 ≤ maxLen := grownCap_le_maxLen W l.length 0 5 (by simp only [maxLen]; omega)
  generalize grownCap W l.length 0 5 = cap at hr hge hcm
  have hC : (bytesRow ⟨l.toArray⟩ cap).size = cap := by simp [bytesRow, hsz]; omega
  have hh : (W.drew.alloc (.cells (bytesRow ⟨l.toArray⟩ cap) 5 ((bytesRow ⟨l.toArray⟩ cap).size, (bytesRow ⟨l.toArray⟩ cap).size + 1))).heap[W.heap.size]? = some (.cells (bytesRow ⟨l.toArray⟩ cap) 5 ((bytesRow ⟨l.toArray⟩ cap).size, (bytesRow ⟨l.toArray⟩ cap).size + 1)) := heap_alloc_new W.drew _
  refine ⟨_, _, hr, .inr ⟨W.heap.size, cap, rfl, Nat.le_refl _, by simp, hge, hcm, fun j hj => ?_, fun j hj => ?_⟩, ((Below.refl _ W).drew).alloc (Nat.le_refl _) _, by simp, cap, rfl⟩
  · have hjc : j < (bytesRow ⟨l.toArray⟩ cap).size := by omega
    have h1 : ¬ ((bytesRow ⟨l.toArray⟩ cap).size ≤ j) := by omega
    simp only [World.cell?, World.frozen?, hh]
    simp [hjc, h1]
  · have hjc : j < (bytesRow ⟨l.toArray⟩ cap).size := by omega
    simp only [World.cell?, hh]
    simp [bytesRow, Array.getElem?_append, hj]

theorem wpList_conv_bytes {ops : Array Oper} {rest : List Oper} {o : Oper} {a : Act} {Q : Exit → Act → World → Prop} {w : World} (hgd : o.guard = none) (x : Operand)
    (ho : o.op = .convert 9 44 x) (l : List UInt8) (hx : a.eval x = str l) (hl : l.length ≤ 70368744177664)
    (h : ∀ c w', ByS w' w.heap.size (.slice (some ⟨w.heap.size, 0, none⟩) l.length c) l → Below w.heap.size w w' → w'.heap.size = w.heap.size + 1 → wpList Tryd.prog ops Q rest (a.put o.dst (.slice (some ⟨w.heap.size, 0, none⟩) l.length c)) w') :
    wpList Tryd.prog ops Q (o :: rest) a w := by
  refine wpList_plain hgd fun K hK => ?_
  obtain ⟨v, w', hr, h2, h3, h4, c, rfl⟩ := run_bytes_str w l hl
  unfold Oper.wp execOp
  simp only [ho, Sem.run_bind, Sem.run_pure, Result.andThen_ok, hx, hr]
  exact hK _ _ (h c w' h2 h3 h4)

/-- One byte, a few bytes, laid in a block of their own. -/
theorem new_bytes (W : World) (n : List UInt8) (fz : Nat × Nat) : ∀ j u, (byc n)[j]? = some u → (W.alloc (.cells (byc n).toArray 5 fz)).cell? ((⟨W.heap.size, 0, none⟩ : Addr).add j) = some u := by
  intro j u hu
  rw [Addr.add_lit, Nat.zero_add, World.cell?]
  have : (W.alloc (.cells (byc n).toArray 5 fz)).heap[W.heap.size]? = some (.cells (byc n).toArray 5 fz) := heap_alloc_new W _
  rw [this]
  simpa using hu
theorem ByS.shape {W : World} {B : Nat} {v : Value} {l : List UInt8} (h : ByS W B v l) (hl : 0 < l.length) : ∃ g cap, v = .slice (some ⟨g, 0, none⟩) l.length cap := by
  rcases h with ⟨_, rfl⟩ | ⟨g, cap, e, _⟩
  · simp at hl
  · exact ⟨g, cap, e⟩
theorem ByS.shape2 {W : World} {B : Nat} {v : Value} {l : List UInt8} (h : ByS W B v l) (hl : 0 < l.length) : ∃ g n cap, v = .slice (some ⟨g, 0, none⟩) n cap ∧ Hid (n = l.length) := by
  obtain ⟨g, cap, e⟩ := h.shape hl
  exact ⟨g, _, cap, e, rfl⟩
theorem ByS.mono {W : World} {B B' : Nat} {v : Value} {l : List UInt8} (h : ByS W B v l) (hB : B' ≤ B) : ByS W B' v l :=
  h.imp id fun ⟨g, cap, e, h1, h2⟩ => ⟨g, cap, e, by omega, h2⟩
theorem ByS.alloc {W : World} {B : Nat} {v : Value} {l : List UInt8} (h : ByS W B v l) (o : Obj) : ByS (W.alloc o) B v l := h.below ((Below.refl _ W).alloc (Nat.le_refl _) o)
end Go.Proofs.YtnmkinihkgdkgaaDoor
