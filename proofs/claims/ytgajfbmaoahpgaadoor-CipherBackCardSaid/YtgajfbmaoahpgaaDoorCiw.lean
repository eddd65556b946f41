/- The walk of cipher's Open. Condition: at most 4096 bytes; sizes that a machine has; the table k reads as the standard's numbers. -/
import Derived.Test.YtgajfbmaoahpgaaDoorCiv
import Derived.Test.YtgajfbmaoahpgaaDoorHmu
namespace Go.Proofs.YtgajfbmaoahpgaaDoor
open Go.RowKit Go.Shelf
set_option linter.unusedVariables false
set_option linter.unusedSimpArgs false

/-- 's[:h]', 's[l:]', 's[l:h]' of a string. -/
theorem run_slice_h (l : List UInt8) (h : Nat) (zh : Int) (eh : zh = (h : Int)) (hl : h ≤ l.length) (W : World) :
    (Instr.sliceAt 9 (str l) none (some (.int .i64 zh)) none).run Tryd.prog W = .ok (str (l.take h)) W := by
  subst eh
  have hs : (ByteArray.mk l.toArray).size = l.length := by simp [ByteArray.size]
  rw [run_sliceAt_string W 9 _ _ _ _ Tryd.underlying9, run_slice_string_h W 9 _ Tryd.underlying9 .i64 (h : Int) (by omega) (by rw [hs]; omega)]
  simp [extract_list]
theorem run_slice_l (l : List UInt8) (a : Nat) (za : Int) (ea : za = (a : Int)) (hl : a ≤ l.length) (W : World) :
    (Instr.sliceAt 9 (str l) (some (.int .i64 za)) none none).run Tryd.prog W = .ok (str (l.drop a)) W := by
  subst ea
  have hs : (ByteArray.mk l.toArray).size = l.length := by simp [ByteArray.size]
  rw [run_sliceAt_string W 9 _ _ _ _ Tryd.underlying9, run_slice_string_l W 9 _ Tryd.underlying9 .i64 (a : Int) (by omega) (by rw [hs]; omega)]
  simp [extract_list, hs]
theorem run_slice_lh (l : List UInt8) (a h : Nat) (za zh : Int) (ea : za = (a : Int)) (eh : zh = (h : Int)) (hah : a ≤ h) (hl : h ≤ l.length) (W : World) :
    (Instr.sliceAt 9 (str l) (some (.int .i64 za)) (some (.int .i64 zh)) none).run Tryd.prog W = .ok (str ((l.take h).drop a)) W := by
  subst ea eh
  have hs : (ByteArray.mk l.toArray).size = l.length := by simp [ByteArray.size]
  rw [run_sliceAt_string W 9 _ _ _ _ Tryd.underlying9, run_slice_string W 9 _ .i64 .i64 (a : Int) (h : Int) Tryd.underlying9 (by omega) (by omega) (by rw [hs]; omega)]
  simp [extract_list]

def cut (x : List UInt8) : List UInt8 := (x.take (x.length - 32)).drop 12
def tagOk (key x : List UInt8) : Bool := hm (hm key tagT) (x.take (x.length - 32)) == x.drop (x.length - 32)
def openT (key x : List UInt8) : List UInt8 := xst (hm key streamT) (x.take 12) (cut x) (cut x).length

theorem Open_end (key x : List UInt8) (w : World) (hx : x.length < 44) :
    Calls Tryd.prog 11 #[str key, str x] w fun e w' => e = .returned (.tuple #[str [], .int .i64 6]) ∧ Below w.heap.size w w' := by
  have d1 : decide ((x.length : Int) - 32 < 12) = true := by simp; omega
  go_enter Tryd.func11, Tryd.ntmps11
  go_wp2_with fail
  go_ret2
  exact ⟨rfl, Below.refl _ _⟩

/-- The memory of a call of Open. -/
structure Om (w W : World) (key : List UInt8) (p g1 a1 b1 g2 a2 b2 : Nat) : Prop where
  row : W.heap[p]? = some (.cells #[.pointer (some ⟨g1, 0, none⟩), .pointer (some ⟨g2, 0, none⟩)] 36 (0, 0))
  k : PairAt W key g1 a1 b1 g2 a2 b2
  b : Below w.heap.size w W
theorem Om.bel {w W W' : World} {key : List UInt8} {p g1 a1 b1 g2 a2 b2 : Nat} (T : Om w W key p g1 a1 b1 g2 a2 b2) (hb : Below W.heap.size W W') : Om w W' key p g1 a1 b1 g2 a2 b2 :=
  ⟨(hb.block _ (Array.getElem?_eq_some_iff.1 T.row).1).trans T.row, T.k.bel hb, below_acc T.b hb⟩
theorem Om.draw {w W : World} {key : List UInt8} {p g1 a1 b1 g2 a2 b2 : Nat} (T : Om w W key p g1 a1 b1 g2 a2 b2) : Om w W.drew key p g1 a1 b1 g2 a2 b2 := ⟨T.row, T.k.heap rfl, T.b.drew⟩
theorem Om.s {w W : World} {key : List UInt8} {p g1 a1 b1 g2 a2 b2 : Nat} (T : Om w W key p g1 a1 b1 g2 a2 b2) : W.cell? ⟨p, 0, none⟩ = some (.pointer (some ⟨g1, 0, none⟩)) ∧ W.cell? ⟨p, 1, none⟩ = some (.pointer (some ⟨g2, 0, none⟩)) ∧ Om w W key p g1 a1 b1 g2 a2 b2 :=
  ⟨cell_of_row _ _ 0 _ _ (0, 0) T.row, cell_of_row _ _ 1 _ _ (0, 0) T.row, T⟩
theorem Om.sum {w W : World} {key : List UInt8} {p g1 a1 b1 g2 a2 b2 : Nat} (T : Om w W key p g1 a1 b1 g2 a2 b2) (hK : KT w) (s : List UInt8) (hl : s.length ≤ 1099511627000) :
    Calls Tryd.prog 16 #[.pointer (some ⟨g2, 0, none⟩), str s] W fun e w' => e = .returned (str (hm (hm key tagT) s)) ∧ Below W.heap.size W w' :=
  KSum_any g2 a2 b2 _ s W T.k.t (hK.bel T.b) hl
theorem Om.turn {w W : World} {key : List UInt8} {p g1 a1 b1 g2 a2 b2 : Nat} (T : Om w W key p g1 a1 b1 g2 a2 b2) (hK : KT w) (nonce s : List UInt8) (hs : s.length ≤ 4096) (hno : nonce.length ≤ 1099511626000) :
    Calls Tryd.prog 15 #[.agg #[.pointer (some ⟨g1, 0, none⟩), .pointer (some ⟨g2, 0, none⟩)], str nonce, str s] W fun e w' => e = .returned (str (xst (hm key streamT) nonce s s.length)) ∧ Below W.heap.size W w' :=
  turned_any g1 a1 b1 ⟨g2, 0, none⟩ _ nonce s W T.k.s (hK.bel T.b) hs hno

set_option maxRecDepth 100000 in
set_option maxHeartbeats 8000000 in
theorem Open_any (key x : List UInt8) (w : World) (hK : KT w) (hk : key.length ≤ 1099511627000) (h44 : 44 ≤ x.length) (hx : x.length ≤ 4140) :
    Calls Tryd.prog 11 #[str key, str x] w fun e w' => e = .returned (if tagOk key x = true then .tuple #[str (openT key x), .int .i64 0] else .tuple #[str [], .int .i64 40]) ∧ Below w.heap.size w w' := by
  have HK := Lib.hid hK
  have d1 : decide ((x.length : Int) - 32 < 12) = false := by simp; omega
  have d2 : decide (65548 < (x.length : Int) - 32) = false := by simp; omega
  have CO := Lib.hid (of_any key w hK hk)
  have HD : Hid ((hm (hm key tagT) (x.take (x.length - 32)) == x.drop (x.length - 32)) = tagOk key x ∧ xst (hm key streamT) (x.take 12) (cut x) (cut x).length = openT key x) := ⟨rfl, rfl⟩
  have em : ((x.length - 32 : Nat) : Int) = (x.length : Int) - 32 := by omega
  have q1 := run_slice_h x (x.length - 32) ((x.length : Int) - 32) em.symm (by omega)
  have q2 := run_slice_l x (x.length - 32) ((x.length : Int) - 32) em.symm (by omega)
  have q3 := run_slice_h x 12 12 rfl (by omega)
  have q4 := run_slice_lh x 12 (x.length - 32) 12 ((x.length : Int) - 32) rfl em.symm (by omega) (by omega)
  have e4 : (x.take (x.length - 32)).drop 12 = cut x := rfl
  rw [e4] at q4
  have l1 : (x.take (x.length - 32)).length ≤ 4140 := by rw [List.length_take]; omega
  have l2 : (x.drop (x.length - 32)).length ≤ 4140 := by rw [List.length_drop]; omega
  have l3 : (x.take 12).length ≤ 4096 := by rw [List.length_take]; omega
  have l4 : (cut x).length ≤ 4096 := by unfold cut; rw [List.length_drop, List.length_take]; omega
  have kb : 0 ≤ (x.length : Int) - 32 ∧ (x.length : Int) - 32 ≤ (x.length : Int) ∧ 12 ≤ (x.length : Int) - 32 := by omega
  generalize x.take (x.length - 32) = xa at HD q1 l1
  generalize x.drop (x.length - 32) = xb at HD q2 l2
  generalize x.take 12 = xn at HD q3 l3
  generalize cut x = xc at HD q4 l4
  have lt := hm_len (hm key tagT) xa
  generalize htv : tagOk key x = tv at HD ⊢
  generalize hov : openT key x = ov at HD ⊢
  clear hK em e4 htv hov
  go_enter Tryd.func11, Tryd.ntmps11
  go_wp2_with fail
  refine CO.out.mono ?_
  rintro e w1 ⟨g1, a1, b1, g2, a2, b2, rfl, p1, r1⟩
  have qa : Below w1.heap.size w1 (w1.alloc (.cells #[.pointer (some ⟨g1, 0, none⟩), .pointer (some ⟨g2, 0, none⟩)] 36 (0, 0))) := (Below.refl _ _).alloc (Nat.le_refl _) _
  have TO : Hid (Om w (w1.alloc (.cells #[.pointer (some ⟨g1, 0, none⟩), .pointer (some ⟨g2, 0, none⟩)] 36 (0, 0))) key w1.heap.size g1 a1 b1 g2 a2 b2) :=
    ⟨heap_alloc_new w1 _, p1.bel qa, below_acc r1 qa⟩
  clear qa p1 r1 CO
  go_wp2_with fail
  generalize w1.alloc (.cells #[.pointer (some ⟨g1, 0, none⟩), .pointer (some ⟨g2, 0, none⟩)] 36 (0, 0)) = w2 at TO ⊢
  generalize w1.heap.size = p at TO ⊢
  have c0 := TO.out.s.1
  have c1 := TO.out.s.2.1
  have CT := Lib.hid HD.out.1
  cases tv
  · go_region_held3 (fun w' => w'.cell? ⟨p, 0, none⟩ = some (.pointer (some ⟨g1, 0, none⟩)) ∧ w'.cell? ⟨p, 1, none⟩ = some (.pointer (some ⟨g2, 0, none⟩)) ∧ Om w w' key p g1 a1 b1 g2 a2 b2)
      (first | assumption | exact (TO.out.draw).s | exact ((by assumption : _ ∧ _ ∧ Om w _ key p g1 a1 b1 g2 a2 b2).2.2.bel hb).s)
      (first
        | (go_at_call 16; (with_reducible refine ((by assumption : _ ∧ _ ∧ Om w _ key p g1 a1 b1 g2 a2 b2).2.2.sum HK.out xa (by omega)).mono ?_); rintro e w1 ⟨rfl, hb⟩)
        | (go_at_call 19; (with_reducible refine (hSame_any (hm (hm key tagT) xa) xb _ (by omega) (by omega)).mono ?_); rintro e w1 ⟨rfl, hb⟩; rw [CT.out]))
    rename_i hS
    have TB := Lib.hid hS.2.2.b
    clear hS
    go_wp2_with fail
    go_ret2
    exact ⟨rfl, TB.out⟩
  · go_region_held3 (fun w' => w'.cell? ⟨p, 0, none⟩ = some (.pointer (some ⟨g1, 0, none⟩)) ∧ w'.cell? ⟨p, 1, none⟩ = some (.pointer (some ⟨g2, 0, none⟩)) ∧ Om w w' key p g1 a1 b1 g2 a2 b2)
      (first | assumption | exact (TO.out.draw).s | exact ((by assumption : _ ∧ _ ∧ Om w _ key p g1 a1 b1 g2 a2 b2).2.2.bel hb).s)
      (first
        | (go_at_call 16; (with_reducible refine ((by assumption : _ ∧ _ ∧ Om w _ key p g1 a1 b1 g2 a2 b2).2.2.sum HK.out xa (by omega)).mono ?_); rintro e w1 ⟨rfl, hb⟩)
        | (go_at_call 19; (with_reducible refine (hSame_any (hm (hm key tagT) xa) xb _ (by omega) (by omega)).mono ?_); rintro e w1 ⟨rfl, hb⟩; rw [CT.out]))
    rename_i hS
    have T2 := Lib.hid hS.2.2
    clear hS c0 c1
    rename_i w3 _ _
    have c0 := T2.out.s.1
    have c1 := T2.out.s.2.1
    go_wp2_with fail
    go_region_held3 (fun w' => w'.cell? ⟨p, 0, none⟩ = some (.pointer (some ⟨g1, 0, none⟩)) ∧ w'.cell? ⟨p, 1, none⟩ = some (.pointer (some ⟨g2, 0, none⟩)) ∧ Om w w' key p g1 a1 b1 g2 a2 b2)
      (first | assumption | exact (T2.out.draw).s | exact ((by assumption : _ ∧ _ ∧ Om w _ key p g1 a1 b1 g2 a2 b2).2.2.bel hb).s)
      (first
        | (go_at_call 15; (with_reducible refine ((by assumption : _ ∧ _ ∧ Om w _ key p g1 a1 b1 g2 a2 b2).2.2.turn HK.out xn xc (by omega) (by omega)).mono ?_); rintro e w1 ⟨rfl, hb⟩; rw [HD.out.2]))
    rename_i hS
    have TB := Lib.hid hS.2.2.b
    clear hS
    go_wp2_with fail
    go_ret2
    exact ⟨rfl, TB.out⟩
end Go.Proofs.YtgajfbmaoahpgaaDoor
