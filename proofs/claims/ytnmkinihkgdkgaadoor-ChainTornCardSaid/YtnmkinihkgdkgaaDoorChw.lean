/- The walks of chain's links: of, next, First, check, Frame, Next. Condition: the table k reads as the standard's numbers; sizes that a machine has. -/
import Derived.Test.YtnmkinihkgdkgaaDoorChp
import Derived.Test.YtnmkinihkgdkgaaDoorShz
import Derived.Test.YtnmkinihkgdkgaaDoorShs
import Derived.Test.YtnmkinihkgdkgaaDoorOctx
import Derived.Test.YtnmkinihkgdkgaaDoorTxt
import Derived.Lib.BufferWrite
namespace Go.Proofs.YtnmkinihkgdkgaaDoor
open Go.RowKit
set_option linter.unusedVariables false
set_option linter.unusedSimpArgs false

theorem conv_32 (W : World) (g : Nat) (ch : List UInt8) (T : TypeId) (hl : ch.length = 32) (h : W.heap[g]? = some (.cells (byc ch).toArray T (0, 0))) :
    (convert 44 9 (.slice (some ⟨g, 0, none⟩) 32 32)).run Tryd.prog W = .ok (str ch) W := by
  rw [← hl]
  refine run_convert_bytes_back (P := Tryd.prog) W 44 9 5 ⟨g, 0, none⟩ ch.length ch Tryd.underlying44 Tryd.underlying5 Tryd.underlying9 (fun j hj => ?_)
  rw [Addr.add_lit, Nat.zero_add, cell_of_row W g j _ _ (0, 0) h]
  simp [byc, hj]
theorem copy32 (W : World) (g : Nat) (s : List UInt8) (ty T : TypeId) (fz : Nat × Nat) (h : W.heap[g]? = some (.cells (byc z32).toArray T (0, 0))) (hk : s.length = 32) :
    (Builtin.copy_ #[44, 9] ty #[.slice (some ⟨g, 0, none⟩) 32 32, str s]).run Tryd.prog W = .ok (.int .i64 32) (W.setRow g (byc s).toArray) := by
  have hs : (ByteArray.mk s.toArray).size = s.length := by simp [ByteArray.size]
  rw [Lib.run_copy_row_string W 44 9 ty 5 g 0 32 32 ⟨s.toArray⟩ _ T Tryd.underlying44 (by kernel_rfl) h (by rw [hs, hk]; omega) (by rw [hs, hk]; simp [byc, z32]), hs]
  have e : (byc z32).drop s.length = [] := by rw [hk]; simp [byc, z32]
  rw [hk] at *
  congr 1
  congr 1
  simp only [List.take_zero, List.nil_append, Nat.zero_add, e]
  simp only [Lib.byteCells, byc, List.append_nil]

theorem size_link : (Tryd.prog.info? 49).map (·.size) = some 32 := by kernel_rfl
theorem size_lk (s : List UInt8) (h : s.length = 32) : (Tryd.prog.info? 49).map (·.size) = some (byc s).toArray.size := by
  rw [size_link]; simp [byc, h]
theorem one_byc (s : List UInt8) : (byc s).toArray.all (·.oneCell') = true := by simp [byc, Value.oneCell']
abbrev lkv (s : List UInt8) : Value := .agg (byc s).toArray

set_option maxRecDepth 100000 in
set_option maxHeartbeats 4000000 in
theorem of_any (s : List UInt8) (hs : s.length = 32) (w : World) :
    Calls Tryd.prog 28 #[str s] w fun e w' => e = .returned (lkv s) ∧ Below w.heap.size w w' := by
  have cp := fun ty => copy32 (w.alloc (.cells #[.int .u8 0, .int .u8 0, .int .u8 0, .int .u8 0, .int .u8 0, .int .u8 0, .int .u8 0, .int .u8 0, .int .u8 0, .int .u8 0, .int .u8 0, .int .u8 0, .int .u8 0, .int .u8 0, .int .u8 0, .int .u8 0, .int .u8 0, .int .u8 0, .int .u8 0, .int .u8 0, .int .u8 0, .int .u8 0, .int .u8 0, .int .u8 0, .int .u8 0, .int .u8 0, .int .u8 0, .int .u8 0, .int .u8 0, .int .u8 0, .int .u8 0, .int .u8 0] 49 (0, 0))) w.heap.size s ty _ (0, 0) (heap_alloc_new w _) hs
  have hr := Lib.hid (setRow_heap _ _ _ (byc s).toArray _ _ (heap_alloc_new w (.cells #[.int .u8 0, .int .u8 0, .int .u8 0, .int .u8 0, .int .u8 0, .int .u8 0, .int .u8 0, .int .u8 0, .int .u8 0, .int .u8 0, .int .u8 0, .int .u8 0, .int .u8 0, .int .u8 0, .int .u8 0, .int .u8 0, .int .u8 0, .int .u8 0, .int .u8 0, .int .u8 0, .int .u8 0, .int .u8 0, .int .u8 0, .int .u8 0, .int .u8 0, .int .u8 0, .int .u8 0, .int .u8 0, .int .u8 0, .int .u8 0, .int .u8 0, .int .u8 0] 49 (0, 0))))
  have hb := Lib.hid (below_setRow (B := w.heap.size) ((Below.refl _ w).alloc (Nat.le_refl _) (.cells #[.int .u8 0, .int .u8 0, .int .u8 0, .int .u8 0, .int .u8 0, .int .u8 0, .int .u8 0, .int .u8 0, .int .u8 0, .int .u8 0, .int .u8 0, .int .u8 0, .int .u8 0, .int .u8 0, .int .u8 0, .int .u8 0, .int .u8 0, .int .u8 0, .int .u8 0, .int .u8 0, .int .u8 0, .int .u8 0, .int .u8 0, .int .u8 0, .int .u8 0, .int .u8 0, .int .u8 0, .int .u8 0, .int .u8 0, .int .u8 0, .int .u8 0, .int .u8 0] 49 (0, 0))) (Nat.le_refl w.heap.size) (byc s).toArray)
  go_enter Tryd.func28, Tryd.ntmps28
  go_wp2_with (first
    | (refine wpList_load_row rfl 49 _ rfl w.heap.size (by rfl) 49 _ (0, 0) _ hr.out Tryd.underlying49 rfl (size_lk s hs) ?_)
    | (refine wpList_store_put rfl 49 _ _ rfl w.heap.size (byc s).toArray (by rfl) (by rfl) 49 _ hr.out (size_lk s hs) rfl (one_byc s) ?_; intro W3 P3; have T3 := Lib.hid (And.intro P3.here (P3.below hb.out (Nat.le_refl _))); clear P3))
  refine bodyPost_ret (results_cell_row rfl _ _ w.heap.size 49 _ (0, 0) _ rfl T3.out.1 Tryd.underlying49 rfl (size_lk s hs)) rfl ⟨rfl, T3.out.2⟩

set_option maxRecDepth 100000 in
set_option maxHeartbeats 4000000 in
theorem First_any (w : World) :
    Calls Tryd.prog 21 #[] w fun e w' => e = .returned (str z32) ∧ Below w.heap.size w w' := by
  have cv := conv_32 (w.alloc (.cells #[.int .u8 0, .int .u8 0, .int .u8 0, .int .u8 0, .int .u8 0, .int .u8 0, .int .u8 0, .int .u8 0, .int .u8 0, .int .u8 0, .int .u8 0, .int .u8 0, .int .u8 0, .int .u8 0, .int .u8 0, .int .u8 0, .int .u8 0, .int .u8 0, .int .u8 0, .int .u8 0, .int .u8 0, .int .u8 0, .int .u8 0, .int .u8 0, .int .u8 0, .int .u8 0, .int .u8 0, .int .u8 0, .int .u8 0, .int .u8 0, .int .u8 0, .int .u8 0] 49 (0, 0))) w.heap.size z32 _ (by simp [z32]) (heap_alloc_new w _)
  have hb := Lib.hid ((Below.refl _ w).alloc (Nat.le_refl _) (.cells #[.int .u8 0, .int .u8 0, .int .u8 0, .int .u8 0, .int .u8 0, .int .u8 0, .int .u8 0, .int .u8 0, .int .u8 0, .int .u8 0, .int .u8 0, .int .u8 0, .int .u8 0, .int .u8 0, .int .u8 0, .int .u8 0, .int .u8 0, .int .u8 0, .int .u8 0, .int .u8 0, .int .u8 0, .int .u8 0, .int .u8 0, .int .u8 0, .int .u8 0, .int .u8 0, .int .u8 0, .int .u8 0, .int .u8 0, .int .u8 0, .int .u8 0, .int .u8 0] 49 (0, 0)))
  go_enter Tryd.func21, Tryd.ntmps21
  go_wp2_with fail
  go_ret
  exact ⟨rfl, hb.out⟩

/-- The memory of a call of next, the hash behind t. -/
structure Lk (w W : World) (t : List UInt8) : Prop where
  h : HashAt W (w.heap.size + 2) t
  r : W.heap[w.heap.size + 1]? = some (.cells #[.int .u8 0, .int .u8 0, .int .u8 0, .int .u8 0, .int .u8 0, .int .u8 0, .int .u8 0, .int .u8 0, .int .u8 0, .int .u8 0, .int .u8 0, .int .u8 0, .int .u8 0, .int .u8 0, .int .u8 0, .int .u8 0, .int .u8 0, .int .u8 0, .int .u8 0, .int .u8 0, .int .u8 0, .int .u8 0, .int .u8 0, .int .u8 0, .int .u8 0, .int .u8 0, .int .u8 0, .int .u8 0, .int .u8 0, .int .u8 0, .int .u8 0, .int .u8 0] 49 (0, 0))
  b : Below w.heap.size w W
theorem Lk.grow {w W W' : World} {t t' : List UInt8} (T : Lk w W t) (h : HashAt W' (w.heap.size + 2) t') (g : W.grownBy W' (some (w.heap.size + 2))) : Lk w W' t' :=
  ⟨h, (g.block _ (by have := T.h.lt; omega) (by intro e; injection e with e; omega)).trans T.r, below_of_grown T.b g (by omega) T.b.size⟩
theorem Lk.bel {w W W' : World} {t : List UInt8} (T : Lk w W t) (h : Below W.heap.size W W') : Lk w W' t :=
  ⟨T.h.bel h, (h.block _ (by have := T.h.lt; omega)).trans T.r, below_acc T.b h⟩

set_option maxRecDepth 100000 in
set_option maxHeartbeats 4000000 in
theorem next_any (l rec : List UInt8) (hl : l.length = 32) (hr : rec.length ≤ 1099511620000) (w : World) (hK : KT w) :
    Calls Tryd.prog 29 #[lkv l, str rec] w fun e w' => e = .returned (lkv (nx l rec)) ∧ Below w.heap.size w w' := by
  have HK := Lib.hid hK
  clear hK
  have B0 : Hid (∀ W, Below ((w.alloc (.cells (byc l).toArray 49 (0, 0))).alloc (.cells #[.int .u8 0, .int .u8 0, .int .u8 0, .int .u8 0, .int .u8 0, .int .u8 0, .int .u8 0, .int .u8 0, .int .u8 0, .int .u8 0, .int .u8 0, .int .u8 0, .int .u8 0, .int .u8 0, .int .u8 0, .int .u8 0, .int .u8 0, .int .u8 0, .int .u8 0, .int .u8 0, .int .u8 0, .int .u8 0, .int .u8 0, .int .u8 0, .int .u8 0, .int .u8 0, .int .u8 0, .int .u8 0, .int .u8 0, .int .u8 0, .int .u8 0, .int .u8 0] 49 (0, 0))).heap.size ((w.alloc (.cells (byc l).toArray 49 (0, 0))).alloc (.cells #[.int .u8 0, .int .u8 0, .int .u8 0, .int .u8 0, .int .u8 0, .int .u8 0, .int .u8 0, .int .u8 0, .int .u8 0, .int .u8 0, .int .u8 0, .int .u8 0, .int .u8 0, .int .u8 0, .int .u8 0, .int .u8 0, .int .u8 0, .int .u8 0, .int .u8 0, .int .u8 0, .int .u8 0, .int .u8 0, .int .u8 0, .int .u8 0, .int .u8 0, .int .u8 0, .int .u8 0, .int .u8 0, .int .u8 0, .int .u8 0, .int .u8 0, .int .u8 0] 49 (0, 0))) W → W.heap[w.heap.size]? = some (.cells (byc l).toArray 49 (0, 0)) ∧ W.heap[w.heap.size + 1]? = some (.cells #[.int .u8 0, .int .u8 0, .int .u8 0, .int .u8 0, .int .u8 0, .int .u8 0, .int .u8 0, .int .u8 0, .int .u8 0, .int .u8 0, .int .u8 0, .int .u8 0, .int .u8 0, .int .u8 0, .int .u8 0, .int .u8 0, .int .u8 0, .int .u8 0, .int .u8 0, .int .u8 0, .int .u8 0, .int .u8 0, .int .u8 0, .int .u8 0, .int .u8 0, .int .u8 0, .int .u8 0, .int .u8 0, .int .u8 0, .int .u8 0, .int .u8 0, .int .u8 0] 49 (0, 0)) ∧ Below w.heap.size w W) := by
    intro W hb
    have hz : ((w.alloc (.cells (byc l).toArray 49 (0, 0))).alloc (.cells #[.int .u8 0, .int .u8 0, .int .u8 0, .int .u8 0, .int .u8 0, .int .u8 0, .int .u8 0, .int .u8 0, .int .u8 0, .int .u8 0, .int .u8 0, .int .u8 0, .int .u8 0, .int .u8 0, .int .u8 0, .int .u8 0, .int .u8 0, .int .u8 0, .int .u8 0, .int .u8 0, .int .u8 0, .int .u8 0, .int .u8 0, .int .u8 0, .int .u8 0, .int .u8 0, .int .u8 0, .int .u8 0, .int .u8 0, .int .u8 0, .int .u8 0, .int .u8 0] 49 (0, 0))).heap.size = w.heap.size + 2 := by simp
    refine ⟨(hb.block _ (by omega)).trans (heap_alloc2_old w _ _), (hb.block _ (by omega)).trans (heap_alloc2_new w _ _), below_acc (((Below.refl _ w).alloc (Nat.le_refl _) _).alloc (by simp) _) hb⟩
  go_enter Tryd.func29, Tryd.ntmps29
  go_wp2_with fail
  refine (New_any _).mono ?_
  rintro e w1 ⟨rfl, h1, b1⟩
  obtain ⟨q1, q2, q3⟩ := B0.out _ b1
  have hz : ((w.alloc (.cells (byc l).toArray 49 (0, 0))).alloc (.cells #[.int .u8 0, .int .u8 0, .int .u8 0, .int .u8 0, .int .u8 0, .int .u8 0, .int .u8 0, .int .u8 0, .int .u8 0, .int .u8 0, .int .u8 0, .int .u8 0, .int .u8 0, .int .u8 0, .int .u8 0, .int .u8 0, .int .u8 0, .int .u8 0, .int .u8 0, .int .u8 0, .int .u8 0, .int .u8 0, .int .u8 0, .int .u8 0, .int .u8 0, .int .u8 0, .int .u8 0, .int .u8 0, .int .u8 0, .int .u8 0, .int .u8 0, .int .u8 0] 49 (0, 0))).heap.size = w.heap.size + 2 := by simp
  rw [hz] at h1
  have T1 : Hid (Lk w w1 []) := ⟨h1, q2, q3⟩
  have cv := conv_32 w1 w.heap.size l _ hl q1
  have CW := Lib.hid (Write_any (w.heap.size + 2) [] l w1 h1 (HK.out.below q3 HK.out.lt) (by have := HK.out.lt; omega) (by simp; omega))
  clear h1 q1 q2 q3 hz b1 B0
  go_wp2_with fail
  refine CW.out.mono ?_
  rintro e w2 ⟨rfl, h2, g2⟩
  rw [List.nil_append] at h2
  have T2 := Lib.hid (T1.out.grow h2 g2)
  have CW2 := Lib.hid (Write_any (w.heap.size + 2) l rec w2 h2 (HK.out.below T2.out.b HK.out.lt) (by have := HK.out.lt; omega) (by omega))
  clear h2 g2 T1 CW cv
  go_wp2_with fail
  refine CW2.out.mono ?_
  rintro e w3 ⟨rfl, h3, g3⟩
  have T3 := Lib.hid (T2.out.grow h3 g3)
  have CS := Lib.hid (Sum_any (w.heap.size + 2) (l ++ rec) w3 h3 (HK.out.below T3.out.b HK.out.lt) (by simp; omega))
  clear h3 g3 T2 CW2
  go_wp2_with fail
  refine CS.out.mono ?_
  rintro e w4 ⟨rfl, b4⟩
  have T4 := Lib.hid (T3.out.bel b4)
  clear b4 T3 CS
  have CO := Lib.hid (fun W => of_any (sum (l ++ rec)) (sum_len _) W)
  have hsz := size_lk (sum (l ++ rec)) (sum_len _)
  go_wp2_with (first
    | (go_at_call 28; (with_reducible refine (CO.out _).mono ?_); rintro e w5 ⟨rfl, b5⟩; have T5 := Lib.hid (T4.out.bel b5); clear b5)
    | (refine wpList_store_put rfl 49 _ _ rfl (w.heap.size + 1) (byc (sum (l ++ rec))).toArray (by rfl) (by rfl) 49 _ T5.out.r hsz (by simp [byc, sum_len]) (one_byc _) ?_; intro W6 P6; have T6 := Lib.hid (And.intro P6.here (P6.below T5.out.b (by omega))); clear P6))
  refine bodyPost_ret (results_cell_row rfl _ _ (w.heap.size + 1) 49 _ (0, 0) _ rfl T6.out.1 Tryd.underlying49 rfl hsz) rfl ⟨rfl, T6.out.2⟩
end Go.Proofs.YtnmkinihkgdkgaaDoor
