/- The walks of name's looks, Look. Condition: none. -/
import Derived.Test.YtdmlfggokbmapaaNmk
namespace Go.Proofs.Ytdmlfggokbmapaa
open Go.RowKit
set_option linter.unusedVariables false
set_option linter.unusedSimpArgs false
attribute [local go_sem] run_makeMap

def allocs (W : World) (os : List Obj) : World := os.foldl World.alloc W
theorem allocs_heap : ∀ (os : List Obj) (W : World), (allocs W os).heap = W.heap ++ os.toArray
  | [], W => by simp [allocs]
  | o :: os, W => by
    show (allocs (W.alloc o) os).heap = _
    rw [allocs_heap os (W.alloc o)]
    show W.heap.push o ++ os.toArray = _
    apply Array.ext'
    simp [Array.toList_push]
theorem allocs_below : ∀ (os : List Obj) (W w : World), Below w.heap.size w W → Below w.heap.size w (allocs W os)
  | [], W, w, h => h
  | o :: os, W, w, h => allocs_below os (W.alloc o) w (h.alloc h.size _)
def tbl (g : Nat) : Array Obj := #[.cells #[.int .i32 945, .int .i32 1072] 21 (0, 0), .cells #[.int .i32 1074] 21 (0, 0), .cells #[.int .i32 1089] 21 (0, 0), .cells #[.int .i32 1077] 21 (0, 0), .cells #[.int .i32 953] 21 (0, 0), .cells #[.int .i32 954, .int .i32 1082] 21 (0, 0), .cells #[.int .i32 1084] 21 (0, 0), .cells #[.int .i32 951, .int .i32 1085] 21 (0, 0), .cells #[.int .i32 959, .int .i32 1086] 21 (0, 0), .cells #[.int .i32 961, .int .i32 1088] 21 (0, 0), .cells #[.int .i32 964, .int .i32 1090] 21 (0, 0), .cells #[.int .i32 965] 21 (0, 0), .cells #[.int .i32 957] 21 (0, 0), .cells #[.int .i32 967, .int .i32 1093] 21 (0, 0), .cells #[.int .i32 947, .int .i32 1091] 21 (0, 0), .cells #[.int .i32 97, .slice (some ⟨g, 0, none⟩) 2 2, .int .i32 98, .slice (some ⟨g + 1, 0, none⟩) 1 1, .int .i32 99, .slice (some ⟨g + 2, 0, none⟩) 1 1, .int .i32 101, .slice (some ⟨g + 3, 0, none⟩) 1 1, .int .i32 105, .slice (some ⟨g + 4, 0, none⟩) 1 1, .int .i32 107, .slice (some ⟨g + 5, 0, none⟩) 2 2, .int .i32 109, .slice (some ⟨g + 6, 0, none⟩) 1 1, .int .i32 110, .slice (some ⟨g + 7, 0, none⟩) 2 2, .int .i32 111, .slice (some ⟨g + 8, 0, none⟩) 2 2, .int .i32 112, .slice (some ⟨g + 9, 0, none⟩) 2 2, .int .i32 116, .slice (some ⟨g + 10, 0, none⟩) 2 2, .int .i32 117, .slice (some ⟨g + 11, 0, none⟩) 1 1, .int .i32 118, .slice (some ⟨g + 12, 0, none⟩) 1 1, .int .i32 120, .slice (some ⟨g + 13, 0, none⟩) 2 2, .int .i32 121, .slice (some ⟨g + 14, 0, none⟩) 2 2] 48 (0, 0)]
theorem tbl_at (W : World) (k : Nat) : (allocs W (tbl W.heap.size).toList).heap[W.heap.size + k]? = (tbl W.heap.size)[k]? := by
  rw [allocs_heap, Array.getElem?_append_right (by omega)]
  simp
theorem tbl_size (W : World) : (allocs W (tbl W.heap.size).toList).heap.size = W.heap.size + 16 := by
  rw [allocs_heap, Array.size_append]
  rfl
theorem wpList_update_map {ops : Array Oper} {rest : List Oper} {o : Oper} {a : Act} {Q : Exit → Act → World → Prop} {W : World} (hgd : o.guard = none) (m x v : Operand) (ho : o.op = .mapUpdate 43 m x v) (b : Nat) (ps : List (Int × Int)) (hm : a.eval m = .map (some b)) (h : MapR W b ps) (hn : ps.length < 1000) (k d : Int)
    (hk : -2147483648 ≤ k ∧ k ≤ 2147483647) (hd : -2147483648 ≤ d ∧ d ≤ 2147483647) (hx : a.eval x = .int .i32 k) (hv : a.eval v = .int .i32 d)
    (hK : ∀ W', MapR W' b (ps ++ [(k, d)]) → W.grownBy W' (some b) → wpList Try.prog ops Q rest (a.put o.dst undef) W') : wpList Try.prog ops Q (o :: rest) a W := by
  refine wpList_plain hgd fun K hK' => ?_
  obtain ⟨W', h1, h2, h3⟩ := run_put h hn k d hk hd
  unfold Oper.wp
  simp [execOp, ho, hm, hx, hv, h1, Result.andThen]
  exact hK' _ _ (hK W' h2 h3)
theorem gcell {W W' : World} {b k j : Nat} (hg : W.grownBy W' (some b)) (hl : k < W.heap.size) (hb : k ≠ b) : W'.cell? ⟨k, j, none⟩ = W.cell? ⟨k, j, none⟩ := by
  simp only [World.cell?, hg.block k hl (fun e => hb (Option.some.inj e))]
def pref : Nat → List (Int × Int)
  | 0 => [(48, 111), (49, 108)]
  | 1 => [(48, 111), (49, 108), (945, 97), (1072, 97)]
  | 2 => [(48, 111), (49, 108), (945, 97), (1072, 97), (1074, 98)]
  | 3 => [(48, 111), (49, 108), (945, 97), (1072, 97), (1074, 98), (1089, 99)]
  | 4 => [(48, 111), (49, 108), (945, 97), (1072, 97), (1074, 98), (1089, 99), (1077, 101)]
  | 5 => [(48, 111), (49, 108), (945, 97), (1072, 97), (1074, 98), (1089, 99), (1077, 101), (953, 105)]
  | 6 => [(48, 111), (49, 108), (945, 97), (1072, 97), (1074, 98), (1089, 99), (1077, 101), (953, 105), (954, 107), (1082, 107)]
  | 7 => [(48, 111), (49, 108), (945, 97), (1072, 97), (1074, 98), (1089, 99), (1077, 101), (953, 105), (954, 107), (1082, 107), (1084, 109)]
  | 8 => [(48, 111), (49, 108), (945, 97), (1072, 97), (1074, 98), (1089, 99), (1077, 101), (953, 105), (954, 107), (1082, 107), (1084, 109), (951, 110), (1085, 110)]
  | 9 => [(48, 111), (49, 108), (945, 97), (1072, 97), (1074, 98), (1089, 99), (1077, 101), (953, 105), (954, 107), (1082, 107), (1084, 109), (951, 110), (1085, 110), (959, 111), (1086, 111)]
  | 10 => [(48, 111), (49, 108), (945, 97), (1072, 97), (1074, 98), (1089, 99), (1077, 101), (953, 105), (954, 107), (1082, 107), (1084, 109), (951, 110), (1085, 110), (959, 111), (1086, 111), (961, 112), (1088, 112)]
  | 11 => [(48, 111), (49, 108), (945, 97), (1072, 97), (1074, 98), (1089, 99), (1077, 101), (953, 105), (954, 107), (1082, 107), (1084, 109), (951, 110), (1085, 110), (959, 111), (1086, 111), (961, 112), (1088, 112), (964, 116), (1090, 116)]
  | 12 => [(48, 111), (49, 108), (945, 97), (1072, 97), (1074, 98), (1089, 99), (1077, 101), (953, 105), (954, 107), (1082, 107), (1084, 109), (951, 110), (1085, 110), (959, 111), (1086, 111), (961, 112), (1088, 112), (964, 116), (1090, 116), (965, 117)]
  | 13 => [(48, 111), (49, 108), (945, 97), (1072, 97), (1074, 98), (1089, 99), (1077, 101), (953, 105), (954, 107), (1082, 107), (1084, 109), (951, 110), (1085, 110), (959, 111), (1086, 111), (961, 112), (1088, 112), (964, 116), (1090, 116), (965, 117), (957, 118)]
  | 14 => [(48, 111), (49, 108), (945, 97), (1072, 97), (1074, 98), (1089, 99), (1077, 101), (953, 105), (954, 107), (1082, 107), (1084, 109), (951, 110), (1085, 110), (959, 111), (1086, 111), (961, 112), (1088, 112), (964, 116), (1090, 116), (965, 117), (957, 118), (967, 120), (1093, 120)]
  | _ => pairs
/-- The memory of a call of looks. -/
structure Lks (w : World) (b g k : Nat) (W : World) : Prop where
  m : MapR W b (pref k)
  t : ∀ j, j < 16 → W.heap[g + j]? = (tbl g)[j]?
  bw : Below w.heap.size w W
  lt : b < g
  le : w.heap.size ≤ b
  sz : g + 16 ≤ W.heap.size
theorem Lks.box {w W : World} {b g k : Nat} (T : Lks w b g k W) (o : Obj) : Lks w b g k (W.alloc o) :=
  ⟨T.m.bel ((Below.refl _ _).alloc (Nat.le_refl _) _), fun j hj => (Below.heap_alloc _ _ _ (by have := T.sz; omega)).trans (T.t j hj), T.bw.alloc T.bw.size _, T.lt, T.le, by rw [World.size_alloc]; have := T.sz; omega⟩
theorem Lks.put {w W W' : World} {b g k k' : Nat} (T : Lks w b g k W) (h : MapR W' b (pref k')) (hg : W.grownBy W' (some b)) : Lks w b g k' W' :=
  ⟨h, fun j hj => (hg.block _ (by have := T.sz; omega) (fun e => by have := Option.some.inj e; have := T.lt; omega)).trans (T.t j hj), T.bw.grown hg T.bw.size (fun r e => by cases e; exact T.le), T.lt, T.le, Nat.le_trans T.sz hg.size⟩

set_option maxRecDepth 100000 in
set_option maxHeartbeats 20000000 in
theorem looks_any (w : World) : Calls Try.prog 27 #[] w fun e w' => e = .returned (.map (some w.heap.size)) ∧ MapR w' w.heap.size pairs ∧ Below w.heap.size w w' := by
  have M0 := MapR.made w
  have B0 : Below w.heap.size w (w.alloc (.map #[] 0)) := (Below.refl _ w).alloc (Nat.le_refl _) _
  go_enter Try.func27, Try.ntmps27
  go_upto_region 2 with (first
    | (refine wpList_insert_map rfl _ _ _ rfl w.heap.size [] (by rfl) M0 (by decide) 48 111 (by decide) (by decide) (by rfl) (by rfl) ?_; intro W1 M1 G1)
    | (refine wpList_insert_map rfl _ _ _ rfl w.heap.size [(48, 111)] (by rfl) M1 (by decide) 49 108 (by decide) (by decide) (by rfl) (by rfl) ?_; intro W2 M2 G2))
  have HH : Hid (MapR W2 w.heap.size (pref 0) ∧ Below w.heap.size w W2 ∧ w.heap.size < W2.heap.size) :=
    ⟨M2, (B0.grown G1 (by simp) (fun r e => by cases e; exact Nat.le_refl _)).grown G2 (Nat.le_trans (by simp) G1.size) (fun r e => by cases e; exact Nat.le_refl _), M2.lt⟩
  clear M0 M1 G1 B0 G2 M2
  generalize hb : w.heap.size = b
  go_wp2_with fail
  show Code.wp _ _ _ _ (allocs W2 (tbl W2.heap.size).toList)
  have TT : Hid (Lks w b W2.heap.size 0 (allocs W2 (tbl W2.heap.size).toList)) := by
    subst hb
    refine ⟨HH.out.1.same ?_, fun j _ => tbl_at W2 j, allocs_below _ _ _ HH.out.2.1, HH.out.2.2, Nat.le_refl _, by rw [tbl_size]; exact Nat.le_refl _⟩
    rw [allocs_heap, Array.getElem?_append_left HH.out.2.2]
  simp only [Nat.add_assoc, Nat.reduceAdd]
  generalize allocs W2 (tbl W2.heap.size).toList = W3 at TT ⊢
  generalize W2.heap.size = g at TT ⊢
  clear HH
  go_loopw [40] (fun i wr => ∃ k : Nat, k ≤ 15 ∧ i = .int .i64 (k : Int) ∧ Hid (Lks w b g k wr)) (fun i _ => 15 - (intOf i).toNat)
  case atStart => exact ⟨0, by decide, rfl, TT⟩
  case round =>
    clear TT
    obtain ⟨k, hk, rfl, T0⟩ := hrel
    by_cases hlt : k < 15
    · obtain rfl | rfl | rfl | rfl | rfl | rfl | rfl | rfl | rfl | rfl | rfl | rfl | rfl | rfl | rfl : k = 0 ∨ k = 1 ∨ k = 2 ∨ k = 3 ∨ k = 4 ∨ k = 5 ∨ k = 6 ∨ k = 7 ∨ k = 8 ∨ k = 9 ∨ k = 10 ∨ k = 11 ∨ k = 12 ∨ k = 13 ∨ k = 14 := by omega
      · have hk0 : wr.heap[g]? = some (.cells #[.int .i32 945, .int .i32 1072] 21 (0, 0)) := T0.out.t 0 (by decide)
        have ck0 : (wr.alloc (.cells #[.int .i32 97, .slice (some ⟨g, 0, none⟩) 2 2] 48 (0, 0))).cell? ⟨g, 0, none⟩ = some (.int .i32 945) := cell_of_row _ _ 0 _ _ (0, 0) ((Below.heap_alloc _ _ _ (by have := T0.out.sz; omega)).trans hk0)
        have ck1 : (wr.alloc (.cells #[.int .i32 97, .slice (some ⟨g, 0, none⟩) 2 2] 48 (0, 0))).cell? ⟨g, 1, none⟩ = some (.int .i32 1072) := cell_of_row _ _ 1 _ _ (0, 0) ((Below.heap_alloc _ _ _ (by have := T0.out.sz; omega)).trans hk0)
        have ca : wr.cell? ⟨g + 15, 0, none⟩ = some (.int .i32 97) := cell_of_row _ _ 0 _ _ (0, 0) (T0.out.t 15 (by decide))
        have cb : wr.cell? ⟨g + 15, 1, none⟩ = some (.slice (some ⟨g, 0, none⟩) 2 2) := cell_of_row _ _ 1 _ _ (0, 0) (T0.out.t 15 (by decide))
        have T1 := Lib.hid (T0.out.box (.cells #[.int .i32 97, .slice (some ⟨g, 0, none⟩) 2 2] 48 (0, 0)))
        have cbx := cell_of_row _ _ 0 _ _ (0, 0) (heap_alloc_new wr (.cells #[.int .i32 97, .slice (some ⟨g, 0, none⟩) 2 2] 48 (0, 0)))
        obtain ⟨W4, hr4, M4, G4⟩ := run_put T1.out.m (by decide) 945 97 (by decide) (by decide)
        have ckb : W4.cell? ⟨g, 1, none⟩ = some (.int .i32 1072) := (gcell G4 (by have := T0.out.sz; simp; omega) (by have := T1.out.lt; omega)).trans ck1
        have cbb : W4.cell? ⟨wr.heap.size, 0, none⟩ = some (.int .i32 97) := (gcell G4 (by simp) (by have := T1.out.lt; have := T0.out.sz; omega)).trans cbx
        obtain ⟨W5, hr5, M5, G5⟩ := run_put M4 (by decide) 1072 97 (by decide) (by decide)
        have T2 := Lib.hid (T1.out.put (k' := 1) M5 (G4.trans G5))
        clear M4 G4 M5 G5 T1
        go_wp2_with fail
        refine wp_loop_rounds 3 ?_
        rw [rounds_succ]
        go_wp2_with fail
        rw [rounds_succ]
        go_wp2_with fail
        rw [rounds_succ]
        go_wp2_with fail
        go_roundw
        case rel => exact ⟨1, by decide, rfl, T2⟩
        case measure => simp [intOf]
      · have hk0 : wr.heap[g + 1]? = some (.cells #[.int .i32 1074] 21 (0, 0)) := T0.out.t 1 (by decide)
        have ck0 : (wr.alloc (.cells #[.int .i32 98, .slice (some ⟨g + 1, 0, none⟩) 1 1] 48 (0, 0))).cell? ⟨g + 1, 0, none⟩ = some (.int .i32 1074) := cell_of_row _ _ 0 _ _ (0, 0) ((Below.heap_alloc _ _ _ (by have := T0.out.sz; omega)).trans hk0)
        have ca : wr.cell? ⟨g + 15, 2, none⟩ = some (.int .i32 98) := cell_of_row _ _ 2 _ _ (0, 0) (T0.out.t 15 (by decide))
        have cb : wr.cell? ⟨g + 15, 3, none⟩ = some (.slice (some ⟨g + 1, 0, none⟩) 1 1) := cell_of_row _ _ 3 _ _ (0, 0) (T0.out.t 15 (by decide))
        have T1 := Lib.hid (T0.out.box (.cells #[.int .i32 98, .slice (some ⟨g + 1, 0, none⟩) 1 1] 48 (0, 0)))
        have cbx := cell_of_row _ _ 0 _ _ (0, 0) (heap_alloc_new wr (.cells #[.int .i32 98, .slice (some ⟨g + 1, 0, none⟩) 1 1] 48 (0, 0)))
        obtain ⟨W4, hr4, M4, G4⟩ := run_put T1.out.m (by decide) 1074 98 (by decide) (by decide)
        have T2 := Lib.hid (T1.out.put (k' := 2) M4 G4)
        clear M4 G4 T1
        go_wp2_with fail
        refine wp_loop_rounds 2 ?_
        rw [rounds_succ]
        go_wp2_with fail
        rw [rounds_succ]
        go_wp2_with fail
        go_roundw
        case rel => exact ⟨2, by decide, rfl, T2⟩
        case measure => simp [intOf]
      · have hk0 : wr.heap[g + 2]? = some (.cells #[.int .i32 1089] 21 (0, 0)) := T0.out.t 2 (by decide)
        have ck0 : (wr.alloc (.cells #[.int .i32 99, .slice (some ⟨g + 2, 0, none⟩) 1 1] 48 (0, 0))).cell? ⟨g + 2, 0, none⟩ = some (.int .i32 1089) := cell_of_row _ _ 0 _ _ (0, 0) ((Below.heap_alloc _ _ _ (by have := T0.out.sz; omega)).trans hk0)
        have ca : wr.cell? ⟨g + 15, 4, none⟩ = some (.int .i32 99) := cell_of_row _ _ 4 _ _ (0, 0) (T0.out.t 15 (by decide))
        have cb : wr.cell? ⟨g + 15, 5, none⟩ = some (.slice (some ⟨g + 2, 0, none⟩) 1 1) := cell_of_row _ _ 5 _ _ (0, 0) (T0.out.t 15 (by decide))
        have T1 := Lib.hid (T0.out.box (.cells #[.int .i32 99, .slice (some ⟨g + 2, 0, none⟩) 1 1] 48 (0, 0)))
        have cbx := cell_of_row _ _ 0 _ _ (0, 0) (heap_alloc_new wr (.cells #[.int .i32 99, .slice (some ⟨g + 2, 0, none⟩) 1 1] 48 (0, 0)))
        obtain ⟨W4, hr4, M4, G4⟩ := run_put T1.out.m (by decide) 1089 99 (by decide) (by decide)
        have T2 := Lib.hid (T1.out.put (k' := 3) M4 G4)
        clear M4 G4 T1
        go_wp2_with fail
        refine wp_loop_rounds 2 ?_
        rw [rounds_succ]
        go_wp2_with fail
        rw [rounds_succ]
        go_wp2_with fail
        go_roundw
        case rel => exact ⟨3, by decide, rfl, T2⟩
        case measure => simp [intOf]
      · have hk0 : wr.heap[g + 3]? = some (.cells #[.int .i32 1077] 21 (0, 0)) := T0.out.t 3 (by decide)
        have ck0 : (wr.alloc (.cells #[.int .i32 101, .slice (some ⟨g + 3, 0, none⟩) 1 1] 48 (0, 0))).cell? ⟨g + 3, 0, none⟩ = some (.int .i32 1077) := cell_of_row _ _ 0 _ _ (0, 0) ((Below.heap_alloc _ _ _ (by have := T0.out.sz; omega)).trans hk0)
        have ca : wr.cell? ⟨g + 15, 6, none⟩ = some (.int .i32 101) := cell_of_row _ _ 6 _ _ (0, 0) (T0.out.t 15 (by decide))
        have cb : wr.cell? ⟨g + 15, 7, none⟩ = some (.slice (some ⟨g + 3, 0, none⟩) 1 1) := cell_of_row _ _ 7 _ _ (0, 0) (T0.out.t 15 (by decide))
        have T1 := Lib.hid (T0.out.box (.cells #[.int .i32 101, .slice (some ⟨g + 3, 0, none⟩) 1 1] 48 (0, 0)))
        have cbx := cell_of_row _ _ 0 _ _ (0, 0) (heap_alloc_new wr (.cells #[.int .i32 101, .slice (some ⟨g + 3, 0, none⟩) 1 1] 48 (0, 0)))
        obtain ⟨W4, hr4, M4, G4⟩ := run_put T1.out.m (by decide) 1077 101 (by decide) (by decide)
        have T2 := Lib.hid (T1.out.put (k' := 4) M4 G4)
        clear M4 G4 T1
        go_wp2_with fail
        refine wp_loop_rounds 2 ?_
        rw [rounds_succ]
        go_wp2_with fail
        rw [rounds_succ]
        go_wp2_with fail
        go_roundw
        case rel => exact ⟨4, by decide, rfl, T2⟩
        case measure => simp [intOf]
      · have hk0 : wr.heap[g + 4]? = some (.cells #[.int .i32 953] 21 (0, 0)) := T0.out.t 4 (by decide)
        have ck0 : (wr.alloc (.cells #[.int .i32 105, .slice (some ⟨g + 4, 0, none⟩) 1 1] 48 (0, 0))).cell? ⟨g + 4, 0, none⟩ = some (.int .i32 953) := cell_of_row _ _ 0 _ _ (0, 0) ((Below.heap_alloc _ _ _ (by have := T0.out.sz; omega)).trans hk0)
        have ca : wr.cell? ⟨g + 15, 8, none⟩ = some (.int .i32 105) := cell_of_row _ _ 8 _ _ (0, 0) (T0.out.t 15 (by decide))
        have cb : wr.cell? ⟨g + 15, 9, none⟩ = some (.slice (some ⟨g + 4, 0, none⟩) 1 1) := cell_of_row _ _ 9 _ _ (0, 0) (T0.out.t 15 (by decide))
        have T1 := Lib.hid (T0.out.box (.cells #[.int .i32 105, .slice (some ⟨g + 4, 0, none⟩) 1 1] 48 (0, 0)))
        have cbx := cell_of_row _ _ 0 _ _ (0, 0) (heap_alloc_new wr (.cells #[.int .i32 105, .slice (some ⟨g + 4, 0, none⟩) 1 1] 48 (0, 0)))
        obtain ⟨W4, hr4, M4, G4⟩ := run_put T1.out.m (by decide) 953 105 (by decide) (by decide)
        have T2 := Lib.hid (T1.out.put (k' := 5) M4 G4)
        clear M4 G4 T1
        go_wp2_with fail
        refine wp_loop_rounds 2 ?_
        rw [rounds_succ]
        go_wp2_with fail
        rw [rounds_succ]
        go_wp2_with fail
        go_roundw
        case rel => exact ⟨5, by decide, rfl, T2⟩
        case measure => simp [intOf]
      · have hk0 : wr.heap[g + 5]? = some (.cells #[.int .i32 954, .int .i32 1082] 21 (0, 0)) := T0.out.t 5 (by decide)
        have ck0 : (wr.alloc (.cells #[.int .i32 107, .slice (some ⟨g + 5, 0, none⟩) 2 2] 48 (0, 0))).cell? ⟨g + 5, 0, none⟩ = some (.int .i32 954) := cell_of_row _ _ 0 _ _ (0, 0) ((Below.heap_alloc _ _ _ (by have := T0.out.sz; omega)).trans hk0)
        have ck1 : (wr.alloc (.cells #[.int .i32 107, .slice (some ⟨g + 5, 0, none⟩) 2 2] 48 (0, 0))).cell? ⟨g + 5, 1, none⟩ = some (.int .i32 1082) := cell_of_row _ _ 1 _ _ (0, 0) ((Below.heap_alloc _ _ _ (by have := T0.out.sz; omega)).trans hk0)
        have ca : wr.cell? ⟨g + 15, 10, none⟩ = some (.int .i32 107) := cell_of_row _ _ 10 _ _ (0, 0) (T0.out.t 15 (by decide))
        have cb : wr.cell? ⟨g + 15, 11, none⟩ = some (.slice (some ⟨g + 5, 0, none⟩) 2 2) := cell_of_row _ _ 11 _ _ (0, 0) (T0.out.t 15 (by decide))
        have T1 := Lib.hid (T0.out.box (.cells #[.int .i32 107, .slice (some ⟨g + 5, 0, none⟩) 2 2] 48 (0, 0)))
        have cbx := cell_of_row _ _ 0 _ _ (0, 0) (heap_alloc_new wr (.cells #[.int .i32 107, .slice (some ⟨g + 5, 0, none⟩) 2 2] 48 (0, 0)))
        obtain ⟨W4, hr4, M4, G4⟩ := run_put T1.out.m (by decide) 954 107 (by decide) (by decide)
        have ckb : W4.cell? ⟨g + 5, 1, none⟩ = some (.int .i32 1082) := (gcell G4 (by have := T0.out.sz; simp; omega) (by have := T1.out.lt; omega)).trans ck1
        have cbb : W4.cell? ⟨wr.heap.size, 0, none⟩ = some (.int .i32 107) := (gcell G4 (by simp) (by have := T1.out.lt; have := T0.out.sz; omega)).trans cbx
        obtain ⟨W5, hr5, M5, G5⟩ := run_put M4 (by decide) 1082 107 (by decide) (by decide)
        have T2 := Lib.hid (T1.out.put (k' := 6) M5 (G4.trans G5))
        clear M4 G4 M5 G5 T1
        go_wp2_with fail
        refine wp_loop_rounds 3 ?_
        rw [rounds_succ]
        go_wp2_with fail
        rw [rounds_succ]
        go_wp2_with fail
        rw [rounds_succ]
        go_wp2_with fail
        go_roundw
        case rel => exact ⟨6, by decide, rfl, T2⟩
        case measure => simp [intOf]
      · have hk0 : wr.heap[g + 6]? = some (.cells #[.int .i32 1084] 21 (0, 0)) := T0.out.t 6 (by decide)
        have ck0 : (wr.alloc (.cells #[.int .i32 109, .slice (some ⟨g + 6, 0, none⟩) 1 1] 48 (0, 0))).cell? ⟨g + 6, 0, none⟩ = some (.int .i32 1084) := cell_of_row _ _ 0 _ _ (0, 0) ((Below.heap_alloc _ _ _ (by have := T0.out.sz; omega)).trans hk0)
        have ca : wr.cell? ⟨g + 15, 12, none⟩ = some (.int .i32 109) := cell_of_row _ _ 12 _ _ (0, 0) (T0.out.t 15 (by decide))
        have cb : wr.cell? ⟨g + 15, 13, none⟩ = some (.slice (some ⟨g + 6, 0, none⟩) 1 1) := cell_of_row _ _ 13 _ _ (0, 0) (T0.out.t 15 (by decide))
        have T1 := Lib.hid (T0.out.box (.cells #[.int .i32 109, .slice (some ⟨g + 6, 0, none⟩) 1 1] 48 (0, 0)))
        have cbx := cell_of_row _ _ 0 _ _ (0, 0) (heap_alloc_new wr (.cells #[.int .i32 109, .slice (some ⟨g + 6, 0, none⟩) 1 1] 48 (0, 0)))
        obtain ⟨W4, hr4, M4, G4⟩ := run_put T1.out.m (by decide) 1084 109 (by decide) (by decide)
        have T2 := Lib.hid (T1.out.put (k' := 7) M4 G4)
        clear M4 G4 T1
        go_wp2_with fail
        refine wp_loop_rounds 2 ?_
        rw [rounds_succ]
        go_wp2_with fail
        rw [rounds_succ]
        go_wp2_with fail
        go_roundw
        case rel => exact ⟨7, by decide, rfl, T2⟩
        case measure => simp [intOf]
      · have hk0 : wr.heap[g + 7]? = some (.cells #[.int .i32 951, .int .i32 1085] 21 (0, 0)) := T0.out.t 7 (by decide)
        have ck0 : (wr.alloc (.cells #[.int .i32 110, .slice (some ⟨g + 7, 0, none⟩) 2 2] 48 (0, 0))).cell? ⟨g + 7, 0, none⟩ = some (.int .i32 951) := cell_of_row _ _ 0 _ _ (0, 0) ((Below.heap_alloc _ _ _ (by have := T0.out.sz; omega)).trans hk0)
        have ck1 : (wr.alloc (.cells #[.int .i32 110, .slice (some ⟨g + 7, 0, none⟩) 2 2] 48 (0, 0))).cell? ⟨g + 7, 1, none⟩ = some (.int .i32 1085) := cell_of_row _ _ 1 _ _ (0, 0) ((Below.heap_alloc _ _ _ (by have := T0.out.sz; omega)).trans hk0)
        have ca : wr.cell? ⟨g + 15, 14, none⟩ = some (.int .i32 110) := cell_of_row _ _ 14 _ _ (0, 0) (T0.out.t 15 (by decide))
        have cb : wr.cell? ⟨g + 15, 15, none⟩ = some (.slice (some ⟨g + 7, 0, none⟩) 2 2) := cell_of_row _ _ 15 _ _ (0, 0) (T0.out.t 15 (by decide))
        have T1 := Lib.hid (T0.out.box (.cells #[.int .i32 110, .slice (some ⟨g + 7, 0, none⟩) 2 2] 48 (0, 0)))
        have cbx := cell_of_row _ _ 0 _ _ (0, 0) (heap_alloc_new wr (.cells #[.int .i32 110, .slice (some ⟨g + 7, 0, none⟩) 2 2] 48 (0, 0)))
        obtain ⟨W4, hr4, M4, G4⟩ := run_put T1.out.m (by decide) 951 110 (by decide) (by decide)
        have ckb : W4.cell? ⟨g + 7, 1, none⟩ = some (.int .i32 1085) := (gcell G4 (by have := T0.out.sz; simp; omega) (by have := T1.out.lt; omega)).trans ck1
        have cbb : W4.cell? ⟨wr.heap.size, 0, none⟩ = some (.int .i32 110) := (gcell G4 (by simp) (by have := T1.out.lt; have := T0.out.sz; omega)).trans cbx
        obtain ⟨W5, hr5, M5, G5⟩ := run_put M4 (by decide) 1085 110 (by decide) (by decide)
        have T2 := Lib.hid (T1.out.put (k' := 8) M5 (G4.trans G5))
        clear M4 G4 M5 G5 T1
        go_wp2_with fail
        refine wp_loop_rounds 3 ?_
        rw [rounds_succ]
        go_wp2_with fail
        rw [rounds_succ]
        go_wp2_with fail
        rw [rounds_succ]
        go_wp2_with fail
        go_roundw
        case rel => exact ⟨8, by decide, rfl, T2⟩
        case measure => simp [intOf]
      · have hk0 : wr.heap[g + 8]? = some (.cells #[.int .i32 959, .int .i32 1086] 21 (0, 0)) := T0.out.t 8 (by decide)
        have ck0 : (wr.alloc (.cells #[.int .i32 111, .slice (some ⟨g + 8, 0, none⟩) 2 2] 48 (0, 0))).cell? ⟨g + 8, 0, none⟩ = some (.int .i32 959) := cell_of_row _ _ 0 _ _ (0, 0) ((Below.heap_alloc _ _ _ (by have := T0.out.sz; omega)).trans hk0)
        have ck1 : (wr.alloc (.cells #[.int .i32 111, .slice (some ⟨g + 8, 0, none⟩) 2 2] 48 (0, 0))).cell? ⟨g + 8, 1, none⟩ = some (.int .i32 1086) := cell_of_row _ _ 1 _ _ (0, 0) ((Below.heap_alloc _ _ _ (by have := T0.out.sz; omega)).trans hk0)
        have ca : wr.cell? ⟨g + 15, 16, none⟩ = some (.int .i32 111) := cell_of_row _ _ 16 _ _ (0, 0) (T0.out.t 15 (by decide))
        have cb : wr.cell? ⟨g + 15, 17, none⟩ = some (.slice (some ⟨g + 8, 0, none⟩) 2 2) := cell_of_row _ _ 17 _ _ (0, 0) (T0.out.t 15 (by decide))
        have T1 := Lib.hid (T0.out.box (.cells #[.int .i32 111, .slice (some ⟨g + 8, 0, none⟩) 2 2] 48 (0, 0)))
        have cbx := cell_of_row _ _ 0 _ _ (0, 0) (heap_alloc_new wr (.cells #[.int .i32 111, .slice (some ⟨g + 8, 0, none⟩) 2 2] 48 (0, 0)))
        obtain ⟨W4, hr4, M4, G4⟩ := run_put T1.out.m (by decide) 959 111 (by decide) (by decide)
        have ckb : W4.cell? ⟨g + 8, 1, none⟩ = some (.int .i32 1086) := (gcell G4 (by have := T0.out.sz; simp; omega) (by have := T1.out.lt; omega)).trans ck1
        have cbb : W4.cell? ⟨wr.heap.size, 0, none⟩ = some (.int .i32 111) := (gcell G4 (by simp) (by have := T1.out.lt; have := T0.out.sz; omega)).trans cbx
        obtain ⟨W5, hr5, M5, G5⟩ := run_put M4 (by decide) 1086 111 (by decide) (by decide)
        have T2 := Lib.hid (T1.out.put (k' := 9) M5 (G4.trans G5))
        clear M4 G4 M5 G5 T1
        go_wp2_with fail
        refine wp_loop_rounds 3 ?_
        rw [rounds_succ]
        go_wp2_with fail
        rw [rounds_succ]
        go_wp2_with fail
        rw [rounds_succ]
        go_wp2_with fail
        go_roundw
        case rel => exact ⟨9, by decide, rfl, T2⟩
        case measure => simp [intOf]
      · have hk0 : wr.heap[g + 9]? = some (.cells #[.int .i32 961, .int .i32 1088] 21 (0, 0)) := T0.out.t 9 (by decide)
        have ck0 : (wr.alloc (.cells #[.int .i32 112, .slice (some ⟨g + 9, 0, none⟩) 2 2] 48 (0, 0))).cell? ⟨g + 9, 0, none⟩ = some (.int .i32 961) := cell_of_row _ _ 0 _ _ (0, 0) ((Below.heap_alloc _ _ _ (by have := T0.out.sz; omega)).trans hk0)
        have ck1 : (wr.alloc (.cells #[.int .i32 112, .slice (some ⟨g + 9, 0, none⟩) 2 2] 48 (0, 0))).cell? ⟨g + 9, 1, none⟩ = some (.int .i32 1088) := cell_of_row _ _ 1 _ _ (0, 0) ((Below.heap_alloc _ _ _ (by have := T0.out.sz; omega)).trans hk0)
        have ca : wr.cell? ⟨g + 15, 18, none⟩ = some (.int .i32 112) := cell_of_row _ _ 18 _ _ (0, 0) (T0.out.t 15 (by decide))
        have cb : wr.cell? ⟨g + 15, 19, none⟩ = some (.slice (some ⟨g + 9, 0, none⟩) 2 2) := cell_of_row _ _ 19 _ _ (0, 0) (T0.out.t 15 (by decide))
        have T1 := Lib.hid (T0.out.box (.cells #[.int .i32 112, .slice (some ⟨g + 9, 0, none⟩) 2 2] 48 (0, 0)))
        have cbx := cell_of_row _ _ 0 _ _ (0, 0) (heap_alloc_new wr (.cells #[.int .i32 112, .slice (some ⟨g + 9, 0, none⟩) 2 2] 48 (0, 0)))
        obtain ⟨W4, hr4, M4, G4⟩ := run_put T1.out.m (by decide) 961 112 (by decide) (by decide)
        have ckb : W4.cell? ⟨g + 9, 1, none⟩ = some (.int .i32 1088) := (gcell G4 (by have := T0.out.sz; simp; omega) (by have := T1.out.lt; omega)).trans ck1
        have cbb : W4.cell? ⟨wr.heap.size, 0, none⟩ = some (.int .i32 112) := (gcell G4 (by simp) (by have := T1.out.lt; have := T0.out.sz; omega)).trans cbx
        obtain ⟨W5, hr5, M5, G5⟩ := run_put M4 (by decide) 1088 112 (by decide) (by decide)
        have T2 := Lib.hid (T1.out.put (k' := 10) M5 (G4.trans G5))
        clear M4 G4 M5 G5 T1
        go_wp2_with fail
        refine wp_loop_rounds 3 ?_
        rw [rounds_succ]
        go_wp2_with fail
        rw [rounds_succ]
        go_wp2_with fail
        rw [rounds_succ]
        go_wp2_with fail
        go_roundw
        case rel => exact ⟨10, by decide, rfl, T2⟩
        case measure => simp [intOf]
      · have hk0 : wr.heap[g + 10]? = some (.cells #[.int .i32 964, .int .i32 1090] 21 (0, 0)) := T0.out.t 10 (by decide)
        have ck0 : (wr.alloc (.cells #[.int .i32 116, .slice (some ⟨g + 10, 0, none⟩) 2 2] 48 (0, 0))).cell? ⟨g + 10, 0, none⟩ = some (.int .i32 964) := cell_of_row _ _ 0 _ _ (0, 0) ((Below.heap_alloc _ _ _ (by have := T0.out.sz; omega)).trans hk0)
        have ck1 : (wr.alloc (.cells #[.int .i32 116, .slice (some ⟨g + 10, 0, none⟩) 2 2] 48 (0, 0))).cell? ⟨g + 10, 1, none⟩ = some (.int .i32 1090) := cell_of_row _ _ 1 _ _ (0, 0) ((Below.heap_alloc _ _ _ (by have := T0.out.sz; omega)).trans hk0)
        have ca : wr.cell? ⟨g + 15, 20, none⟩ = some (.int .i32 116) := cell_of_row _ _ 20 _ _ (0, 0) (T0.out.t 15 (by decide))
        have cb : wr.cell? ⟨g + 15, 21, none⟩ = some (.slice (some ⟨g + 10, 0, none⟩) 2 2) := cell_of_row _ _ 21 _ _ (0, 0) (T0.out.t 15 (by decide))
        have T1 := Lib.hid (T0.out.box (.cells #[.int .i32 116, .slice (some ⟨g + 10, 0, none⟩) 2 2] 48 (0, 0)))
        have cbx := cell_of_row _ _ 0 _ _ (0, 0) (heap_alloc_new wr (.cells #[.int .i32 116, .slice (some ⟨g + 10, 0, none⟩) 2 2] 48 (0, 0)))
        obtain ⟨W4, hr4, M4, G4⟩ := run_put T1.out.m (by decide) 964 116 (by decide) (by decide)
        have ckb : W4.cell? ⟨g + 10, 1, none⟩ = some (.int .i32 1090) := (gcell G4 (by have := T0.out.sz; simp; omega) (by have := T1.out.lt; omega)).trans ck1
        have cbb : W4.cell? ⟨wr.heap.size, 0, none⟩ = some (.int .i32 116) := (gcell G4 (by simp) (by have := T1.out.lt; have := T0.out.sz; omega)).trans cbx
        obtain ⟨W5, hr5, M5, G5⟩ := run_put M4 (by decide) 1090 116 (by decide) (by decide)
        have T2 := Lib.hid (T1.out.put (k' := 11) M5 (G4.trans G5))
        clear M4 G4 M5 G5 T1
        go_wp2_with fail
        refine wp_loop_rounds 3 ?_
        rw [rounds_succ]
        go_wp2_with fail
        rw [rounds_succ]
        go_wp2_with fail
        rw [rounds_succ]
        go_wp2_with fail
        go_roundw
        case rel => exact ⟨11, by decide, rfl, T2⟩
        case measure => simp [intOf]
      · have hk0 : wr.heap[g + 11]? = some (.cells #[.int .i32 965] 21 (0, 0)) := T0.out.t 11 (by decide)
        have ck0 : (wr.alloc (.cells #[.int .i32 117, .slice (some ⟨g + 11, 0, none⟩) 1 1] 48 (0, 0))).cell? ⟨g + 11, 0, none⟩ = some (.int .i32 965) := cell_of_row _ _ 0 _ _ (0, 0) ((Below.heap_alloc _ _ _ (by have := T0.out.sz; omega)).trans hk0)
        have ca : wr.cell? ⟨g + 15, 22, none⟩ = some (.int .i32 117) := cell_of_row _ _ 22 _ _ (0, 0) (T0.out.t 15 (by decide))
        have cb : wr.cell? ⟨g + 15, 23, none⟩ = some (.slice (some ⟨g + 11, 0, none⟩) 1 1) := cell_of_row _ _ 23 _ _ (0, 0) (T0.out.t 15 (by decide))
        have T1 := Lib.hid (T0.out.box (.cells #[.int .i32 117, .slice (some ⟨g + 11, 0, none⟩) 1 1] 48 (0, 0)))
        have cbx := cell_of_row _ _ 0 _ _ (0, 0) (heap_alloc_new wr (.cells #[.int .i32 117, .slice (some ⟨g + 11, 0, none⟩) 1 1] 48 (0, 0)))
        obtain ⟨W4, hr4, M4, G4⟩ := run_put T1.out.m (by decide) 965 117 (by decide) (by decide)
        have T2 := Lib.hid (T1.out.put (k' := 12) M4 G4)
        clear M4 G4 T1
        go_wp2_with fail
        refine wp_loop_rounds 2 ?_
        rw [rounds_succ]
        go_wp2_with fail
        rw [rounds_succ]
        go_wp2_with fail
        go_roundw
        case rel => exact ⟨12, by decide, rfl, T2⟩
        case measure => simp [intOf]
      · have hk0 : wr.heap[g + 12]? = some (.cells #[.int .i32 957] 21 (0, 0)) := T0.out.t 12 (by decide)
        have ck0 : (wr.alloc (.cells #[.int .i32 118, .slice (some ⟨g + 12, 0, none⟩) 1 1] 48 (0, 0))).cell? ⟨g + 12, 0, none⟩ = some (.int .i32 957) := cell_of_row _ _ 0 _ _ (0, 0) ((Below.heap_alloc _ _ _ (by have := T0.out.sz; omega)).trans hk0)
        have ca : wr.cell? ⟨g + 15, 24, none⟩ = some (.int .i32 118) := cell_of_row _ _ 24 _ _ (0, 0) (T0.out.t 15 (by decide))
        have cb : wr.cell? ⟨g + 15, 25, none⟩ = some (.slice (some ⟨g + 12, 0, none⟩) 1 1) := cell_of_row _ _ 25 _ _ (0, 0) (T0.out.t 15 (by decide))
        have T1 := Lib.hid (T0.out.box (.cells #[.int .i32 118, .slice (some ⟨g + 12, 0, none⟩) 1 1] 48 (0, 0)))
        have cbx := cell_of_row _ _ 0 _ _ (0, 0) (heap_alloc_new wr (.cells #[.int .i32 118, .slice (some ⟨g + 12, 0, none⟩) 1 1] 48 (0, 0)))
        obtain ⟨W4, hr4, M4, G4⟩ := run_put T1.out.m (by decide) 957 118 (by decide) (by decide)
        have T2 := Lib.hid (T1.out.put (k' := 13) M4 G4)
        clear M4 G4 T1
        go_wp2_with fail
        refine wp_loop_rounds 2 ?_
        rw [rounds_succ]
        go_wp2_with fail
        rw [rounds_succ]
        go_wp2_with fail
        go_roundw
        case rel => exact ⟨13, by decide, rfl, T2⟩
        case measure => simp [intOf]
      · have hk0 : wr.heap[g + 13]? = some (.cells #[.int .i32 967, .int .i32 1093] 21 (0, 0)) := T0.out.t 13 (by decide)
        have ck0 : (wr.alloc (.cells #[.int .i32 120, .slice (some ⟨g + 13, 0, none⟩) 2 2] 48 (0, 0))).cell? ⟨g + 13, 0, none⟩ = some (.int .i32 967) := cell_of_row _ _ 0 _ _ (0, 0) ((Below.heap_alloc _ _ _ (by have := T0.out.sz; omega)).trans hk0)
        have ck1 : (wr.alloc (.cells #[.int .i32 120, .slice (some ⟨g + 13, 0, none⟩) 2 2] 48 (0, 0))).cell? ⟨g + 13, 1, none⟩ = some (.int .i32 1093) := cell_of_row _ _ 1 _ _ (0, 0) ((Below.heap_alloc _ _ _ (by have := T0.out.sz; omega)).trans hk0)
        have ca : wr.cell? ⟨g + 15, 26, none⟩ = some (.int .i32 120) := cell_of_row _ _ 26 _ _ (0, 0) (T0.out.t 15 (by decide))
        have cb : wr.cell? ⟨g + 15, 27, none⟩ = some (.slice (some ⟨g + 13, 0, none⟩) 2 2) := cell_of_row _ _ 27 _ _ (0, 0) (T0.out.t 15 (by decide))
        have T1 := Lib.hid (T0.out.box (.cells #[.int .i32 120, .slice (some ⟨g + 13, 0, none⟩) 2 2] 48 (0, 0)))
        have cbx := cell_of_row _ _ 0 _ _ (0, 0) (heap_alloc_new wr (.cells #[.int .i32 120, .slice (some ⟨g + 13, 0, none⟩) 2 2] 48 (0, 0)))
        obtain ⟨W4, hr4, M4, G4⟩ := run_put T1.out.m (by decide) 967 120 (by decide) (by decide)
        have ckb : W4.cell? ⟨g + 13, 1, none⟩ = some (.int .i32 1093) := (gcell G4 (by have := T0.out.sz; simp; omega) (by have := T1.out.lt; omega)).trans ck1
        have cbb : W4.cell? ⟨wr.heap.size, 0, none⟩ = some (.int .i32 120) := (gcell G4 (by simp) (by have := T1.out.lt; have := T0.out.sz; omega)).trans cbx
        obtain ⟨W5, hr5, M5, G5⟩ := run_put M4 (by decide) 1093 120 (by decide) (by decide)
        have T2 := Lib.hid (T1.out.put (k' := 14) M5 (G4.trans G5))
        clear M4 G4 M5 G5 T1
        go_wp2_with fail
        refine wp_loop_rounds 3 ?_
        rw [rounds_succ]
        go_wp2_with fail
        rw [rounds_succ]
        go_wp2_with fail
        rw [rounds_succ]
        go_wp2_with fail
        go_roundw
        case rel => exact ⟨14, by decide, rfl, T2⟩
        case measure => simp [intOf]
      · have hk0 : wr.heap[g + 14]? = some (.cells #[.int .i32 947, .int .i32 1091] 21 (0, 0)) := T0.out.t 14 (by decide)
        have ck0 : (wr.alloc (.cells #[.int .i32 121, .slice (some ⟨g + 14, 0, none⟩) 2 2] 48 (0, 0))).cell? ⟨g + 14, 0, none⟩ = some (.int .i32 947) := cell_of_row _ _ 0 _ _ (0, 0) ((Below.heap_alloc _ _ _ (by have := T0.out.sz; omega)).trans hk0)
        have ck1 : (wr.alloc (.cells #[.int .i32 121, .slice (some ⟨g + 14, 0, none⟩) 2 2] 48 (0, 0))).cell? ⟨g + 14, 1, none⟩ = some (.int .i32 1091) := cell_of_row _ _ 1 _ _ (0, 0) ((Below.heap_alloc _ _ _ (by have := T0.out.sz; omega)).trans hk0)
        have ca : wr.cell? ⟨g + 15, 28, none⟩ = some (.int .i32 121) := cell_of_row _ _ 28 _ _ (0, 0) (T0.out.t 15 (by decide))
        have cb : wr.cell? ⟨g + 15, 29, none⟩ = some (.slice (some ⟨g + 14, 0, none⟩) 2 2) := cell_of_row _ _ 29 _ _ (0, 0) (T0.out.t 15 (by decide))
        have T1 := Lib.hid (T0.out.box (.cells #[.int .i32 121, .slice (some ⟨g + 14, 0, none⟩) 2 2] 48 (0, 0)))
        have cbx := cell_of_row _ _ 0 _ _ (0, 0) (heap_alloc_new wr (.cells #[.int .i32 121, .slice (some ⟨g + 14, 0, none⟩) 2 2] 48 (0, 0)))
        obtain ⟨W4, hr4, M4, G4⟩ := run_put T1.out.m (by decide) 947 121 (by decide) (by decide)
        have ckb : W4.cell? ⟨g + 14, 1, none⟩ = some (.int .i32 1091) := (gcell G4 (by have := T0.out.sz; simp; omega) (by have := T1.out.lt; omega)).trans ck1
        have cbb : W4.cell? ⟨wr.heap.size, 0, none⟩ = some (.int .i32 121) := (gcell G4 (by simp) (by have := T1.out.lt; have := T0.out.sz; omega)).trans cbx
        obtain ⟨W5, hr5, M5, G5⟩ := run_put M4 (by decide) 1091 121 (by decide) (by decide)
        have T2 := Lib.hid (T1.out.put (k' := 15) M5 (G4.trans G5))
        clear M4 G4 M5 G5 T1
        go_wp2_with fail
        refine wp_loop_rounds 3 ?_
        rw [rounds_succ]
        go_wp2_with fail
        rw [rounds_succ]
        go_wp2_with fail
        rw [rounds_succ]
        go_wp2_with fail
        go_roundw
        case rel => exact ⟨15, by decide, rfl, T2⟩
        case measure => simp [intOf]
    · obtain rfl : k = 15 := by omega
      subst hb
      go_wp2_with fail
      go_ret
      exact ⟨rfl, T0.out.m, T0.out.bw⟩
end Go.Proofs.Ytdmlfggokbmapaa
