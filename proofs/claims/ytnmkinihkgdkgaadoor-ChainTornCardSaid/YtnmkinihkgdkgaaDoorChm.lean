/- The iterator of chain's steps: its contract over letters (J at an offset and a link). Condition: sizes that a machine has; the table k reads as the standard's numbers. -/
import Derived.Test.YtnmkinihkgdkgaaDoorChl
namespace Go.Proofs.YtnmkinihkgdkgaaDoor
open Go.RowKit
set_option linter.unusedVariables false
set_option linter.unusedSimpArgs false

set_option maxRecDepth 100000 in
set_option maxHeartbeats 8000000 in
theorem steps_iter (b0 l : Nat) (s : List UInt8) (hs : s.length ≤ 1000000) (w : World)
    (J : Nat → List UInt8 → World → Prop) (Jx : World → Prop) (hj : Stj w.heap.size b0 s J) (hJ0 : J 0 z32 w)
    (hY0 : ∀ a k W, a ≤ s.length → k.length = 32 → w.heap.size < W.heap.size → J a k W → ((readText (s.drop a) 8192).2.2 ≠ 0 ∨ s.length < a + (readText (s.drop a) 8192).2.1 + 32) →
      YieldAt Fence.wide 0 Tryd.prog l #[zero35] W fun e W' => (∃ b, e = .returned (.bool b)) ∧ Jx W')
    (hY1 : ∀ a k W, a ≤ s.length → k.length = 32 → w.heap.size < W.heap.size → J a k W → (readText (s.drop a) 8192).2.2 = 0 → a + (readText (s.drop a) 8192).2.1 + 32 ≤ s.length →
      YieldAt Fence.wide 0 Tryd.prog l #[stepV (readText (s.drop a) 8192).1 (nx k (readText (s.drop a) 8192).1) ((a : Int) + ((readText (s.drop a) 8192).2.1 : Int) + 32) (((s.take (a + (readText (s.drop a) 8192).2.1 + 32)).drop (a + (readText (s.drop a) 8192).2.1)) == nx k (readText (s.drop a) 8192).1)] W fun e W' =>
        W'.heap[w.heap.size]? = W.heap[w.heap.size]? ∧ ((e = .returned (.bool true) ∧ ((s.take (a + (readText (s.drop a) 8192).2.1 + 32)).drop (a + (readText (s.drop a) 8192).2.1)) = nx k (readText (s.drop a) 8192).1 ∧ J (a + (readText (s.drop a) 8192).2.1 + 32) (nx k (readText (s.drop a) 8192).1) W') ∨
         (e = .returned (.bool false) ∧ Jx W'))) :
    Calls Tryd.prog 33 #[.func (.yield l) #[] #[], .pointer (some ⟨b0, 0, none⟩)] w fun e W' => (∃ v, e = .returned v) ∧ Jx W' := by
  have HJ := Lib.hid hj
  have HY0 := Lib.hid hY0
  have HY1 := Lib.hid hY1
  have HS : Hid (Stw w.heap.size J 0 z32 z32 (w.alloc (.cells #[.int .u8 0, .int .u8 0, .int .u8 0, .int .u8 0, .int .u8 0, .int .u8 0, .int .u8 0, .int .u8 0, .int .u8 0, .int .u8 0, .int .u8 0, .int .u8 0, .int .u8 0, .int .u8 0, .int .u8 0, .int .u8 0, .int .u8 0, .int .u8 0, .int .u8 0, .int .u8 0, .int .u8 0, .int .u8 0, .int .u8 0, .int .u8 0, .int .u8 0, .int .u8 0, .int .u8 0, .int .u8 0, .int .u8 0, .int .u8 0, .int .u8 0, .int .u8 0] 49 (0, 0)))) := ⟨heap_alloc_new w _, hj.bel _ _ _ _ hJ0 ((Below.refl _ w).alloc (Nat.le_refl _) _)⟩
  clear hj hJ0 hY0 hY1
  go_enter Tryd.func33, Tryd.ntmps33
  go_wp2_with fail
  go_loopw [4] (fun v wr => ∃ (a : Nat) (k : List UInt8), v = .int .i64 (a : Int) ∧ a ≤ s.length ∧ k.length = 32 ∧ Hid (Stw w.heap.size J a k k wr)) (fun v _ => s.length - (intOf v).toNat)
  case atStart => exact ⟨0, z32, rfl, by omega, z32_len, HS⟩
  case round =>
    clear HS
    obtain ⟨a, k, rfl, ha, hk, hT⟩ := hrel
    have c1 := HJ.out.c _ _ _ hT.out.j
    have q := run_slice_l s a (a : Int) rfl ha
    have CT := Lib.hid (ReadText_any (s.drop a) (by rw [List.length_drop]; omega) 8192 (by omega) wr)
    have hf := readText_fits (s.drop a) 8192
    rw [List.length_drop] at hf
    have Y0 := fun W h => HY0.out a k W ha hk h
    have Y1 := fun W h => HY1.out a k W ha hk h
    have q2 := fun h1 h2 => run_slice_lh s (a + (readText (s.drop a) 8192).2.1) (a + (readText (s.drop a) 8192).2.1 + 32) ((a : Int) + ((readText (s.drop a) 8192).2.1 : Int)) ((a : Int) + ((readText (s.drop a) 8192).2.1 : Int) + 32) (by omega) (by omega) h1 h2
    have hl0 : a + (readText (s.drop a) 8192).2.1 + 32 ≤ s.length → ((s.take (a + (readText (s.drop a) 8192).2.1 + 32)).drop (a + (readText (s.drop a) 8192).2.1)).length = 32 := fun h => by simp; omega
    have ht0 : (readText (s.drop a) 8192).2.2 = 0 → (readText (s.drop a) 8192).1.length ≤ 8192 := fun h => by
      obtain ⟨t1, t2, t3, t4⟩ := text_readText (s.drop a) 8192 h
      omega
    generalize readText (s.drop a) 8192 = r at CT hf Y0 Y1 q2 hl0 ht0
    obtain ⟨t, n, er⟩ := r
    simp only at CT hf Y0 Y1 q2 hl0 ht0
    generalize s.drop a = sd at q CT
    have w3 : IntKind.i64.wrap ((a : Int) + (n : Int)) = (a : Int) + (n : Int) := IntWalk.i64_in _ (by omega)
    have w2 : IntKind.i64.wrap ((s.length : Int) - ((a : Int) + (n : Int))) = (s.length : Int) - ((a : Int) + (n : Int)) := IntWalk.i64_in _ (by omega)
    have w4 : IntKind.i64.wrap ((a : Int) + (n : Int) + 32) = (a : Int) + (n : Int) + 32 := IntWalk.i64_in _ (by omega)
    have hlt := hT.out.lt
    by_cases hbad : er ≠ 0 ∨ s.length < a + n + 32
    · have YY := Lib.hid (Y0 wr hlt hT.out.j hbad)
      have kb : 0 ≤ (a : Int) ∧ (a : Int) ≤ (s.length : Int) := by omega
      clear Y0 Y1 q2 hl0
      by_cases h0 : er = 0
      · subst h0
        have d2 : decide ((s.length : Int) - ((a : Int) + (n : Int)) < 32) = true := by simp; omega
        clear hbad hf
        go_upto_region 5 with (go_at_call 34; (with_reducible refine CT.out.mono ?_); rintro e w1 ⟨rfl, rfl⟩)
        obtain ⟨fn, tmps, assign, body, hy, hR⟩ := YY.out
        have HR := Lib.hid hR
        clear hR YY CT
        refine (wpIn_wide (n := 0)).1 ?_
        gi_wp2
        refine ⟨rfl, HR.out.mono ?_⟩
        rintro e W' ⟨⟨b, rfl⟩, hJx⟩
        clear HR hy hT
        gi_wp2
        go_wp2_with fail
        refine bodyPost_ret (results_none rfl _ _ _) rfl ?_
        exact ⟨⟨_, rfl⟩, hJx⟩
      · have d1 : ((er : Int) != 0) = true := by simp; omega
        clear hbad hf
        go_upto_region 5 with (go_at_call 34; (with_reducible refine CT.out.mono ?_); rintro e w1 ⟨rfl, rfl⟩)
        obtain ⟨fn, tmps, assign, body, hy, hR⟩ := YY.out
        have HR := Lib.hid hR
        clear hR YY CT
        refine (wpIn_wide (n := 0)).1 ?_
        gi_wp2
        refine ⟨rfl, HR.out.mono ?_⟩
        rintro e W' ⟨⟨b, rfl⟩, hJx⟩
        clear HR hy hT
        gi_wp2
        go_wp2_with fail
        refine bodyPost_ret (results_none rfl _ _ _) rfl ?_
        exact ⟨⟨_, rfl⟩, hJx⟩
    · have h0 : er = 0 := by omega
      have h1 : a + n + 32 ≤ s.length := by omega
      subst h0
      have d2 : decide ((s.length : Int) - ((a : Int) + (n : Int)) < 32) = false := by simp; omega
      have Y2 := Lib.hid (fun W h hj => Y1 W h hj rfl h1)
      have q3 := q2 (by omega) h1
      have hls := hl0 h1
      have hn1 := hf.2 rfl
      have ht : t.length ≤ 1099511620000 := by have := ht0 rfl; omega
      have CN := Lib.hid (fun W hK => next_any k t hk ht W hK)
      have CO := Lib.hid (fun W => of_any ((s.take (a + n + 32)).drop (a + n)) hls W)
      have hnl := nx_len k t
      generalize (s.take (a + n + 32)).drop (a + n) = sl at q3 hls Y2 CO
      generalize nx k t = nk at CN Y2 hnl
      have EQ := eql_link sl nk hls hnl
      have BS := fun b W => build_step t nk hnl ((a : Int) + (n : Int) + 32) b W
      have hsz := size_lk k hk
      have hsn := size_lk nk hnl
      have kb : 0 ≤ (a : Int) ∧ (a : Int) ≤ (a : Int) + (n : Int) ∧ (a : Int) + (n : Int) ≤ (a : Int) + (n : Int) + 32 ∧ (a : Int) + (n : Int) + 32 ≤ (s.length : Int) := by omega
      clear Y0 Y1 q2 hl0 hbad ht0
      go_wp2_with (first
        | (go_at_call 34; (with_reducible refine CT.out.mono ?_); rintro e w1 ⟨rfl, rfl⟩)
        | (refine wpList_load_row rfl 49 _ rfl w.heap.size (by rfl) 49 _ (0, 0) _ hT.out.r Tryd.underlying49 rfl hsz ?_)
        | (go_at_call 29; (with_reducible refine (CN.out _ (HJ.out.t _ _ _ hT.out.j)).mono ?_); rintro e w1 ⟨rfl, b1⟩; have T1 := Lib.hid (hT.out.bel HJ.out b1); clear b1)
        | (refine wpList_store_put rfl 49 _ _ rfl w.heap.size (byc nk).toArray (by rfl) (by rfl) 49 _ T1.out.r hsn (by simp [byc, hk, hnl]) (one_byc nk) ?_; intro W2 P2; have T2 := Lib.hid (T1.out.put HJ.out P2); clear P2))
      have KS : Hid (∀ W, Stw w.heap.size J a k nk W → W.cell? ⟨b0, 0, none⟩ = some (str s) ∧ W.rangeAt w.heap.size 0 (byc nk) ∧ Stw w.heap.size J a k nk W) :=
        fun W T => ⟨HJ.out.c _ _ _ T.j, (fun j v hv => by rw [Nat.zero_add, cell_of_row _ _ j _ _ (0, 0) T.r]; simpa using hv), T⟩
      have hul := Tryd.underlying49
      have hln : (Tryd.prog.info? 49).map (·.size) = some (byc nk).length := by simpa using hsn
      clear hT T1 CN CT c1
      go_region_held3 (fun W => W.cell? ⟨b0, 0, none⟩ = some (str s) ∧ W.rangeAt w.heap.size 0 (byc nk) ∧ Stw w.heap.size J a k nk W)
        (first | assumption | exact KS.out _ (T2.out.bel HJ.out (Below.refl _ _).drew) | exact KS.out _ ((by assumption : _ ∧ _ ∧ Stw w.heap.size J a k nk _).2.2.bel HJ.out hb))
        (first
          | (go_at_call 28; (with_reducible refine (CO.out _).mono ?_); rintro e w1 ⟨rfl, hb⟩))
      rename_i hS
      have T3 := Lib.hid hS.2.2
      have L3 := load_link T3.out.r hnl
      clear hS hul hln KS T2 CO
      go_upto_region 9 with (fail)
      obtain ⟨fn, tmps, assign, body, hy, hR⟩ := Y2.out _ T3.out.lt T3.out.j
      have HR := Lib.hid hR
      clear hR Y2 hb EQ q q3 hsz hsn w2 w3 d2
      by_cases hq : sl = nk
      · have eb : (sl == nk) = true := by simpa using hq
        rw [eb] at hy ⊢
        have BO := built_ops t nk hnl ((a : Int) + (n : Int) + 32) true
        unfold stepV at hy
        generalize #[str t] ++ (byc nk).toArray ++ #[.int .i64 ((a : Int) + (n : Int) + 32), .bool true] = cs at hy BO
        have BB := Lib.hid BO
        clear BO BS eb
        refine (wpIn_wide (n := 0)).1 ?_
        gi_wp2_with (first
          | (refine wpListIn_load_row rfl _ _ rfl w.heap.size (by rfl) _ L3 ?_)
          | (refine wpListIn_build_to rfl _ _ rfl _ (BB.out _ _ _ _ _ rfl rfl rfl rfl) ?_))
        refine ⟨rfl, HR.out.mono ?_⟩
        rintro e W' ⟨hkp, ⟨rfl, -, hJ'⟩ | ⟨rfl, hJx⟩⟩
        · have T4 : Hid (Stw w.heap.size J (a + n + 32) nk nk W') := ⟨hkp.trans T3.out.r, hJ'⟩
          clear hJ' hkp HR hy L3 T3
          gi_wp2
          go_wp2_with fail
          go_roundw
          case rel => exact ⟨a + n + 32, nk, by go_num, by omega, hnl, T4⟩
          case measure => simp [intOf]; omega
        · clear hkp HR hy L3 T3
          gi_wp2
          go_wp2_with fail
          refine bodyPost_ret (results_none rfl _ _ _) rfl ?_
          exact ⟨⟨_, rfl⟩, hJx⟩
      · have eb : (sl == nk) = false := by simpa using hq
        rw [eb] at hy ⊢
        have BO := built_ops t nk hnl ((a : Int) + (n : Int) + 32) false
        unfold stepV at hy
        generalize #[str t] ++ (byc nk).toArray ++ #[.int .i64 ((a : Int) + (n : Int) + 32), .bool false] = cs at hy BO
        have BB := Lib.hid BO
        clear BO BS eb
        refine (wpIn_wide (n := 0)).1 ?_
        gi_wp2_with (first
          | (refine wpListIn_load_row rfl _ _ rfl w.heap.size (by rfl) _ L3 ?_)
          | (refine wpListIn_build_to rfl _ _ rfl _ (BB.out _ _ _ _ _ rfl rfl rfl rfl) ?_))
        refine ⟨rfl, HR.out.mono ?_⟩
        rintro e W' ⟨hkp, ⟨rfl, he, hJ'⟩ | ⟨rfl, hJx⟩⟩
        · exact absurd he hq
        · clear hkp HR hy L3 T3
          gi_wp2
          go_wp2_with fail
          refine bodyPost_ret (results_none rfl _ _ _) rfl ?_
          exact ⟨⟨_, rfl⟩, hJx⟩
end Go.Proofs.YtnmkinihkgdkgaaDoor
