/- The walks of the reference's script, sign, Look, Runes, Looks. Condition: sizes that a machine has. -/
import Derived.Test.YtdmlfggokbmapaaNmn
namespace Go.Proofs.Ytdmlfggokbmapaa
open Go.RowKit
set_option linter.unusedVariables false
set_option linter.unusedSimpArgs false

theorem script_any (r : Int) (w : World) : Calls Try.prog 25 #[.int .i32 r] w fun e w' => e = .returned (.int .u8 (kd r : Int)) ∧ w = w' := by
  have hk : (kd r : Int) = if 97 ≤ r ∧ r ≤ 122 then 1 else if 945 ≤ r ∧ r ≤ 969 then 2 else if 1072 ≤ r ∧ r ≤ 1103 then 3 else 0 := by unfold kd; (repeat' split) <;> rfl
  have HK := Lib.hid hk
  clear hk
  go_enter Try.func25, Try.ntmps25
  go_wp2_with fail
  all_goals
    go_ret
    refine ⟨?_, rfl⟩
    rw [HK.out]
    (repeat' split) <;> first | rfl | omega
def sgn (r : Int) : Bool := (decide (48 ≤ r) && decide (r ≤ 57)) || r == 45
theorem sign_any (r : Int) (w : World) : Calls Try.prog 26 #[.int .i32 r] w fun e w' => e = .returned (.bool (sgn r)) ∧ w = w' := by
  by_cases h1 : 48 ≤ r
  · have d1 : decide (48 ≤ r) = true := by simpa using h1
    by_cases h2 : r ≤ 57
    · have d2 : decide (r ≤ 57) = true := by simpa using h2
      have e : sgn r = true := by simp [sgn, h1, h2]
      rw [e]
      clear e
      go_enter Try.func26, Try.ntmps26
      go_wp2_with fail
      go_ret
      exact ⟨rfl, rfl⟩
    · have d2 : decide (r ≤ 57) = false := by simpa using h2
      have d3 : (r == 45) = false := by rw [beq_eq_false_iff_ne]; omega
      have e : sgn r = false := by simp [sgn, d2, d3]
      rw [e]
      clear e
      go_enter Try.func26, Try.ntmps26
      go_wp2_with fail
      go_ret
      exact ⟨rfl, rfl⟩
  · have d1 : decide (48 ≤ r) = false := by simpa using h1
    cases d3 : (r == 45)
    · have e : sgn r = false := by simp [sgn, d1, d3]
      rw [e]
      clear e
      go_enter Try.func26, Try.ntmps26
      go_wp2_with fail
      go_ret
      exact ⟨rfl, rfl⟩
    · have e : sgn r = true := by simp [sgn, d1, d3]
      rw [e]
      clear e
      go_enter Try.func26, Try.ntmps26
      go_wp2_with fail
      go_ret
      exact ⟨rfl, rfl⟩
theorem bad_is (r : Int) : bad r = (kd r == 0 && !sgn r) := by
  unfold bad sgn
  by_cases h1 : r = 45
  · subst h1; simp
  · by_cases h2 : r < 48
    · have : ¬ 48 ≤ r := by omega
      simp [h1, h2, this, bne]
    · by_cases h3 : 57 < r
      · have h4 : ¬ r ≤ 57 := by omega
        simp [h1, h3, h4, bne]
      · have h4 : r ≤ 57 := by omega
        have h5 : 48 ≤ r := by omega
        simp [h2, h3, h4, h5]

set_option maxRecDepth 100000 in
set_option maxHeartbeats 8000000 in
theorem refLook_any (r : Int) (w : World) : Calls Try.prog 16 #[.int .i32 r] w fun e w' => e = .returned (.int .i32 (lk r)) ∧ w = w' := by
  by_cases h : r ∈ pairs.map (·.1)
  · have h2 : r = 48 ∨ r = 49 ∨ r = 945 ∨ r = 1072 ∨ r = 1074 ∨ r = 1089 ∨ r = 1077 ∨ r = 953 ∨ r = 954 ∨ r = 1082 ∨ r = 1084 ∨ r = 951 ∨ r = 1085 ∨ r = 959 ∨ r = 1086 ∨ r = 961 ∨ r = 1088 ∨ r = 964 ∨ r = 1090 ∨ r = 965 ∨ r = 957 ∨ r = 967 ∨ r = 1093 ∨ r = 947 ∨ r = 1091 := by simpa [pairs] using h
    rcases h2 with rfl | rfl | rfl | rfl | rfl | rfl | rfl | rfl | rfl | rfl | rfl | rfl | rfl | rfl | rfl | rfl | rfl | rfl | rfl | rfl | rfl | rfl | rfl | rfl | rfl
    all_goals
      clear h
      go_enter Try.func16, Try.ntmps16
      go_wp2_with fail
      go_ret
      exact ⟨rfl, rfl⟩
  · have e : lk r = r := by
      unfold lk
      rw [List.find?_eq_none.2]
      · rfl
      · intro p hp hq
        apply h
        simp at hq
        rw [← hq]
        exact List.mem_map_of_mem hp
    rw [e]
    have h2 : ∀ k ∈ pairs.map (·.1), (r == k) = false := fun k hk => by
      rw [beq_eq_false_iff_ne]; rintro rfl; exact h hk
    have H : ((r == 48) = false ∧ (r == 49) = false ∧ (r == 945) = false ∧ (r == 1072) = false ∧ (r == 1074) = false ∧ (r == 1089) = false ∧ (r == 1077) = false ∧ (r == 953) = false ∧ (r == 954) = false ∧ (r == 1082) = false ∧ (r == 1084) = false ∧ (r == 951) = false ∧ (r == 1085) = false ∧ (r == 959) = false ∧ (r == 1086) = false ∧ (r == 961) = false ∧ (r == 1088) = false ∧ (r == 964) = false ∧ (r == 1090) = false ∧ (r == 965) = false ∧ (r == 957) = false ∧ (r == 967) = false ∧ (r == 1093) = false ∧ (r == 947) = false ∧ (r == 1091) = false) := by
      refine ⟨?_, ?_, ?_, ?_, ?_, ?_, ?_, ?_, ?_, ?_, ?_, ?_, ?_, ?_, ?_, ?_, ?_, ?_, ?_, ?_, ?_, ?_, ?_, ?_, ?_⟩ <;> exact h2 _ (by decide)
    obtain ⟨e1, e2, e3, e4, e5, e6, e7, e8, e9, e10, e11, e12, e13, e14, e15, e16, e17, e18, e19, e20, e21, e22, e23, e24, e25⟩ := H
    clear h h2 e
    go_enter Try.func16, Try.ntmps16
    go_wp2_with fail
    go_ret
    exact ⟨rfl, rfl⟩

set_option maxRecDepth 100000 in
set_option maxHeartbeats 4000000 in
theorem Runes_any (l : List UInt8) (hl : l.length ≤ 100000) (w : World) :
    Calls Try.prog 24 #[str l] w fun e w' => ∃ v, e = .returned v ∧ RnS w' w.heap.size v (rn l) ∧ Below w.heap.size w w' := by
  go_enter Try.func24, Try.ntmps24
  go_wp2_with fail
  have I0 : Hid ((w.iter (ba l) 0).heap[w.heap.size]? = some (.stringIter (ba l) 0) ∧ Below w.heap.size w (w.iter (ba l) 0)) := ⟨World.iter_heap _ _ _, (Below.refl _ w).alloc (Nat.le_refl _) _⟩
  have hz := ba_size l
  have hrl := rn_len l
  show Code.wp _ _ _ _ (w.iter (ba l) 0)
  generalize w.iter (ba l) 0 = W0 at I0 ⊢
  go_loopw [3] (fun v wr => ∃ (acc : List Int) (p : Nat), acc.length ≤ 100000 ∧ Hid (acc ++ rnAt (ba l) p = rn l ∧ RnS wr (w.heap.size + 1) v acc ∧ wr.heap[w.heap.size]? = some (.stringIter (ba l) p) ∧ Below w.heap.size w wr)) (fun _ wr => l.length - wr.iterPos w.heap.size)
  case atStart => exact ⟨[], 0, by simp, rfl, World.ownsRow_nil _ _ _ _, I0.out⟩
  case round =>
    clear I0
    obtain ⟨acc, p, hacc, hI⟩ := hrel
    have hip := Lib.hid (iterPos_at hI.out.2.2.1)
    by_cases hp : p < (ba l).size
    · have nx := next_more wr _ _ _ hI.out.2.2.1 hp
      have hm := rnAt_more (ba l) p hp
      have hwd := Lib.decode_width_pos (ba l) p hp
      obtain ⟨i1, i2, i4, i5⟩ := hI.out
      rw [hm] at i1
      have oth : ∀ j, j ≠ w.heap.size → (wr.iterAt w.heap.size (ba l) (p + (Utf8.decode (ba l) p).2)).heap[j]? = wr.heap[j]? := fun j hj => Lib.iterAt_other _ _ _ _ _ hj
      have J2 := Lib.iterAt_heap wr w.heap.size (ba l) p (p + (Utf8.decode (ba l) p).2) i4
      have J3 := Lib.below_iterAt i5 (Nat.le_refl _) (ba l) (p + (Utf8.decode (ba l) p).2)
      generalize hd : Utf8.decode (ba l) p = d at nx i1 hwd oth J2 J3
      obtain ⟨r0, wd⟩ := d
      simp only at nx i1 hwd oth J2 J3
      generalize (r0 : Int) = r at nx i1
      generalize wr.iterAt w.heap.size (ba l) (p + wd) = W2 at nx oth J2 J3
      have K1 : RnS W2 (w.heap.size + 1) _ acc := i2.other (k := w.heap.size) (by omega) oth
      have hlen : acc.length + 1 ≤ 100000 := by
        have := congrArg List.length i1
        simp at this
        omega
      have HI := Lib.hid (And.intro i1 (And.intro K1 (And.intro J2 J3)))
      have hgs : w.heap.size + 1 ≤ W2.heap.size := (Array.getElem?_eq_some_iff.1 J2).1
      clear hI hm i1 i2 i4 i5 oth J2 J3 K1 hd
      go_wp2_with (at_builtin; refine wpList_append_rune rfl (.tmp 11) (.tmp 13) rfl (w.heap.size + 1) _ acc r (by rfl) HI.out.2.1 hgs (by rfl) (by omega) ?_; intro v' w5 g1 g2 g3; have S5 := Lib.hid (And.intro g1 (And.intro g2 g3)); clear g1 g2 g3)
      have T5 := (S5.out.2.2.block w.heap.size (by omega)).trans HI.out.2.2.1
      have B5 := HI.out.2.2.2.trans (S5.out.2.2.mono (show w.heap.size ≤ w.heap.size + 1 by omega))
      have TT := Lib.hid (And.intro T5 B5)
      clear T5 B5
      go_roundw
      case rel => exact ⟨acc ++ [r], p + wd, by simp; omega, by rw [List.append_assoc]; exact HI.out.1, S5.out.1, TT.out.1, TT.out.2⟩
      case measure =>
        have h1 := iterPos_at TT.out.1
        have h2 := hip.out
        omega
    · have nx := next_end wr _ _ _ hI.out.2.2.1 hp
      have he := rnAt_end (ba l) p hp
      obtain ⟨i1, i2, i4, i5⟩ := hI.out
      rw [he] at i1
      have ha : acc = rn l := by simpa using i1
      subst ha
      have FIN := Lib.hid (And.intro i2 i5)
      clear hI i1 i2 i4 i5 he hip
      go_wp2_with fail
      go_ret
      refine ⟨_, rfl, ?_, FIN.out.2⟩
      exact ⟨FIN.out.1.1, FIN.out.1.2.imp id fun ⟨g', cap, cur, hv, hg, rest⟩ => ⟨g', cap, cur, hv, by omega, rest⟩⟩
end Go.Proofs.Ytdmlfggokbmapaa
