/- The walks of utf8.RuneCountInString and of name's blocks, of. Condition: sizes that a machine has. -/
import Derived.Test.YtdmlfggokbmapaaNmp
namespace Go.Proofs.Ytdmlfggokbmapaa
open Go.RowKit
set_option linter.unusedVariables false
set_option linter.unusedSimpArgs false

theorem next_more (W : World) (k : Nat) (s : ByteArray) (p : Nat) (hk : W.heap[k]? = some (.stringIter s p)) (h : p < s.size) (ty : TypeId) :
    (Instr.next (.pointer (some ⟨k, 0, none⟩)) true ty).run Try.prog W = .ok (.tuple #[.bool true, .int .i64 p, .int .i32 ((Utf8.decode s p).1 : Int)]) (W.iterAt k s (p + (Utf8.decode s p).2)) := Lib.run_next_any_at W k s p ty hk h
theorem next_end (W : World) (k : Nat) (s : ByteArray) (p : Nat) (hk : W.heap[k]? = some (.stringIter s p)) (h : ¬ p < s.size) (ty : TypeId) :
    (Instr.next (.pointer (some ⟨k, 0, none⟩)) true ty).run Try.prog W = .ok (.tuple #[.bool false]) W := Lib.run_next_end_at W k s p ty hk h
theorem iterPos_at {W : World} {k : Nat} {s : ByteArray} {p : Nat} (h : W.heap[k]? = some (.stringIter s p)) : W.iterPos k = p := by simp [World.iterPos, h]

set_option maxRecDepth 100000 in
set_option maxHeartbeats 2000000 in
theorem runeCount_any (l : List UInt8) (hl : l.length ≤ 9223372036854775807) (w : World) :
    Calls Try.prog 31 #[str l] w fun e w' => e = .returned (.int .i64 ((rn l).length : Int)) ∧ Below w.heap.size w w' := by
  have hrl := rn_len l
  go_enter Try.func31, Try.ntmps31
  go_wp2_with fail
  have I0 : Hid ((w.iter (ba l) 0).heap[w.heap.size]? = some (.stringIter (ba l) 0) ∧ Below w.heap.size w (w.iter (ba l) 0)) := ⟨World.iter_heap _ _ _, (Below.refl _ w).alloc (Nat.le_refl _) _⟩
  have hz := ba_size l
  have hrl2 : (rnAt (ba l) 0).length ≤ l.length := hrl
  show Code.wp _ _ _ _ (w.iter (ba l) 0)
  go_loopw [2] (fun n wr => ∃ c p : Nat, n = .int .i64 (c : Int) ∧ c + (rnAt (ba l) p).length = (rnAt (ba l) 0).length ∧ Hid (wr.heap[w.heap.size]? = some (.stringIter (ba l) p) ∧ Below w.heap.size w wr)) (fun _ wr => l.length - wr.iterPos w.heap.size)
  case atStart => exact ⟨0, 0, rfl, by omega, I0⟩
  case round =>
    obtain ⟨c, p, rfl, hc, hI⟩ := hrel
    have hip := iterPos_at hI.out.1
    by_cases hp : p < (ba l).size
    · have nx := next_more wr _ _ _ hI.out.1 hp
      have hm := rnAt_more (ba l) p hp
      have hwd := Lib.decode_width_pos (ba l) p hp
      have I2 : Hid ((wr.iterAt w.heap.size (ba l) (p + (Utf8.decode (ba l) p).2)).heap[w.heap.size]? = some (.stringIter (ba l) (p + (Utf8.decode (ba l) p).2)) ∧ Below w.heap.size w (wr.iterAt w.heap.size (ba l) (p + (Utf8.decode (ba l) p).2))) :=
        ⟨Lib.iterAt_heap _ _ _ _ _ hI.out.1, Lib.below_iterAt hI.out.2 (Nat.le_refl _) _ _⟩
      rw [hm, List.length_cons] at hc
      have HC := Lib.hid hc
      clear hm hc
      generalize Utf8.decode (ba l) p = d at nx I2 HC hwd
      obtain ⟨r, wd⟩ := d
      simp only at nx I2 HC hwd
      have wr1 : IntKind.i64.wrap ((c : Int) + 1) = (c : Int) + 1 := IntWalk.i64_in _ (by have := HC.out; omega)
      generalize wr.iterAt w.heap.size (ba l) (p + wd) = W2 at nx I2
      have hip2 := iterPos_at I2.out.1
      have HIP := Lib.hid hip
      have HIP2 := Lib.hid hip2
      clear hip hip2
      go_wp2_with fail
      go_roundw
      case rel => exact ⟨c + 1, p + wd, by go_num, by have := HC.out; omega, I2⟩
      case measure => have := HIP.out; have := HIP2.out; omega
    · have nx := next_end wr _ _ _ hI.out.1 hp
      have he := rnAt_end (ba l) p hp
      rw [he] at hc
      have hce : c = (rn l).length := by show c = (rnAt (ba l) 0).length; simpa using hc
      clear hc he hip
      subst hce
      go_wp2_with fail
      go_ret
      exact ⟨rfl, hI.out.2⟩

theorem blocks_any (w : World) : Calls Try.prog 34 #[] w fun e w' => e = .returned (.slice (some ⟨w.heap.size, 0, none⟩) 3 3) ∧
    w' = w.alloc (.cells #[.int .u8 1, .int .i32 97, .int .i32 122, .int .u8 2, .int .i32 945, .int .i32 969, .int .u8 3, .int .i32 1072, .int .i32 1103] 55 (0, 0)) := by
  go_enter Try.func34, Try.ntmps34
  go_wp2_with fail
  go_ret
  exact ⟨rfl, rfl⟩

set_option maxRecDepth 100000 in
set_option maxHeartbeats 4000000 in
theorem of_any (r : Int) (hr : 0 ≤ r) (hr2 : r ≤ 2147483647) (w : World) :
    Calls Try.prog 32 #[.int .i32 r] w fun e w' => e = .returned (.int .u8 (kd r : Int)) ∧ Below w.heap.size w w' := by
  have hk : (kd r : Int) = if 97 ≤ r ∧ r ≤ 122 then 1 else if 945 ≤ r ∧ r ≤ 969 then 2 else if 1072 ≤ r ∧ r ≤ 1103 then 3 else 0 := by unfold kd; (repeat' split) <;> rfl
  have B1 : Hid (Below w.heap.size w (w.alloc (.cells #[.int .u8 1, .int .i32 97, .int .i32 122, .int .u8 2, .int .i32 945, .int .i32 969, .int .u8 3, .int .i32 1072, .int .i32 1103] 55 (0, 0)))) := (Below.refl _ w).alloc (Nat.le_refl _) _
  have HK := Lib.hid hk
  clear hk
  go_enter Try.func32, Try.ntmps32
  go_wp2_with (go_at_call 34; refine (blocks_any _).mono ?_; rintro e w1 ⟨rfl, rfl⟩)
  refine wp_loop_rounds 4 ?_
  rw [rounds_succ]
  go_wp2_with fail
  all_goals (try (rw [rounds_succ]; go_wp2_with fail))
  all_goals (try (rw [rounds_succ]; go_wp2_with fail))
  all_goals (try (rw [rounds_succ]; go_wp2_with fail))
  all_goals
    go_ret
    refine ⟨?_, ?_⟩
    · rw [HK.out]
      (repeat' split) <;> first | rfl | omega
    · repeat (first | exact Below.refl _ w | exact B1.out | refine Below.alloc ?_ (by first | (simp; done) | (simp; omega)) _)
end Go.Proofs.Ytdmlfggokbmapaa
