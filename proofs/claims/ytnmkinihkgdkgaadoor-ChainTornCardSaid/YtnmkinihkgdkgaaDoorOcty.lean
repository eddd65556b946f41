/- The walks of layer 1, third part: texts that are read. Condition: lengths that a machine has. -/
import Derived.Test.YtnmkinihkgdkgaaDoorOctx
namespace Go.Proofs.YtnmkinihkgdkgaaDoor
open Go.RowKit

theorem tuple3s {a a' : List UInt8} {b b' c c' : Int} (h1 : a = a') (h2 : b = b') (h3 : c = c') : Ending.returned (.tuple #[str a, .int .i64 b, .int .i64 c]) = .returned (.tuple #[str a', .int .i64 b', .int .i64 c']) := by rw [h1, h2, h3]

/-- What readNum answers, for the walk: the number and the count fit. -/
theorem readNum_fits (l : List UInt8) : ((readNum l).2.2 = 0 ∨ (readNum l).2.2 = 6 ∨ (readNum l).2.2 = 7) ∧ (readNum l).1 < 18446744073709551616 ∧ (readNum l).2.1 ≤ l.length ∧ ((readNum l).2.2 = 0 → 1 ≤ (readNum l).2.1) := by
  by_cases h : (readNum l).2.2 = 0
  · obtain ⟨_, b, c, d⟩ := num_readNum l h
    exact ⟨.inl h, d, c, fun _ => b⟩
  · refine ⟨?_, ?_, ?_, fun e => absurd e h⟩ <;> (cases l with
    | nil => simp [readNum]
    | cons b r =>
      simp only [readNum] at h ⊢
      split
      · rename_i h1; rw [if_pos h1] at h; simp at h
      · rename_i h1; rw [if_neg h1] at h
        split
        · simp
        · rename_i h2; rw [if_neg h2] at h
          split
          · simp
          · rename_i h3; rw [if_neg h3] at h; simp at h)

set_option maxHeartbeats 800000 in
theorem ReadText_any (l : List UInt8) (hl : l.length ≤ 9223372036854775700) (most : Int) (hm : most ≤ 9223372036854775807) (w : World) :
    Calls Tryd.prog 34 #[str l, .int .i64 most] w fun e w' => e = .returned (.tuple #[str (readText l most).1, .int .i64 (readText l most).2.1, .int .i64 (readText l most).2.2]) ∧ w = w' := by
  have hc := ReadNum_any l (by omega)
  have hf := readNum_fits l
  have hd : readText l most = if (readNum l).2.2 ≠ 0 then ([], 0, (readNum l).2.2) else if max most 0 < ((readNum l).1 : Int) then ([], 0, 5) else if l.length < (readNum l).2.1 + (readNum l).1 then ([], 0, 6) else ((l.drop (readNum l).2.1).take (readNum l).1, (readNum l).2.1 + (readNum l).1, 0) := rfl
  generalize readText l most = R at hd ⊢
  generalize hq : readNum l = q at *
  obtain ⟨v, n, e⟩ := q
  simp only at hc hf hd
  have Hc := Lib.hid hc
  clear hc hq
  obtain ⟨he, hv, hn, hn1⟩ := hf
  by_cases he0 : e = 0
  · subst he0
    have hn2 := hn1 rfl
    clear he hn1
    rw [if_neg (by simp)] at hd
    have part : ∀ m : Int, 0 ≤ m → m = max most 0 → (m < v ∧ R = ([], 0, 5)) ∨ ((v : Int) ≤ m ∧ l.length < n + v ∧ R = ([], 0, 6)) ∨ ((v : Int) ≤ m ∧ n + v ≤ l.length ∧ R = ((l.drop n).take v, n + v, 0)) := by
      intro m _ e
      rw [← e] at hd
      by_cases h1 : m < v
      · rw [if_pos h1] at hd; exact .inl ⟨h1, hd⟩
      · rw [if_neg h1] at hd
        by_cases h2 : l.length < n + v
        · rw [if_pos h2] at hd; exact .inr (.inl ⟨by omega, h2, hd⟩)
        · rw [if_neg h2] at hd; exact .inr (.inr ⟨by omega, by omega, hd⟩)
    have htk : List.drop n (List.take (n + v) l) = (l.drop n).take v := by rw [List.drop_take]; congr 1; omega
    clear hd
    by_cases hs : most < 0
    · have hp := part 0 (by omega) (by omega)
      clear part
      rcases hp with ⟨h1, rfl⟩ | ⟨h1, h2, rfl⟩ | ⟨h1, h2, rfl⟩
      · go_enter Tryd.func34, Tryd.ntmps34
        go_wp2_with (go_at_call 44; refine (Hc.out _).mono ?_; rintro e w1 ⟨rfl, rfl⟩)
        go_ret3
        exact ⟨rfl, rfl⟩
      · exfalso; omega
      · obtain rfl : v = 0 := by omega
        go_enter Tryd.func34, Tryd.ntmps34
        go_wp2_with (go_at_call 44; refine (Hc.out _).mono ?_; rintro e w1 ⟨rfl, rfl⟩)
        go_ret3
        exact ⟨tuple3s (by simp) (by simp) rfl, rfl⟩
    · have hp := part most (by omega) (by omega)
      clear part
      rcases hp with ⟨h1, rfl⟩ | ⟨h1, h2, rfl⟩ | ⟨h1, h2, rfl⟩
      · go_enter Tryd.func34, Tryd.ntmps34
        go_wp2_with (go_at_call 44; refine (Hc.out _).mono ?_; rintro e w1 ⟨rfl, rfl⟩)
        go_ret3
        exact ⟨rfl, rfl⟩
      · go_enter Tryd.func34, Tryd.ntmps34
        go_wp2_with (go_at_call 44; refine (Hc.out _).mono ?_; rintro e w1 ⟨rfl, rfl⟩)
        go_ret3
        exact ⟨rfl, rfl⟩
      · go_enter Tryd.func34, Tryd.ntmps34
        go_wp2_with (go_at_call 44; refine (Hc.out _).mono ?_; rintro e w1 ⟨rfl, rfl⟩)
        go_ret3
        first | exact ⟨tuple3s rfl (by simp) rfl, rfl⟩ | exact ⟨tuple3s htk (by simp) rfl, rfl⟩
  · rw [if_pos he0] at hd
    subst hd
    have he1 : ((e : Int) == 0) = false := by simp; omega
    have he2 : ((e : Int) != 0) = true := by simp; omega
    go_enter Tryd.func34, Tryd.ntmps34
    go_wp2_with (go_at_call 44; refine (Hc.out _).mono ?_; rintro e w1 ⟨rfl, rfl⟩)
    go_ret3
    exact ⟨rfl, rfl⟩

set_option maxHeartbeats 800000 in
theorem refReadText_any (l : List UInt8) (hl : l.length ≤ 9223372036854775700) (most : Int) (hm : most ≤ 9223372036854775807) (w : World) :
    Calls Tryd.prog 25 #[str l, .int .i64 most] w fun e w' => e = .returned (.tuple #[str (readText l most).1, .int .i64 (readText l most).2.1, .int .i64 (readText l most).2.2]) ∧ Below w.heap.size w w' := by
  have hc := refReadNum_any l (by omega)
  have hf := readNum_fits l
  have hd : readText l most = if (readNum l).2.2 ≠ 0 then ([], 0, (readNum l).2.2) else if max most 0 < ((readNum l).1 : Int) then ([], 0, 5) else if l.length < (readNum l).2.1 + (readNum l).1 then ([], 0, 6) else ((l.drop (readNum l).2.1).take (readNum l).1, (readNum l).2.1 + (readNum l).1, 0) := rfl
  generalize readText l most = R at hd ⊢
  generalize hq : readNum l = q at *
  obtain ⟨v, n, e⟩ := q
  simp only at hc hf hd
  have Hc := Lib.hid hc
  clear hc hq
  obtain ⟨he, hv, hn, hn1⟩ := hf
  by_cases he0 : e = 0
  · subst he0
    have hn2 := hn1 rfl
    clear he hn1
    rw [if_neg (by simp)] at hd
    have part : ∀ m : Int, 0 ≤ m → m = max most 0 → (m < v ∧ R = ([], 0, 5)) ∨ ((v : Int) ≤ m ∧ l.length < n + v ∧ R = ([], 0, 6)) ∨ ((v : Int) ≤ m ∧ n + v ≤ l.length ∧ R = ((l.drop n).take v, n + v, 0)) := by
      intro m _ e
      rw [← e] at hd
      by_cases h1 : m < v
      · rw [if_pos h1] at hd; exact .inl ⟨h1, hd⟩
      · rw [if_neg h1] at hd
        by_cases h2 : l.length < n + v
        · rw [if_pos h2] at hd; exact .inr (.inl ⟨by omega, h2, hd⟩)
        · rw [if_neg h2] at hd; exact .inr (.inr ⟨by omega, by omega, hd⟩)
    have htk : List.drop n (List.take (n + v) l) = (l.drop n).take v := by rw [List.drop_take]; congr 1; omega
    clear hd
    by_cases hs : most < 0
    · have hp := part 0 (by omega) (by omega)
      clear part
      rcases hp with ⟨h1, rfl⟩ | ⟨h1, h2, rfl⟩ | ⟨h1, h2, rfl⟩
      · go_enter Tryd.func25, Tryd.ntmps25
        go_wp2_with (go_at_call 35; refine (Hc.out _).mono ?_; rintro e w1 ⟨rfl, hb⟩)
        go_ret3
        exact ⟨rfl, hb⟩
      · exfalso; omega
      · obtain rfl : v = 0 := by omega
        go_enter Tryd.func25, Tryd.ntmps25
        go_wp2_with (go_at_call 35; refine (Hc.out _).mono ?_; rintro e w1 ⟨rfl, hb⟩)
        go_ret3
        exact ⟨tuple3s (by simp) (by simp) rfl, hb⟩
    · have hp := part most (by omega) (by omega)
      clear part
      rcases hp with ⟨h1, rfl⟩ | ⟨h1, h2, rfl⟩ | ⟨h1, h2, rfl⟩
      · go_enter Tryd.func25, Tryd.ntmps25
        go_wp2_with (go_at_call 35; refine (Hc.out _).mono ?_; rintro e w1 ⟨rfl, hb⟩)
        go_ret3
        exact ⟨rfl, hb⟩
      · go_enter Tryd.func25, Tryd.ntmps25
        go_wp2_with (go_at_call 35; refine (Hc.out _).mono ?_; rintro e w1 ⟨rfl, hb⟩)
        go_ret3
        exact ⟨rfl, hb⟩
      · go_enter Tryd.func25, Tryd.ntmps25
        go_wp2_with (go_at_call 35; refine (Hc.out _).mono ?_; rintro e w1 ⟨rfl, hb⟩)
        go_ret3
        first | exact ⟨tuple3s rfl (by simp) rfl, hb⟩ | exact ⟨tuple3s htk (by simp) rfl, hb⟩
  · rw [if_pos he0] at hd
    subst hd
    have he1 : ((e : Int) == 0) = false := by simp; omega
    have he2 : ((e : Int) != 0) = true := by simp; omega
    go_enter Tryd.func25, Tryd.ntmps25
    go_wp2_with (go_at_call 35; refine (Hc.out _).mono ?_; rintro e w1 ⟨rfl, hb⟩)
    go_ret3
    exact ⟨rfl, hb⟩

end Go.Proofs.YtnmkinihkgdkgaaDoor
