/- The walk of OctetBack: what was put is read, and what is read is what would be put. No condition. -/
import Derived.Test.YtcndehoaflpifaaOctz
namespace Go.Proofs.Ytcndehoaflpifaa
open Go.RowKit

theorem below2 {B : Nat} {w a b : World} (h1 : Below B w a) (h2 : Below a.heap.size a b) (hB : B ≤ w.heap.size) : Below B w b := h1.trans (h2.mono (Nat.le_trans hB h1.size))

set_option maxRecDepth 20000 in
set_option maxHeartbeats 4000000 in
theorem OctetBack_walk (v : Int) (t s : List UInt8) (most : Int) (v0 : 0 ≤ v) (v1 : v ≤ 18446744073709551615) (hm : most ≤ 9223372036854775807) (w : World) :
    Calls Try.prog 5 #[.int .u64 v, str t, str s, .int .i64 most] w fun e w' => e = .returned (.bool true) ∧ Below w.heap.size w w' := by
  by_cases ht : 8192 < t.length
  · go_enter Try.func5, Try.ntmps5
    go_wp2_with (go_at_call 8; refine (alive_any _).mono ?_; rintro e w1 ⟨rfl, hb⟩)
    all_goals (go_ret; exact ⟨rfl, hb⟩)
  · by_cases hs : 8192 < s.length
    · go_enter Try.func5, Try.ntmps5
      go_wp2_with (go_at_call 8; refine (alive_any _).mono ?_; rintro e w1 ⟨rfl, hb⟩)
      all_goals (go_ret; exact ⟨rfl, hb⟩)
    · have nl := num_len (v := v.toNat) (by omega)
      have nt := num_len (v := t.length) (by omega)
      have tl : (text t).length = (num t.length).length + t.length := by simp [text]
      have N := fun W => Num_any v W v0 v1
      have T := fun W => Text_any t (by omega) W
      have R := fun W => ReadNum_any (num v.toNat ++ s) (by simp; omega) W
      have S := fun W => ReadText_any (text t ++ s) (by simp; omega) t.length (by omega) W
      rw [readNum_num v.toNat (by omega)] at R
      rw [readText_text t s (by omega) t.length (by omega)] at S
      have P := fun W => ReadNum_any s (by omega) W
      have Q := fun W => ReadText_any s (by omega) most hm W
      have hp := num_readNum s
      have hq := text_readText s most
      have hv : ((v.toNat : Nat) : Int) = v := by omega
      simp only [hv] at R
      generalize readNum s = p at P hp
      generalize readText s most = q at Q hq
      obtain ⟨c, k, g⟩ := p
      obtain ⟨d, j, h⟩ := q
      simp only at P Q hp hq
      have HN := Lib.hid N
      have HT := Lib.hid T
      have HR := Lib.hid R
      have HS := Lib.hid S
      have HP := Lib.hid P
      have HQ := Lib.hid Q
      clear N T R S P Q
      have a1 := fun W => str_add (P := Try.prog) (num v.toNat) s (by omega) W
      have a2 := fun W => str_add (P := Try.prog) (text t) s (by omega) W
      clear nl nt tl hv
      have HC : Hid (g = 0 → ∀ W, Calls Try.prog 11 #[.int .u64 (c : Int)] W fun e w' => e = .returned (str (num c)) ∧ Below W.heap.size W w') :=
        fun h0 W => Num_any (c : Int) W (by omega) (by have := (hp h0).2.2.2; omega)
      have HD : Hid (h = 0 → ∀ W, Calls Try.prog 14 #[str d] W fun e w' => e = .returned (str (text d)) ∧ Below W.heap.size W w') :=
        fun h0 W => Text_any d (by have h9 := (hq h0).2.2; have := h9.2; have := h9.1; have e := congrArg List.length (hq h0).1; simp [text] at e; omega) W
      have Hp := Lib.hid hp
      have Hq := Lib.hid hq
      clear hp hq
      have B0 : Below w.heap.size w w := Below.refl _ _
      go_enter Try.func5, Try.ntmps5
      go_wp2_with (first
        | (go_at_call 11; (with_reducible refine (HN.out _).mono ?_); rintro e w1 ⟨rfl, hb⟩; have B0 := below_step B0 hb ⟨rfl, rfl, rfl, rfl⟩; clear hb)
        | (go_at_call 9; (with_reducible refine (HR.out _).mono ?_); rintro e w1 ⟨rfl, rfl⟩)
        | (go_at_call 9; (with_reducible refine (HP.out _).mono ?_); rintro e w1 ⟨rfl, rfl⟩)
        | (go_at_call 14; (with_reducible refine (HT.out _).mono ?_); rintro e w1 ⟨rfl, hb⟩; have B0 := below_step B0 hb ⟨rfl, rfl, rfl, rfl⟩; clear hb)
        | (go_at_call 13; (with_reducible refine (HS.out _).mono ?_); rintro e w1 ⟨rfl, rfl⟩))
      clear a1 a2
      by_cases g0 : g = 0
      · subst g0
        obtain ⟨p1, p2, p3, p4⟩ := Hp.out rfl
        have HC := Lib.hid (HC.out rfl)
        have pq : (num c == s.take k) = true := by rw [p1]; simp
        have dk1 : decide ((k : Int) < 1) = false := by simp; omega
        have dk2 : decide (s.length < k) = false := by simp; omega
        clear p1
        clear HN HT HR HS HP
        go_region_held3 (fun _ => True) (trivial) (first | (go_at_call 11; (with_reducible refine (HC.out _).mono ?_); rintro e w2 ⟨rfl, hb⟩; have B0 := below_step B0 hb ⟨rfl, rfl, rfl, rfl⟩; clear hb))
        clear HC pq dk1 dk2
        go_wp2_with (go_at_call 13; (with_reducible refine (HQ.out _).mono ?_); rintro e w3 ⟨rfl, rfl⟩)
        by_cases h0 : h = 0
        · subst h0
          obtain ⟨q1, q2, q3, q4⟩ := Hq.out rfl
          have HD := Lib.hid (HD.out rfl)
          have qq : (text d == s.take j) = true := by rw [q1]; simp
          have ek1 : decide ((j : Int) < 1) = false := by simp; omega
          have ek2 : decide (s.length < j) = false := by simp; omega
          have ek3 : decide (max most 0 < (d.length : Int)) = false := by simp only [decide_eq_false_iff_not]; omega
          have ek4 : 0 ≤ most → decide (most < (d.length : Int)) = false := by intro _; simp only [decide_eq_false_iff_not]; omega
          have ek5 : most < 0 → d.length = 0 := by omega
          clear q1 q4
          rcases Int.lt_or_le most 0 with ms | ms
          · obtain rfl := List.eq_nil_of_length_eq_zero (ek5 ms)
            have ek6 : (if most < 0 then (0 : Int) else most) = 0 := if_pos ms
            clear ek4 ek5 ek3
            go_region_held3 (fun _ => True) (trivial) (first | (go_at_call 14; (with_reducible refine (HD.out _).mono ?_); rintro e w2 ⟨rfl, hb⟩; have B0 := below_step B0 hb ⟨rfl, rfl, rfl, rfl⟩; clear hb))
            go_wp2_with (go_at_call 8; refine (alive_any _).mono ?_; rintro e w1 ⟨rfl, hb⟩; have B0 := below_step B0 hb ⟨rfl, rfl, rfl, rfl⟩; clear hb)
            go_ret
            exact ⟨rfl, B0⟩
          · have ek6 := ek4 ms
            have ek7 : (if most < 0 then (0 : Int) else most) = most := if_neg (by omega)
            clear ek4 ek5 ek3
            go_region_held3 (fun _ => True) (trivial) (first | (go_at_call 14; (with_reducible refine (HD.out _).mono ?_); rintro e w2 ⟨rfl, hb⟩; have B0 := below_step B0 hb ⟨rfl, rfl, rfl, rfl⟩; clear hb))
            go_wp2_with (go_at_call 8; refine (alive_any _).mono ?_; rintro e w1 ⟨rfl, hb⟩; have B0 := below_step B0 hb ⟨rfl, rfl, rfl, rfl⟩; clear hb)
            go_ret
            exact ⟨rfl, B0⟩
        · have h1 : ((h : Int) == 0) = false := by simp; omega
          go_quiet (fail)
          go_wp2_with (go_at_call 8; refine (alive_any _).mono ?_; rintro e w1 ⟨rfl, hb⟩; have B0 := below_step B0 hb ⟨rfl, rfl, rfl, rfl⟩; clear hb)
          go_ret
          exact ⟨rfl, B0⟩
      · have g1 : ((g : Int) == 0) = false := by simp; omega
        clear HN HT HR HS HP HC Hp
        go_quiet (fail)
        go_wp2_with (go_at_call 13; (with_reducible refine (HQ.out _).mono ?_); rintro e w3 ⟨rfl, rfl⟩)
        by_cases h0 : h = 0
        · subst h0
          obtain ⟨q1, q2, q3, q4⟩ := Hq.out rfl
          have HD := Lib.hid (HD.out rfl)
          have qq : (text d == s.take j) = true := by rw [q1]; simp
          have ek1 : decide ((j : Int) < 1) = false := by simp; omega
          have ek2 : decide (s.length < j) = false := by simp; omega
          have ek3 : decide (max most 0 < (d.length : Int)) = false := by simp only [decide_eq_false_iff_not]; omega
          have ek4 : 0 ≤ most → decide (most < (d.length : Int)) = false := by intro _; simp only [decide_eq_false_iff_not]; omega
          have ek5 : most < 0 → d.length = 0 := by omega
          clear q1 q4
          rcases Int.lt_or_le most 0 with ms | ms
          · obtain rfl := List.eq_nil_of_length_eq_zero (ek5 ms)
            have ek6 : (if most < 0 then (0 : Int) else most) = 0 := if_pos ms
            clear ek4 ek5 ek3
            go_region_held3 (fun _ => True) (trivial) (first | (go_at_call 14; (with_reducible refine (HD.out _).mono ?_); rintro e w2 ⟨rfl, hb⟩; have B0 := below_step B0 hb ⟨rfl, rfl, rfl, rfl⟩; clear hb))
            go_wp2_with (go_at_call 8; refine (alive_any _).mono ?_; rintro e w1 ⟨rfl, hb⟩; have B0 := below_step B0 hb ⟨rfl, rfl, rfl, rfl⟩; clear hb)
            go_ret
            exact ⟨rfl, B0⟩
          · have ek6 := ek4 ms
            have ek7 : (if most < 0 then (0 : Int) else most) = most := if_neg (by omega)
            clear ek4 ek5 ek3
            go_region_held3 (fun _ => True) (trivial) (first | (go_at_call 14; (with_reducible refine (HD.out _).mono ?_); rintro e w2 ⟨rfl, hb⟩; have B0 := below_step B0 hb ⟨rfl, rfl, rfl, rfl⟩; clear hb))
            go_wp2_with (go_at_call 8; refine (alive_any _).mono ?_; rintro e w1 ⟨rfl, hb⟩; have B0 := below_step B0 hb ⟨rfl, rfl, rfl, rfl⟩; clear hb)
            go_ret
            exact ⟨rfl, B0⟩
        · have h1 : ((h : Int) == 0) = false := by simp; omega
          go_quiet (fail)
          go_wp2_with (go_at_call 8; refine (alive_any _).mono ?_; rintro e w1 ⟨rfl, hb⟩; have B0 := below_step B0 hb ⟨rfl, rfl, rfl, rfl⟩; clear hb)
          go_ret
          exact ⟨rfl, B0⟩
end Go.Proofs.Ytcndehoaflpifaa
