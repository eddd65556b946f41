/- The walk of ShaCopies. Condition: the table k reads as the standard's numbers. -/
import Derived.Test.YtlkcoljkmocejaaDoorSib
namespace Go.Proofs.YtlkcoljkmocejaaDoor
open Go.RowKit
set_option linter.unusedVariables false

theorem HashAt.lt {W : World} {g : Nat} {t : List UInt8} (h : HashAt W g t) : g < W.heap.size := by obtain ⟨_, h, _⟩ := h; exact h.lt
theorem HashAt.bel {W W' : World} {g : Nat} {t : List UInt8} (h : HashAt W g t) (hb : Below W.heap.size W W') : HashAt W' g t := by
  have hl := h.lt
  obtain ⟨wait, h1, h2⟩ := h
  exact ⟨wait, h1.below hb hl, h2⟩
theorem HashAt.grown {W W' : World} {g c : Nat} {t : List UInt8} (h : HashAt W c t) (hg : W.grownBy W' (some g)) (hne : c ≠ g) : HashAt W' c t := by
  obtain ⟨wait, h1, h2⟩ := h
  exact ⟨wait, ⟨(hg.block c h1.lt (fun e => hne (Option.some.inj e))).trans h1.row, h1.l8, h1.w64⟩, h2⟩
/-- Two hashes of the call's own. -/
structure Sm2 (w W : World) (g c : Nat) (x y : List UInt8) : Prop where
  h : HashAt W g x
  k : HashAt W c y
  b : Below w.heap.size w W
  hg : w.heap.size ≤ g
  hc : w.heap.size ≤ c
  ne : g ≠ c
theorem Sm2.swap {w W : World} {g c : Nat} {x y : List UInt8} (T : Sm2 w W g c x y) : Sm2 w W c g y x := ⟨T.k, T.h, T.b, T.hc, T.hg, T.ne.symm⟩
theorem Sm2.bel {w W W' : World} {g c : Nat} {x y : List UInt8} (T : Sm2 w W g c x y) (h : Below W.heap.size W W') : Sm2 w W' g c x y :=
  ⟨T.h.bel h, T.k.bel h, below_acc T.b h, T.hg, T.hc, T.ne⟩
theorem Sm2.kt {w W : World} {g c : Nat} {x y : List UInt8} (T : Sm2 w W g c x y) (hK : KT w) : KT W := hK.below T.b hK.lt
theorem Sm2.write {w W : World} {g c : Nat} {x y : List UInt8} (T : Sm2 w W g c x y) (hK : KT w) (s : List UInt8) (hb : x.length + s.length < 4611686018427387904) :
    Calls Tryd.prog 10 #[.pointer (some ⟨g, 0, none⟩), str s] W fun e w' => e = .returned (.tuple #[]) ∧ Sm2 w w' g c (x ++ s) y :=
  (Write_any g x s W T.h (T.kt hK) (Nat.ne_of_lt (Nat.lt_of_lt_of_le hK.lt T.hg)) hb).mono fun e w' ⟨h1, h2, h3⟩ => ⟨h1, h2, T.k.grown h3 T.ne.symm, below_of_grown T.b h3 T.hg T.b.size, T.hg, T.hc, T.ne⟩
theorem Sm2.csum {w W : World} {g c : Nat} {x y : List UInt8} (T : Sm2 w W g c x y) (hK : KT w) (hb : x.length ≤ 1099511627776) :
    Calls Tryd.prog 11 #[.pointer (some ⟨g, 0, none⟩)] W fun e w' => e = .returned (str (sum x)) ∧ Sm2 w w' g c x y :=
  (Sum_any g x W T.h (T.kt hK) hb).mono fun e w' ⟨h1, h2⟩ => ⟨h1, T.bel h2⟩
theorem Sm2.shaSum {w W : World} {g c : Nat} {x y : List UInt8} (T : Sm2 w W g c x y) (hK : KT w) (s : List UInt8) (hb : s.length ≤ 1099511627776) :
    Calls Tryd.prog 8 #[str s] W fun e w' => e = .returned (str (sum s)) ∧ Sm2 w w' g c x y :=
  (shaSum_any s W (T.kt hK) hb).mono fun e w' ⟨h1, h2⟩ => ⟨h1, T.bel h2⟩

set_option maxRecDepth 100000 in
set_option maxHeartbeats 8000000 in
theorem ShaCopies_walk (s a b : List UInt8) (w : World) (hK : KT w) (hs : s.length ≤ 9223372036854775807) (ha : a.length ≤ 9223372036854775807) (hb : b.length ≤ 9223372036854775807) :
    Calls Tryd.prog 6 #[str s, str a, str b] w fun e w' => e = .returned (.bool true) ∧ Below w.heap.size w w' := by
  have CA0 := Lib.hid (alive_any w hK)
  by_cases h1 : s.length ≤ 4096
  · have d1 : decide (4096 < (s.length : Int)) = false := by simp; omega
    by_cases h2 : a.length ≤ 4096
    · have d2 : decide (4096 < (a.length : Int)) = false := by simp; omega
      by_cases h3 : b.length ≤ 4096
      · have d3 : decide (4096 < (b.length : Int)) = false := by simp; omega
        have HK := Lib.hid hK
        have CN := Lib.hid (New_any w)
        clear hK CA0
        go_enter Tryd.func6, Tryd.ntmps6
        go_wp2_with fail
        refine CN.out.mono ?_
        rintro e w1 ⟨rfl, n1, b1⟩
        have HA := Lib.hid (And.intro n1 b1)
        clear n1 b1 CN
        have CW := Lib.hid (Write_any w.heap.size [] s w1 HA.out.1 (HK.out.below HA.out.2 HK.out.lt) (Nat.ne_of_lt HK.out.lt) (by simp; omega))
        go_wp2_with fail
        refine CW.out.mono ?_
        rintro e w2 ⟨rfl, n2, g2⟩
        rw [List.nil_append] at n2
        have HB : Hid (HashAt w2 w.heap.size s ∧ Below w.heap.size w w2 ∧ w.heap.size < w2.heap.size) := ⟨n2, below_of_grown HA.out.2 g2 (Nat.le_refl _) HA.out.2.size, n2.lt⟩
        clear n2 g2 CW HA
        have CC := Lib.hid (Copy_any w.heap.size s w2 HB.out.1)
        go_wp2_with fail
        refine CC.out.mono ?_
        rintro e w3 ⟨rfl, n3, b3⟩
        have T3 : Hid (Sm2 w w3 w.heap.size w2.heap.size s s) := ⟨HB.out.1.bel b3, n3, below_acc HB.out.2.1 b3, Nat.le_refl _, HB.out.2.1.size, Nat.ne_of_lt HB.out.2.2⟩
        generalize w2.heap.size = c at T3 ⊢
        clear HB CC n3 b3
        go_wp2_with fail
        refine (T3.out.write HK.out a (by omega)).mono ?_
        rintro e w4 ⟨rfl, t4⟩
        have T4 := Lib.hid t4.swap
        clear t4 T3
        go_wp2_with fail
        refine (T4.out.write HK.out b (by omega)).mono ?_
        rintro e w5 ⟨rfl, t5⟩
        have T5 := Lib.hid t5.swap
        clear t5 T4
        go_wp2_with fail
        refine (T5.out.write HK.out b (by simp; omega)).mono ?_
        rintro e w6 ⟨rfl, t6⟩
        rw [List.append_assoc] at t6
        have T6 := Lib.hid t6
        clear t6 T5
        go_wp2_with fail
        refine (T6.out.csum HK.out (by simp; omega)).mono ?_
        rintro e w7 ⟨rfl, t7⟩
        have T7 := Lib.hid t7
        clear t7 T6
        have sa := str_add (P := Tryd.prog) s a (by omega)
        have sb := str_add (P := Tryd.prog) (s ++ a) b (by simp; omega)
        have sc := str_add (P := Tryd.prog) s b (by omega)
        go_wp2_with fail
        refine (T7.out.shaSum HK.out (s ++ (a ++ b)) (by simp; omega)).mono ?_
        rintro e w8 ⟨rfl, t8⟩
        have T8 := Lib.hid t8.swap
        clear t8 T7
        go_wp2_with fail
        refine (T8.out.csum HK.out (by simp; omega)).mono ?_
        rintro e w9 ⟨rfl, t9⟩
        have T9 := Lib.hid t9
        clear t9 T8
        go_wp2_with fail
        refine (T9.out.shaSum HK.out (s ++ b) (by simp; omega)).mono ?_
        rintro e w10 ⟨rfl, t10⟩
        have T10 := Lib.hid t10
        clear t10 T9 sa sb sc
        go_wp2_with fail
        refine (Len_any _ _ _ T10.out.swap.h).mono ?_
        rintro e w11 ⟨rfl, rfl⟩
        have L1 : ((s ++ (a ++ b)).length : Int) = (s.length : Int) + (a.length : Int) + (b.length : Int) := by simp; omega
        rw [L1]
        clear L1
        go_wp2_with fail
        refine (Len_any _ _ _ T10.out.h).mono ?_
        rintro e w11 ⟨rfl, rfl⟩
        have L1 : ((s ++ b).length : Int) = (s.length : Int) + (b.length : Int) := by simp
        rw [L1]
        clear L1
        go_wp2_with fail
        refine (alive_any _ (T10.out.kt HK.out)).mono ?_
        rintro e w11 ⟨rfl, b11⟩
        have B11 := Lib.hid (below_acc T10.out.b b11)
        clear b11 T10
        go_wp2_with fail
        go_ret
        exact ⟨rfl, B11.out⟩
      · have d3 : decide (4096 < (b.length : Int)) = true := by simp; omega
        clear hK
        go_enter Tryd.func6, Tryd.ntmps6
        go_wp2_with (first
          | (go_at_call 7; refine CA0.out.mono ?_; rintro e w3 ⟨rfl, b3⟩))
        go_ret
        exact ⟨rfl, b3⟩
    · have d2 : decide (4096 < (a.length : Int)) = true := by simp; omega
      clear hK
      go_enter Tryd.func6, Tryd.ntmps6
      go_wp2_with (first
        | (go_at_call 7; refine CA0.out.mono ?_; rintro e w3 ⟨rfl, b3⟩))
      go_ret
      exact ⟨rfl, b3⟩
  · have d1 : decide (4096 < (s.length : Int)) = true := by simp; omega
    clear hK
    go_enter Tryd.func6, Tryd.ntmps6
    go_wp2_with (first
      | (go_at_call 7; refine CA0.out.mono ?_; rintro e w3 ⟨rfl, b3⟩))
    go_ret
    exact ⟨rfl, b3⟩
end Go.Proofs.YtlkcoljkmocejaaDoor
