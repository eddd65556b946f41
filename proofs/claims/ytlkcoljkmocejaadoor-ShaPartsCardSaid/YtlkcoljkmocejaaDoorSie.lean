/- The walk of ShaParts. Condition: the table k reads as the standard's numbers. -/
import Derived.Test.YtlkcoljkmocejaaDoorSid
import Derived.Test.YtlkcoljkmocejaaDoorTxt
import Derived.Test.YtlkcoljkmocejaaDoorBls
namespace Go.Proofs.YtlkcoljkmocejaaDoor
open Go.RowKit
set_option linter.unusedVariables false

theorem Bls.below {w w' : World} {B B' : Nat} {A : Option Addr} {bs : List Bool} (h : Bls w B A bs) (hb : Below B' w w') (hB : B ≤ B') : Bls w' B A bs := fun i hi => by
  obtain ⟨b, o, e, hl, hc⟩ := h i hi
  exact ⟨b, o, e, hl, (hb.cell (p := ⟨b, o + i, none⟩) (Nat.lt_of_lt_of_le hl hB)).trans hc⟩
theorem Sm.kt {w W : World} {x : List UInt8} (T : Sm w W x) (hK : KT w) : KT W := hK.below T.b hK.lt
theorem Sm.csum {w W : World} {x : List UInt8} (T : Sm w W x) (hK : KT w) (hb : x.length ≤ 1099511627776) :
    Calls Tryd.prog 11 #[.pointer (some ⟨w.heap.size, 0, none⟩)] W fun e w' => e = .returned (str (sum x)) ∧ Sm w w' x :=
  (Sum_any _ x W T.h (T.kt hK) hb).mono fun e w' ⟨h1, h2⟩ => ⟨h1, T.bel h2⟩
theorem Sm.shaSum {w W : World} {x : List UInt8} (T : Sm w W x) (hK : KT w) (s : List UInt8) (hb : s.length ≤ 1099511627776) :
    Calls Tryd.prog 8 #[str s] W fun e w' => e = .returned (str (sum s)) ∧ Sm w w' x :=
  (shaSum_any s W (T.kt hK) hb).mono fun e w' ⟨h1, h2⟩ => ⟨h1, T.bel h2⟩
theorem Sm.alive {w W : World} {x : List UInt8} (T : Sm w W x) (hK : KT w) :
    Calls Tryd.prog 7 #[] W fun e w' => e = .returned (.bool true) ∧ Below w.heap.size w w' :=
  (alive_any W (T.kt hK)).mono fun e w' ⟨h1, h2⟩ => ⟨h1, below_acc T.b h2⟩

set_option maxRecDepth 100000 in
set_option maxHeartbeats 8000000 in
theorem ShaParts_walk (A A' : Option Addr) (c c' : Nat) (ls : List (List UInt8)) (bs : List Bool) (hl : ls.length ≤ 9223372036854775807) (hm : bs.length ≤ 9223372036854775807) (w : World) (hK : KT w)
    (hT : Txt w w.heap.size A ls) (hU : Bls w w.heap.size A' bs) :
    Calls Tryd.prog 5 #[.slice A ls.length c, .slice A' bs.length c'] w fun e w' => e = .returned (.bool true) ∧ Below w.heap.size w w' := by
  by_cases h1 : ls.length ≤ 100
  · have d1 : decide (100 < (ls.length : Int)) = false := by simp; omega
    have HK := Lib.hid hK
    have CN := Lib.hid (New_any w)
    clear hK
    go_enter Tryd.func5, Tryd.ntmps5
    go_wp2_with fail
    refine CN.out.mono ?_
    rintro e w1 ⟨rfl, n1, b1⟩
    have T1 : Hid (Sm w w1 []) := ⟨n1, b1, n1.lt⟩
    clear n1 b1 CN
    go_wp2_with fail
    refine (Len_any _ _ _ T1.out.h).mono ?_
    rintro e w2 ⟨rfl, rfl⟩
    go_wp2_with fail
    go_loopw [6, 7] (fun u k wr => ∃ (i : Nat) (x : List UInt8), i ≤ ls.length ∧ x.length ≤ 12288 ∧ u = str x ∧ k = .int .i64 i ∧ Hid (Sm w wr x)) (fun _ k _ => ls.length - (intOf k).toNat)
    case atStart => exact ⟨0, [], by omega, by simp, rfl, rfl, T1⟩
    case round =>
      obtain ⟨i, x, hi, hx, rfl, rfl, HS⟩ := hrel
      clear T1
      by_cases hk : i < ls.length
      · obtain ⟨b, o, rfl, hbB, hc⟩ := hT i hk
        have g := (HS.out.b.cell (p := ⟨b, o + i, none⟩) hbB).trans hc
        have kb : 0 ≤ (i : Int) ∧ (i : Int) < (ls.length : Int) := by omega
        have HC := Lib.hid hc
        have HT := Lib.hid hT
        clear hT hc
        generalize ls[i] = y at g HC
        by_cases h2 : y.length ≤ 4096
        · have d2 : decide (4096 < (y.length : Int)) = false := by simp; omega
          by_cases h3 : x.length ≤ 8192
          · have d3 : decide (8192 < (x.length : Int)) = false := by simp; omega
            go_wp2_with fail
            refine (HS.out.write HK.out y (by omega)).mono ?_
            rintro e w2 ⟨rfl, s2⟩
            clear g
            have g := (s2.b.cell (p := ⟨b, o + i, none⟩) hbB).trans HC.out
            have S2 := Lib.hid s2
            clear s2 HS
            have sa := str_add (P := Tryd.prog) x y (by omega)
            go_wp2_with fail
            refine (Len_any _ _ _ S2.out.h).mono ?_
            rintro e w3 ⟨rfl, rfl⟩
            have ne : (((x ++ y).length : Int) != ((x ++ y).length : Int)) = false := by simp
            by_cases h4 : i < bs.length
            · have d4 : decide ((i : Int) < (bs.length : Int)) = true := by simp; omega
              obtain ⟨b', o', rfl, hbB', hc'⟩ := hU i h4
              have g' := (S2.out.b.cell (p := ⟨b', o' + i, none⟩) hbB').trans hc'
              have kb' : 0 ≤ (i : Int) ∧ (i : Int) < (bs.length : Int) := by omega
              have HU := Lib.hid hU
              clear hU hc'
              generalize bs[i] = y' at g'
              cases y'
              · clear sa
                go_wp2_with fail
                go_roundw
                case rel => exact ⟨i + 1, x ++ y, by omega, by simp; omega, rfl, by go_num, S2⟩
                case measure => simp [intOf]; omega
              · go_wp2_with fail
                refine (S2.out.csum HK.out (by simp; omega)).mono ?_
                rintro e w4 ⟨rfl, s4⟩
                have S4 := Lib.hid s4
                clear s4 S2 g g'
                go_wp2_with fail
                refine (S4.out.shaSum HK.out (x ++ y) (by simp; omega)).mono ?_
                rintro e w5 ⟨rfl, s5⟩
                have S5 := Lib.hid s5
                clear s5 S4 sa
                have ne2 : (sum (x ++ y) != sum (x ++ y)) = false := by simp
                go_wp2_with fail
                go_roundw
                case rel => exact ⟨i + 1, x ++ y, by omega, by simp; omega, rfl, by go_num, S5⟩
                case measure => simp [intOf]; omega
            · have d4 : decide ((i : Int) < (bs.length : Int)) = false := by simp; omega
              clear sa
              go_wp2_with fail
              go_roundw
              case rel => exact ⟨i + 1, x ++ y, by omega, by simp; omega, rfl, by go_num, S2⟩
              case measure => simp [intOf]; omega
          · have d3 : decide (8192 < (x.length : Int)) = true := by simp; omega
            go_wp2_with fail
            refine (HS.out.alive HK.out).mono ?_
            rintro e w2 ⟨rfl, b2⟩
            have B2 := Lib.hid b2
            clear b2
            go_wp2_with fail
            go_ret
            exact ⟨rfl, B2.out⟩
        · have d2 : decide (4096 < (y.length : Int)) = true := by simp; omega
          go_wp2_with fail
          refine (HS.out.alive HK.out).mono ?_
          rintro e w2 ⟨rfl, b2⟩
          have B2 := Lib.hid b2
          clear b2
          go_wp2_with fail
          go_ret
          exact ⟨rfl, B2.out⟩
      · clear hT hU
        go_wp2_with fail
        refine (HS.out.csum HK.out (by omega)).mono ?_
        rintro e w2 ⟨rfl, s2⟩
        have S2 := Lib.hid s2
        clear s2 HS
        go_wp2_with fail
        refine (S2.out.shaSum HK.out x (by omega)).mono ?_
        rintro e w3 ⟨rfl, s3⟩
        have S3 := Lib.hid s3
        clear s3 S2
        go_wp2_with fail
        refine (S3.out.csum HK.out (by omega)).mono ?_
        rintro e w4 ⟨rfl, s4⟩
        have S4 := Lib.hid s4
        clear s4 S3
        go_wp2_with fail
        refine (S4.out.shaSum HK.out x (by omega)).mono ?_
        rintro e w5 ⟨rfl, s5⟩
        have S5 := Lib.hid s5
        clear s5 S4
        go_wp2_with fail
        refine (S5.out.csum HK.out (by omega)).mono ?_
        rintro e w6 ⟨rfl, s6⟩
        have S6 := Lib.hid s6
        clear s6 S5
        have sl : (sum x).length = 32 := sum_len x
        go_wp2_with fail
        refine (S6.out.alive HK.out).mono ?_
        rintro e w7 ⟨rfl, b7⟩
        have B7 := Lib.hid b7
        clear b7 S6
        go_wp2_with fail
        go_ret
        exact ⟨rfl, B7.out⟩
  · have d1 : decide (100 < (ls.length : Int)) = true := by simp; omega
    have CA := Lib.hid (alive_any w hK)
    clear hK hT hU
    go_enter Tryd.func5, Tryd.ntmps5
    go_wp2_with (first
      | (go_at_call 7; refine CA.out.mono ?_; rintro e w3 ⟨rfl, b3⟩))
    go_ret
    exact ⟨rfl, b3⟩
end Go.Proofs.YtlkcoljkmocejaaDoor
