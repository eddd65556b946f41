/- The walk of HmacReady. Condition: the table k reads as the standard's numbers. -/
import Derived.Test.YtgibonhlhpkfkaaDoorHma
import Derived.Test.YtgibonhlhpkfkaaDoorTxt
namespace Go.Proofs.YtgibonhlhpkfkaaDoor
open Go.RowKit
set_option linter.unusedVariables false

/-- The memory of a round: the key, two texts. -/
structure R3 (w W : World) (g : Nat) (key : List UInt8) (h1 h2 b o i : Nat) (y y0 : List UInt8) : Prop where
  c : W.cell? ⟨b, o + i, none⟩ = some (str y)
  c0 : W.cell? ⟨b, o, none⟩ = some (str y0)
  l : b < W.heap.size
  k : K3 w W g key h1 h2
theorem R3.bel {w W W' : World} {g h1 h2 b o i : Nat} {key y y0 : List UInt8} (T : R3 w W g key h1 h2 b o i y y0) (hb : Below W.heap.size W W') : R3 w W' g key h1 h2 b o i y y0 :=
  ⟨(bcell hb b _ T.l).trans T.c, (bcell hb b _ T.l).trans T.c0, Nat.lt_of_lt_of_le T.l hb.size, T.k.bel hb⟩
theorem R3.draw {w W : World} {g h1 h2 b o i : Nat} {key y y0 : List UInt8} (T : R3 w W g key h1 h2 b o i y y0) : R3 w W.drew g key h1 h2 b o i y y0 :=
  ⟨T.c, T.c0, T.l, T.k.draw⟩
theorem R3.s {w W : World} {g h1 h2 b o i : Nat} {key y y0 : List UInt8} (T : R3 w W g key h1 h2 b o i y y0) :
    W.cell? ⟨b, o + i, none⟩ = some (str y) ∧ W.cell? ⟨b, o, none⟩ = some (str y0) ∧ R3 w W g key h1 h2 b o i y y0 := ⟨T.c, T.c0, T⟩
theorem KSum_on (g h1 h2 : Nat) (key s : List UInt8) (w W : World) (T : K3 w W g key h1 h2) (hl : s.length ≤ 1099511627000) :
    Calls Tryd.prog 11 #[.pointer (some ⟨g, 0, none⟩), str s] W fun e w' => e = .returned (str (hm key s)) ∧ Below W.heap.size W w' :=
  KSum_any g h1 h2 key s W T.k T.t hl

set_option maxRecDepth 100000 in
set_option maxHeartbeats 8000000 in
theorem HmacReady_walk (key : List UInt8) (A : Option Addr) (c : Nat) (ls : List (List UInt8)) (hl : ls.length ≤ 9223372036854775807) (hk : key.length ≤ 9223372036854775807) (hx : ∀ x ∈ ls, x.length ≤ 9223372036854775807) (w : World) (hK : KT w)
    (hT : Txt w w.heap.size A ls) :
    Calls Tryd.prog 5 #[str key, .slice A ls.length c] w fun e w' => e = .returned (.bool true) ∧ Below w.heap.size w w' := by
  have CA0 := Lib.hid (alive_any w hK)
  have HX := Lib.hid hx
  clear hx
  by_cases h1 : key.length ≤ 4096
  · have d1 : decide (4096 < (key.length : Int)) = false := by simp; omega
    by_cases h2 : ls.length ≤ 30
    · have d2 : decide (30 < (ls.length : Int)) = false := by simp; omega
      have HK := Lib.hid hK
      have CN := Lib.hid (hNew_any key w hK (by omega))
      clear hK CA0
      go_enter Tryd.func5, Tryd.ntmps5
      go_wp2_with fail
      refine CN.out.mono ?_
      rintro e w1 ⟨g, h1', h2', rfl, hg, n1, b1⟩
      have T1 : Hid (K3 w w1 g key h1' h2') := ⟨n1, HK.out.bel b1, b1⟩
      clear n1 b1 CN
      go_wp2_with fail
      go_loop [6] (fun k => ∃ i : Nat, i ≤ ls.length ∧ k = .int .i64 i ∧ Hid (∀ j (h : j < ls.length), j < i → ls[j].length ≤ 4096)) (fun k => ls.length - (intOf k).toNat)
      case atStart => exact ⟨0, by omega, rfl, fun j h hj => by omega⟩
      case round =>
        obtain ⟨i, hi, rfl, HJ⟩ := hrel
        by_cases hki : i < ls.length
        · obtain ⟨b, o, rfl, hbB, hc⟩ := hT i hki
          have g1 := (T1.out.b.cell (p := ⟨b, o + i, none⟩) hbB).trans hc
          have kb : 0 ≤ (i : Int) ∧ (i : Int) < (ls.length : Int) := by omega
          have HT := Lib.hid hT
          have HXI : Hid (ls[i].length ≤ 9223372036854775807) := HX.out _ (List.getElem_mem hki)
          have HJ2 : Hid (ls[i].length ≤ 4096 → ∀ j (h : j < ls.length), j < i + 1 → ls[j].length ≤ 4096) := fun hy j h hj => by
            by_cases e : j = i
            · subst e; exact hy
            · exact HJ.out j h (by omega)
          clear hT hc
          generalize ls[i] = y at g1 HJ2 HXI
          have hxi := HXI.out
          clear HXI
          by_cases h3 : y.length ≤ 4096
          · have d3 : decide (4096 < (y.length : Int)) = false := by simp; omega
            go_wp2_with fail
            go_round
            case rel => exact ⟨i + 1, by omega, by go_num, HJ2.out h3⟩
            case measure => simp [intOf]; omega
          · have d3 : decide (4096 < (y.length : Int)) = true := by simp; omega
            go_wp2_with fail
            refine (alive_on w w1 HK.out T1.out.b).mono ?_
            rintro e w2 ⟨rfl, b2⟩
            have B2 := Lib.hid b2
            clear b2
            go_wp2_with fail
            go_ret
            exact ⟨rfl, B2.out⟩
        · have HY : Hid (∀ j (h : j < ls.length), ls[j].length ≤ 4096) := fun j h => HJ.out j h (by omega)
          clear HJ
          go_wp2_with fail
          go_loopw [7] (fun k wr => ∃ i : Nat, i ≤ ls.length ∧ k = .int .i64 i ∧ Hid (K3 w wr g key h1' h2')) (fun k _ => ls.length - (intOf k).toNat)
          case atStart => exact ⟨0, by omega, rfl, T1⟩
          case round =>
            clear hki hi T1
            obtain ⟨m, hmi, rfl, TT⟩ := hrel
            by_cases hkm : m < ls.length
            · obtain ⟨b, o, rfl, hbB, hc⟩ := hT m hkm
              have h0 : 0 < ls.length := by omega
              obtain ⟨b0, o0, e0, hbB0, hc0⟩ := hT 0 h0
              injection e0 with e0
              injection e0 with e1 e2 e3
              subst e1 e2
              have TR : Hid (R3 w wr g key h1' h2' b o m ls[m] ls[0]) := ⟨(TT.out.b.cell (p := ⟨b, o + m, none⟩) hbB).trans hc, (TT.out.b.cell (p := ⟨b, o, none⟩) hbB).trans hc0, Nat.lt_of_lt_of_le hbB TT.out.b.size, TT.out⟩
              have HYi := HY.out m hkm
              have HY0 := HY.out 0 h0
              have HT := Lib.hid hT
              clear hT hc hc0 e3
              generalize ls[m] = y at TR HYi
              generalize ls[0] = y0 at TR HY0
              have ne1 : (hm key y != hm key y) = false := by simp
              have ne2 : (hm key y0 != hm key y0) = false := by simp
              have kb : 0 ≤ (m : Int) ∧ (m : Int) < (ls.length : Int) := by omega
              have k0 : 0 < (ls.length : Int) := by omega
              go_wp2_with fail
              go_region_held3 (fun w' => w'.cell? ⟨b, o + m, none⟩ = some (str y) ∧ w'.cell? ⟨b, o, none⟩ = some (str y0) ∧ R3 w w' g key h1' h2' b o m y y0)
                (first | assumption | exact (TR.out.draw).s | exact ((by assumption : _ ∧ _ ∧ R3 w _ g key h1' h2' b o m y y0).2.2.bel hb).s)
                (first
                  | (go_at_call 11; (with_reducible refine (KSum_on g h1' h2' key y w _ ?_ (by omega)).mono ?_); exact (by assumption : _ ∧ _ ∧ R3 w _ g key h1' h2' b o m y y0).2.2.k; rintro e w1 ⟨rfl, hb⟩)
                  | (go_at_call 11; (with_reducible refine (KSum_on g h1' h2' key y0 w _ ?_ (by omega)).mono ?_); exact (by assumption : _ ∧ _ ∧ R3 w _ g key h1' h2' b o m y y0).2.2.k; rintro e w1 ⟨rfl, hb⟩)
                  | (go_at_call 9; (with_reducible refine (hSum_any key y _ ?_ (by omega) (by omega)).mono ?_); exact (by assumption : _ ∧ _ ∧ R3 w _ g key h1' h2' b o m y y0).2.2.k.t; rintro e w1 ⟨rfl, hb⟩)
                  | (go_at_call 9; (with_reducible refine (hSum_any key y0 _ ?_ (by omega) (by omega)).mono ?_); exact (by assumption : _ ∧ _ ∧ R3 w _ g key h1' h2' b o m y y0).2.2.k.t; rintro e w1 ⟨rfl, hb⟩))
              all_goals
                rename_i hS
                have T2 := Lib.hid hS.2.2.k
                clear hS
                go_wp2_with fail
                go_roundw
                case rel => exact ⟨m + 1, by omega, by go_num, T2⟩
                case measure => simp [intOf]; omega
            · go_wp2_with fail
              refine (alive_on w wr HK.out TT.out.b).mono ?_
              rintro e w2 ⟨rfl, b2⟩
              have B2 := Lib.hid b2
              clear b2
              go_wp2_with fail
              go_ret
              exact ⟨rfl, B2.out⟩
    · have d2 : decide (30 < (ls.length : Int)) = true := by simp; omega
      clear hK hT
      go_enter Tryd.func5, Tryd.ntmps5
      go_wp2_with (first | (go_at_call 8; refine CA0.out.mono ?_; rintro e w3 ⟨rfl, b3⟩))
      go_ret
      exact ⟨rfl, b3⟩
  · have d1 : decide (4096 < (key.length : Int)) = true := by simp; omega
    clear hK hT
    go_enter Tryd.func5, Tryd.ntmps5
    go_wp2_with (first | (go_at_call 8; refine CA0.out.mono ?_; rintro e w3 ⟨rfl, b3⟩))
    go_ret
    exact ⟨rfl, b3⟩
end Go.Proofs.YtgibonhlhpkfkaaDoor
