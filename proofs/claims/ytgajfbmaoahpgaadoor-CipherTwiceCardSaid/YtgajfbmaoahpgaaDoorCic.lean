/- The walk of CipherTwice. Condition: the table k reads as the standard's numbers. -/
import Derived.Test.YtgajfbmaoahpgaaDoorCia
namespace Go.Proofs.YtgajfbmaoahpgaaDoor
open Go.RowKit
set_option linter.unusedVariables false
set_option linter.unusedSimpArgs false

set_option maxRecDepth 100000 in
set_option maxHeartbeats 8000000 in
theorem CipherTwice_walk (key nonce a b : List UInt8) (w : World) (hK : KT w) (h1 : key.length ≤ 9223372036854775807) (h2 : nonce.length ≤ 9223372036854775807) (h3 : a.length ≤ 9223372036854775807) (h4 : b.length ≤ 9223372036854775807) :
    Calls Tryd.prog 6 #[str key, str nonce, str a, str b] w fun e w' => e = .returned (.bool true) ∧ Below w.heap.size w w' := by
  have CL := Lib.hid (long_any key nonce a w h1 h2 h3)
  have CM := Lib.hid (long_any key nonce b w h1 h2 h4)
  have HK := Lib.hid hK
  have CA := Lib.hid (alive_any w hK)
  cases hlg : lgB key nonce a
  · rw [hlg] at CL
    obtain ⟨l1, l2, l3⟩ := lgB_false hlg
    clear hlg
    cases hlg : lgB key nonce b
    · rw [hlg] at CM
      obtain ⟨_, _, l4⟩ := lgB_false hlg
      clear hlg
      by_cases h12 : nonce.length = 12
      · have CS := Lib.hid (Seal_ok key nonce a w hK h12 (by omega) l3)
        have CR : Hid (∀ W, KT W → Calls Tryd.prog 9 #[str key, str nonce, str b] W fun e w' => e = .returned (.tuple #[str (sealed key nonce b), .int .i64 0]) ∧ Below W.heap.size W w') := fun W hk => Seal_ok key nonce b W hk h12 (by omega) l4
        obtain ⟨n, hn⟩ : ∃ n, n = min a.length b.length := ⟨_, rfl⟩
        have na : n ≤ a.length := by omega
        have nb : n ≤ b.length := by omega
        have e2 := sealed_two key nonce a b n h12 na nb
        have la := sealed_len key nonce a
        have lb := sealed_len key nonce b
        have q1 := run_slice_lh (sealed key nonce a) 12 (12 + n) 12 (12 + (n : Int)) rfl (by omega) (by omega) (by omega)
        have q2 := run_slice_lh (sealed key nonce b) 12 (12 + n) 12 (12 + (n : Int)) rfl (by omega) (by omega) (by omega)
        have q3 := run_slice_h a n (n : Int) rfl na
        have q4 := run_slice_h b n (n : Int) rfl nb
        have m1 : (((sealed key nonce a).take (12 + n)).drop 12).length ≤ 5000 := by rw [List.length_drop, List.length_take]; omega
        have m2 : (((sealed key nonce b).take (12 + n)).drop 12).length ≤ 5000 := by rw [List.length_drop, List.length_take]; omega
        have m3 : (a.take n).length ≤ 5000 := by rw [List.length_take]; omega
        have m4 : (b.take n).length ≤ 5000 := by rw [List.length_take]; omega
        have la2 : 12 + n ≤ (sealed key nonce a).length ∧ (sealed key nonce a).length ≤ 5000 := by omega
        have lb2 : 12 + n ≤ (sealed key nonce b).length ∧ (sealed key nonce b).length ≤ 5000 := by omega
        have hmin : min (a.length : Int) (b.length : Int) = (n : Int) := by omega
        have hmin2 : (if (a.length : Int) ≤ (b.length : Int) then (a.length : Int) else (b.length : Int)) = (n : Int) := by split <;> omega
        generalize ((sealed key nonce a).take (12 + n)).drop 12 = xa at e2 q1 m1
        generalize ((sealed key nonce b).take (12 + n)).drop 12 = xb at e2 q2 m2
        generalize sealed key nonce a = sa at CS q1 la2
        generalize sealed key nonce b = sb at CR q2 lb2
        generalize a.take n = ya at e2 q3 m3
        generalize b.take n = yb at e2 q4 m4
        have C1 : Hid (∀ W, Calls Tryd.prog 13 #[str xa, str xb] W fun e w' => e = .returned (str (xorT ya yb)) ∧ Below W.heap.size W w') := fun W => by
          have := Xor_any xa xb W (by omega) (by omega); rwa [e2] at this
        have C2 : Hid (∀ W, Calls Tryd.prog 13 #[str ya, str yb] W fun e w' => e = .returned (str (xorT ya yb)) ∧ Below W.heap.size W w') := fun W => Xor_any ya yb W (by omega) (by omega)
        generalize xorT ya yb = r at C1 C2
        have d1 : decide ((sa.length : Int) < 12 + (n : Int)) = false := by simp; omega
        have d2 : decide ((sb.length : Int) < 12 + (n : Int)) = false := by simp; omega
        have er : (r == r) = true := by simp
        have HM := Lib.hid (And.intro hmin hmin2)
        have HE := Lib.hid (And.intro la lb)
        clear hK h12 e2 hn la lb hmin hmin2 HE
        go_enter Tryd.func6, Tryd.ntmps6
        go_wp2_with fail
        refine CL.out.mono ?_
        rintro e w1 ⟨rfl, rfl⟩
        go_wp2_with fail
        refine CM.out.mono ?_
        rintro e w1 ⟨rfl, rfl⟩
        go_wp2_with fail
        refine CS.out.mono ?_
        rintro e w1 ⟨rfl, b1⟩
        have B1 := Lib.hid b1
        clear b1 CS
        go_wp2_with fail
        refine (CR.out w1 (HK.out.below B1.out HK.out.lt)).mono ?_
        rintro e w2 ⟨rfl, b2⟩
        have B2 := below_acc B1.out b2
        have hmn := HM.out.1
        clear b2 CR B1
        go_wp2_with fail
        all_goals
          clear hmn d1 d2
          have hm2 := HM.out.1
          first
            | (have hv : (a.length : Int) = (n : Int) := by omega
               rw [hv])
            | (have hv : (b.length : Int) = (n : Int) := by omega
               rw [hv])
          clear hv hm2
          have k1 : 0 ≤ 12 + (n : Int) ∧ 12 ≤ 12 + (n : Int) ∧ 12 + (n : Int) ≤ (sa.length : Int) ∧ 12 + (n : Int) ≤ (sb.length : Int) ∧ (n : Int) ≤ (a.length : Int) ∧ (n : Int) ≤ (b.length : Int) := by omega
          have k2 : IntKind.i64.wrap (12 + (n : Int)) = 12 + (n : Int) := IntWalk.i64_in _ (by omega)
          go_region_held3 (fun w' => Below w.heap.size w w' ∧ True)
            (first | assumption | exact ⟨B2.drew, trivial⟩ | exact ⟨below_acc (by assumption : Below w.heap.size w _ ∧ True).1 hb, trivial⟩ | exact ⟨hb, trivial⟩)
            (first
              | (go_at_call 13; (with_reducible refine (C1.out _).mono ?_); rintro e w1 ⟨rfl, hb⟩)
              | (go_at_call 13; (with_reducible refine (C2.out _).mono ?_); rintro e w1 ⟨rfl, hb⟩)
              | (go_at_call 8; (with_reducible refine (alive_on w _ HK.out (by assumption : Below w.heap.size w _ ∧ True).1).mono ?_); rintro e w1 ⟨rfl, hb⟩))
          rename_i hS
          have TB := Lib.hid hS.1
          clear hS
          go_wp2_with fail
          go_ret
          exact ⟨rfl, TB.out⟩
      · have CS := Lib.hid (Seal_bad key nonce a w h12)
        have CR : Hid (∀ W, Calls Tryd.prog 9 #[str key, str nonce, str b] W fun e w' => e = .returned (.tuple #[str [], .int .i64 2]) ∧ Below W.heap.size W w') := fun W => Seal_bad key nonce b W h12
        clear hK h12
        go_enter Tryd.func6, Tryd.ntmps6
        go_wp2_with fail
        refine CL.out.mono ?_
        rintro e w1 ⟨rfl, rfl⟩
        go_wp2_with fail
        refine CM.out.mono ?_
        rintro e w1 ⟨rfl, rfl⟩
        go_wp2_with fail
        refine CS.out.mono ?_
        rintro e w1 ⟨rfl, b1⟩
        have B1 := Lib.hid b1
        clear b1 CS
        go_wp2_with fail
        refine (CR.out w1).mono ?_
        rintro e w2 ⟨rfl, b2⟩
        have B2 := Lib.hid (below_acc B1.out b2)
        clear b2 CR B1
        go_wp2_with fail
        refine (alive_on w w2 HK.out B2.out).mono ?_
        rintro e w3 ⟨rfl, b3⟩
        have B3 := Lib.hid b3
        clear b3 B2
        go_wp2_with fail
        go_ret
        exact ⟨rfl, B3.out⟩
    · rw [hlg] at CM
      clear hlg hK
      go_enter Tryd.func6, Tryd.ntmps6
      go_wp2_with (first | (go_at_call 7; (with_reducible refine CL.out.mono ?_); rintro e w1 ⟨rfl, rfl⟩) | (go_at_call 7; (with_reducible refine CM.out.mono ?_); rintro e w1 ⟨rfl, rfl⟩) | (go_at_call 8; refine CA.out.mono ?_; rintro e w3 ⟨rfl, b3⟩))
      go_ret
      exact ⟨rfl, b3⟩
  · rw [hlg] at CL
    clear hlg hK
    go_enter Tryd.func6, Tryd.ntmps6
    go_wp2_with (first | (go_at_call 7; (with_reducible refine CL.out.mono ?_); rintro e w1 ⟨rfl, rfl⟩) | (go_at_call 7; (with_reducible refine CM.out.mono ?_); rintro e w1 ⟨rfl, rfl⟩) | (go_at_call 8; refine CA.out.mono ?_; rintro e w3 ⟨rfl, b3⟩))
    go_ret
    exact ⟨rfl, b3⟩
end Go.Proofs.YtgajfbmaoahpgaaDoor
