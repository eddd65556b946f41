/- The walks of the law's alive, long, CipherSeals, CipherOpens. Condition: the table k reads as the standard's numbers. -/
import Derived.Test.YtgajfbmaoahpgaaDoorCiq
namespace Go.Proofs.YtgajfbmaoahpgaaDoor
open Go.RowKit
set_option linter.unusedVariables false
set_option linter.unusedSimpArgs false

def kT : List UInt8 := [107]
def twelveT : List UInt8 := [116, 119, 101, 108, 118, 101, 32, 98, 121, 116, 101, 115]
def z43 : List UInt8 := List.replicate 43 0
def z44 : List UInt8 := List.replicate 44 0
theorem z44_bad : tagOk kT z44 = false := by kernel_rfl
theorem zeros_at (n : Nat) (z : List UInt8) (hz : z = List.replicate n 0) (hn : n ≤ 100) (zi : Int) (hi : zi = (n : Int)) (W : World) : ∃ W', (Instr.makeSlice 31 (.int .i64 zi) (.int .i64 zi)).run Tryd.prog W = .ok (.slice (some ⟨W.heap.size, 0, none⟩) n n) W' ∧ (convert 31 9 (.slice (some ⟨W.heap.size, 0, none⟩) n n)).run Tryd.prog W' = .ok (str z) W' ∧ Below W.heap.size W W' := by
  subst hz hi
  obtain ⟨W', h1, h2, h3⟩ := zero_bys W n (by omega)
  exact ⟨W', h1, conv_bys h2, h3⟩

set_option maxRecDepth 100000 in
set_option maxHeartbeats 8000000 in
theorem alive_any (w : World) (hK : KT w) : Calls Tryd.prog 8 #[] w fun e w' => e = .returned (.bool true) ∧ Below w.heap.size w w' := by
  have CS := Lib.hid (Seal_ok kT twelveT [] w hK rfl (by simp [kT]) (by simp))
  have HK := Lib.hid hK
  have hl : (sealed kT twelveT []).length = 44 := sealed_len kT twelveT []
  generalize sealed kT twelveT [] = sd at CS hl
  clear hK
  go_enter Tryd.func8, Tryd.ntmps8
  go_wp2_with fail
  refine CS.out.mono ?_
  rintro e w1 ⟨rfl, b1⟩
  obtain ⟨w2, m1, m2, m3⟩ := zeros_at 43 z43 rfl (by omega) 43 rfl w1
  have H2 := Lib.hid (below_acc b1 m3)
  clear b1 m3 CS
  go_wp2_with fail
  refine (Open_end kT z43 w2 (by simp [z43])).mono ?_
  rintro e w3 ⟨rfl, b3⟩
  obtain ⟨w4, n1, n2, n3⟩ := zeros_at 44 z44 rfl (by omega) 44 rfl w3
  have H4 := Lib.hid (below_acc (below_acc H2.out b3) n3)
  clear b3 n3 H2 m1 m2
  go_wp2_with fail
  refine (Open_any kT z44 w4 (HK.out.below H4.out HK.out.lt) (by simp [kT]) (by simp [z44]) (by simp [z44])).mono ?_
  rintro e w5 ⟨rfl, b5⟩
  rw [z44_bad]
  have H5 := Lib.hid (below_acc H4.out b5)
  clear b5 H4 n1 n2
  go_wp2_with fail
  go_ret
  exact ⟨rfl, H5.out⟩
theorem alive_on (w W : World) (hK : KT w) (hb : Below w.heap.size w W) : Calls Tryd.prog 8 #[] W fun e w' => e = .returned (.bool true) ∧ Below w.heap.size w w' :=
  (alive_any W (hK.below hb hK.lt)).mono fun e w' ⟨h1, h2⟩ => ⟨h1, below_acc hb h2⟩

def lgB (key nonce s : List UInt8) : Bool := decide (1024 < key.length ∨ 1024 < nonce.length ∨ 4096 < s.length)
theorem lgB_false {key nonce s : List UInt8} (h : lgB key nonce s = false) : key.length ≤ 1024 ∧ nonce.length ≤ 1024 ∧ s.length ≤ 4096 := by
  have := of_decide_eq_false h; omega
set_option maxRecDepth 100000 in
set_option maxHeartbeats 4000000 in
theorem long_any (key nonce s : List UInt8) (w : World) (h1 : key.length ≤ 9223372036854775807) (h2 : nonce.length ≤ 9223372036854775807) (h3 : s.length ≤ 9223372036854775807) :
    Calls Tryd.prog 7 #[str key, str nonce, str s] w fun e w' => e = .returned (.bool (lgB key nonce s)) ∧ w = w' := by
  by_cases k1 : 1024 < key.length
  · have d1 : decide (1024 < (key.length : Int)) = true := by simp; omega
    have r : lgB key nonce s = true := decide_eq_true (.inl k1)
    rw [r]
    go_enter Tryd.func7, Tryd.ntmps7
    go_wp2_with fail
    go_ret
    exact ⟨rfl, rfl⟩
  · have d1 : decide (1024 < (key.length : Int)) = false := by simp; omega
    by_cases k2 : 1024 < nonce.length
    · have d2 : decide (1024 < (nonce.length : Int)) = true := by simp; omega
      have r : lgB key nonce s = true := decide_eq_true (.inr (.inl k2))
      rw [r]
      go_enter Tryd.func7, Tryd.ntmps7
      go_wp2_with fail
      go_ret
      exact ⟨rfl, rfl⟩
    · have d2 : decide (1024 < (nonce.length : Int)) = false := by simp; omega
      by_cases k3 : 4096 < s.length
      · have d3 : decide (4096 < (s.length : Int)) = true := by simp; omega
        have r : lgB key nonce s = true := decide_eq_true (.inr (.inr k3))
        rw [r]
        go_enter Tryd.func7, Tryd.ntmps7
        go_wp2_with fail
        go_ret
        exact ⟨rfl, rfl⟩
      · have d3 : decide (4096 < (s.length : Int)) = false := by simp; omega
        have r : lgB key nonce s = false := decide_eq_false (by omega)
        rw [r]
        go_enter Tryd.func7, Tryd.ntmps7
        go_wp2_with fail
        go_ret
        exact ⟨rfl, rfl⟩

set_option maxRecDepth 100000 in
set_option maxHeartbeats 8000000 in
theorem CipherSeals_walk (key nonce s : List UInt8) (w : World) (hK : KT w) (h1 : key.length ≤ 9223372036854775807) (h2 : nonce.length ≤ 9223372036854775807) (h3 : s.length ≤ 9223372036854775807) :
    Calls Tryd.prog 3 #[str key, str nonce, str s] w fun e w' => e = .returned (.bool true) ∧ Below w.heap.size w w' := by
  have CL := Lib.hid (long_any key nonce s w h1 h2 h3)
  have HK := Lib.hid hK
  cases hlg : lgB key nonce s
  · rw [hlg] at CL
    obtain ⟨l1, l2, l3⟩ := lgB_false hlg
    clear hlg
    by_cases h12 : nonce.length = 12
    · have CS := Lib.hid (Seal_ok key nonce s w hK h12 (by omega) l3)
      have CR : Hid (∀ W, Calls Tryd.prog 10 #[str key, str nonce, str s] W fun e w' => e = .returned (.tuple #[str (sealed key nonce s), .int .i64 0]) ∧ Below W.heap.size W w') := fun W => rSeal_ok key nonce s W h12 (by omega) l3
      generalize sealed key nonce s = sd at CS CR
      clear hK h12
      go_enter Tryd.func3, Tryd.ntmps3
      go_wp2_with fail
      refine CL.out.mono ?_
      rintro e w1 ⟨rfl, rfl⟩
      go_wp2_with fail
      refine CS.out.mono ?_
      rintro e w1 ⟨rfl, b1⟩
      have B1 := Lib.hid b1
      clear b1 CS
      go_wp2_with fail
      refine (CR.out w1).mono ?_
      rintro e w2 ⟨rfl, b2⟩
      have B2 := Lib.hid (below_acc B1.out b2)
      clear b2 CR B1
      go_wp2_with fail
      refine (alive_on w w2 HK.out B2.out).mono ?_
      rintro e w3 ⟨rfl, b3⟩
      have B3 := Lib.hid b3
      clear b3 B2
      go_wp2_with fail
      go_ret
      exact ⟨rfl, B3.out⟩
    · have CS := Lib.hid (Seal_bad key nonce s w h12)
      have CR : Hid (∀ W, Calls Tryd.prog 10 #[str key, str nonce, str s] W fun e w' => e = .returned (.tuple #[str [], .int .i64 2]) ∧ Below W.heap.size W w') := fun W => rSeal_bad key nonce s W h12
      clear hK h12
      go_enter Tryd.func3, Tryd.ntmps3
      go_wp2_with fail
      refine CL.out.mono ?_
      rintro e w1 ⟨rfl, rfl⟩
      go_wp2_with fail
      refine CS.out.mono ?_
      rintro e w1 ⟨rfl, b1⟩
      have B1 := Lib.hid b1
      clear b1 CS
      go_wp2_with fail
      refine (CR.out w1).mono ?_
      rintro e w2 ⟨rfl, b2⟩
      have B2 := Lib.hid (below_acc B1.out b2)
      clear b2 CR B1
      go_wp2_with fail
      refine (alive_on w w2 HK.out B2.out).mono ?_
      rintro e w3 ⟨rfl, b3⟩
      have B3 := Lib.hid b3
      clear b3 B2
      go_wp2_with fail
      go_ret
      exact ⟨rfl, B3.out⟩
  · rw [hlg] at CL
    have CA := Lib.hid (alive_any w hK)
    clear hlg hK
    go_enter Tryd.func3, Tryd.ntmps3
    go_wp2_with (first | (go_at_call 7; refine CL.out.mono ?_; rintro e w1 ⟨rfl, rfl⟩) | (go_at_call 8; refine CA.out.mono ?_; rintro e w3 ⟨rfl, b3⟩))
    go_ret
    exact ⟨rfl, b3⟩

set_option maxRecDepth 100000 in
set_option maxHeartbeats 8000000 in
theorem CipherOpens_walk (key x : List UInt8) (w : World) (hK : KT w) (h1 : key.length ≤ 9223372036854775807) (h3 : x.length ≤ 9223372036854775807) :
    Calls Tryd.prog 4 #[str key, str x] w fun e w' => e = .returned (.bool true) ∧ Below w.heap.size w w' := by
  have CL := Lib.hid (long_any key [] x w h1 (by simp) h3)
  have HK := Lib.hid hK
  cases hlg : lgB key [] x
  · rw [hlg] at CL
    obtain ⟨l1, _, l3⟩ := lgB_false hlg
    clear hlg
    by_cases h44 : x.length < 44
    · have CO := Lib.hid (Open_end key x w h44)
      clear hK
      go_enter Tryd.func4, Tryd.ntmps4
      go_wp2_with fail
      refine CL.out.mono ?_
      rintro e w1 ⟨rfl, rfl⟩
      go_wp2_with fail
      refine CO.out.mono ?_
      rintro e w1 ⟨rfl, b1⟩
      have B1 := Lib.hid b1
      clear b1 CO
      go_wp2_with fail
      refine (rOpen_end key x w1 h44).mono ?_
      rintro e w2 ⟨rfl, b2⟩
      have B2 := Lib.hid (below_acc B1.out b2)
      clear b2 B1
      go_wp2_with fail
      refine (alive_on w w2 HK.out B2.out).mono ?_
      rintro e w3 ⟨rfl, b3⟩
      have B3 := Lib.hid b3
      clear b3 B2
      go_wp2_with fail
      go_ret
      exact ⟨rfl, B3.out⟩
    · have CO := Lib.hid (Open_any key x w hK (by omega) (by omega) (by omega))
      have CR : Hid (∀ W, Calls Tryd.prog 12 #[str key, str x] W fun e w' => e = .returned (if tagOk key x = true then .tuple #[str (openT key x), .int .i64 0] else .tuple #[str [], .int .i64 40]) ∧ Below W.heap.size W w') := fun W => rOpen_any key x W (by omega) (by omega) l3
      cases ht : tagOk key x
      · rw [ht] at CO CR
        clear hK ht
        go_enter Tryd.func4, Tryd.ntmps4
        go_wp2_with fail
        refine CL.out.mono ?_
        rintro e w1 ⟨rfl, rfl⟩
        go_wp2_with fail
        refine CO.out.mono ?_
        rintro e w1 ⟨rfl, b1⟩
        have B1 := Lib.hid b1
        clear b1 CO
        go_wp2_with fail
        refine (CR.out w1).mono ?_
        rintro e w2 ⟨rfl, b2⟩
        have B2 := Lib.hid (below_acc B1.out b2)
        clear b2 B1
        go_wp2_with fail
        refine (alive_on w w2 HK.out B2.out).mono ?_
        rintro e w3 ⟨rfl, b3⟩
        have B3 := Lib.hid b3
        clear b3 B2
        go_wp2_with fail
        go_ret
        exact ⟨rfl, B3.out⟩
      · have hos := open_sealed key x (by omega) ht
        have hol : (openT key x).length ≤ 4096 := by unfold openT; rw [xst_len]; unfold cut; rw [List.length_drop, List.length_take]; omega
        have h12 : (x.take 12).length = 12 := by rw [List.length_take]; omega
        rw [ht] at CO CR
        have q3 := run_slice_h x 12 12 rfl (by omega)
        generalize openT key x = a at CO CR hos hol
        have CS : Hid (∀ W, KT W → Calls Tryd.prog 9 #[str key, str (x.take 12), str a] W fun e w' => e = .returned (.tuple #[str x, .int .i64 0]) ∧ Below W.heap.size W w') := fun W hk => by
          have := Seal_ok key (x.take 12) a W hk h12 (by omega) hol
          rwa [hos] at this
        generalize x.take 12 = xn at CS q3
        clear hK ht hos h12
        have ne : (a != a) = false := by simp
        have eq1 : (x == x) = true := by simp
        go_enter Tryd.func4, Tryd.ntmps4
        go_wp2_with fail
        refine CL.out.mono ?_
        rintro e w1 ⟨rfl, rfl⟩
        go_wp2_with fail
        refine CO.out.mono ?_
        rintro e w1 ⟨rfl, b1⟩
        have B1 := Lib.hid b1
        clear b1 CO
        go_wp2_with fail
        refine (CR.out w1).mono ?_
        rintro e w2 ⟨rfl, b2⟩
        have B2 := Lib.hid (below_acc B1.out b2)
        clear b2 B1
        go_wp2_with fail
        refine (CS.out w2 (HK.out.below B2.out HK.out.lt)).mono ?_
        rintro e w3 ⟨rfl, b3⟩
        have B3 := Lib.hid (below_acc B2.out b3)
        clear b3 B2 CS
        go_wp2_with fail
        refine (alive_on w w3 HK.out B3.out).mono ?_
        rintro e w4 ⟨rfl, b4⟩
        have B4 := Lib.hid b4
        clear b4 B3
        go_wp2_with fail
        go_ret
        exact ⟨rfl, B4.out⟩
  · rw [hlg] at CL
    have CA := Lib.hid (alive_any w hK)
    clear hlg hK
    go_enter Tryd.func4, Tryd.ntmps4
    go_wp2_with (first | (go_at_call 7; refine CL.out.mono ?_; rintro e w1 ⟨rfl, rfl⟩) | (go_at_call 8; refine CA.out.mono ?_; rintro e w3 ⟨rfl, b3⟩))
    go_ret
    exact ⟨rfl, b3⟩
end Go.Proofs.YtgajfbmaoahpgaaDoor
