/- The walk of octet's iterator each$1: it hands over text by text, over a letter J. Condition: sizes that a machine has. -/
import Derived.Test.YtjjndmhkigoifaaOcr
import Derived.Test.YtjjndmhkigoifaaRng
namespace Go.Proofs.Ytjjndmhkigoifaa
open Go.RowKit
set_option linter.unusedVariables false
set_option linter.unusedSimpArgs false

set_option maxRecDepth 100000 in
set_option maxHeartbeats 8000000 in
theorem each_iter (b4 b5 l : Nat) (s : List UInt8) (most : Int) (hm : most ≤ 9223372036854775807) (hs : s.length ≤ 1099511627776) (J : Nat → World → Prop) (Jx : World → Prop) (w : World)
    (hc : ∀ a W, J a W → W.cell? ⟨b4, 0, none⟩ = some (str s) ∧ W.cell? ⟨b5, 0, none⟩ = some (.int .i64 most)) (hd : ∀ a W n, J a W → J a (W.drewN n)) (hJ0 : J 0 w)
    (hY : ∀ a W, a ≤ s.length → J a W → YieldAt Fence.wide 0 Try.prog l #[.agg #[str (readText (s.drop a) most).1, .int .i64 ((a : Int) + ((readText (s.drop a) most).2.1 : Int)), .int .i64 ((readText (s.drop a) most).2.2 : Int)]] W fun e W' =>
      (e = .returned (.bool true) ∧ (readText (s.drop a) most).2.2 = 0 ∧ J (a + (readText (s.drop a) most).2.1) W') ∨ (e = .returned (.bool false) ∧ Jx W')) :
    Calls Try.prog 21 #[.func (.yield l) #[] #[], .pointer (some ⟨b4, 0, none⟩), .pointer (some ⟨b5, 0, none⟩)] w fun e W' => (∃ v, e = .returned v) ∧ Jx W' := by
  have HC := Lib.hid hc
  have HD := Lib.hid hd
  have HY := Lib.hid hY
  have H0 := Lib.hid hJ0
  clear hc hd hY hJ0
  go_enter Try.func21, Try.ntmps21
  go_wp2_with fail
  go_loopw [4] (fun v wr => ∃ a : Nat, v = .int .i64 (a : Int) ∧ a ≤ s.length ∧ Hid (J a wr)) (fun v _ => s.length - (intOf v).toNat)
  case atStart => exact ⟨0, rfl, by omega, H0⟩
  case round =>
    clear H0
    obtain ⟨a, rfl, ha, hJ⟩ := hrel
    obtain ⟨c1, c2⟩ := HC.out a _ hJ.out
    have q := run_slice_from s a (a : Int) rfl ha
    have CT := fun n => ReadText_any (s.drop a) (by rw [List.length_drop]; omega) most hm (wr.drewN n)
    have hf := readText_fits (s.drop a) most
    rw [List.length_drop] at hf
    have HYa := fun n => HY.out a (wr.drewN n) ha (HD.out a wr n hJ.out)
    generalize readText (s.drop a) most = r at CT hf HYa
    generalize s.drop a = sd at q CT
    obtain ⟨t, m, er⟩ := r
    simp only at CT hf HYa
    have kb : 0 ≤ (a : Int) ∧ (a : Int) ≤ (s.length : Int) := by omega
    have CQ : Hid (∀ n, Calls Try.prog 8 #[str sd, .int .i64 most] (wr.drewN n) fun e w' => e = .returned (.tuple #[str t, .int .i64 (m : Int), .int .i64 (er : Int)]) ∧ ∃ k, w' = wr.drewN k) := fun n => calls_quiet (CT n) ⟨n, rfl⟩
    have HYA := Lib.hid HYa
    clear CT HYa
    go_wp2_with fail
    go_quiet ((go_at_call 8; with_reducible exact CQ.out _))
    clear c1 c2 q CQ
    go_upto_region 3 with (fail)
    obtain ⟨fn, tmps, assign, body, hy, hR⟩ := HYA.out nq
    have HR := Lib.hid hR
    clear hR HYA
    refine (wpIn_wide (n := 0)).1 ?_
    gi_wp2
    refine ⟨rfl, HR.out.mono ?_⟩
    rintro e W' (⟨rfl, he, hJ'⟩ | ⟨rfl, hJx⟩)
    · have HJ' : Hid (J (a + m) W') := hJ'
      subst he
      have hm1 := hf.2 rfl
      have hm2 := hf.1
      clear hJ' hJ HR hy
      gi_wp2
      go_wp2_with fail
      go_roundw
      case rel => exact ⟨a + m, by go_num, by omega, HJ'⟩
      case measure => simp [intOf]; omega
    · clear HR hy hJ
      gi_wp2
      go_wp2_with fail
      refine bodyPost_ret (results_none rfl _ _ _) rfl ?_
      exact ⟨⟨_, rfl⟩, hJx⟩
end Go.Proofs.Ytjjndmhkigoifaa
