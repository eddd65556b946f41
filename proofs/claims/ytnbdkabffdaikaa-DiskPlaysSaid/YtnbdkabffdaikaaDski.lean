/- The walk of alike. Condition: the numbers fit. -/
import Derived.Test.YtnbdkabffdaikaaDskh
namespace Go.Proofs.Ytnbdkabffdaikaa
open Go.RowKit
set_option linter.unusedVariables false

set_option maxHeartbeats 2000000 in
theorem alike_any (g g' : Nat) (s : DS) (r : RS) (w : World) (hD : DiskAt w g s) (hR : RefAt w g' r) (S : Sim s r) (G : Good s) :
    Calls Try.prog 24 #[.pointer (some ⟨g, 0, none⟩), .pointer (some ⟨g', 0, none⟩)] w fun e w' => e = .returned (.bool true) ∧ ∃ n, w' = w.drewN n := by
  obtain ⟨c0, c1, c2, c3, c4, hf, hlt⟩ := ref_cells hR
  obtain ⟨b, y, d, m, l⟩ := S
  have K : Hid (r.most ≤ 1048576 ∧ (s.bytes.length : Int) = r.good.length + r.loose.length ∧ 0 ≤ r.most - s.bytes.length) := by
    obtain ⟨r0, r1, hl, l0, l1, y0, y1⟩ := G
    have hb : s.bytes.length = r.good.length + r.loose.length := by rw [b, List.length_append]
    exact ⟨by omega, by omega, by omega⟩
  have CB : ∀ n, Calls Try.prog 10 #[.pointer (some ⟨g, 0, none⟩)] (w.drewN n) fun e w' => e = .returned (str (r.good ++ r.loose)) ∧ ∃ m, w' = w.drewN m := by
    intro n; rw [← b]; exact calls_quiet (Bytes_any _ s _ (hD.drewN n)) ⟨n, rfl⟩
  have CS : ∀ n, Calls Try.prog 11 #[.pointer (some ⟨g, 0, none⟩)] (w.drewN n) fun e w' => e = .returned (.int .i64 r.good.length) ∧ ∃ m, w' = w.drewN m := by
    intro n; rw [← y]; exact calls_quiet (Synced_any _ s _ (hD.drewN n)) ⟨n, rfl⟩
  have CL : ∀ n, Calls Try.prog 17 #[.pointer (some ⟨g, 0, none⟩)] (w.drewN n) fun e w' => e = .returned (.int .i64 ((r.good.length : Int) + r.loose.length)) ∧ ∃ m, w' = w.drewN m := by
    intro n; rw [← K.out.2.1]; exact calls_quiet (Len_any _ s _ (hD.drewN n)) ⟨n, rfl⟩
  have CD : ∀ n, Calls Try.prog 13 #[.pointer (some ⟨g, 0, none⟩)] (w.drewN n) fun e w' => e = .returned (.bool r.down) ∧ ∃ m, w' = w.drewN m := by
    intro n; rw [← d]; exact calls_quiet (Down_any _ s _ (hD.drewN n)) ⟨n, rfl⟩
  have CR : ∀ n, Calls Try.prog 25 #[.pointer (some ⟨g, 0, none⟩)] (w.drewN n) fun e w' => e = .returned (.int .i64 (r.most - ((r.good.length : Int) + r.loose.length))) ∧ ∃ m, w' = w.drewN m := by
    intro n; rw [← K.out.2.1, m]
    exact (Room_any _ s _ (hD.drewN n) ⟨G.r0, G.r1⟩ G.hl).mono fun e w' ⟨he, k, hk⟩ => ⟨he, n + k, by rw [hk, World.drewN_drewN]⟩
  have HB := Lib.hid CB
  have HS := Lib.hid CS
  have HL := Lib.hid CL
  have HD := Lib.hid CD
  have HR := Lib.hid CR
  have a1 := fun W => str_add (P := Try.prog) r.good r.loose (by have := K.out; omega) W
  have k1 : (r.good.length : Int) ≤ 1048576 ∧ (r.loose.length : Int) ≤ 1048576 ∧ r.most ≤ 1048576 ∧ 0 ≤ r.most := by have := K.out; omega
  have k2 : (r.good.length : Int) + (r.loose.length : Int) ≤ r.most := by have := K.out; omega
  have e1 : IntKind.i64.wrap ((r.good.length : Int) + (r.loose.length : Int)) = (r.good.length : Int) + (r.loose.length : Int) := IntWalk.i64_in _ (by omega)
  have e2 : IntKind.i64.wrap (r.most - ((r.good.length : Int) + (r.loose.length : Int))) = r.most - ((r.good.length : Int) + (r.loose.length : Int)) := IntWalk.i64_in _ (by omega)
  clear CB CS CL CD CR b y d m l hD hR K G
  go_enter Try.func24, Try.ntmps24
  go_wp2_with fail
  go_outline
  go_quiet ((first
    | (go_at_call 10; exact HB.out _)
    | (go_at_call 11; exact HS.out _)
    | (go_at_call 17; exact HL.out _)
    | (go_at_call 13; exact HD.out _)
    | (go_at_call 25; exact HR.out _)))
  go_wp2
  go_ret
  exact ⟨rfl, _, rfl⟩
end Go.Proofs.Ytnbdkabffdaikaa
