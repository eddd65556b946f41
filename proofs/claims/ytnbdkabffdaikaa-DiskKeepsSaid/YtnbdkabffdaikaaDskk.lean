/- The walk of DiskKeeps: what is synced stays, whatever is written, however often the disk crashes. Condition: the numbers fit. -/
import Derived.Test.YtnbdkabffdaikaaDskp
namespace Go.Proofs.Ytnbdkabffdaikaa
open Go.RowKit
set_option linter.unusedVariables false

set_option maxRecDepth 20000 in
set_option maxHeartbeats 4000000 in
theorem DiskKeeps_walk (room : Int) (A : Option Addr) (c : Nat) (ls : List Stp) (r0 : -9223372036854775808 ≤ room) (r1 : room ≤ 9223372036854775807)
    (hl : ls.length ≤ 9223372036854775807) (hx : ∀ x ∈ ls, x.s.length ≤ 9223372036854775807) (ha : ∀ x ∈ ls, 0 ≤ x.act ∧ x.act ≤ 255 ∧ x.n ≤ 9223372036854775807) (w : World) (hT : Steps w w.heap.size A ls) :
    Calls Try.prog 4 #[.int .i64 room, .slice A ls.length c] w fun e w' => e = .returned (.bool true) ∧ Below w.heap.size w w' := by
  have HV := heavy_any A c ls hl hx w.heap.size w hT
  cases hh : heavyB ls
  · rw [hh] at HV
    have HH := Lib.hid HV
    clear HV hh
    by_cases hroom : room < 0 ∨ 1048576 < room
    · have NB := Lib.hid (New_bad room hroom)
      clear hT hroom hx ha
      go_enter Try.func4, Try.ntmps4
      go_wp2_with (first
        | (go_at_call 16; (with_reducible refine HH.out.mono ?_); rintro e w1 ⟨rfl, rfl⟩)
        | (go_at_call 8; (with_reducible refine (NB.out _).mono ?_); rintro e w1 ⟨rfl, rfl⟩)
        | (go_at_call 7; refine (alive_any _).mono ?_; rintro e w1 ⟨rfl, hb⟩))
      go_ret
      exact ⟨rfl, hb⟩
    · go_enter Try.func4, Try.ntmps4
      go_wp2_with (first
        | (go_at_call 16; (with_reducible refine HH.out.mono ?_); rintro e w1 ⟨rfl, rfl⟩)
        | (go_at_call 8; refine (New_fresh room (by omega) (by omega) _).mono ?_; rintro e w1 ⟨rfl, D, B⟩))
      have HV := Lib.hid HH
      clear HH
      go_loopw [7] (fun k wr => ∃ (j : Nat) (s : DS), j ≤ ls.length ∧ k = .int .i64 j ∧ DiskAt wr w.heap.size s ∧ Good s ∧ Below w.heap.size w wr) (fun k _ => ls.length - (intOf k).toNat)
      case atStart => exact ⟨0, _, by omega, rfl, D, ⟨by show 0 ≤ room; omega, by show room ≤ _; omega, by show ((0 : Nat) : Int) ≤ room; omega, by simp, by simp, by simp, by simp⟩, B⟩
      case round =>
        obtain ⟨j, s, hj, rfl, hD, hG, hB⟩ := hrel
        clear D B
        by_cases hkj : j < ls.length
        · obtain ⟨b, o, rfl, hbB, c0, c1, c2⟩ := hT j hkj
          have g0 := (hB.cell (p := ⟨b, o + j * 3, none⟩) hbB).trans c0
          have g1 := (hB.cell (p := ⟨b, o + j * 3 + 1, none⟩) hbB).trans c1
          have g2 := (hB.cell (p := ⟨b, o + j * 3 + 2, none⟩) hbB).trans c2
          have H0 := Lib.hid c0
          have hxj := hx ls[j] (List.getElem_mem hkj)
          have haj := ha ls[j] (List.getElem_mem hkj)
          clear hT hx ha c0 c1 c2
          generalize ls[j] = x at g0 g1 g2 hxj haj H0
          by_cases h2 : x.act = 2
          · rw [h2] at g0
            clear h2
            go_wp2_with fail
            go_roundw
            case rel => exact ⟨j + 1, s, by omega, by go_num, hD, hG, hB⟩
            case measure => simp [intOf]; omega
          · have Keep := Lib.hid (keep_step hG x h2)
            have HG := Lib.hid hG
            have CB := Lib.hid (Bytes_any w.heap.size s wr hD)
            have CS := Lib.hid (Synced_any w.heap.size s wr hD)
            have CL := Lib.hid (Len_any w.heap.size s wr hD)
            have CD := Lib.hid (does_any w.heap.size s x wr hD hG haj.1 haj.2.1 haj.2.2 hxj)
            have b2 : (x.act == 2) = false := by simpa using h2
            obtain ⟨r0', r1', hl', l0', l1', y0, y1⟩ := hG
            clear hD
            go_wp2_with (first
              | (go_at_call 10; (with_reducible refine CB.out.mono ?_); rintro e w3 ⟨rfl, rfl⟩)
              | (go_at_call 11; (with_reducible refine CS.out.mono ?_); rintro e w3 ⟨rfl, rfl⟩)
              | (go_at_call 17; (with_reducible refine CL.out.mono ?_); rintro e w3 ⟨rfl, rfl⟩)
              | (go_at_call 18; (with_reducible refine CD.out.mono ?_); rintro e w3 ⟨rfl, D3, G3⟩))
            have B3 := below_of_grown hB G3 (Nat.le_refl _)
            have K := Keep.out
            have HG3 := Lib.hid (good_step HG.out x haj.2.2)
            clear CB CS CL CD G3 hB Keep
            generalize (stepS s x).1 = t at D3 K HG3
            have C1 : Hid (∀ n, Calls Try.prog 10 #[.pointer (some ⟨w.heap.size, 0, none⟩)] (w3.drewN n) fun e w' => e = .returned (str t.bytes) ∧ ∃ m, w' = w3.drewN m) :=
              fun n => calls_quiet (Bytes_any _ t _ (D3.drewN n)) ⟨n, rfl⟩
            have C2 : Hid (∀ n, Calls Try.prog 11 #[.pointer (some ⟨w.heap.size, 0, none⟩)] (w3.drewN n) fun e w' => e = .returned (.int .i64 t.synced) ∧ ∃ m, w' = w3.drewN m) :=
              fun n => calls_quiet (Synced_any _ t _ (D3.drewN n)) ⟨n, rfl⟩
            have T := HG3.out
            have C3 : Hid (∀ n, Calls Try.prog 19 #[str t.bytes, str (s.bytes.take s.synced.toNat)] (w3.drewN n) fun e w' => e = .returned (.bool true) ∧ ∃ m, w' = w3.drewN m) := by
              intro n
              have := Begins_any t.bytes (s.bytes.take s.synced.toNat) (by have := T.hl; have := T.r1; omega) (by simp; omega) (w3.drewN n)
              rw [K.front] at this
              exact calls_quiet this ⟨n, rfl⟩
            have dsy : decide (t.synced < s.synced) = false := by simp; exact K.syn
            have K2 := Lib.hid K
            clear K T
            go_quiet ((first
              | (go_at_call 10; exact C1.out _)
              | (go_at_call 11; exact C2.out _)
              | (go_at_call 19; exact C3.out _)))
            have B4 : Below w.heap.size w (w3.drewN nq) := below_drewN B3 _
            have D4 := D3.drewN nq
            clear C1 C2 C3 B3 D3
            generalize w3.drewN nq = w4 at B4 D4 ⊢
            have f0 := (B4.cell (p := ⟨b, o + j * 3, none⟩) hbB).trans H0.out
            have T := HG3.out
            have K := K2.out
            have C1 := Lib.hid (Bytes_any _ t _ D4)
            have C2 := Lib.hid (Synced_any _ t _ D4)
            have C4 := Lib.hid (Len_any _ t _ D4)
            have D4H := Lib.hid D4
            clear D4
            by_cases h4 : x.act = 4
            · have k4 := K.crash h4
              rw [h4] at f0
              have C3 := Begins_any s.bytes t.bytes (by omega) (by have := T.hl; have := T.r1; omega) w4
              rw [k4.1] at C3
              have HC3 := Lib.hid C3
              rw [k4.2] at C2
              clear h4 k4 C3 K T b2 g0 h2
              go_wp2_with (first
                | (go_at_call 10; (with_reducible refine C1.out.mono ?_); rintro e w5 ⟨rfl, rfl⟩)
                | (go_at_call 11; (with_reducible refine C2.out.mono ?_); rintro e w5 ⟨rfl, rfl⟩)
                | (go_at_call 17; (with_reducible refine C4.out.mono ?_); rintro e w5 ⟨rfl, rfl⟩)
                | (go_at_call 19; (with_reducible refine HC3.out.mono ?_); rintro e w5 ⟨rfl, rfl⟩))
              go_roundw
              case rel => exact ⟨j + 1, t, by omega, by go_num, D4H.out, HG3.out, B4⟩
              case measure => simp [intOf]; omega
            · have k4 := K.other h4
              have C3 := Begins_any t.bytes s.bytes (by have := T.hl; have := T.r1; omega) (by omega) w4
              rw [k4] at C3
              have HC3 := Lib.hid C3
              have b4 : (x.act == 4) = false := by simpa using h4
              have b4' : (x.act != 4) = true := by simpa using h4
              clear h4 k4 C3 K T b2 g0 h2
              go_wp2_with (first
                | (go_at_call 10; (with_reducible refine C1.out.mono ?_); rintro e w5 ⟨rfl, rfl⟩)
                | (go_at_call 19; (with_reducible refine HC3.out.mono ?_); rintro e w5 ⟨rfl, rfl⟩))
              go_roundw
              case rel => exact ⟨j + 1, t, by omega, by go_num, D4H.out, HG3.out, B4⟩
              case measure => simp [intOf]; omega
        · clear hT hx ha
          go_wp2_with (go_at_call 7; refine (alive_any _).mono ?_; rintro e w1 ⟨rfl, hb⟩)
          go_ret
          exact ⟨rfl, below_acc hB hb⟩
  · rw [hh] at HV
    have HH := Lib.hid HV
    clear HV hh hT hx ha
    go_enter Try.func4, Try.ntmps4
    go_wp2_with (first
      | (go_at_call 16; (with_reducible refine HH.out.mono ?_); rintro e w1 ⟨rfl, rfl⟩)
      | (go_at_call 7; refine (alive_any _).mono ?_; rintro e w1 ⟨rfl, hb⟩))
    go_ret
    exact ⟨rfl, hb⟩
end Go.Proofs.Ytnbdkabffdaikaa
