/- The walk of ChainOn. Condition: the table k reads as the standard's numbers. -/
import Derived.Test.YtnmkinihkgdkgaaDoorChx
import Derived.Test.YtnmkinihkgdkgaaDoorApm
namespace Go.Proofs.YtnmkinihkgdkgaaDoor
open Go.RowKit
set_option linter.unusedVariables false
set_option linter.unusedSimpArgs false

theorem bigN_app : ∀ a b : List (List UInt8), bigN a = 0 → bigN (a ++ b) = bigN b
  | [], b, _ => rfl
  | x :: r, b, h => by
    simp only [bigN] at h
    split at h
    · cases h
    · rename_i h1
      rw [List.cons_append, bigN, if_neg h1]; exact bigN_app r b h

set_option maxRecDepth 100000 in
set_option maxHeartbeats 8000000 in
theorem ChainOn_walk (A A' : Option Addr) (c c' : Nat) (ls ms : List (List UInt8)) (hl : ls.length ≤ 9223372036854775807) (hm : ms.length ≤ 9223372036854775807) (hx : ∀ x ∈ ls, x.length ≤ 9223372036854775807) (hy : ∀ x ∈ ms, x.length ≤ 9223372036854775807)
    (w : World) (hK : KT w) (hT : Txt w w.heap.size A ls) (hU : Txt w w.heap.size A' ms) :
    Calls Tryd.prog 5 #[.slice A ls.length c, .slice A' ms.length c'] w fun e w' => e = .returned (.bool true) ∧ Below w.heap.size w w' := by
  have HK := Lib.hid hK
  have L1 := fun W h => long_any A c ls hl hx w.heap.size W h
  have L2 := fun W h => long_any A' c' ms hm hy w.heap.size W h
  have B0 : Below w.heap.size w w := Below.refl _ _
  clear hK hx hy
  cases hlg : lgB ls
  · rw [hlg] at L1
    cases hlg2 : lgB ms
    · rw [hlg2] at L2
      obtain ⟨l1, l2, l3⟩ := lgB_false hlg
      obtain ⟨m1, m2, m3⟩ := lgB_false hlg2
      have CL := Lib.hid L1
      have CM := Lib.hid L2
      have flen := fun l => frs_len_le ms l m1
      clear L1 L2 hlg hlg2
      rcases bigN_is ls with hb | hb
      · have CF := Lib.hid (fun A2 c2 W hk h => Frames_ok A2 c2 ls hl hb (by omega) W hk h)
        have e1 := fun ms2 => frs_app ls ms2 z32
        have e2 := fun ms2 => hd_app ls ms2 z32
        have hh := hd_len ls z32 z32_len
        have CA : Hid (∀ A2 c2 W, bigN ms = 0 → KT W → Txt W W.heap.size A2 (ls ++ ms) → Calls Tryd.prog 14 #[.slice A2 (ls.length + ms.length) c2] W fun e w' => e = .returned (.tuple #[str (frs z32 ls ++ frs (hd z32 ls) ms), str (hd (hd z32 ls) ms), .int .i64 0]) ∧ Below W.heap.size W w') := fun A2 c2 W h0 hk h => by
          have := Frames_ok A2 c2 (ls ++ ms) (by simp; omega) (by rw [bigN_app _ _ hb]; exact h0) (by rw [e1, List.length_append]; have := flen (hd z32 ls); omega) W hk h
          rwa [e1, e2, List.length_append] at this
        have flen2 := flen (hd z32 ls)
        generalize frs z32 ls = fa at CF CA l3
        generalize hd z32 ls = ha at CF CA hh flen2
        clear e1 e2 flen hb
        go_enter Tryd.func5, Tryd.ntmps5
        go_wp2_with (first
          | (go_at_call 13; (with_reducible refine (CL.out _ hT).mono ?_); rintro e w1 ⟨rfl, rfl⟩)
          | (go_at_call 13; (with_reducible refine (CM.out _ hU).mono ?_); rintro e w1 ⟨rfl, rfl⟩)
          | (at_builtin; refine wpList_append_copy rfl (.const (.slice none 0 0)) (.tmp 23) rfl rfl A c ls rfl rfl ((hT.below B0 (Nat.le_refl _)).more B0.size) (by omega) ?_; intro A2 c2 w2 T2 hb; have B0 := below_step B0 hb ⟨rfl, rfl, rfl, rfl⟩; clear hb)
          | (go_at_call 14; (with_reducible refine (CF.out A2 c2 _ (HK.out.below B0 HK.out.lt) T2).mono ?_); rintro e w1 ⟨rfl, hb⟩; have B0 := below_step B0 hb ⟨rfl, rfl, rfl, rfl⟩; clear hb))
        clear CL CM CF
        have BB := Lib.hid B0
        go_loopw [5, 6, 8] (fun f h k wr => ∃ i : Nat, i ≤ ms.length ∧ f = str (fa ++ frs ha (ms.take i)) ∧ h = str (hd ha (ms.take i)) ∧ k = .int .i64 i ∧ Hid (bigN ms = bigN (ms.drop i) ∧ Below w.heap.size w wr)) (fun _ _ k _ => ms.length - (intOf k).toNat)
        case atStart => exact ⟨0, by omega, by simp [frs], rfl, rfl, rfl, BB.out⟩
        case round =>
          obtain ⟨i, hi, rfl, rfl, rfl, hB⟩ := hrel
          clear BB
          by_cases hk : i < ms.length
          · obtain ⟨b, o, rfl, hbB, hcl⟩ := hU i hk
            have g := (hB.out.2.cell (p := ⟨b, o + i, none⟩) hbB).trans hcl
            have hh2 := hd_len (ms.take i) ha hh
            have e1 := frs_snoc (ms.take i) ms[i] ha
            have e2 := hd_snoc (ms.take i) ms[i] ha
            have hle := frs_take_le ha ms (i + 1)
            have hd0 := hB.out.1
            rw [List.drop_eq_getElem_cons hk, bigN] at hd0
            rw [List.take_succ_eq_append_getElem hk, e1] at hle
            have E1 : Hid (frs ha (ms.take (i + 1)) = frs ha (ms.take i) ++ (text ms[i] ++ nx (hd ha (ms.take i)) ms[i]) ∧ hd ha (ms.take (i + 1)) = nx (hd ha (ms.take i)) ms[i] ∧ bigN ms = if 8192 < ms[i].length then 5 else bigN (ms.drop (i + 1))) := by
              rw [List.take_succ_eq_append_getElem hk]; exact ⟨e1, e2, hd0⟩
            have HBB := Lib.hid hB.out.2
            have hK2 := Lib.hid (HK.out.below HBB.out HK.out.lt)
            have B0 := HBB.out
            clear e1 e2 hd0 hB hcl hU hT CA
            generalize frs ha (ms.take i) = fr at E1 hle ⊢
            generalize hd ha (ms.take i) = h at E1 hle hh2 ⊢
            generalize ms[i] = x at E1 hle g
            by_cases hbig : 8192 < x.length
            · have CR : Hid (∀ W, KT W → Calls Tryd.prog 16 #[str h, str x] W fun e w' => e = .returned (.tuple #[str [], str [], .int .i64 5]) ∧ Below W.heap.size W w') := fun W hk => by
                have := Frame_any h x W hk
                have e : cE h [x] = 5 := by rw [cE, if_pos hh2, bigN, if_pos hbig]
                rwa [frT, e, if_neg (by omega)] at this
              clear hle
              go_wp2_with (first
                | (go_at_call 16; (with_reducible refine (CR.out _ hK2.out).mono ?_); rintro e w1 ⟨rfl, hb⟩; have B0 := below_step B0 hb ⟨rfl, rfl, rfl, rfl⟩; clear hb)
                | (go_at_call 8; refine (alive_any _ (HK.out.below B0 HK.out.lt)).mono ?_; rintro e w1 ⟨rfl, hb⟩; have B0 := below_step B0 hb ⟨rfl, rfl, rfl, rfl⟩; clear hb))
              go_ret
              exact ⟨rfl, B0⟩
            · have CR : Hid (∀ W, KT W → Calls Tryd.prog 16 #[str h, str x] W fun e w' => e = .returned (.tuple #[str (text x ++ nx h x), str (nx h x), .int .i64 0]) ∧ Below W.heap.size W w') := fun W hk => by
                have := Frame_any h x W hk
                rwa [frT_ok hh2 (by omega)] at this
              have hle2 : (fa ++ fr).length + (text x ++ nx h x).length ≤ 1099511620000 := by rw [List.length_append] at hle; rw [List.length_append]; omega
              generalize hfx : text x ++ nx h x = fx at CR E1 hle2
              generalize nx h x = nh at CR E1
              have sa := str_add (P := Tryd.prog) (fa ++ fr) fx (by omega)
              clear hfx hle
              go_wp2_with (go_at_call 16; (with_reducible refine (CR.out _ hK2.out).mono ?_); rintro e w1 ⟨rfl, hb⟩; have B1 := Lib.hid (below_acc HBB.out hb); clear hb)
              go_roundw
              case rel => exact ⟨i + 1, by omega, by rw [E1.out.1, ← List.append_assoc], by rw [E1.out.2.1], by go_num, by rw [E1.out.2.2, if_neg hbig], B1.out⟩
              case measure => simp [intOf]; omega
          · have he : ms.take i = ms := List.take_of_length_le (by omega)
            have hd0 := hB.out.1
            rw [List.drop_eq_nil_of_le (by omega)] at hd0
            have H0 := Lib.hid (show bigN ms = 0 from hd0)
            rw [he]
            have B0 := hB.out.2
            clear hd0 hB he
            go_wp2_with (first
              | (at_builtin; refine wpList_append_strs rfl (.const (.slice none 0 0)) (.tmp 60) rfl rfl w.heap.size (.slice none 0 0) [] rfl (SlS.nil _ _) B0.size A c ls rfl ((hT.below B0 (Nat.le_refl _)).more B0.size) (by simp) (by omega) ?_; intro v3 w3 S3 hb; obtain ⟨A3, c3, rfl, _⟩ := S3.txt; have B0 := B0.trans hb; clear hb)
              | (at_builtin; refine wpList_append_strs rfl (.tmp 61) (.tmp 62) rfl rfl w.heap.size _ ls (by rfl) S3 B0.size A' c' ms rfl ((hU.below B0 (Nat.le_refl _)).more B0.size) (by omega) (by omega) ?_; intro v4 w4 S4 hb; obtain ⟨A4, c4, rfl, _⟩ := S4.txt; have B0 := B0.trans hb; clear hb)
              | (go_at_call 14; (with_reducible refine (CA.out A4 c4 _ H0.out (HK.out.below B0 HK.out.lt) (sls_reads S4)).mono ?_); rintro e w1 ⟨rfl, hb⟩; have B0 := below_step B0 hb ⟨rfl, rfl, rfl, rfl⟩; clear hb)
              | (go_at_call 8; refine (alive_any _ (HK.out.below B0 HK.out.lt)).mono ?_; rintro e w1 ⟨rfl, hb⟩; have B0 := below_step B0 hb ⟨rfl, rfl, rfl, rfl⟩; clear hb))
            go_ret
            exact ⟨rfl, B0⟩
      · have CF := Lib.hid (fun A2 c2 W h => Frames_no A2 c2 ls hl hb W h)
        clear hb flen
        go_enter Tryd.func5, Tryd.ntmps5
        go_wp2_with (first
          | (go_at_call 13; (with_reducible refine (CL.out _ hT).mono ?_); rintro e w1 ⟨rfl, rfl⟩)
          | (go_at_call 13; (with_reducible refine (CM.out _ hU).mono ?_); rintro e w1 ⟨rfl, rfl⟩)
          | (at_builtin; refine wpList_append_copy rfl (.const (.slice none 0 0)) (.tmp 23) rfl rfl A c ls rfl rfl ((hT.below B0 (Nat.le_refl _)).more B0.size) (by omega) ?_; intro A2 c2 w2 T2 hb; have B0 := below_step B0 hb ⟨rfl, rfl, rfl, rfl⟩; clear hb)
          | (go_at_call 14; (with_reducible refine (CF.out A2 c2 _ T2).mono ?_); rintro e w1 ⟨rfl, hb⟩; have B0 := below_step B0 hb ⟨rfl, rfl, rfl, rfl⟩; clear hb)
          | (go_at_call 8; refine (alive_any _ (HK.out.below B0 HK.out.lt)).mono ?_; rintro e w1 ⟨rfl, hb⟩; have B0 := below_step B0 hb ⟨rfl, rfl, rfl, rfl⟩; clear hb))
        go_ret
        exact ⟨rfl, B0⟩
    · rw [hlg2] at L2
      have CL := Lib.hid L1
      have CM := Lib.hid L2
      clear L1 L2 hlg hlg2
      go_enter Tryd.func5, Tryd.ntmps5
      go_wp2_with (first
        | (go_at_call 13; (with_reducible refine (CL.out _ hT).mono ?_); rintro e w1 ⟨rfl, rfl⟩)
        | (go_at_call 13; (with_reducible refine (CM.out _ hU).mono ?_); rintro e w1 ⟨rfl, rfl⟩)
        | (go_at_call 8; refine (alive_any _ HK.out).mono ?_; rintro e w1 ⟨rfl, hb⟩))
      go_ret
      exact ⟨rfl, hb⟩
  · rw [hlg] at L1
    have CL := Lib.hid L1
    clear L1 L2 hlg
    go_enter Tryd.func5, Tryd.ntmps5
    go_wp2_with (first
      | (go_at_call 13; (with_reducible refine (CL.out _ hT).mono ?_); rintro e w1 ⟨rfl, rfl⟩)
      | (go_at_call 8; refine (alive_any _ HK.out).mono ?_; rintro e w1 ⟨rfl, hb⟩))
    go_ret
    exact ⟨rfl, hb⟩
end Go.Proofs.YtnmkinihkgdkgaaDoor
