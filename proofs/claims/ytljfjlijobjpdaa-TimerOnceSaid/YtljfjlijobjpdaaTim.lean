/- The walk of alive: the chapter's example. No condition. -/
import Derived.Test.YtljfjlijobjpdaaTil
import Derived.Test.YtljfjlijobjpdaaSam
namespace Go.Proofs.Ytljfjlijobjpdaa
open Go.RowKit
set_option linter.unusedVariables false
set_option linter.unusedSimpArgs false

def ma : Mp := [([97], 5, 1)]
def mab : Mp := [([97], 5, 1), ([98], 3, 2)]
def mac : Mp := [([97], 5, 1), ([98], 3, 2), ([99], 5, 3)]
def mad : Mp := [([97], 5, 1), ([98], 5, 4), ([99], 5, 3)]
def dA : List On1 := [⟨[97], 5, 1⟩, ⟨[99], 5, 3⟩, ⟨[98], 5, 4⟩]
theorem tup_inj {a b : On1} (h : tup a = tup b) : a = b := by
  obtain ⟨k, t, n⟩ := a
  obtain ⟨k', t', n'⟩ := b
  simp only [tup, Prod.mk.injEq] at h
  obtain ⟨rfl, rfl, rfl⟩ := h
  rfl
theorem alive_none {l : List On1} {M : Mp} {del : List On1} (h : DInv mad 4 l M del) : del = [] ∧ M.Perm mad := by
  have hd : del = [] := by
    rcases del with _ | ⟨d, del⟩
    · rfl
    · have h1 := h.le d List.mem_cons_self
      have h2 : tup d ∈ mad := h.pm.mem_iff.2 (by simp)
      simp [mad, tup] at h2
      omega
  subst hd
  exact ⟨rfl, h.pm.symm⟩
theorem alive_due {M0 : Mp} (hp : M0.Perm mad) {l : List On1} {M : Mp} {del : List On1} (h : DInv M0 5 l M del) (he : ∀ y ∈ l, 5 < y.at_) : del = dA ∧ M = [] := by
  obtain ⟨h1, h2⟩ := dinv_end h he
  have e1 : (mad.filter fun e => decide (e.2.1 ≤ 5)) = mad := by decide
  have e2 : (mad.filter fun e => decide (5 < e.2.1)) = [] := by decide
  have h3 := h1.trans (hp.filter _)
  have h4 := h2.trans (hp.filter _)
  rw [e1] at h3
  rw [e2] at h4
  refine ⟨?_, List.Perm.eq_nil h4⟩
  have h5 : (del.map tup).Perm (dA.map tup) := h3.trans (by decide)
  have h6 : del.Perm dA := by
    have := h5.map (fun e : List UInt8 × Int × Nat => (⟨e.1, e.2.1, e.2.2⟩ : On1))
    rw [List.map_map, List.map_map] at this
    simpa [Function.comp_def, tup] using this
  refine h6.eq_of_pairwise (le := Go.Proofs.Ytljfjlijobjpdaa.le) ?_ h.so (by simp [dA, le])
  intro a b ha hb hab hba
  have ha' := h6.mem_iff.1 ha
  simp only [dA, List.mem_cons, List.not_mem_nil, or_false] at ha' hb
  unfold le at hab hba
  rcases ha' with rfl | rfl | rfl <;> rcases hb with rfl | rfl | rfl <;> simp at hab hba ⊢
theorem putM_a : putM [97] 5 1 [] = ma := by decide
theorem putM_ab : putM [98] 3 2 ma = mab := by decide
theorem putM_ac : putM [99] 5 3 mab = mac := by decide
theorem putM_ad : putM [98] 5 4 mac = mad := by decide
theorem alive_same {W : World} {A : Option Addr} {c : Nat} (TX : Txt W W.heap.size A (dA.map On1.key)) :
    Calls Try.prog 11 #[.slice A dA.length c, .slice (some ⟨W.heap.size, 0, none⟩) 3 3] (W.alloc (.cells #[str [97], str [99], str [98]] 9 (0, 0))) fun e w' => e = .returned (.bool true) ∧ ∃ n, w' = (W.alloc (.cells #[str [97], str [99], str [98]] 9 (0, 0))).drewN n := by
  have hb := (Below.refl W.heap.size W).alloc (Nat.le_refl _) (.cells #[str [97], str [99], str [98]] 9 (0, 0))
  have p := heap_alloc_new W (.cells #[str [97], str [99], str [98]] 9 (0, 0))
  refine (Same_any A (some ⟨W.heap.size, 0, none⟩) c 3 (dA.map On1.key) [[97], [99], [98]] (by simp [dA]) (by simp) (W.heap.size + 1) _ ((TX.below hb (Nat.le_refl _)).more (by omega)) ?_).mono ?_
  · intro i hi
    refine ⟨W.heap.size, 0, rfl, by omega, ?_⟩
    rw [Nat.zero_add, cell_of_row _ _ i _ _ (0, 0) p]
    match i, hi with
    | 0, _ => rfl
    | 1, _ => rfl
    | 2, _ => rfl
  · rintro e w' ⟨rfl, n, hn⟩
    exact ⟨rfl, n, hn⟩
set_option maxRecDepth 100000 in
set_option maxHeartbeats 8000000 in
theorem alive_any (w : World) : Calls Try.prog 5 #[] w fun e w' => e = .returned (.bool true) ∧ Below w.heap.size w w' := by
  have N0 := Lib.hid (New_any w)
  go_enter Try.func5, Try.ntmps5
  go_upto_region 2 with (go_at_call 6; (with_reducible refine N0.out.mono ?_); rintro e W0 ⟨rfl, hT, hB⟩; have H0 := Lib.hid (Wm.start hT hB); clear hT hB)
  clear N0
  go_upto_region 5 with (go_at_call 7; (with_reducible refine (H0.out.set_ok inv_nil [97] 5 (by simp) (by simp) (by omega) (by simp)).mono ?_); rintro e W1 ⟨rfl, l1, hl1, hI, hW⟩; simp only [List.length_nil, Nat.zero_add, Nat.reduceAdd, putM_a] at hW hI hl1; have H1 := Lib.hid hW; have I1 := Lib.hid hI; clear hW hI)
  clear H0
  go_upto_region 6 with (go_at_call 7; (with_reducible refine (H1.out.set_ok I1.out [98] 3 (by decide) (by omega) (by omega) (by simp)).mono ?_); rintro e W2 ⟨rfl, l2, hl2, hI, hW⟩; simp only [List.length_nil, Nat.zero_add, Nat.reduceAdd, putM_ab] at hW hI hl2; have H2 := Lib.hid hW; have I2 := Lib.hid hI; clear hW hI)
  clear H1
  go_upto_region 7 with (go_at_call 7; (with_reducible refine (H2.out.set_ok I2.out [99] 5 (by decide) (by omega) (by omega) (by simp)).mono ?_); rintro e W3 ⟨rfl, l3, hl3, hI, hW⟩; simp only [List.length_nil, Nat.zero_add, Nat.reduceAdd, putM_ac] at hW hI hl3; have H3 := Lib.hid hW; have I3 := Lib.hid hI; clear hW hI)
  clear H2
  go_upto_region 8 with (go_at_call 7; (with_reducible refine (H3.out.set_ok I3.out [98] 5 (by decide) (by omega) (by omega) (by simp)).mono ?_); rintro e W4 ⟨rfl, l4, hl4, hI, hW⟩; simp only [List.length_nil, Nat.zero_add, Nat.reduceAdd, putM_ad] at hW hI hl4; have H4 := Lib.hid hW; have I4 := Lib.hid hI; clear hW hI)
  clear H3
  clear I1 I2 I3
  go_upto_region 9 with (go_at_call 9; (with_reducible refine (H4.out.due I4.out 4 (by omega)).mono ?_); rintro e W5 ⟨ov, del, l5, M5, rfl, hW, hD, -, hl5⟩; have hE := alive_none hD; have D5 := Lib.hid hD; have E5 := Lib.hid hE; have H5 := Lib.hid hW; clear hW hD hE)
  have J5 := Lib.hid (And.intro H5.out.forget D5.out.inv)
  obtain ⟨A5, c5, rfl, -⟩ := H5.out.ox.txt
  have e5 : (List.map On1.key del).length = 0 := by rw [E5.out.1]; rfl
  rw [e5]
  have E6 := Lib.hid E5.out.2
  clear H5 H4 I4 D5 E5 e5
  go_wp2_with (first
    | (go_at_call 9; (with_reducible refine (J5.out.1.due J5.out.2 5 (by omega)).mono ?_); rintro e W6 ⟨ov, del6, l6, M6, rfl, hW, hD, hy, hl6⟩; obtain ⟨rfl, rfl⟩ := alive_due E6.out hD hy; have H6 := Lib.hid hW; clear hW hD hy; obtain ⟨A6, c6, rfl, hx⟩ := H6.out.ox.txt; have TX := Lib.hid (alive_same (c := c6) hx); clear hx)
    | (go_at_call 11; refine TX.out.mono ?_; rintro e W7 ⟨rfl, n7, rfl⟩; have H7 := Lib.hid (H6.out.bel (below_drewN ((Below.refl _ W6).alloc (Nat.le_refl _) (.cells #[str [97], str [99], str [98]] 9 (0, 0))) n7)))
    | (go_at_call 10; (with_reducible refine H7.out.len.mono ?_); rintro e W8 ⟨rfl, rfl⟩))
  have HB := Lib.hid H7.out.b
  clear H7 H6 TX J5 E6
  go_ret
  exact ⟨rfl, HB.out⟩
end Go.Proofs.Ytljfjlijobjpdaa
