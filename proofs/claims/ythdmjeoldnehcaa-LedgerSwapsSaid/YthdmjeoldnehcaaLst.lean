/- Two ledgers apart in memory: an action done by one leaves the other alone. No walk. Condition: none. -/
import Derived.Test.YthdmjeoldnehcaaLsp
namespace Go.Proofs.Ythdmjeoldnehcaa
open Go.RowKit
set_option linter.unusedVariables false
set_option linter.unusedSimpArgs false

/-- Two ledgers of a call's own, apart. -/
structure Tw (w : World) (g m h n bad : Nat) (R S : List Rw) (W : World) : Prop where
  ex : ∃ sl sk, Lg W w.heap.size g m sl bad R ∧ Lg W w.heap.size h n sk bad S ∧ ∀ k, Bl g m sl k → ¬ Bl h n sk k
  b : Below w.heap.size w W
theorem Tw.swap {w : World} {g m h n bad : Nat} {R S : List Rw} {W : World} (t : Tw w g m h n bad R S W) : Tw w h n g m bad S R W := by
  obtain ⟨⟨sl, sk, h1, h2, h3⟩, hb⟩ := t
  exact ⟨⟨sk, sl, h2, h1, fun k hk hl => h3 k hl hk⟩, hb⟩
theorem Tw.bel {w : World} {g m h n bad : Nat} {R S : List Rw} {W W' : World} (t : Tw w g m h n bad R S W) (hb : Below W.heap.size W W') : Tw w g m h n bad R S W' := by
  obtain ⟨⟨sl, sk, h1, h2, h3⟩, hb1⟩ := t
  exact ⟨⟨sl, sk, h1.bel hb, h2.bel hb, h3⟩, below_acc hb1 hb⟩
theorem Tw.draw {w : World} {g m h n bad : Nat} {R S : List Rw} {W : World} (t : Tw w g m h n bad R S W) : Tw w g m h n bad R S W.drew := t.bel (Below.refl _ W).drew
theorem Tw.apply {w : World} {g m h n bad : Nat} {R S : List Rw} {W : World} (t : Tw w g m h n bad R S W) (a : Ac) (hlen : R.length ≤ 100000) (hbad : bad < 256) (horgs : a.orgs < 256) :
    Calls Try.prog 14 #[.pointer (some ⟨g, 0, none⟩), .agg a.cells.toArray] W fun r w' => r = .returned (.int .i64 (errOf bad R a : Int)) ∧ Tw w g m h n bad (step bad R a) S w' := by
  obtain ⟨⟨sl, sk, h1, h2, h3⟩, hb⟩ := t
  refine (Apply_any h1 a hlen hbad horgs hb.size).mono fun e w' ⟨he, hd⟩ => ⟨he, ?_⟩
  obtain ⟨sl', l1, l2, l3⟩ := hd
  refine ⟨⟨sl', sk, l1, h2.chg l3 (fun k hk hl => h3 k hl hk), fun k hk hs => ?_⟩, l3.below hb hb.size (fun n hn => h1.bl_le n hn)⟩
  rcases hk with rfl | rfl | hk
  · exact h3 _ (.inl rfl) hs
  · exact h3 _ (.inr (.inl rfl)) hs
  · rcases l2 with l2 | ⟨j, hj, l2⟩
    · exact h3 k (.inr (.inr (l2 ▸ hk))) hs
    · have := h2.bl_lt k hs
      rw [l2] at hk
      have : j = k := Option.some.inj hk
      omega
theorem Tw.copy {w : World} {g m bad : Nat} {R : List Rw} {W : World} (t : Rm w g m bad R W) (hlen : R.length ≤ 100000) :
    Calls Try.prog 17 #[.pointer (some ⟨g, 0, none⟩)] W fun e w' => ∃ h n, e = .returned (.pointer (some ⟨h, 0, none⟩)) ∧ Tw w g m h n bad R R w' := by
  obtain ⟨⟨sl, hl⟩, hb⟩ := t
  refine (Copy_any hl hlen).mono fun e w' ⟨h, n, sk, he, h2, h3⟩ => ⟨h, n, he, ⟨sl, sk, hl.bel h3, h2.mono hb.size, fun k hk hs => ?_⟩, below_acc hb h3⟩
  have h4 := hl.bl_lt k hk
  have h5 := h2.bl_le k hs
  omega
theorem Tw.rows {w : World} {g m h n bad : Nat} {R S : List Rw} {W : World} (t : Tw w g m h n bad R S W) (hlen : R.length ≤ 100000) :
    Calls Try.prog 11 #[.pointer (some ⟨g, 0, none⟩)] W fun e w' => ∃ ob cap, e = .returned (.slice ob R.length cap) ∧ RowsAt w' (.slice ob R.length cap) R ∧ Tw w g m h n bad R S w' := by
  have t' := t
  obtain ⟨⟨sl, sk, h1, h2, h3⟩, hb⟩ := t
  refine (Rows_any h1 hlen).mono fun e w' ⟨v, he, ho, hbl⟩ => ?_
  obtain ⟨ob, cap, rfl⟩ := own_slice ho
  exact ⟨ob, cap, he, RowsAt.of ho rfl, t'.bel hbl⟩
theorem Tw.row {w : World} {g m h n bad : Nat} {R S : List Rw} {W : World} (t : Tw w g m h n bad R S W) (x : Tx) (hlen : R.length ≤ 100000) :
    Calls Try.prog 18 #[.pointer (some ⟨g, 0, none⟩), .agg x.cells.toArray] W fun e w' => e = .returned (rowV R x) ∧ Below W.heap.size W w' := by
  obtain ⟨⟨sl, sk, h1, h2, h3⟩, hb⟩ := t
  exact Row_any h1 x hlen
end Go.Proofs.Ythdmjeoldnehcaa
