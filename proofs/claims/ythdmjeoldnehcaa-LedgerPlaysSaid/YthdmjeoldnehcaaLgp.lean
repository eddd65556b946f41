/- The ledger plainly: transactions, rows, actions; what an action may be, can do, does. No program in it. No condition. -/
import Derived.Test.YthdmjeoldnehcaaStr
namespace Go.Proofs.Ythdmjeoldnehcaa
open Go.RowKit
set_option linter.unusedVariables false

structure Tx where
  c : Int
  e : Int
  s : Int
deriving DecidableEq
/-- A transaction's row. -/
structure Rw where
  tx : Tx
  begun : Bool
  orgs : Nat
  voted : Nat
  yes : Nat
  dec : Bool
  com : Bool
  learnt : Nat
deriving DecidableEq
/-- An action. -/
structure Ac where
  kind : Nat
  tx : Tx
  org : Int
  yes : Bool
  orgs : Nat
deriving DecidableEq
/-- Their cells. -/
def Tx.cells (t : Tx) : List Value := [.int .i64 t.c, .int .i64 t.e, .int .i64 t.s]
def Rw.cells (r : Rw) : List Value := [.int .i64 r.tx.c, .int .i64 r.tx.e, .int .i64 r.tx.s, .bool r.begun, .int .u8 (r.orgs : Int), .int .u8 (r.voted : Int), .int .u8 (r.yes : Int), .bool r.dec, .bool r.com, .int .u8 (r.learnt : Int)]
def Ac.cells (a : Ac) : List Value := [.int .u8 (a.kind : Int), .int .i64 a.tx.c, .int .i64 a.tx.e, .int .i64 a.tx.s, .int .i64 a.org, .bool a.yes, .int .u8 (a.orgs : Int)]
def row0 (t : Tx) : Rw := ⟨t, false, 0, 0, 0, false, false, 0⟩

/-- Is an organisation in a set? -/
def inS (n : Nat) (k : Int) : Bool := decide (0 ≤ k) && n.testBit k.toNat
def ones (n : Nat) : Nat := ((List.range 8).filter fun k => n.testBit k).length
def bitO (k : Int) : Nat := 2 ^ k.toNat
def orgB (k : Int) : Bool := decide (0 ≤ k) && decide (k < 8)
def mayTx (t : Tx) : Bool := orgB t.c && (decide (1 ≤ t.e) && (decide (t.e ≤ 255) && (decide (1 ≤ t.s) && decide (t.s ≤ 65535))))
/-- May an action of a kind be? -/
def mayBe (bad : Nat) (a : Ac) : Bool :=
  decide (1 ≤ a.kind) && decide (a.kind ≤ 4) && mayTx a.tx && !inS bad a.tx.c &&
  (if a.kind = 1 then decide (1 ≤ ones a.orgs) && decide (ones a.orgs ≤ 6) && !inS a.orgs a.tx.c && decide (a.org = 0) && !a.yes
   else if a.kind = 3 then decide (ones a.orgs = 0) && decide (a.org = 0)
   else decide (ones a.orgs = 0) && orgB a.org && decide (a.org ≠ a.tx.c) && !inS bad a.org)
/-- Can it be done? -/
def canDo (bad : Nat) (r : Rw) (a : Ac) : Bool :=
  if a.kind = 1 then !r.begun && !r.dec
  else if a.kind = 2 then r.begun && inS r.orgs a.org && !(inS r.voted a.org || inS r.learnt a.org)
  else if a.kind = 3 then !r.dec && (!a.yes || (r.begun && ((List.range 8).all fun k => !(r.orgs.testBit k && !bad.testBit k) || r.yes.testBit k)))
  else r.dec && (r.com == a.yes) && !inS r.learnt a.org && (!r.begun || inS r.orgs a.org) && (!a.yes || inS r.yes a.org)
/-- What it does. -/
def doIt (r : Rw) (a : Ac) : Rw :=
  if a.kind = 1 then { r with begun := true, orgs := a.orgs }
  else if a.kind = 2 then { r with voted := r.voted ||| bitO a.org, yes := if a.yes then r.yes ||| bitO a.org else r.yes }
  else if a.kind = 3 then { r with dec := true, com := a.yes }
  else { r with learnt := r.learnt ||| bitO a.org }
/-- Where a transaction's row is. -/
def idx (rows : List Rw) (t : Tx) : Option Nat := rows.findIdx? fun r => decide (r.tx = t)
def rowOf (rows : List Rw) (t : Tx) : Rw := match idx rows t with | some k => rows.getD k (row0 t) | none => row0 t
/-- What a ledger answers: 2: it may not be; 290: it can't be done. -/
def errOf (bad : Nat) (rows : List Rw) (a : Ac) : Nat := if mayBe bad a = false then 2 else if canDo bad (rowOf rows a.tx) a = false then 290 else 0
/-- A row put in its place, or behind all. -/
def putRow (rows : List Rw) (r : Rw) : List Rw := match idx rows r.tx with | some k => rows.set k r | none => rows ++ [r]
def step (bad : Nat) (rows : List Rw) (a : Ac) : List Rw := if errOf bad rows a = 0 then putRow rows (doIt (rowOf rows a.tx) a) else rows
theorem doIt_tx (r : Rw) (a : Ac) : (doIt r a).tx = r.tx := by
  unfold doIt
  repeat' split
  all_goals rfl
theorem idx_some {rows : List Rw} {t : Tx} {k : Nat} (h : idx rows t = some k) : ∃ hk : k < rows.length, (rows[k]).tx = t := by
  unfold idx at h
  rw [List.findIdx?_eq_some_iff_getElem] at h
  obtain ⟨h1, h2, _⟩ := h
  exact ⟨h1, by simpa using h2⟩
theorem idx_lt {rows : List Rw} {t : Tx} {k : Nat} (h : idx rows t = some k) : k < rows.length := (idx_some h).1
theorem rowOf_some {rows : List Rw} {t : Tx} {k : Nat} (h : idx rows t = some k) : rowOf rows t = rows[k]'(idx_lt h) := by
  unfold rowOf
  rw [h]
  simp [idx_lt h]
theorem rowOf_none {rows : List Rw} {t : Tx} (h : idx rows t = none) : rowOf rows t = row0 t := by
  unfold rowOf
  rw [h]
theorem rowOf_tx (rows : List Rw) (t : Tx) : (rowOf rows t).tx = t := by
  cases h : idx rows t with
  | none => rw [rowOf_none h]; rfl
  | some k => rw [rowOf_some h]; exact (idx_some h).2

/-! ### What a row says (LedgerOne) -/
def bits8 (n : Nat) : Prop := n < 256
/-- Is a set within another? -/
def sub (a b : Nat) : Prop := ∀ k, a.testBit k = true → b.testBit k = true
structure Sound (bad : Nat) (r : Rw) : Prop where
  y : sub r.yes r.voted
  v : sub r.voted r.orgs
  v0 : r.begun = false → r.voted = 0 ∧ r.orgs = 0
  l : r.learnt ≠ 0 → r.dec = true
  c : r.com = true → r.dec = true
  b : r.com = true → r.begun = true ∧ (∀ k, r.orgs.testBit k = true → bad.testBit k = false → r.yes.testBit k = true) ∧ sub r.learnt r.yes
  lo : r.orgs < 256 ∧ r.voted < 256 ∧ r.yes < 256 ∧ r.learnt < 256
theorem sound_row0 (bad : Nat) (t : Tx) : Sound bad (row0 t) :=
  ⟨fun k h => by simp [row0] at h, fun k h => by simp [row0] at h, fun _ => ⟨rfl, rfl⟩, fun h => by simp [row0] at h, fun h => by simp [row0] at h, fun h => by simp [row0] at h, by simp [row0]⟩
theorem bitO_lt {k : Int} (h0 : 0 ≤ k) (h : k < 8) : bitO k < 256 := by
  unfold bitO
  have : k.toNat < 8 := by omega
  have h2 : 2 ^ k.toNat ≤ 2 ^ 7 := Nat.pow_le_pow_right (by omega) (by omega)
  omega
theorem or_lt {a b : Nat} (ha : a < 256) (hb : b < 256) : a ||| b < 256 := Nat.or_lt_two_pow (n := 8) ha hb
theorem testBit_or_bit (a : Nat) (k : Int) (j : Nat) : (a ||| bitO k).testBit j = (a.testBit j || decide (k.toNat = j)) := by
  unfold bitO
  rw [Nat.testBit_or, Nat.testBit_two_pow]
theorem sound_do {bad : Nat} {r : Rw} {a : Ac} (hs : Sound bad r) (hm : mayBe bad a = true) (hc : canDo bad r a = true) (ha : a.orgs < 256) : Sound bad (doIt r a) := by
  obtain ⟨y, v, v0, l, c, b, lo⟩ := hs
  unfold mayBe at hm
  simp only [Bool.and_eq_true, decide_eq_true_eq, Bool.not_eq_true'] at hm
  obtain ⟨⟨⟨⟨k1, k4⟩, ht⟩, hb⟩, hk⟩ := hm
  unfold canDo at hc
  unfold doIt
  by_cases e1 : a.kind = 1
  · rw [if_pos e1] at hc ⊢
    simp only [Bool.and_eq_true, Bool.not_eq_true'] at hc
    obtain ⟨z1, z2⟩ := v0 hc.1
    refine ⟨y, fun k h => ?_, fun h => by simp at h, l, c, fun h => ?_, ⟨ha, lo.2⟩⟩
    · simp only at h; rw [z1] at h; simp at h
    · have := c h; rw [hc.2] at this; simp at this
  · rw [if_neg e1] at hc hk ⊢
    by_cases e2 : a.kind = 2
    · rw [if_pos e2] at hc ⊢
      rw [if_neg (by omega)] at hk
      simp only [Bool.and_eq_true, Bool.not_eq_true', Bool.or_eq_false_iff, decide_eq_true_eq] at hc hk
      obtain ⟨⟨h1, h2⟩, h3, h4⟩ := hc
      obtain ⟨⟨⟨_, ho⟩, _⟩, _⟩ := hk
      unfold orgB at ho
      simp only [Bool.and_eq_true, decide_eq_true_eq] at ho
      have hbo := bitO_lt ho.1 ho.2
      have hin : r.orgs.testBit a.org.toNat = true := by unfold inS at h2; simp at h2; exact h2.2
      refine ⟨fun k h => ?_, fun k h => ?_, fun h => ?_, l, c, fun h => ?_, ⟨lo.1, or_lt lo.2.1 hbo, ?_, lo.2.2.2⟩⟩
      · simp only at h ⊢
        rw [testBit_or_bit, Bool.or_eq_true]
        split at h
        · rw [testBit_or_bit, Bool.or_eq_true] at h
          exact h.imp (y k) id
        · exact .inl (y k h)
      · simp only at h ⊢
        rw [testBit_or_bit, Bool.or_eq_true, decide_eq_true_eq] at h
        rcases h with h | h
        · exact v k h
        · rw [← h]; exact hin
      · simp only at h; rw [h1] at h; simp at h
      · obtain ⟨b1, b2, b3⟩ := b h
        refine ⟨b1, fun k hk1 hk2 => ?_, fun k hk1 => ?_⟩
        · simp only
          have := b2 k hk1 hk2
          split
          · rw [testBit_or_bit, this]; rfl
          · exact this
        · simp only
          have := b3 k hk1
          split
          · rw [testBit_or_bit, this]; rfl
          · exact this
      · simp only
        split
        · exact or_lt lo.2.2.1 hbo
        · exact lo.2.2.1
    · rw [if_neg e2] at hc ⊢
      by_cases e3 : a.kind = 3
      · rw [if_pos e3] at hc hk ⊢
        simp only [Bool.and_eq_true, Bool.not_eq_true', Bool.or_eq_true, List.all_eq_true, List.mem_range] at hc
        obtain ⟨h1, h2⟩ := hc
        have hl : r.learnt = 0 := by
          by_cases h : r.learnt = 0
          · exact h
          · have := l h; rw [h1] at this; simp at this
        refine ⟨y, v, v0, fun _ => rfl, fun _ => rfl, fun h => ?_, lo⟩
        simp only at h
        rcases h2 with h2 | ⟨h2, h3⟩
        · rw [h] at h2; simp at h2
        · refine ⟨h2, fun k hk1 hk2 => ?_, fun k hk1 => ?_⟩
          · have hk8 : k < 8 := by
              by_cases h8 : k < 8
              · exact h8
              · exfalso
                have : r.orgs.testBit k = false := Nat.testBit_lt_two_pow (Nat.lt_of_lt_of_le lo.1 (Nat.pow_le_pow_right (n := 2) (by omega) (show 8 ≤ k by omega)))
                rw [this] at hk1; simp at hk1
            have := h3 k hk8
            simp only at hk1
            rw [hk1, hk2] at this
            simpa using this
          · simp only at hk1; rw [hl] at hk1; simp at hk1
      · rw [if_neg e3] at hc hk ⊢
        simp only [Bool.and_eq_true, Bool.not_eq_true', Bool.or_eq_true, decide_eq_true_eq, beq_iff_eq] at hc hk
        obtain ⟨⟨⟨⟨h1, h2⟩, h3⟩, h4⟩, h5⟩ := hc
        obtain ⟨⟨⟨_, ho⟩, _⟩, _⟩ := hk
        unfold orgB at ho
        simp only [Bool.and_eq_true, decide_eq_true_eq] at ho
        have hbo := bitO_lt ho.1 ho.2
        refine ⟨y, v, v0, fun _ => h1, c, fun h => ?_, ⟨lo.1, lo.2.1, lo.2.2.1, or_lt lo.2.2.2 hbo⟩⟩
        obtain ⟨b1, b2, b3⟩ := b h
        refine ⟨b1, b2, fun k hk1 => ?_⟩
        simp only at hk1
        rw [testBit_or_bit, Bool.or_eq_true, decide_eq_true_eq] at hk1
        rcases hk1 with hk1 | hk1
        · exact b3 k hk1
        · rcases h5 with h5 | h5
          · have h6 : r.com = true := h
            rw [h2, h5] at h6; simp at h6
          · unfold inS at h5
            simp only [Bool.and_eq_true, decide_eq_true_eq] at h5
            rw [← hk1]; exact h5.2
end Go.Proofs.Ythdmjeoldnehcaa
