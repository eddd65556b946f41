/- Frames that are linked, plainly. Condition: records of 8192 bytes at most, where said. -/
import Derived.Test.YtnmkinihkgdkgaaDoorOct
import Derived.Test.YtnmkinihkgdkgaaDoorShp
namespace Go.Proofs.YtnmkinihkgdkgaaDoor
set_option linter.unusedVariables false

def z32 : List UInt8 := List.replicate 32 0
def nx (l r : List UInt8) : List UInt8 := sum (l ++ r)
theorem nx_len (l r : List UInt8) : (nx l r).length = 32 := sum_len _
def frs : List UInt8 → List (List UInt8) → List UInt8
  | _, [] => []
  | l, r :: rs => text r ++ (nx l r ++ frs (nx l r) rs)
def hd : List UInt8 → List (List UInt8) → List UInt8
  | l, [] => l
  | l, r :: rs => hd (nx l r) rs
theorem hd_len : ∀ (rs : List (List UInt8)) (l : List UInt8), l.length = 32 → (hd l rs).length = 32
  | [], l, h => h
  | r :: rs, l, _ => hd_len rs _ (nx_len l r)
theorem hd_app : ∀ (a b : List (List UInt8)) (l : List UInt8), hd l (a ++ b) = hd (hd l a) b
  | [], b, l => rfl
  | r :: a, b, l => hd_app a b (nx l r)
theorem frs_app : ∀ (a b : List (List UInt8)) (l : List UInt8), frs l (a ++ b) = frs l a ++ frs (hd l a) b
  | [], b, l => rfl
  | r :: a, b, l => by
    show text r ++ (nx l r ++ frs (nx l r) (a ++ b)) = text r ++ (nx l r ++ frs (nx l r) a) ++ frs (hd (nx l r) a) b
    rw [frs_app a b (nx l r)]; simp
theorem frs_snoc (a : List (List UInt8)) (r l : List UInt8) : frs l (a ++ [r]) = frs l a ++ (text r ++ nx (hd l a) r) := by
  rw [frs_app]; simp [frs]
theorem hd_snoc (a : List (List UInt8)) (r l : List UInt8) : hd l (a ++ [r]) = nx (hd l a) r := by rw [hd_app]; rfl

/-- A right frame stands ahead. -/
def gd (u link : List UInt8) : Prop := (readText u 8192).2.2 = 0 ∧ 32 + (readText u 8192).2.1 ≤ u.length ∧ (u.drop (readText u 8192).2.1).take 32 = nx link (readText u 8192).1
def gdb (u link : List UInt8) : Bool := decide ((readText u 8192).2.2 = 0) && (decide (32 + (readText u 8192).2.1 ≤ u.length) && decide ((u.drop (readText u 8192).2.1).take 32 = nx link (readText u 8192).1))
theorem gdb_iff (u link : List UInt8) : gdb u link = true ↔ gd u link := by simp [gdb, gd]
def scan : Nat → List UInt8 → List UInt8 → Nat → List (List UInt8) → List (List UInt8) × List UInt8 × Nat
  | 0, link, _, a, acc => (acc, link, a)
  | k + 1, link, u, a, acc => if gdb u link = true then scan k (nx link (readText u 8192).1) (u.drop ((readText u 8192).2.1 + 32)) (a + (readText u 8192).2.1 + 32) (acc ++ [(readText u 8192).1]) else (acc, link, a)
theorem scan_ok {k : Nat} {link u : List UInt8} {a : Nat} {acc : List (List UInt8)} (h : gd u link) : scan (k + 1) link u a acc = scan k (nx link (readText u 8192).1) (u.drop ((readText u 8192).2.1 + 32)) (a + (readText u 8192).2.1 + 32) (acc ++ [(readText u 8192).1]) := by rw [scan, if_pos ((gdb_iff _ _).2 h)]
theorem scan_no {k : Nat} {link u : List UInt8} {a : Nat} {acc : List (List UInt8)} (h : ¬ gd u link) : scan (k + 1) link u a acc = (acc, link, a) := by rw [scan, if_neg fun h' => h ((gdb_iff _ _).1 h')]

theorem read_frame (r l rest : List UInt8) (hr : r.length ≤ 8192) : readText (text r ++ (nx l r ++ rest)) 8192 = (r, (text r).length, 0) := readText_text r _ (by omega) 8192 (by omega)
theorem gd_frame (r l rest : List UInt8) (hr : r.length ≤ 8192) : gd (text r ++ (nx l r ++ rest)) l := by
  unfold gd
  rw [read_frame r l rest hr]
  have := nx_len l r
  refine ⟨rfl, by simp; omega, ?_⟩
  simp only [List.drop_left]
  rw [List.take_append_of_le_length (by omega), List.take_of_length_le (by omega)]
theorem scan_frs : ∀ (rs : List (List UInt8)) (k : Nat) (link : List UInt8) (a : Nat) (acc : List (List UInt8)) (rest : List UInt8), (∀ r ∈ rs, r.length ≤ 8192) → ¬ gd rest (hd link rs) → rs.length < k →
    scan k link (frs link rs ++ rest) a acc = (acc ++ rs, hd link rs, a + (frs link rs).length)
  | [], k + 1, link, a, acc, rest, _, hn, _ => by simpa [frs, hd] using scan_no (k := k) (a := a) (acc := acc) hn
  | r :: rs, k + 1, link, a, acc, rest, hs, hn, hk => by
    have hr := hs r (by simp)
    have e : frs link (r :: rs) ++ rest = text r ++ (nx link r ++ (frs (nx link r) rs ++ rest)) := by simp [frs]
    have hl := nx_len link r
    rw [e, scan_ok (gd_frame r link _ hr), read_frame r link _ hr]
    simp only
    have hd1 : (text r ++ (nx link r ++ (frs (nx link r) rs ++ rest))).drop ((text r).length + 32) = frs (nx link r) rs ++ rest := by
      rw [← List.append_assoc, List.drop_left' (by simp; omega)]
    rw [hd1, scan_frs rs k (nx link r) _ _ rest (fun x hx => hs x (by simp [hx])) hn (by simp at hk; omega)]
    simp [frs, hd]; omega
/-- What is read is what would be put. -/
theorem scan_is : ∀ (k : Nat) (link u : List UInt8) (a : Nat) (acc : List (List UInt8)), u.length < k →
    ∃ rs rest, u = frs link rs ++ rest ∧ (∀ r ∈ rs, r.length ≤ 8192) ∧ ¬ gd rest (hd link rs) ∧ rs.length ≤ u.length ∧ scan k link u a acc = (acc ++ rs, hd link rs, a + (frs link rs).length)
  | k + 1, link, u, a, acc, hk => by
    by_cases hg : gd u link
    · obtain ⟨g1, g2, g3⟩ := hg
      obtain ⟨t1, t2, t3, t4⟩ := text_readText u 8192 g1
      have hg : gd u link := ⟨g1, g2, g3⟩
      rw [scan_ok hg]
      generalize readText u 8192 = R at t1 t2 t3 t4 g1 g2 g3
      obtain ⟨r, n, e⟩ := R
      simp only at t1 t2 t3 t4 g1 g2 g3 ⊢
      have hr : r.length ≤ 8192 := by omega
      obtain ⟨rs, rest, q1, q2, q3, q5, q4⟩ := scan_is k (nx link r) (u.drop (n + 32)) (a + n + 32) (acc ++ [r]) (by simp; omega)
      have hu : u = text r ++ (nx link r ++ u.drop (n + 32)) := by
        rw [t1, ← g3, ← List.append_assoc, ← List.take_add, List.take_append_drop]
      have hz := nx_len link r
      have htl : (text r).length = n := by rw [t1]; simp; omega
      refine ⟨r :: rs, rest, ?_, ?_, q3, ?_, ?_⟩
      · conv => lhs; rw [hu, q1]
        simp [frs]
      · intro x hx
        rcases List.mem_cons.1 hx with rfl | hx
        · exact hr
        · exact q2 x hx
      · simp at q5 ⊢; omega
      · rw [q4]; simp [frs, hd]; omega
    · exact ⟨[], u, rfl, by simp, hg, by simp, by rw [scan_no hg]; simp [frs, hd]⟩
/-- A frame that is cut is none. -/
theorem gd_cut (r l l' p q : List UInt8) (hr : r.length ≤ 8192) (hp : p ++ q = text r ++ nx l r) (hq : q ≠ []) : ¬ gd p l' := by
  rintro ⟨g1, g2, -⟩
  obtain ⟨t1, t2, t3, t4⟩ := text_readText p 8192 g1
  generalize readText p 8192 = R at t1 t2 t3 t4 g1 g2
  obtain ⟨t, n, e⟩ := R
  simp only at t1 t2 t3 t4 g1 g2
  have h : text t ++ (p.drop n ++ q) = text r ++ nx l r := by rw [t1, ← List.append_assoc, List.take_append_drop, hp]
  obtain ⟨_, h2⟩ := text_begins t r (by omega) (by omega) _ _ h
  have hl := nx_len l r
  have := List.length_pos_iff.2 hq
  rw [← h2] at hl
  simp at hl; omega
theorem gd_nil (l : List UInt8) : ¬ gd [] l := by
  rintro ⟨-, g2, -⟩
  simp at g2
/-- Where frames end. -/
def ends (l : List (List UInt8)) (link : List UInt8) : List Nat := (List.range l.length).map fun i => (frs link (l.take (i + 1))).length
theorem frs_take_lt (l : List (List UInt8)) (link : List UInt8) (i j : Nat) (hij : i < j) (hj : j ≤ l.length) : (frs link (l.take i)).length + 32 < (frs link (l.take j)).length := by
  have e : l.take j = l.take i ++ (l.drop i).take (j - i) := by rw [← List.take_add]; congr 1; omega
  rw [e, frs_app, List.length_append]
  have hne : (l.drop i).take (j - i) ≠ [] := by
    intro h; have := congrArg List.length h; simp at this; omega
  obtain ⟨r, rs, hrs⟩ := List.exists_cons_of_ne_nil hne
  rw [hrs]
  have := nx_len (hd link (l.take i)) r
  have h1 : 1 ≤ (text r).length := by have := num_pos r.length; unfold text; rw [List.length_append]; omega
  simp [frs]; omega
/-- What is cut is scanned as the frames that are whole. -/
theorem scan_cut (l : List (List UInt8)) (link : List UInt8) (hl : ∀ r ∈ l, r.length ≤ 8192) (k m : Nat) (hm : m ≤ l.length) (h1 : (frs link (l.take m)).length ≤ k) (h2 : m < l.length → k < (frs link (l.take (m + 1))).length) (f : Nat) (hf : l.length < f) :
    scan f link ((frs link l).take k) 0 [] = (l.take m, hd link (l.take m), (frs link (l.take m)).length) := by
  have e : frs link l = frs link (l.take m) ++ frs (hd link (l.take m)) (l.drop m) := by rw [← frs_app, List.take_append_drop]
  have e2 : (frs link l).take k = frs link (l.take m) ++ (frs (hd link (l.take m)) (l.drop m)).take (k - (frs link (l.take m)).length) := by
    rw [e, List.take_append, List.take_of_length_le h1]
  rw [e2, scan_frs (l.take m) f link 0 [] _ (fun r hr => hl r (List.mem_of_mem_take hr)) ?_ (by simp; omega)]
  · simp
  · rcases Nat.lt_or_ge m l.length with hlt | hge
    · have hdr : l.drop m = l[m] :: l.drop (m + 1) := List.drop_eq_getElem_cons hlt
      have h3 := h2 hlt
      rw [List.take_succ_eq_append_getElem hlt, frs_snoc, List.length_append] at h3
      rw [hdr]
      have hr := hl l[m] (List.getElem_mem hlt)
      generalize hd link (l.take m) = g at h3 ⊢
      generalize l[m] = r at h3 hr ⊢
      have hj : k - (frs link (l.take m)).length < (text r ++ nx g r).length := by omega
      generalize k - (frs link (l.take m)).length = j at hj ⊢
      have e4 : (frs g (r :: l.drop (m + 1))).take j = (text r ++ nx g r).take j := by
        show (text r ++ (nx g r ++ _)).take j = _
        rw [← List.append_assoc, List.take_append_of_le_length (by omega)]
      rw [e4]
      refine gd_cut r g g _ ((text r ++ nx g r).drop j) hr (List.take_append_drop _ _) ?_
      intro h
      have := congrArg List.length h
      rw [List.length_drop] at this
      simp only [List.length_nil] at this
      omega
    · rw [List.drop_eq_nil_of_le hge]
      simpa [frs] using gd_nil _
end Go.Proofs.YtnmkinihkgdkgaaDoor
