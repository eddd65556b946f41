/- The walk of the ledger's May. Condition: the ledger lies at the pointer. -/
import Derived.Test.YthdmjeoldnehcaaLgi
namespace Go.Proofs.Ythdmjeoldnehcaa
open Go.RowKit
set_option linter.unusedVariables false
set_option linter.unusedSimpArgs false

/-- The memory of May: the ledger, the action's box. -/
structure Mym (w : World) (B g mb : Nat) (sl : Value) (bad : Nat) (rows : List Rw) (acs : Array Value) (W : World) : Prop where
  lg : Lg W B g mb sl bad rows
  ac : W.heap[w.heap.size]? = some (.cells acs 35 (0, 0))
  b : Below w.heap.size w W
theorem Mym.bel {w : World} {B g mb : Nat} {sl : Value} {bad : Nat} {rows : List Rw} {acs : Array Value} {W W' : World} (h : Mym w B g mb sl bad rows acs W) (hb : Below W.heap.size W W') : Mym w B g mb sl bad rows acs W' :=
  ⟨h.lg.bel hb, (hb.block _ (lt_of_heap h.ac)).trans h.ac, below_acc h.b hb⟩
theorem Mym.draw {w : World} {B g mb : Nat} {sl : Value} {bad : Nat} {rows : List Rw} {acs : Array Value} {W : World} (h : Mym w B g mb sl bad rows acs W) : Mym w B g mb sl bad rows acs W.drew := h.bel ((Below.refl _ W).drew)
theorem Mym.alloc {w : World} {B g mb : Nat} {sl : Value} {bad : Nat} {rows : List Rw} {acs : Array Value} {W : World} (h : Mym w B g mb sl bad rows acs W) (o : Obj) : Mym w B g mb sl bad rows acs (W.alloc o) := h.bel ((Below.refl _ W).alloc (Nat.le_refl _) o)
theorem Mym.put {w : World} {B g mb : Nat} {sl : Value} {bad : Nat} {rows : List Rw} {acs : Array Value} {W W' : World} {k : Nat} {cs : Array Value} {t : TypeId} (h : Mym w B g mb sl bad rows acs W) (hp : Put W W' k cs t) (hk : ¬ Bl g mb sl k) (hn : w.heap.size < k) : Mym w B g mb sl bad rows acs W' :=
  ⟨h.lg.same fun j hj => hp.block j (fun e => hk (e ▸ hj)), (hp.block _ (by omega)).trans h.ac, hp.below h.b (by omega)⟩
theorem put_row (w : World) (g : Nat) (old cs : Array Value) (t : TypeId) (h : w.heap[g]? = some (.cells old t (0, 0))) (hs : old.size = cs.size) : Put w (w.setRow g cs) g cs t :=
  ⟨rfl, rfl, rfl, by simp, fun k hk => setRow_other w g k cs hk, setRow_heap w g old cs t (0, 0) h⟩
theorem rwAt_of {W : World} {b : Nat} {r : Rw} {t : TypeId} (h : W.heap[b]? = some (.cells r.cells.toArray t (0, 0))) : RwAt W b 0 r := by
  have e : ∀ j x, r.cells[j]? = some x → W.cell? ⟨b, 0 + j, none⟩ = some x := fun j x hx => by
    rw [Nat.zero_add, cell_of_row _ _ j _ _ (0, 0) h]
    simpa using hx
  exact ⟨e 0 _ rfl, e 1 _ rfl, e 2 _ rfl, e 3 _ rfl, e 4 _ rfl, e 5 _ rfl, e 6 _ rfl, e 7 _ rfl, e 8 _ rfl, e 9 _ rfl, lt_of_heap h⟩
theorem new_bl {W : World} {B g mb : Nat} {sl : Value} {bad : Nat} {rows : List Rw} (h : Lg W B g mb sl bad rows) {k : Nat} (hk : W.heap.size ≤ k) : ¬ Bl g mb sl k := fun hb => by
  have := h.bl_lt k hb
  omega
theorem size_kind (a b c d e : Value) : (Try.prog.info? 58).map (·.size) = some (#[a, b, c, d, e] : Array Value).size := by
  show _ = some 5
  kernel_rfl
theorem KindsAt.bel {W W' : World} {b : Nat} (h : KindsAt W b) (hb : Below W.heap.size W W') : KindsAt W' b := (hb.block b (lt_of_heap h)).trans h
theorem then_normal {K : Act → World → Prop} {ex : Exit} {a : Act} {W : World} (h : Exit.then K (fun _ _ _ => False) ex a W) : ex = .normal ∧ K a W := by
  cases ex <;> first | exact ⟨rfl, h⟩ | exact False.elim h
def kz : Array Value := #[.bool false, .bool false, .bool false, .nilFunc, .nilFunc]

theorem none_kind {kind : Nat} (hu : kind ≠ 1 ∧ kind ≠ 2 ∧ kind ≠ 3 ∧ kind ≠ 4) : Instr.findNow (.int .u8) (.int .u8 (kind : Int)) kmap.toList 0 = some none := by
  have h1 : ((kind : Int) == 1) = false := by rw [beq_eq_false_iff_ne]; omega
  have h2 : ((kind : Int) == 2) = false := by rw [beq_eq_false_iff_ne]; omega
  have h3 : ((kind : Int) == 3) = false := by rw [beq_eq_false_iff_ne]; omega
  have h4 : ((kind : Int) == 4) = false := by rw [beq_eq_false_iff_ne]; omega
  simp [kmap, Instr.findNow, Instr.sameNow, h1, h2, h3, h4]
set_option maxHeartbeats 8000000 in
theorem May_none (B g mb bad : Nat) (sl : Value) (rows : List Rw) (kind : Nat) (c e s org : Int) (yes : Bool) (orgs : Nat) (w : World) (h : Lg w B g mb sl bad rows) (hlen : rows.length ≤ 100000)
    (hu : kind ≠ 1 ∧ kind ≠ 2 ∧ kind ≠ 3 ∧ kind ≠ 4)
    : Calls Try.prog 20 #[.pointer (some ⟨g, 0, none⟩), .agg #[.int .u8 (kind : Int), .int .i64 c, .int .i64 e, .int .i64 s, .int .i64 org, .bool yes, .int .u8 (orgs : Int)]] w fun r w' => r = .returned (.int .i64 2) ∧ Below w.heap.size w w' := by
  have M1 := Lib.hid (Mym.mk (acs := #[.int .u8 (kind : Int), .int .i64 c, .int .i64 e, .int .i64 s, .int .i64 org, .bool yes, .int .u8 (orgs : Int)]) (h.bel ((Below.refl _ w).alloc (Nat.le_refl _) _)) (heap_alloc_new w (.cells #[.int .u8 (kind : Int), .int .i64 c, .int .i64 e, .int .i64 s, .int .i64 org, .bool yes, .int .u8 (orgs : Int)] 35 (0, 0))) ((Below.refl _ w).alloc (Nat.le_refl _) _))
  have HL : Hid (∀ (W : World) (kb : Nat), KindsAt W kb → (Instr.lookup 59 (.map (some kb)) (.int .u8 (kind : Int)) true).run Try.prog W = .ok (.tuple #[.agg kz, .bool false]) W) := fun W kb hk => look_none hk _ _ (by go_simp; rfl) (none_kind hu)
  have HO : Hid (kz.all (·.oneCell') = true) := by show _ = _; simp [kz, Value.oneCell']
  clear h
  go_enter Try.func20, Try.ntmps20
  go_upto_region 3 with (fail)
  generalize w.alloc (.cells #[.int .u8 (kind : Int), .int .i64 c, .int .i64 e, .int .i64 s, .int .i64 org, .bool yes, .int .u8 (orgs : Int)] 35 (0, 0)) = w1 at M1 ⊢
  refine Code.wp_mono (Q := Exit.then (fun a W => ∃ kb tb : Nat, a = { tmps := #[(.pointer (some ⟨g, 0, none⟩)), (.agg #[.int .u8 (kind : Int), .int .i64 c, .int .i64 e, .int .i64 s, .int .i64 org, .bool yes, .int .u8 (orgs : Int)]), undef, (.pointer (some ⟨w.heap.size, 0, none⟩)), (.int .i64 0), (.pointer (some ⟨tb, 0, none⟩)), (.bool false), undef, (.pointer (some ⟨g, 0, none⟩)), (.bool false), (.tuple #[.agg kz, .bool false]), (.map (some kb)), (.pointer (some ⟨w.heap.size, 0, none⟩)), (.int .u8 (kind : Int)), (.tuple #[.agg kz, .bool false]), (.agg kz), (.bool false), undef, undef, undef, undef, undef, undef, undef, undef, undef, undef, undef, undef, undef, undef, undef, undef, undef, undef, undef], defers := [] } ∧ W.heap[tb]? = some (.cells kz 58 (0, 0)) ∧ w.heap.size < tb ∧ ¬ Bl g mb sl tb ∧ Mym w B g mb sl bad rows #[.int .u8 (kind : Int), .int .i64 c, .int .i64 e, .int .i64 s, .int .i64 org, .bool yes, .int .u8 (orgs : Int)] W) (fun _ _ _ => False)) ?imp ?reg
  case reg =>
    refine wp_region_held_drew (S := (fun W => W.cell? ⟨w.heap.size, 0, none⟩ = some (.int .u8 (kind : Int)) ∧ Mym w B g mb sl bad rows #[.int .u8 (kind : Int), .int .i64 c, .int .i64 e, .int .i64 s, .int .i64 org, .bool yes, .int .u8 (orgs : Int)] W)) (by kernel_rfl) ⟨cell_of_row _ _ 0 _ _ (0, 0) M1.out.draw.ac, M1.out.draw⟩ (fun hH0 => ?_)
    refine wpAnyH_take (i := 1) (v := .pointer (some ⟨w.heap.size, 0, none⟩)) rfl (by kernel_rfl) (by kernel_rfl) (by kernel_rfl) (fun _ _ _ h => h) (Or.inl ⟨by rfl, ?_⟩) (by assumption) ?_
    · intro w hSw; go_simp
    try simp only [List.getElem_toArray, List.getElem_cons_succ, List.getElem_cons_zero, Act.put, List.setIfInBounds_toArray, List.set_cons_zero, List.set_cons_succ]
    refine wpAnyH_take (i := 2) (v := .int .u8 (kind : Int)) rfl (by kernel_rfl) (by kernel_rfl) (by kernel_rfl) (fun _ _ _ h => h) (Or.inl ⟨by rfl, ?_⟩) (by assumption) ?_
    · intro w hSw; go_simp
    try simp only [List.getElem_toArray, List.getElem_cons_succ, List.getElem_cons_zero, Act.put, List.setIfInBounds_toArray, List.set_cons_zero, List.set_cons_succ]
    refine wpAnyH_ready (rs := [0, 7]) (by kernel_rfl) (by simp) (AllReadyH.cons rfl (fun K hK => ?_) (AllReadyH.cons rfl (fun K hK => ?_) AllReadyH.nil))
    · go_simp
      refine (kinds_any _).mono ?_
      rintro r W2 ⟨rfl, hk, hb, -⟩
      have hk : KindsAt W2 (w1.heap.size) := by simpa using hk
      refine hK.out _ _ ⟨cell_of_row _ _ 0 _ _ (0, 0) (hH0.2.bel hb).ac, hH0.2.bel hb⟩ (fun hH1 => ?_)
      clear hK K
      try simp only [List.getElem_toArray, List.getElem_cons_succ, List.getElem_cons_zero, Act.put, List.setIfInBounds_toArray, List.set_cons_zero, List.set_cons_succ]
      refine wpAnyH_ready (rs := [3, 7]) (by kernel_rfl) (by simp) (AllReadyH.cons rfl (fun K hK => ?_) (AllReadyH.cons rfl (fun K hK => ?_) AllReadyH.nil))
      · have hl := HL.out _ _ hk
        go_simp
        refine hK.out _ _ hH1 (fun hH1l => ?_)
        clear hK K
        try simp only [List.getElem_toArray, List.getElem_cons_succ, List.getElem_cons_zero, Act.put, List.setIfInBounds_toArray, List.set_cons_zero, List.set_cons_succ]
        clear hl
        refine wpAnyH_take (i := 4) (v := (.tuple #[.agg kz, .bool false])) rfl (by kernel_rfl) (by kernel_rfl) (by kernel_rfl) (fun _ _ _ h => h) (Or.inl ⟨by rfl, ?_⟩) (by assumption) ?_
        · intro w hSw; go_simp
        try simp only [List.getElem_toArray, List.getElem_cons_succ, List.getElem_cons_zero, Act.put, List.setIfInBounds_toArray, List.set_cons_zero, List.set_cons_succ]
        refine wpAnyH_take (i := 5) (v := .agg kz) rfl (by kernel_rfl) (by kernel_rfl) (by kernel_rfl) (fun _ _ _ h => h) (Or.inl ⟨by rfl, ?_⟩) (by assumption) ?_
        · intro w hSw; go_simp
        try simp only [List.getElem_toArray, List.getElem_cons_succ, List.getElem_cons_zero, Act.put, List.setIfInBounds_toArray, List.set_cons_zero, List.set_cons_succ]
        refine wpAnyH_take (i := 6) (v := .bool false) rfl (by kernel_rfl) (by kernel_rfl) (by kernel_rfl) (fun _ _ _ h => h) (Or.inl ⟨by rfl, ?_⟩) (by assumption) ?_
        · intro w hSw; go_simp
        try simp only [List.getElem_toArray, List.getElem_cons_succ, List.getElem_cons_zero, Act.put, List.setIfInBounds_toArray, List.set_cons_zero, List.set_cons_succ]
        refine wpAnyH_ready (rs := [7]) (by kernel_rfl) (by simp) (AllReadyH.cons rfl (fun K hK => ?_) AllReadyH.nil)
        go_simp
        refine hK.out _ _ ⟨cell_of_row _ _ 0 _ _ (0, 0) (hH1.2.alloc _).ac, hH1.2.alloc _⟩ (fun hH2 => ?_)
        clear hK K
        try simp only [List.getElem_toArray, List.getElem_cons_succ, List.getElem_cons_zero, Act.put, List.setIfInBounds_toArray, List.set_cons_zero, List.set_cons_succ]
        refine wpAnyH_ready (rs := [8]) (by kernel_rfl) (by simp) (AllReadyH.cons rfl (fun K hK => ?_) AllReadyH.nil)
        rw [if_pos (by rfl)]
        refine wp_store_row _ _ _ rfl _ kz (by rfl) (by rfl) 58 _ (heap_alloc_new W2 (.cells #[.bool false, .bool false, .bool false, .nilFunc, .nilFunc] 58 (0, 0))) (size_kind _ _ _ _ _) (by rfl) HO.out ?_
        have PP := put_row _ _ _ kz 58 (heap_alloc_new W2 (.cells #[.bool false, .bool false, .bool false, .nilFunc, .nilFunc] 58 (0, 0))) (by rfl)
        have MM := (hH2).2.put PP (new_bl hH1.2.lg (Nat.le_refl _)) (lt_of_heap hH1.2.ac)
        refine hK.out _ _ ⟨cell_of_row _ _ 0 _ _ (0, 0) MM.ac, MM⟩ (fun hH3 => ?_)
        clear hK K
        try simp only [List.getElem_toArray, List.getElem_cons_succ, List.getElem_cons_zero, Act.put, List.setIfInBounds_toArray, List.set_cons_zero, List.set_cons_succ]
        refine wpAnyH_take (i := 9) (v := .bool false) rfl (by kernel_rfl) (by kernel_rfl) (by kernel_rfl) (fun _ _ _ h => h) (Or.inl ⟨by rfl, ?_⟩) (by assumption) ?_
        · intro w hSw; go_simp
        try simp only [List.getElem_toArray, List.getElem_cons_succ, List.getElem_cons_zero, Act.put, List.setIfInBounds_toArray, List.set_cons_zero, List.set_cons_succ]
        refine wpAnyH_done (by kernel_rfl) ?_ _
        exact ⟨_, _, rfl, PP.here, (lt_of_heap hH1.2.ac), (new_bl hH1.2.lg (Nat.le_refl _)), MM⟩
      · go_simp
        refine hK.out _ _ ⟨cell_of_row _ _ 0 _ _ (0, 0) (hH1.2.alloc _).ac, hH1.2.alloc _⟩ (fun hH2 => ?_)
        clear hK K
        try simp only [List.getElem_toArray, List.getElem_cons_succ, List.getElem_cons_zero, Act.put, List.setIfInBounds_toArray, List.set_cons_zero, List.set_cons_succ]
        refine wpAnyH_ready (rs := [3]) (by kernel_rfl) (by simp) (AllReadyH.cons rfl (fun K hK => ?_) AllReadyH.nil)
        have hl := HL.out _ _ (hk.bel ((Below.refl _ W2).alloc (Nat.le_refl _) (.cells #[.bool false, .bool false, .bool false, .nilFunc, .nilFunc] 58 (0, 0))))
        go_simp
        refine hK.out _ _ hH2 (fun hH2l => ?_)
        clear hK K
        try simp only [List.getElem_toArray, List.getElem_cons_succ, List.getElem_cons_zero, Act.put, List.setIfInBounds_toArray, List.set_cons_zero, List.set_cons_succ]
        clear hl
        refine wpAnyH_take (i := 4) (v := (.tuple #[.agg kz, .bool false])) rfl (by kernel_rfl) (by kernel_rfl) (by kernel_rfl) (fun _ _ _ h => h) (Or.inl ⟨by rfl, ?_⟩) (by assumption) ?_
        · intro w hSw; go_simp
        try simp only [List.getElem_toArray, List.getElem_cons_succ, List.getElem_cons_zero, Act.put, List.setIfInBounds_toArray, List.set_cons_zero, List.set_cons_succ]
        refine wpAnyH_take (i := 5) (v := .agg kz) rfl (by kernel_rfl) (by kernel_rfl) (by kernel_rfl) (fun _ _ _ h => h) (Or.inl ⟨by rfl, ?_⟩) (by assumption) ?_
        · intro w hSw; go_simp
        try simp only [List.getElem_toArray, List.getElem_cons_succ, List.getElem_cons_zero, Act.put, List.setIfInBounds_toArray, List.set_cons_zero, List.set_cons_succ]
        refine wpAnyH_take (i := 6) (v := .bool false) rfl (by kernel_rfl) (by kernel_rfl) (by kernel_rfl) (fun _ _ _ h => h) (Or.inl ⟨by rfl, ?_⟩) (by assumption) ?_
        · intro w hSw; go_simp
        try simp only [List.getElem_toArray, List.getElem_cons_succ, List.getElem_cons_zero, Act.put, List.setIfInBounds_toArray, List.set_cons_zero, List.set_cons_succ]
        refine wpAnyH_ready (rs := [8]) (by kernel_rfl) (by simp) (AllReadyH.cons rfl (fun K hK => ?_) AllReadyH.nil)
        rw [if_pos (by rfl)]
        refine wp_store_row _ _ _ rfl _ kz (by rfl) (by rfl) 58 _ (heap_alloc_new W2 (.cells #[.bool false, .bool false, .bool false, .nilFunc, .nilFunc] 58 (0, 0))) (size_kind _ _ _ _ _) (by rfl) HO.out ?_
        have PP := put_row _ _ _ kz 58 (heap_alloc_new W2 (.cells #[.bool false, .bool false, .bool false, .nilFunc, .nilFunc] 58 (0, 0))) (by rfl)
        have MM := (hH2).2.put PP (new_bl hH1.2.lg (Nat.le_refl _)) (lt_of_heap hH1.2.ac)
        refine hK.out _ _ ⟨cell_of_row _ _ 0 _ _ (0, 0) MM.ac, MM⟩ (fun hH3 => ?_)
        clear hK K
        try simp only [List.getElem_toArray, List.getElem_cons_succ, List.getElem_cons_zero, Act.put, List.setIfInBounds_toArray, List.set_cons_zero, List.set_cons_succ]
        refine wpAnyH_take (i := 9) (v := .bool false) rfl (by kernel_rfl) (by kernel_rfl) (by kernel_rfl) (fun _ _ _ h => h) (Or.inl ⟨by rfl, ?_⟩) (by assumption) ?_
        · intro w hSw; go_simp
        try simp only [List.getElem_toArray, List.getElem_cons_succ, List.getElem_cons_zero, Act.put, List.setIfInBounds_toArray, List.set_cons_zero, List.set_cons_succ]
        refine wpAnyH_done (by kernel_rfl) ?_ _
        exact ⟨_, _, rfl, PP.here, (lt_of_heap hH1.2.ac), (new_bl hH1.2.lg (Nat.le_refl _)), MM⟩
    · go_simp
      refine hK.out _ _ ⟨cell_of_row _ _ 0 _ _ (0, 0) (hH0.2.alloc _).ac, hH0.2.alloc _⟩ (fun hH1 => ?_)
      clear hK K
      try simp only [List.getElem_toArray, List.getElem_cons_succ, List.getElem_cons_zero, Act.put, List.setIfInBounds_toArray, List.set_cons_zero, List.set_cons_succ]
      refine wpAnyH_ready (rs := [0]) (by kernel_rfl) (by simp) (AllReadyH.cons rfl (fun K hK => ?_) AllReadyH.nil)
      go_simp
      refine (kinds_any _).mono ?_
      rintro r W2 ⟨rfl, hk, hb, -⟩
      have hk : KindsAt W2 (w1.heap.size + 1) := by simpa using hk
      refine hK.out _ _ ⟨cell_of_row _ _ 0 _ _ (0, 0) (hH1.2.bel hb).ac, hH1.2.bel hb⟩ (fun hH2 => ?_)
      clear hK K
      try simp only [List.getElem_toArray, List.getElem_cons_succ, List.getElem_cons_zero, Act.put, List.setIfInBounds_toArray, List.set_cons_zero, List.set_cons_succ]
      refine wpAnyH_ready (rs := [3]) (by kernel_rfl) (by simp) (AllReadyH.cons rfl (fun K hK => ?_) AllReadyH.nil)
      have hl := HL.out _ _ hk
      go_simp
      refine hK.out _ _ hH2 (fun hH2l => ?_)
      clear hK K
      try simp only [List.getElem_toArray, List.getElem_cons_succ, List.getElem_cons_zero, Act.put, List.setIfInBounds_toArray, List.set_cons_zero, List.set_cons_succ]
      clear hl
      refine wpAnyH_take (i := 4) (v := (.tuple #[.agg kz, .bool false])) rfl (by kernel_rfl) (by kernel_rfl) (by kernel_rfl) (fun _ _ _ h => h) (Or.inl ⟨by rfl, ?_⟩) (by assumption) ?_
      · intro w hSw; go_simp
      try simp only [List.getElem_toArray, List.getElem_cons_succ, List.getElem_cons_zero, Act.put, List.setIfInBounds_toArray, List.set_cons_zero, List.set_cons_succ]
      refine wpAnyH_take (i := 5) (v := .agg kz) rfl (by kernel_rfl) (by kernel_rfl) (by kernel_rfl) (fun _ _ _ h => h) (Or.inl ⟨by rfl, ?_⟩) (by assumption) ?_
      · intro w hSw; go_simp
      try simp only [List.getElem_toArray, List.getElem_cons_succ, List.getElem_cons_zero, Act.put, List.setIfInBounds_toArray, List.set_cons_zero, List.set_cons_succ]
      refine wpAnyH_take (i := 6) (v := .bool false) rfl (by kernel_rfl) (by kernel_rfl) (by kernel_rfl) (fun _ _ _ h => h) (Or.inl ⟨by rfl, ?_⟩) (by assumption) ?_
      · intro w hSw; go_simp
      try simp only [List.getElem_toArray, List.getElem_cons_succ, List.getElem_cons_zero, Act.put, List.setIfInBounds_toArray, List.set_cons_zero, List.set_cons_succ]
      have hz := (hb.block _ (by simp)).trans (heap_alloc_new w1.drew (.cells #[.bool false, .bool false, .bool false, .nilFunc, .nilFunc] 58 (0, 0)))
      refine wpAnyH_ready (rs := [8]) (by kernel_rfl) (by simp) (AllReadyH.cons rfl (fun K hK => ?_) AllReadyH.nil)
      rw [if_pos (by rfl)]
      refine wp_store_row _ _ _ rfl _ kz (by rfl) (by rfl) 58 _ hz (size_kind _ _ _ _ _) (by rfl) HO.out ?_
      have PP := put_row _ _ _ kz 58 hz (by rfl)
      have MM := (hH2).2.put PP (new_bl hH0.2.lg (Nat.le_refl _)) (lt_of_heap hH0.2.ac)
      refine hK.out _ _ ⟨cell_of_row _ _ 0 _ _ (0, 0) MM.ac, MM⟩ (fun hH3 => ?_)
      clear hK K
      try simp only [List.getElem_toArray, List.getElem_cons_succ, List.getElem_cons_zero, Act.put, List.setIfInBounds_toArray, List.set_cons_zero, List.set_cons_succ]
      refine wpAnyH_take (i := 9) (v := .bool false) rfl (by kernel_rfl) (by kernel_rfl) (by kernel_rfl) (fun _ _ _ h => h) (Or.inl ⟨by rfl, ?_⟩) (by assumption) ?_
      · intro w hSw; go_simp
      try simp only [List.getElem_toArray, List.getElem_cons_succ, List.getElem_cons_zero, Act.put, List.setIfInBounds_toArray, List.set_cons_zero, List.set_cons_succ]
      refine wpAnyH_done (by kernel_rfl) ?_ _
      exact ⟨_, _, rfl, PP.here, (lt_of_heap hH0.2.ac), (new_bl hH0.2.lg (Nat.le_refl _)), MM⟩
  case imp =>
    intro ex a W hq
    have hq2 := then_normal hq
    obtain ⟨rfl, kb, tb, rfl, hz, htl, hbl, M3⟩ := hq2
    clear hq
    have TB := Lib.hid M3.b
    clear hz htl hbl M3 HL HO
    go_wp2_with fail
    go_ret
    exact ⟨rfl, TB.out⟩

set_option maxHeartbeats 8000000 in
theorem May_kind (B g mb bad : Nat) (sl : Value) (rows : List Rw) (kind : Nat) (c e s org : Int) (yes : Bool) (orgs : Nat) (ko kg ky : Bool) (F : Nat) (f1 f2 : Value) (mB cn : Bool) (w : World) (h : Lg w B g mb sl bad rows) (hlen : rows.length ≤ 100000)
    (hf1 : f1 = .func (.func F) #[] #[]) (hf2 : f2.oneCell' = true) (hbad : bad < 256)
    (hl : ∀ (W : World) (kb : Nat), KindsAt W kb → (Instr.lookup 59 (.map (some kb)) (.int .u8 (kind : Int)) true).run Try.prog W = .ok (.tuple #[.agg #[.bool ko, .bool kg, .bool ky, f1, f2], .bool true]) W)
    (hmb : ∀ W : World, W.cell? ⟨g, 0, none⟩ = some (.int .u8 (bad : Int)) → Calls Try.prog 26 #[.pointer (some ⟨g, 0, none⟩), .agg #[.int .u8 (kind : Int), .int .i64 c, .int .i64 e, .int .i64 s, .int .i64 org, .bool yes, .int .u8 (orgs : Int)], .agg #[.bool ko, .bool kg, .bool ky, f1, f2]] W fun r w' => r = .returned (.bool mB) ∧ Below W.heap.size W w')
    (hcf : ∀ args (W : World), (callFunc F args).run Try.prog W = .ok (.enter F args) W)
    (hcan : mB = true → ∀ (W : World) (b : Nat), RwAt W b 0 (rowOf rows ⟨c, e, s⟩) → W.cell? ⟨g, 0, none⟩ = some (.int .u8 (bad : Int)) → Calls Try.prog F #[.pointer (some ⟨g, 0, none⟩), .pointer (some ⟨b, 0, none⟩), .agg #[.int .u8 (kind : Int), .int .i64 c, .int .i64 e, .int .i64 s, .int .i64 org, .bool yes, .int .u8 (orgs : Int)]] W fun r w' => r = .returned (.bool cn) ∧ Below W.heap.size W w')
    : Calls Try.prog 20 #[.pointer (some ⟨g, 0, none⟩), .agg #[.int .u8 (kind : Int), .int .i64 c, .int .i64 e, .int .i64 s, .int .i64 org, .bool yes, .int .u8 (orgs : Int)]] w fun r w' => r = .returned (.int .i64 ((if mB = false then 2 else if cn = false then 290 else 0 : Nat) : Int)) ∧ Below w.heap.size w w' := by
  have M1 := Lib.hid (Mym.mk (acs := #[.int .u8 (kind : Int), .int .i64 c, .int .i64 e, .int .i64 s, .int .i64 org, .bool yes, .int .u8 (orgs : Int)]) (h.bel ((Below.refl _ w).alloc (Nat.le_refl _) _)) (heap_alloc_new w (.cells #[.int .u8 (kind : Int), .int .i64 c, .int .i64 e, .int .i64 s, .int .i64 org, .bool yes, .int .u8 (orgs : Int)] 35 (0, 0))) ((Below.refl _ w).alloc (Nat.le_refl _) _))
  have HL := Lib.hid hl
  have HM := Lib.hid hmb
  have HF := Lib.hid hcf
  have HN := Lib.hid hcan
  have HO : Hid ((#[.bool ko, .bool kg, .bool ky, f1, f2] : Array Value).all (·.oneCell') = true) := by show _ = _; rw [hf1]; simp [hf2]; simp [Value.oneCell']
  have H1 := Lib.hid hf1
  clear hl hmb hcf hcan hf1 hf2
  clear h
  go_enter Try.func20, Try.ntmps20
  go_upto_region 3 with (fail)
  generalize w.alloc (.cells #[.int .u8 (kind : Int), .int .i64 c, .int .i64 e, .int .i64 s, .int .i64 org, .bool yes, .int .u8 (orgs : Int)] 35 (0, 0)) = w1 at M1 ⊢
  refine Code.wp_mono (Q := Exit.then (fun a W => ∃ kb tb : Nat, a = { tmps := #[(.pointer (some ⟨g, 0, none⟩)), (.agg #[.int .u8 (kind : Int), .int .i64 c, .int .i64 e, .int .i64 s, .int .i64 org, .bool yes, .int .u8 (orgs : Int)]), undef, (.pointer (some ⟨w.heap.size, 0, none⟩)), (.int .i64 0), (.pointer (some ⟨tb, 0, none⟩)), (.bool true), undef, (.pointer (some ⟨g, 0, none⟩)), (.bool false), (.tuple #[.agg #[.bool ko, .bool kg, .bool ky, f1, f2], .bool true]), (.map (some kb)), (.pointer (some ⟨w.heap.size, 0, none⟩)), (.int .u8 (kind : Int)), (.tuple #[.agg #[.bool ko, .bool kg, .bool ky, f1, f2], .bool true]), (.agg #[.bool ko, .bool kg, .bool ky, f1, f2]), (.bool true), undef, undef, undef, undef, undef, undef, undef, undef, undef, undef, undef, undef, undef, undef, undef, undef, undef, undef, undef], defers := [] } ∧ W.heap[tb]? = some (.cells #[.bool ko, .bool kg, .bool ky, f1, f2] 58 (0, 0)) ∧ w.heap.size < tb ∧ ¬ Bl g mb sl tb ∧ Mym w B g mb sl bad rows #[.int .u8 (kind : Int), .int .i64 c, .int .i64 e, .int .i64 s, .int .i64 org, .bool yes, .int .u8 (orgs : Int)] W) (fun _ _ _ => False)) ?imp ?reg
  case reg =>
    refine wp_region_held_drew (S := (fun W => W.cell? ⟨w.heap.size, 0, none⟩ = some (.int .u8 (kind : Int)) ∧ Mym w B g mb sl bad rows #[.int .u8 (kind : Int), .int .i64 c, .int .i64 e, .int .i64 s, .int .i64 org, .bool yes, .int .u8 (orgs : Int)] W)) (by kernel_rfl) ⟨cell_of_row _ _ 0 _ _ (0, 0) M1.out.draw.ac, M1.out.draw⟩ (fun hH0 => ?_)
    refine wpAnyH_take (i := 1) (v := .pointer (some ⟨w.heap.size, 0, none⟩)) rfl (by kernel_rfl) (by kernel_rfl) (by kernel_rfl) (fun _ _ _ h => h) (Or.inl ⟨by rfl, ?_⟩) (by assumption) ?_
    · intro w hSw; go_simp
    try simp only [List.getElem_toArray, List.getElem_cons_succ, List.getElem_cons_zero, Act.put, List.setIfInBounds_toArray, List.set_cons_zero, List.set_cons_succ]
    refine wpAnyH_take (i := 2) (v := .int .u8 (kind : Int)) rfl (by kernel_rfl) (by kernel_rfl) (by kernel_rfl) (fun _ _ _ h => h) (Or.inl ⟨by rfl, ?_⟩) (by assumption) ?_
    · intro w hSw; go_simp
    try simp only [List.getElem_toArray, List.getElem_cons_succ, List.getElem_cons_zero, Act.put, List.setIfInBounds_toArray, List.set_cons_zero, List.set_cons_succ]
    refine wpAnyH_ready (rs := [0, 7]) (by kernel_rfl) (by simp) (AllReadyH.cons rfl (fun K hK => ?_) (AllReadyH.cons rfl (fun K hK => ?_) AllReadyH.nil))
    · go_simp
      refine (kinds_any _).mono ?_
      rintro r W2 ⟨rfl, hk, hb, -⟩
      have hk : KindsAt W2 (w1.heap.size) := by simpa using hk
      refine hK.out _ _ ⟨cell_of_row _ _ 0 _ _ (0, 0) (hH0.2.bel hb).ac, hH0.2.bel hb⟩ (fun hH1 => ?_)
      clear hK K
      try simp only [List.getElem_toArray, List.getElem_cons_succ, List.getElem_cons_zero, Act.put, List.setIfInBounds_toArray, List.set_cons_zero, List.set_cons_succ]
      refine wpAnyH_ready (rs := [3, 7]) (by kernel_rfl) (by simp) (AllReadyH.cons rfl (fun K hK => ?_) (AllReadyH.cons rfl (fun K hK => ?_) AllReadyH.nil))
      · have hl := HL.out _ _ hk
        go_simp
        refine hK.out _ _ hH1 (fun hH1l => ?_)
        clear hK K
        try simp only [List.getElem_toArray, List.getElem_cons_succ, List.getElem_cons_zero, Act.put, List.setIfInBounds_toArray, List.set_cons_zero, List.set_cons_succ]
        clear hl
        refine wpAnyH_take (i := 4) (v := (.tuple #[.agg #[.bool ko, .bool kg, .bool ky, f1, f2], .bool true])) rfl (by kernel_rfl) (by kernel_rfl) (by kernel_rfl) (fun _ _ _ h => h) (Or.inl ⟨by rfl, ?_⟩) (by assumption) ?_
        · intro w hSw; go_simp
        try simp only [List.getElem_toArray, List.getElem_cons_succ, List.getElem_cons_zero, Act.put, List.setIfInBounds_toArray, List.set_cons_zero, List.set_cons_succ]
        refine wpAnyH_take (i := 5) (v := .agg #[.bool ko, .bool kg, .bool ky, f1, f2]) rfl (by kernel_rfl) (by kernel_rfl) (by kernel_rfl) (fun _ _ _ h => h) (Or.inl ⟨by rfl, ?_⟩) (by assumption) ?_
        · intro w hSw; go_simp
        try simp only [List.getElem_toArray, List.getElem_cons_succ, List.getElem_cons_zero, Act.put, List.setIfInBounds_toArray, List.set_cons_zero, List.set_cons_succ]
        refine wpAnyH_take (i := 6) (v := .bool true) rfl (by kernel_rfl) (by kernel_rfl) (by kernel_rfl) (fun _ _ _ h => h) (Or.inl ⟨by rfl, ?_⟩) (by assumption) ?_
        · intro w hSw; go_simp
        try simp only [List.getElem_toArray, List.getElem_cons_succ, List.getElem_cons_zero, Act.put, List.setIfInBounds_toArray, List.set_cons_zero, List.set_cons_succ]
        refine wpAnyH_ready (rs := [7]) (by kernel_rfl) (by simp) (AllReadyH.cons rfl (fun K hK => ?_) AllReadyH.nil)
        go_simp
        refine hK.out _ _ ⟨cell_of_row _ _ 0 _ _ (0, 0) (hH1.2.alloc _).ac, hH1.2.alloc _⟩ (fun hH2 => ?_)
        clear hK K
        try simp only [List.getElem_toArray, List.getElem_cons_succ, List.getElem_cons_zero, Act.put, List.setIfInBounds_toArray, List.set_cons_zero, List.set_cons_succ]
        refine wpAnyH_ready (rs := [8]) (by kernel_rfl) (by simp) (AllReadyH.cons rfl (fun K hK => ?_) AllReadyH.nil)
        rw [if_pos (by rfl)]
        refine wp_store_row _ _ _ rfl _ #[.bool ko, .bool kg, .bool ky, f1, f2] (by rfl) (by rfl) 58 _ (heap_alloc_new W2 (.cells #[.bool false, .bool false, .bool false, .nilFunc, .nilFunc] 58 (0, 0))) (size_kind _ _ _ _ _) (by rfl) HO.out ?_
        have PP := put_row _ _ _ #[.bool ko, .bool kg, .bool ky, f1, f2] 58 (heap_alloc_new W2 (.cells #[.bool false, .bool false, .bool false, .nilFunc, .nilFunc] 58 (0, 0))) (by rfl)
        have MM := (hH2).2.put PP (new_bl hH1.2.lg (Nat.le_refl _)) (lt_of_heap hH1.2.ac)
        refine hK.out _ _ ⟨cell_of_row _ _ 0 _ _ (0, 0) MM.ac, MM⟩ (fun hH3 => ?_)
        clear hK K
        try simp only [List.getElem_toArray, List.getElem_cons_succ, List.getElem_cons_zero, Act.put, List.setIfInBounds_toArray, List.set_cons_zero, List.set_cons_succ]
        refine wpAnyH_take (i := 9) (v := .bool true) rfl (by kernel_rfl) (by kernel_rfl) (by kernel_rfl) (fun _ _ _ h => h) (Or.inl ⟨by rfl, ?_⟩) (by assumption) ?_
        · intro w hSw; go_simp
        try simp only [List.getElem_toArray, List.getElem_cons_succ, List.getElem_cons_zero, Act.put, List.setIfInBounds_toArray, List.set_cons_zero, List.set_cons_succ]
        refine wpAnyH_done (by kernel_rfl) ?_ _
        exact ⟨_, _, rfl, PP.here, (lt_of_heap hH1.2.ac), (new_bl hH1.2.lg (Nat.le_refl _)), MM⟩
      · go_simp
        refine hK.out _ _ ⟨cell_of_row _ _ 0 _ _ (0, 0) (hH1.2.alloc _).ac, hH1.2.alloc _⟩ (fun hH2 => ?_)
        clear hK K
        try simp only [List.getElem_toArray, List.getElem_cons_succ, List.getElem_cons_zero, Act.put, List.setIfInBounds_toArray, List.set_cons_zero, List.set_cons_succ]
        refine wpAnyH_ready (rs := [3]) (by kernel_rfl) (by simp) (AllReadyH.cons rfl (fun K hK => ?_) AllReadyH.nil)
        have hl := HL.out _ _ (hk.bel ((Below.refl _ W2).alloc (Nat.le_refl _) (.cells #[.bool false, .bool false, .bool false, .nilFunc, .nilFunc] 58 (0, 0))))
        go_simp
        refine hK.out _ _ hH2 (fun hH2l => ?_)
        clear hK K
        try simp only [List.getElem_toArray, List.getElem_cons_succ, List.getElem_cons_zero, Act.put, List.setIfInBounds_toArray, List.set_cons_zero, List.set_cons_succ]
        clear hl
        refine wpAnyH_take (i := 4) (v := (.tuple #[.agg #[.bool ko, .bool kg, .bool ky, f1, f2], .bool true])) rfl (by kernel_rfl) (by kernel_rfl) (by kernel_rfl) (fun _ _ _ h => h) (Or.inl ⟨by rfl, ?_⟩) (by assumption) ?_
        · intro w hSw; go_simp
        try simp only [List.getElem_toArray, List.getElem_cons_succ, List.getElem_cons_zero, Act.put, List.setIfInBounds_toArray, List.set_cons_zero, List.set_cons_succ]
        refine wpAnyH_take (i := 5) (v := .agg #[.bool ko, .bool kg, .bool ky, f1, f2]) rfl (by kernel_rfl) (by kernel_rfl) (by kernel_rfl) (fun _ _ _ h => h) (Or.inl ⟨by rfl, ?_⟩) (by assumption) ?_
        · intro w hSw; go_simp
        try simp only [List.getElem_toArray, List.getElem_cons_succ, List.getElem_cons_zero, Act.put, List.setIfInBounds_toArray, List.set_cons_zero, List.set_cons_succ]
        refine wpAnyH_take (i := 6) (v := .bool true) rfl (by kernel_rfl) (by kernel_rfl) (by kernel_rfl) (fun _ _ _ h => h) (Or.inl ⟨by rfl, ?_⟩) (by assumption) ?_
        · intro w hSw; go_simp
        try simp only [List.getElem_toArray, List.getElem_cons_succ, List.getElem_cons_zero, Act.put, List.setIfInBounds_toArray, List.set_cons_zero, List.set_cons_succ]
        refine wpAnyH_ready (rs := [8]) (by kernel_rfl) (by simp) (AllReadyH.cons rfl (fun K hK => ?_) AllReadyH.nil)
        rw [if_pos (by rfl)]
        refine wp_store_row _ _ _ rfl _ #[.bool ko, .bool kg, .bool ky, f1, f2] (by rfl) (by rfl) 58 _ (heap_alloc_new W2 (.cells #[.bool false, .bool false, .bool false, .nilFunc, .nilFunc] 58 (0, 0))) (size_kind _ _ _ _ _) (by rfl) HO.out ?_
        have PP := put_row _ _ _ #[.bool ko, .bool kg, .bool ky, f1, f2] 58 (heap_alloc_new W2 (.cells #[.bool false, .bool false, .bool false, .nilFunc, .nilFunc] 58 (0, 0))) (by rfl)
        have MM := (hH2).2.put PP (new_bl hH1.2.lg (Nat.le_refl _)) (lt_of_heap hH1.2.ac)
        refine hK.out _ _ ⟨cell_of_row _ _ 0 _ _ (0, 0) MM.ac, MM⟩ (fun hH3 => ?_)
        clear hK K
        try simp only [List.getElem_toArray, List.getElem_cons_succ, List.getElem_cons_zero, Act.put, List.setIfInBounds_toArray, List.set_cons_zero, List.set_cons_succ]
        refine wpAnyH_take (i := 9) (v := .bool true) rfl (by kernel_rfl) (by kernel_rfl) (by kernel_rfl) (fun _ _ _ h => h) (Or.inl ⟨by rfl, ?_⟩) (by assumption) ?_
        · intro w hSw; go_simp
        try simp only [List.getElem_toArray, List.getElem_cons_succ, List.getElem_cons_zero, Act.put, List.setIfInBounds_toArray, List.set_cons_zero, List.set_cons_succ]
        refine wpAnyH_done (by kernel_rfl) ?_ _
        exact ⟨_, _, rfl, PP.here, (lt_of_heap hH1.2.ac), (new_bl hH1.2.lg (Nat.le_refl _)), MM⟩
    · go_simp
      refine hK.out _ _ ⟨cell_of_row _ _ 0 _ _ (0, 0) (hH0.2.alloc _).ac, hH0.2.alloc _⟩ (fun hH1 => ?_)
      clear hK K
      try simp only [List.getElem_toArray, List.getElem_cons_succ, List.getElem_cons_zero, Act.put, List.setIfInBounds_toArray, List.set_cons_zero, List.set_cons_succ]
      refine wpAnyH_ready (rs := [0]) (by kernel_rfl) (by simp) (AllReadyH.cons rfl (fun K hK => ?_) AllReadyH.nil)
      go_simp
      refine (kinds_any _).mono ?_
      rintro r W2 ⟨rfl, hk, hb, -⟩
      have hk : KindsAt W2 (w1.heap.size + 1) := by simpa using hk
      refine hK.out _ _ ⟨cell_of_row _ _ 0 _ _ (0, 0) (hH1.2.bel hb).ac, hH1.2.bel hb⟩ (fun hH2 => ?_)
      clear hK K
      try simp only [List.getElem_toArray, List.getElem_cons_succ, List.getElem_cons_zero, Act.put, List.setIfInBounds_toArray, List.set_cons_zero, List.set_cons_succ]
      refine wpAnyH_ready (rs := [3]) (by kernel_rfl) (by simp) (AllReadyH.cons rfl (fun K hK => ?_) AllReadyH.nil)
      have hl := HL.out _ _ hk
      go_simp
      refine hK.out _ _ hH2 (fun hH2l => ?_)
      clear hK K
      try simp only [List.getElem_toArray, List.getElem_cons_succ, List.getElem_cons_zero, Act.put, List.setIfInBounds_toArray, List.set_cons_zero, List.set_cons_succ]
      clear hl
      refine wpAnyH_take (i := 4) (v := (.tuple #[.agg #[.bool ko, .bool kg, .bool ky, f1, f2], .bool true])) rfl (by kernel_rfl) (by kernel_rfl) (by kernel_rfl) (fun _ _ _ h => h) (Or.inl ⟨by rfl, ?_⟩) (by assumption) ?_
      · intro w hSw; go_simp
      try simp only [List.getElem_toArray, List.getElem_cons_succ, List.getElem_cons_zero, Act.put, List.setIfInBounds_toArray, List.set_cons_zero, List.set_cons_succ]
      refine wpAnyH_take (i := 5) (v := .agg #[.bool ko, .bool kg, .bool ky, f1, f2]) rfl (by kernel_rfl) (by kernel_rfl) (by kernel_rfl) (fun _ _ _ h => h) (Or.inl ⟨by rfl, ?_⟩) (by assumption) ?_
      · intro w hSw; go_simp
      try simp only [List.getElem_toArray, List.getElem_cons_succ, List.getElem_cons_zero, Act.put, List.setIfInBounds_toArray, List.set_cons_zero, List.set_cons_succ]
      refine wpAnyH_take (i := 6) (v := .bool true) rfl (by kernel_rfl) (by kernel_rfl) (by kernel_rfl) (fun _ _ _ h => h) (Or.inl ⟨by rfl, ?_⟩) (by assumption) ?_
      · intro w hSw; go_simp
      try simp only [List.getElem_toArray, List.getElem_cons_succ, List.getElem_cons_zero, Act.put, List.setIfInBounds_toArray, List.set_cons_zero, List.set_cons_succ]
      have hz := (hb.block _ (by simp)).trans (heap_alloc_new w1.drew (.cells #[.bool false, .bool false, .bool false, .nilFunc, .nilFunc] 58 (0, 0)))
      refine wpAnyH_ready (rs := [8]) (by kernel_rfl) (by simp) (AllReadyH.cons rfl (fun K hK => ?_) AllReadyH.nil)
      rw [if_pos (by rfl)]
      refine wp_store_row _ _ _ rfl _ #[.bool ko, .bool kg, .bool ky, f1, f2] (by rfl) (by rfl) 58 _ hz (size_kind _ _ _ _ _) (by rfl) HO.out ?_
      have PP := put_row _ _ _ #[.bool ko, .bool kg, .bool ky, f1, f2] 58 hz (by rfl)
      have MM := (hH2).2.put PP (new_bl hH0.2.lg (Nat.le_refl _)) (lt_of_heap hH0.2.ac)
      refine hK.out _ _ ⟨cell_of_row _ _ 0 _ _ (0, 0) MM.ac, MM⟩ (fun hH3 => ?_)
      clear hK K
      try simp only [List.getElem_toArray, List.getElem_cons_succ, List.getElem_cons_zero, Act.put, List.setIfInBounds_toArray, List.set_cons_zero, List.set_cons_succ]
      refine wpAnyH_take (i := 9) (v := .bool true) rfl (by kernel_rfl) (by kernel_rfl) (by kernel_rfl) (fun _ _ _ h => h) (Or.inl ⟨by rfl, ?_⟩) (by assumption) ?_
      · intro w hSw; go_simp
      try simp only [List.getElem_toArray, List.getElem_cons_succ, List.getElem_cons_zero, Act.put, List.setIfInBounds_toArray, List.set_cons_zero, List.set_cons_succ]
      refine wpAnyH_done (by kernel_rfl) ?_ _
      exact ⟨_, _, rfl, PP.here, (lt_of_heap hH0.2.ac), (new_bl hH0.2.lg (Nat.le_refl _)), MM⟩
  case imp =>
    intro ex a W hq
    have hq2 := then_normal hq
    obtain ⟨rfl, kb, tb, rfl, hz, htl, hbl, M3⟩ := hq2
    clear hq
    have hsz : tb < W.heap.size := lt_of_heap hz
    have t0 := cell_of_row _ _ 0 _ _ (0, 0) M3.lg.top
    have q0 := cell_of_row _ _ 0 _ _ (0, 0) M3.ac
    have q1 := cell_of_row _ _ 1 _ _ (0, 0) M3.ac
    have q2 := cell_of_row _ _ 2 _ _ (0, 0) M3.ac
    have q3 := cell_of_row _ _ 3 _ _ (0, 0) M3.ac
    have q4 := cell_of_row _ _ 4 _ _ (0, 0) M3.ac
    have q5 := cell_of_row _ _ 5 _ _ (0, 0) M3.ac
    have q6 := cell_of_row _ _ 6 _ _ (0, 0) M3.ac
    have k0 := cell_of_row _ _ 0 _ _ (0, 0) hz
    have k1 := cell_of_row _ _ 1 _ _ (0, 0) hz
    have k2 := cell_of_row _ _ 2 _ _ (0, 0) hz
    have k3 := cell_of_row _ _ 3 _ _ (0, 0) hz
    have k4 := cell_of_row _ _ 4 _ _ (0, 0) hz
    simp only [List.getElem?_toArray, List.getElem?_cons_zero, List.getElem?_cons_succ] at t0 q0 q1 q2 q3 q4 q5 q6 k0 k1 k2 k3 k4
    have HRow : Hid (∀ W : World, Lg W B g mb sl bad rows → Calls Try.prog 27 #[.pointer (some ⟨g, 0, none⟩), .agg #[.int .i64 c, .int .i64 e, .int .i64 s]] W fun r w' => r = .returned (.agg (rowOf rows ⟨c, e, s⟩).cells.toArray) ∧ Below W.heap.size W w') := fun W hL => row_any hL ⟨c, e, s⟩ hlen
    generalize rowOf rows ⟨c, e, s⟩ = rw0 at HRow HN
    have HM3 := Lib.hid M3
    have HZ := Lib.hid hz
    have HT := Lib.hid htl
    have HB := Lib.hid hbl
    clear M3 hz htl hbl HL HO
    cases mB
    · go_wp2_with (go_at_call 26; refine (HM.out _ t0).mono ?_; rintro r W4 ⟨rfl, hb4⟩; have TB := Lib.hid (HM3.out.bel hb4).b; clear hb4)
      go_ret
      exact ⟨rfl, TB.out⟩
    · go_upto_region 6 with (go_at_call 26; refine (HM.out _ t0).mono ?_; rintro r W4 ⟨rfl, hb4⟩; have M4 := Lib.hid (HM3.out.bel hb4); have Z4 := Lib.hid ((hb4.block _ hsz).trans HZ.out); clear hb4)
      clear t0 q0 q1 q2 q3 q4 q5 q6 k0 k1 k2 k3 k4 HM3 HZ HM
      have q1 := cell_of_row _ _ 1 _ _ (0, 0) M4.out.ac
      have q2 := cell_of_row _ _ 2 _ _ (0, 0) M4.out.ac
      have q3 := cell_of_row _ _ 3 _ _ (0, 0) M4.out.ac
      simp only [List.getElem?_toArray, List.getElem?_cons_zero, List.getElem?_cons_succ] at q1 q2 q3
      have hsz4 := lt_of_heap Z4.out
      go_upto_region 7 with (first
        | (go_at_call 27; refine (HRow.out _ M4.out.lg).mono ?_; rintro r W5 ⟨rfl, hb5⟩; have M5 := Lib.hid (M4.out.bel hb5); have Z5 := Lib.hid ((hb5.block _ hsz4).trans Z4.out); clear hb5)
        | (refine wpList_store_put rfl 43 _ _ rfl _ rw0.cells.toArray (by rfl) (by rfl) 43 _ (heap_alloc_new W5 (.cells zrow.toArray 43 (0, 0))) (size_rw _) (by rfl) (one_rw _) ?_; intro W6 P6))
      have M6 := Lib.hid ((M5.out.alloc (.cells zrow.toArray 43 (0, 0))).put P6 (new_bl M5.out.lg (Nat.le_refl _)) (lt_of_heap M5.out.ac))
      have Z6 := (P6.block tb (by have := lt_of_heap Z5.out; omega)).trans ((Below.heap_alloc W5 _ tb (lt_of_heap Z5.out)).trans Z5.out)
      have R6 := Lib.hid (rwAt_of P6.here)
      generalize W5.heap.size = rb at P6 R6 ⊢
      clear P6 M5 Z5 HRow q1 q2 q3 hsz4 M4 Z4
      have t0 := cell_of_row _ _ 0 _ _ (0, 0) M6.out.lg.top
      have q0 := cell_of_row _ _ 0 _ _ (0, 0) M6.out.ac
      have q1 := cell_of_row _ _ 1 _ _ (0, 0) M6.out.ac
      have q2 := cell_of_row _ _ 2 _ _ (0, 0) M6.out.ac
      have q3 := cell_of_row _ _ 3 _ _ (0, 0) M6.out.ac
      have q4 := cell_of_row _ _ 4 _ _ (0, 0) M6.out.ac
      have q5 := cell_of_row _ _ 5 _ _ (0, 0) M6.out.ac
      have q6 := cell_of_row _ _ 6 _ _ (0, 0) M6.out.ac
      have k3 := cell_of_row _ _ 3 _ _ (0, 0) Z6
      simp only [List.getElem?_toArray, List.getElem?_cons_zero, List.getElem?_cons_succ] at t0 q0 q1 q2 q3 q4 q5 q6 k3
      rw [H1.out] at k3 ⊢
      have hcf := HF.out
      clear HF Z6 H1
      have T0 := Lib.hid t0
      clear t0
      cases cn
      all_goals
        go_wp2_with (refine (HN.out trivial _ _ R6.out T0.out).mono ?_; rintro r W7 ⟨rfl, hb7⟩; have TB := Lib.hid (M6.out.bel hb7).b; clear hb7)
        go_ret
        exact ⟨rfl, TB.out⟩

end Go.Proofs.Ythdmjeoldnehcaa
