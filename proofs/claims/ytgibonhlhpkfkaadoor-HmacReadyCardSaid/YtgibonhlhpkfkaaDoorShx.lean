/- The walk of the reference's Hex. Condition: sizes that a machine has. -/
import Derived.Test.YtgibonhlhpkfkaaDoorShs
namespace Go.Proofs.YtgibonhlhpkfkaaDoor
open Go.RowKit
set_option linter.unusedVariables false

def hexD : List UInt8 := [48, 49, 50, 51, 52, 53, 54, 55, 56, 57, 97, 98, 99, 100, 101, 102]
def hex2 (x : UInt8) : List UInt8 := [byt hexD (x.toNat / 16), byt hexD (x.toNat % 16)]
def hex (l : List UInt8) : List UInt8 := (l.map hex2).flatten
theorem hex_snoc (l : List UInt8) (i : Nat) (h : i < l.length) : hex (l.take (i + 1)) = hex (l.take i) ++ hex2 (byt l i) := by
  rw [List.take_succ_eq_append_getElem h, byt_getElem l i h]
  simp [hex]
theorem hex_len (l : List UInt8) : (hex l).length = 2 * l.length := by
  induction l with
  | nil => rfl
  | cons x r ih =>
    have : hex (x :: r) = hex2 x ++ hex r := by simp [hex]
    rw [this, List.length_append, ih]; simp [hex2]; omega
theorem run_index_strk (q : IntKind) (l : List UInt8) (k : Nat) (z : Int) (hz : z = (k : Int)) (h : k < l.length) (W : World) :
    (Instr.index 9 (str l) (.int q z)).run Tryd.prog W = .ok (bv (byt l k)) W := by
  subst hz
  rw [run_index_string W 9 _ _ _ Tryd.underlying9, dif_pos ⟨by omega, by simpa [ByteArray.size] using h⟩]
  rw [← byt_getElem l k h]
  rfl

set_option maxRecDepth 100000 in
set_option maxHeartbeats 4000000 in
theorem Hex_any (s : List UInt8) (hs' : s.length ≤ 1099511627776) (w : World) :
    Calls Tryd.prog 12 #[str s] w fun e w' => e = .returned (str (hex s)) ∧ Below w.heap.size w w' := by
  go_enter Tryd.func12, Tryd.ntmps12
  go_wp2_with fail
  go_loopw [4, 5] (fun v i wr => ∃ i' : Nat, i' ≤ s.length ∧ i = .int .i64 (i' : Int) ∧ Hid (ByS wr w.heap.size v (hex (s.take i'))) ∧ Below w.heap.size w wr) (fun _ i _ => s.length - (intOf i).toNat)
  case atStart => exact ⟨0, by omega, rfl, ByS.nil _ _, Below.refl _ _⟩
  case round =>
    obtain ⟨i, hi, rfl, hT, hB⟩ := hrel
    by_cases hil : i < s.length
    · have HO := Lib.hid (hex_snoc s i hil)
      have HQ : Hid (Below w.heap.size w wr ∧ (hex (s.take i)).length ≤ 4398046511104) := ⟨hB, by rw [hex_len, List.length_take]; omega⟩
      have q0 := run_index_strk .i64 s i (i : Int) rfl hil
      generalize byt s i = x at HO q0
      have hx := b_lt x
      have q1 := run_index_strk .u8 hexD (x.toNat / 16) ((x.toNat : Int) / 16) (by omega) (by show _ < 16; omega)
      have q2 := run_index_strk .u8 hexD (x.toNat % 16) ((x.toNat : Int) % 16) (by omega) (by show _ < 16; omega)
      unfold hexD at q1 q2
      have t1 : (x.toNat : Int).tdiv 16 = (x.toNat : Int) / 16 := by rw [Int.tdiv_eq_ediv_of_nonneg (by omega)]
      have t2 : (x.toNat : Int).tmod 16 = (x.toNat : Int) % 16 := by rw [Int.tmod_eq_emod_of_nonneg (by omega)]
      have t3 : IntKind.u8.wrap ((x.toNat : Int) / 16) = (x.toNat : Int) / 16 := by rw [IntKind.wrap_u8']; omega
      have t4 : IntKind.u8.wrap ((x.toNat : Int) % 16) = (x.toNat : Int) % 16 := by rw [IntKind.wrap_u8']; omega
      clear hB
      go_wp2_with fail
      go_region_held3 (fun w' => True) (trivial)
        ((refine step_append_bys (by rfl) _ _ (by rfl) w.heap.size _ (hex (s.take i)) (by rfl) ((hT.out.alloc _).heap (by rfl)) (by have := HQ.out.1.size; simp; omega) ⟨wr.heap.size, 0, none⟩ 2 2 (hex2 x) (by rfl) rfl (new_bytes wr (hex2 x) (0, 0)) (by have := HQ.out.2; omega) ?_; intro v3 w3 hT3 hb3))
      all_goals
        rename_i hHeld
        have T3 := Lib.hid hT3
        have HF := Lib.hid (HQ.out.1.trans ((((Below.refl _ wr).alloc HQ.out.1.size _).trans ((Below.refl _ _).drew)).trans hb3))
        clear hT3 hb3 hHeld t1 t2 t3 t4 q0 q1 q2
        go_wp2_with fail
        go_roundw
        case rel => exact ⟨i + 1, by omega, by go_num, by rw [HO.out]; exact T3.out, HF.out⟩
        case measure => simp [intOf]; omega
    · obtain rfl : i = s.length := by omega
      have cv := conv_bys hT.out
      rw [List.take_length] at cv
      have HB := Lib.hid hB
      clear hB hT
      go_wp2_with fail
      go_ret
      exact ⟨rfl, HB.out⟩
end Go.Proofs.YtgibonhlhpkfkaaDoor
