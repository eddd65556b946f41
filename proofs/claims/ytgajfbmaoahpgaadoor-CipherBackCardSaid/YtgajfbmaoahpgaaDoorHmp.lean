/- HMAC, plainly: of lists of bytes. No condition. -/
import Derived.Test.YtgajfbmaoahpgaaDoorShp
namespace Go.Proofs.YtgajfbmaoahpgaaDoor
set_option linter.unusedVariables false

def bx (x y : UInt8) : UInt8 := x ^^^ y
def xrs (l : List UInt8) (n : UInt8) : List UInt8 := l.map fun c => bx c n
def bk (k : List UInt8) : List UInt8 := k ++ List.replicate (64 - k.length) 0
def keyOf (key : List UInt8) : List UInt8 := if 64 < key.length then sum key else key
def hm (key s : List UInt8) : List UInt8 := sum (xrs (bk (keyOf key)) 92 ++ sum (xrs (bk (keyOf key)) 54 ++ s))
theorem xrs_len (l : List UInt8) (n : UInt8) : (xrs l n).length = l.length := by simp [xrs]
theorem keyOf_len (key : List UInt8) : (keyOf key).length ≤ 64 := by
  unfold keyOf
  split
  · rw [sum_len]; omega
  · omega
theorem bk_len (k : List UInt8) (h : k.length ≤ 64) : (bk k).length = 64 := by simp [bk]; omega
theorem hm_len (key s : List UInt8) : (hm key s).length = 32 := sum_len _

/-- The first k bytes turned. -/
def xk (l : List UInt8) (n : UInt8) (k : Nat) : List UInt8 := xrs (l.take k) n ++ l.drop k
theorem xk_zero (l : List UInt8) (n : UInt8) : xk l n 0 = l := by simp [xk, xrs]
theorem xk_all (l : List UInt8) (n : UInt8) (k : Nat) (h : l.length ≤ k) : xk l n k = xrs l n := by
  rw [xk, List.take_of_length_le h, List.drop_eq_nil_of_le h, List.append_nil]
theorem xk_len (l : List UInt8) (n : UInt8) (k : Nat) : (xk l n k).length = l.length := by simp [xk, xrs_len]; omega
theorem xk_at (l : List UInt8) (n : UInt8) (k : Nat) (h : k < l.length) : byt (xk l n k) k = byt l k := by
  have h1 : (xrs (l.take k) n).length = k := by rw [xrs_len, List.length_take]; omega
  unfold byt xk
  rw [List.getD_eq_getElem?_getD, List.getD_eq_getElem?_getD, List.getElem?_append_right (by omega), h1, List.getElem?_drop]
  simp
theorem xk_set (l : List UInt8) (n : UInt8) (k : Nat) (h : k < l.length) : (xk l n k).set k (bx (byt l k) n) = xk l n (k + 1) := by
  have h1 : (xrs (l.take k) n).length = k := by rw [xrs_len, List.length_take]; omega
  have hd : l.drop k = l[k] :: l.drop (k + 1) := List.drop_eq_getElem_cons h
  have hb : byt l k = l[k] := by unfold byt; simp [List.getD_eq_getElem?_getD, h]
  have ht : l.take (k + 1) = l.take k ++ [l[k]] := by rw [List.take_succ_eq_append_getElem h]
  unfold xk
  rw [List.set_append_right _ _ (by omega), h1, Nat.sub_self, hd, List.set_cons_zero, ht, hb]
  simp only [xrs, List.map_append, List.map_cons, List.map_nil, List.append_assoc, List.cons_append, List.nil_append]
end Go.Proofs.YtgajfbmaoahpgaaDoor
