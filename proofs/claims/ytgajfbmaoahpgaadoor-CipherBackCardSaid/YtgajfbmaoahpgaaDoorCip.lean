/- The stream and what is sealed, plainly. No condition. -/
import Derived.Test.YtgajfbmaoahpgaaDoorHmp
namespace Go.Proofs.YtgajfbmaoahpgaaDoor
set_option linter.unusedVariables false

def ctr (i : Nat) : List UInt8 := [0, 0, 0, UInt8.ofNat i]
theorem ctr_len (i : Nat) : (ctr i).length = 4 := rfl
def blkS (k nonce : List UInt8) (i : Nat) : List UInt8 := hm k (nonce ++ ctr i)
theorem blkS_len (k nonce : List UInt8) (i : Nat) : (blkS k nonce i).length = 32 := hm_len _ _
def stk (k nonce : List UInt8) (j : Nat) : UInt8 := byt (blkS k nonce (j / 32)) (j % 32)
theorem stk_at (k nonce : List UInt8) (i q : Nat) (h : q < 32) : stk k nonce (32 * i + q) = byt (blkS k nonce i) q := by
  unfold stk
  rw [show (32 * i + q) / 32 = i by omega, show (32 * i + q) % 32 = q by omega]
def xst (k nonce s : List UInt8) (m : Nat) : List UInt8 := (List.range m).map fun j => bx (byt s j) (stk k nonce j)
theorem xst_len (k nonce s : List UInt8) (m : Nat) : (xst k nonce s m).length = m := by simp [xst]
theorem xst_zero (k nonce s : List UInt8) : xst k nonce s 0 = [] := rfl
theorem xst_succ (k nonce s : List UInt8) (m : Nat) : xst k nonce s (m + 1) = xst k nonce s m ++ [bx (byt s m) (stk k nonce m)] := by simp [xst, List.range_succ]
theorem xst_at (k nonce s : List UInt8) (m j : Nat) (h : j < m) : byt (xst k nonce s m) j = bx (byt s j) (stk k nonce j) := by
  have e : byt (xst k nonce s m) j = (xst k nonce s m).getD j 0 := rfl
  rw [e, xst]
  simp [List.getD_eq_getElem?_getD, h]
end Go.Proofs.YtgajfbmaoahpgaaDoor
