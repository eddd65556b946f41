/- The walk's numbers of 32 bits and bytes, as words: what each operation of the walk makes of words. No condition. -/
import Derived.Test.YtnmkinihkgdkgaaDoorStr
import Derived.Test.YtnmkinihkgdkgaaDoorShp
import Derived.Laws.BitsAllLaws
namespace Go.Proofs.YtnmkinihkgdkgaaDoor
open Go.RowKit

abbrev wv (x : UInt32) : Value := .int .u32 (x.toNat : Int)
abbrev bv (x : UInt8) : Value := .int .u8 (x.toNat : Int)

theorem w_lt (x : UInt32) : x.toNat < 4294967296 := x.toNat_lt
theorem b_lt (x : UInt8) : x.toNat < 256 := x.toNat_lt

@[go_sem] theorem lift_xor (x y : UInt32) : bits .xor .u32 (x.toNat : Int) (y.toNat : Int) = ((xr x y).toNat : Int) := by
  rw [u32_xor_nat _ _ (w_lt x) (w_lt y)]; rfl
@[go_sem] theorem lift_and (x y : UInt32) : bits .and .u32 (x.toNat : Int) (y.toNat : Int) = ((an x y).toNat : Int) := by
  rw [u32_and_nat _ _ (w_lt x) (w_lt y)]; rfl
@[go_sem] theorem lift_or (x y : UInt32) : bits .or .u32 (x.toNat : Int) (y.toNat : Int) = ((oo x y).toNat : Int) := by
  rw [u32_or_nat _ _ (w_lt x) (w_lt y)]; rfl
@[go_sem] theorem lift_add (x y : UInt32) : IntKind.u32.wrap ((x.toNat : Int) + (y.toNat : Int)) = ((ad x y).toNat : Int) := by
  rw [IntKind.wrap_u32']
  have : (ad x y).toNat = (x.toNat + y.toNat) % 4294967296 := UInt32.toNat_add x y
  omega
theorem lift_shr (x : UInt32) (n : Nat) (h : n < 32) : (x.toNat : Int) / 2 ^ n = ((sr x n).toNat : Int) := by
  have : (sr x n).toNat = x.toNat / 2 ^ n := by
    unfold sr
    rw [UInt32.toNat_shiftRight, UInt32.toNat_ofNat', Nat.mod_eq_of_lt (by omega : n < 2 ^ 32), Nat.mod_eq_of_lt h, Nat.shiftRight_eq_div_pow]
  rw [this]; simp
theorem lift_shl (x : UInt32) (n : Nat) (h : n < 32) : IntKind.u32.wrap ((x.toNat : Int) * 2 ^ n) = ((sl x n).toNat : Int) := by
  have : (sl x n).toNat = x.toNat * 2 ^ n % 4294967296 := by
    unfold sl
    rw [UInt32.toNat_shiftLeft, UInt32.toNat_ofNat', Nat.mod_eq_of_lt (by omega : n < 2 ^ 32), Nat.mod_eq_of_lt h, Nat.shiftLeft_eq]
  rw [IntKind.wrap_u32', this]; simp
@[go_sem] theorem lift_shr3 (x : UInt32) : (x.toNat : Int) / 8 = ((sr x 3).toNat : Int) := lift_shr x 3 (by omega)
@[go_sem] theorem lift_shr10 (x : UInt32) : (x.toNat : Int) / 1024 = ((sr x 10).toNat : Int) := lift_shr x 10 (by omega)
@[go_sem] theorem lift_shr24 (x : UInt32) : (x.toNat : Int) / 16777216 = ((sr x 24).toNat : Int) := lift_shr x 24 (by omega)
@[go_sem] theorem lift_shr16 (x : UInt32) : (x.toNat : Int) / 65536 = ((sr x 16).toNat : Int) := lift_shr x 16 (by omega)
@[go_sem] theorem lift_shr8 (x : UInt32) : (x.toNat : Int) / 256 = ((sr x 8).toNat : Int) := lift_shr x 8 (by omega)
@[go_sem] theorem lift_shl24 (x : UInt32) : IntKind.u32.wrap ((x.toNat : Int) * 16777216) = ((sl x 24).toNat : Int) := lift_shl x 24 (by omega)
@[go_sem] theorem lift_shl16 (x : UInt32) : IntKind.u32.wrap ((x.toNat : Int) * 65536) = ((sl x 16).toNat : Int) := lift_shl x 16 (by omega)
@[go_sem] theorem lift_shl8 (x : UInt32) : IntKind.u32.wrap ((x.toNat : Int) * 256) = ((sl x 8).toNat : Int) := lift_shl x 8 (by omega)
/-- A byte as a word. -/
@[go_sem] theorem lift_byte (x : UInt8) : IntKind.u32.wrap (x.toNat : Int) = ((bw x).toNat : Int) := by
  rw [IntKind.wrap_u32']
  have : (bw x).toNat = x.toNat := UInt8.toNat_toUInt32 x
  have := b_lt x
  omega
/-- A word's lowest byte. -/
@[go_sem] theorem lift_lo (x : UInt32) : IntKind.u8.wrap (x.toNat : Int) = ((lo x).toNat : Int) := by
  rw [IntKind.wrap_u8']
  have : (lo x).toNat = x.toNat % 256 := UInt32.toNat_toUInt8 x
  omega
@[go_sem] theorem lift_mod2 (x y : UInt32) : ((x.toNat : Int) + (y.toNat : Int)) % 4294967296 = ((ad x y).toNat : Int) := by
  rw [← lift_add, IntKind.wrap_u32']
@[go_sem] theorem lift_mod3 (x y z : UInt32) : ((x.toNat : Int) + (y.toNat : Int) + (z.toNat : Int)) % 4294967296 = ((ad (ad x y) z).toNat : Int) := by
  rw [← lift_mod2, ← lift_mod2]; omega
@[go_sem] theorem lift_mod4 (x y z u : UInt32) : ((x.toNat : Int) + (y.toNat : Int) + (z.toNat : Int) + (u.toNat : Int)) % 4294967296 = ((ad (ad (ad x y) z) u).toNat : Int) := by
  rw [← lift_mod2, ← lift_mod3]; omega
@[go_sem] theorem lift_mod5 (x y z u v : UInt32) : ((x.toNat : Int) + (y.toNat : Int) + (z.toNat : Int) + (u.toNat : Int) + (v.toNat : Int)) % 4294967296 = ((ad (ad (ad (ad x y) z) u) v).toNat : Int) := by
  rw [← lift_mod2, ← lift_mod4]; omega
theorem nt_xor (x : UInt32) : (4294967295 : UInt32) ^^^ x = ~~~x := by
  apply UInt32.toBitVec_inj.1
  have h : (4294967295 : UInt32).toBitVec = BitVec.allOnes 32 := by decide
  rw [UInt32.toBitVec_xor, UInt32.toBitVec_not, h]
  exact BitVec.allOnes_xor
@[go_sem] theorem lift_not (x : UInt32) : bits .xor .u32 4294967295 (x.toNat : Int) = ((nt x).toNat : Int) := by
  have h := lift_xor 4294967295 x
  have e : ((4294967295 : UInt32).toNat : Int) = 4294967295 := by decide
  rw [e] at h
  rw [h]
  unfold xr nt
  rw [nt_xor]
@[go_sem] theorem lift_not' (x : UInt32) : bits .xor .u32 IntKind.u32.max (x.toNat : Int) = ((nt x).toNat : Int) := lift_not x
end Go.Proofs.YtnmkinihkgdkgaaDoor
