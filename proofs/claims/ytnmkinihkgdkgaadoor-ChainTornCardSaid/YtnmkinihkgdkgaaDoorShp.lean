/- Plain functions on words of 32 bits and on bytes: the sum of a text, block by block; what holds of them. No condition. -/
namespace Go.Proofs.YtnmkinihkgdkgaaDoor

/-! ### Words -/
def xr (x y : UInt32) : UInt32 := x ^^^ y
def an (x y : UInt32) : UInt32 := x &&& y
def oo (x y : UInt32) : UInt32 := x ||| y
def nt (x : UInt32) : UInt32 := ~~~x
def ad (x y : UInt32) : UInt32 := x + y
def sr (x : UInt32) (n : Nat) : UInt32 := x >>> UInt32.ofNat n
def sl (x : UInt32) (n : Nat) : UInt32 := x <<< UInt32.ofNat n
def rot (x : UInt32) (n : Nat) : UInt32 := oo (sr x n) (sl x (32 - n))
def bw (b : UInt8) : UInt32 := b.toUInt32
def lo (x : UInt32) : UInt8 := x.toUInt8

def g0 (x : UInt32) : UInt32 := xr (xr (rot x 7) (rot x 18)) (sr x 3)
def g1 (x : UInt32) : UInt32 := xr (xr (rot x 17) (rot x 19)) (sr x 10)
def e1 (x : UInt32) : UInt32 := xr (xr (rot x 6) (rot x 11)) (rot x 25)
def e0 (x : UInt32) : UInt32 := xr (xr (rot x 2) (rot x 13)) (rot x 22)
def ch (e f g : UInt32) : UInt32 := xr (an e f) (an (nt e) g)
def mj (a b c : UInt32) : UInt32 := xr (xr (an a b) (an a c)) (an b c)

theorem ad_comm (x y : UInt32) : ad x y = ad y x := UInt32.add_comm x y
theorem ad_assoc (x y z : UInt32) : ad (ad x y) z = ad x (ad y z) := UInt32.add_assoc x y z
theorem oo_comm (x y : UInt32) : oo x y = oo y x := UInt32.or_comm x y

theorem ch_eq (e f g : UInt32) : xr g (an e (xr f g)) = ch e f g := by
  unfold ch xr an nt
  apply UInt32.toBitVec_inj.1
  ext i hi
  simp only [UInt32.toBitVec_xor, UInt32.toBitVec_and, UInt32.toBitVec_not, BitVec.getElem_xor, BitVec.getElem_and, BitVec.getElem_not]
  cases e.toBitVec[i] <;> cases f.toBitVec[i] <;> cases g.toBitVec[i] <;> rfl
theorem mj_eq (a b c : UInt32) : oo (an a (oo b c)) (an b c) = mj a b c := by
  unfold mj xr an oo
  apply UInt32.toBitVec_inj.1
  ext i hi
  simp only [UInt32.toBitVec_xor, UInt32.toBitVec_and, UInt32.toBitVec_or, BitVec.getElem_xor, BitVec.getElem_and, BitVec.getElem_or]
  cases a.toBitVec[i] <;> cases b.toBitVec[i] <;> cases c.toBitVec[i] <;> rfl

/-- A byte, a word of a row. -/
def byt (b : List UInt8) (k : Nat) : UInt8 := b.getD k 0
def wat (l : List UInt32) (k : Nat) : UInt32 := l.getD k 0
theorem wat_set (l : List UInt32) (k m : Nat) (v : UInt32) (hk : k < l.length) : wat (l.set k v) m = if k = m then v else wat l m := by
  simp only [wat, List.getD_eq_getElem?_getD, List.getElem?_set, if_pos hk]
  split
  · rename_i e; subst e; rfl
  · rfl
theorem wat_getElem (l : List UInt32) (k : Nat) (h : k < l.length) : l[k] = wat l k := by simp [wat, List.getD_eq_getElem?_getD, List.getElem?_eq_getElem h]
theorem byt_getElem (l : List UInt8) (k : Nat) (h : k < l.length) : l[k] = byt l k := by simp [byt, List.getD_eq_getElem?_getD, List.getElem?_eq_getElem h]

/-! ### A block's words -/
def word4 (a b c d : UInt8) : UInt32 := oo (oo (oo (sl (bw a) 24) (sl (bw b) 16)) (sl (bw c) 8)) (bw d)
def wrd (b : List UInt8) (t : Nat) : UInt32 := word4 (byt b (4 * t)) (byt b (4 * t + 1)) (byt b (4 * t + 2)) (byt b (4 * t + 3))
def wext (l : List UInt32) : List UInt32 :=
  l ++ [ad (ad (ad (wat l (l.length - 16)) (g0 (wat l (l.length - 15)))) (wat l (l.length - 7))) (g1 (wat l (l.length - 2)))]
def wsq (b : List UInt8) : Nat → List UInt32
  | 0 => (List.range 16).map (wrd b)
  | n + 1 => wext (wsq b n)
def wds (b : List UInt8) : List UInt32 := wsq b 48

theorem wsq_len (b : List UInt8) : ∀ n, (wsq b n).length = 16 + n
  | 0 => by simp [wsq]
  | n + 1 => by simp [wsq, wext, wsq_len b n]; omega
theorem wsq_succ (b : List UInt8) (n m : Nat) (h : m < 16 + n) : wat (wsq b (n + 1)) m = wat (wsq b n) m := by
  have := wsq_len b n
  simp only [wat, wsq, wext, List.getD_eq_getElem?_getD]
  rw [List.getElem?_append_left (by omega)]
theorem wsq_add (b : List UInt8) (n m : Nat) (h : m < 16 + n) : ∀ k, wat (wsq b (n + k)) m = wat (wsq b n) m
  | 0 => rfl
  | k + 1 => by rw [← Nat.add_assoc, wsq_succ b (n + k) m (by omega), wsq_add b n m h k]
theorem wds_len (b : List UInt8) : (wds b).length = 64 := wsq_len b 48
theorem wds_low (b : List UInt8) (t : Nat) (h : t < 16) : wat (wds b) t = wrd b t := by
  have := wsq_add b 0 t (by omega) 48
  rw [Nat.zero_add] at this
  rw [wds, this]
  simp [wat, wsq, h]
theorem wds_high (b : List UInt8) (t : Nat) (h : 16 ≤ t) (h2 : t < 64) :
    wat (wds b) t = ad (ad (ad (wat (wds b) (t - 16)) (g0 (wat (wds b) (t - 15)))) (wat (wds b) (t - 7))) (g1 (wat (wds b) (t - 2))) := by
  have key : ∀ m, m < 16 + (t - 16) → wat (wds b) m = wat (wsq b (t - 16)) m := by
    intro m hm
    have := wsq_add b (t - 16) m hm (48 - (t - 16))
    rw [show t - 16 + (48 - (t - 16)) = 48 by omega] at this
    exact this
  rw [key (t - 16) (by omega), key (t - 15) (by omega), key (t - 7) (by omega), key (t - 2) (by omega)]
  have h3 := wsq_add b (t - 16 + 1) t (by omega) (48 - (t - 16 + 1))
  rw [show t - 16 + 1 + (48 - (t - 16 + 1)) = 48 by omega] at h3
  rw [wds, h3]
  have hl := wsq_len b (t - 16)
  simp only [wat, wsq, wext, List.getD_eq_getElem?_getD]
  rw [List.getElem?_append_right (by omega), hl, show t - (16 + (t - 16)) = 0 by omega, show 16 + (t - 16) = t by omega]
  rfl

theorem row_ext (l l' : List UInt32) (h : l.length = l'.length) (hm : ∀ m, m < l.length → wat l m = wat l' m) : l = l' := by
  apply List.ext_getElem h
  intro k h1 h2
  rw [wat_getElem l k h1, wat_getElem _ k h2]
  exact hm k h1
theorem wds_ext (l : List UInt32) (b : List UInt8) (h : l.length = 64) (hm : ∀ m, m < 64 → wat l m = wat (wds b) m) : l = wds b :=
  row_ext l _ (by rw [h, wds_len]) (fun m h2 => hm m (by omega))

/-! ### The state -/
structure St8 where
  a : UInt32
  b : UInt32
  c : UInt32
  d : UInt32
  e : UInt32
  f : UInt32
  g : UInt32
  h : UInt32

def St8.list (s : St8) : List UInt32 := [s.a, s.b, s.c, s.d, s.e, s.f, s.g, s.h]
def kws : List UInt32 := [
  1116352408, 1899447441, 3049323471, 3921009573, 961987163, 1508970993, 2453635748, 2870763221,
  3624381080, 310598401, 607225278, 1426881987, 1925078388, 2162078206, 2614888103, 3248222580,
  3835390401, 4022224774, 264347078, 604807628, 770255983, 1249150122, 1555081692, 1996064986,
  2554220882, 2821834349, 2952996808, 3210313671, 3336571891, 3584528711, 113926993, 338241895,
  666307205, 773529912, 1294757372, 1396182291, 1695183700, 1986661051, 2177026350, 2456956037,
  2730485921, 2820302411, 3259730800, 3345764771, 3516065817, 3600352804, 4094571909, 275423344,
  430227734, 506948616, 659060556, 883997877, 958139571, 1322822218, 1537002063, 1747873779,
  1955562222, 2024104815, 2227730452, 2361852424, 2428436474, 2756734187, 3204031479, 3329325298]
def init : St8 := ⟨1779033703, 3144134277, 1013904242, 2773480762, 1359893119, 2600822924, 528734635, 1541459225⟩
def t1 (s : St8) (k w : UInt32) : UInt32 := ad (ad (ad (ad s.h (e1 s.e)) (ch s.e s.f s.g)) k) w
def t2 (s : St8) : UInt32 := ad (e0 s.a) (mj s.a s.b s.c)
def rnd (s : St8) (k w : UInt32) : St8 := ⟨ad (t1 s k w) (t2 s), s.a, s.b, s.c, ad s.d (t1 s k w), s.e, s.f, s.g⟩
def rnds (b : List UInt8) (s : St8) : Nat → St8
  | 0 => s
  | n + 1 => rnd (rnds b s n) (wat kws n) (wat (wds b) n)
def add8 (x y : St8) : St8 := ⟨ad x.a y.a, ad x.b y.b, ad x.c y.c, ad x.d y.d, ad x.e y.e, ad x.f y.f, ad x.g y.g, ad x.h y.h⟩
def tk (s : St8) (b : List UInt8) : St8 := add8 (rnds b s 64) s
/-- The state behind the first n blocks of a text. -/
def hs (p : List UInt8) : Nat → St8
  | 0 => init
  | n + 1 => tk (hs p n) ((p.drop (64 * n)).take 64)
theorem hs_app (p q : List UInt8) : ∀ n, 64 * n ≤ p.length → hs (p ++ q) n = hs p n
  | 0, _ => rfl
  | n + 1, h => by
    simp only [hs]
    rw [hs_app p q n (by omega), List.drop_append_of_le_length (by omega), List.take_append_of_le_length (by rw [List.length_drop]; omega)]

/-! ### The sum -/
def be4 (x : UInt32) : List UInt8 := [lo (sr x 24), lo (sr x 16), lo (sr x 8), lo x]
def out (s : St8) : List UInt8 := be4 s.a ++ be4 s.b ++ be4 s.c ++ be4 s.d ++ be4 s.e ++ be4 s.f ++ be4 s.g ++ be4 s.h
def be8 (n : Nat) : List UInt8 := (List.range 8).map fun i => UInt8.ofNat (n / 2 ^ (8 * (7 - i)))
def padz (n : Nat) : Nat := (119 - n % 64) % 64
def padd (s : List UInt8) : List UInt8 := s ++ [128] ++ List.replicate (padz s.length) 0 ++ be8 (8 * s.length)
def sum (s : List UInt8) : List UInt8 := out (hs (padd s) ((padd s).length / 64))
theorem out_len (s : St8) : (out s).length = 32 := by simp [out, be4]
theorem sum_len (s : List UInt8) : (sum s).length = 32 := out_len _
theorem be8_len (n : Nat) : (be8 n).length = 8 := by simp [be8]
theorem padd_len (s : List UInt8) : (padd s).length = s.length + 1 + padz s.length + 8 ∧ (padd s).length % 64 = 0 := by
  have h : (padd s).length = s.length + 1 + padz s.length + 8 := by simp [padd, be8_len]; omega
  refine ⟨h, ?_⟩
  rw [h]; unfold padz; omega
theorem be8_byt (n k : Nat) (hk : k < 8) : byt (be8 n) k = UInt8.ofNat (n / 2 ^ (8 * (7 - k))) := by simp [byt, be8, hk]
theorem rnds_zero (b : List UInt8) (s : St8) : rnds b s 0 = s := rfl
theorem rnds_succ (b : List UInt8) (s : St8) (n : Nat) : rnds b s (n + 1) = rnd (rnds b s n) (wat kws n) (wat (wds b) n) := rfl
theorem tk_def (s : St8) (b : List UInt8) : tk s b = add8 (rnds b s 64) s := rfl
attribute [irreducible] wsq wds rnds tk hs padd be8 sum out kws init
end Go.Proofs.YtnmkinihkgdkgaaDoor
