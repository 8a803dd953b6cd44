/- FramesSpoilt: part 1 of its proof: Bits, Crc, More, Base. -/
import Derived.WalkKit
import Derived.WalkSpells
import Derived.Handy
import Derived.Lib.Hide
import Derived.Test.YtlinhcbjljcgbaaDoorRows
import Derived.Outline
import Derived.Laws.BytesArg
import Derived.Laws.BytesString
/- Numbers of 8 and 32 bits as the walk spells them: each bit operation on I8, I32 is the operation on bit vectors. -/
namespace Go.Proofs.YtlinhcbjljcgbaaDoor
open Go.RowKit

def I32 (x : BitVec 32) : Int := x.toNat
def I8 (x : BitVec 8) : Int := x.toNat
theorem ofInt_I32 (x : BitVec 32) : BitVec.ofInt 32 (I32 x) = x := by
  apply BitVec.eq_of_toNat_eq; simp [I32]
theorem ofInt_I8 (x : BitVec 8) : BitVec.ofInt 8 (I8 x) = x := by
  apply BitVec.eq_of_toNat_eq; simp [I8]
theorem wrap_I32 (x : BitVec 32) : IntKind.u32.wrap (x.toNat : Int) = I32 x := by
  rw [IntKind.wrap_u32]; have := x.isLt; unfold I32; omega
theorem wrap_I8 (x : BitVec 8) : IntKind.u8.wrap (x.toNat : Int) = I8 x := by
  rw [IntKind.wrap_u8]; have := x.isLt; unfold I8; omega
theorem bits32_xor (a b : BitVec 32) : bits .xor .u32 (I32 a) (I32 b) = I32 (a ^^^ b) := by
  have h : bits .xor .u32 (I32 a) (I32 b) = IntKind.u32.wrap ((BitVec.ofInt 32 (I32 a) ^^^ BitVec.ofInt 32 (I32 b)).toNat : Int) := rfl
  rw [h, ofInt_I32, ofInt_I32, wrap_I32]
theorem bits32_and (a b : BitVec 32) : bits .and .u32 (I32 a) (I32 b) = I32 (a &&& b) := by
  have h : bits .and .u32 (I32 a) (I32 b) = IntKind.u32.wrap ((BitVec.ofInt 32 (I32 a) &&& BitVec.ofInt 32 (I32 b)).toNat : Int) := rfl
  rw [h, ofInt_I32, ofInt_I32, wrap_I32]
theorem bits32_and15 (a : BitVec 32) : bits .and .u32 (I32 a) 15 = I32 (a &&& 15#32) := bits32_and a 15#32
theorem bits32_and1 (a : BitVec 32) : bits .and .u32 (I32 a) 1 = I32 (a &&& 1#32) := bits32_and a 1#32
theorem bits8_xor (a b : BitVec 8) : bits .xor .u8 (I8 a) (I8 b) = I8 (a ^^^ b) := by
  have h : bits .xor .u8 (I8 a) (I8 b) = IntKind.u8.wrap ((BitVec.ofInt 8 (I8 a) ^^^ BitVec.ofInt 8 (I8 b)).toNat : Int) := rfl
  rw [h, ofInt_I8, ofInt_I8, wrap_I8]
theorem bits32_not (a : BitVec 32) : bits .xor .u32 IntKind.u32.max (I32 a) = I32 (~~~ a) := by
  have h : IntKind.u32.max = I32 (BitVec.allOnes 32) := by decide +kernel
  rw [h, bits32_xor, BitVec.allOnes_xor]
theorem shr32 (a : BitVec 32) (yk : IntKind) (n : Nat) (hn : n ≤ 32) : Op.shift .shr .u32 (I32 a) yk n = pure (.int .u32 (I32 (a >>> n))) := by
  rw [shift_shr_any _ _ _ _ (by omega)]
  have e : I32 a / 2 ^ min ((n : Int).toNat) IntKind.u32.bits = I32 (a >>> n) := by
    have h2 : min ((n : Int).toNat) IntKind.u32.bits = n := by simp [IntKind.bits]; omega
    rw [h2]; unfold I32; simp [BitVec.toNat_ushiftRight, Nat.shiftRight_eq_div_pow]
  rw [e]
theorem shr8 (a : BitVec 8) (yk : IntKind) (n : Nat) (hn : n ≤ 8) : Op.shift .shr .u8 (I8 a) yk n = pure (.int .u8 (I8 (a >>> n))) := by
  rw [shift_shr_any _ _ _ _ (by omega)]
  have e : I8 a / 2 ^ min ((n : Int).toNat) IntKind.u8.bits = I8 (a >>> n) := by
    have h2 : min ((n : Int).toNat) IntKind.u8.bits = n := by simp [IntKind.bits]; omega
    rw [h2]; unfold I8; simp [BitVec.toNat_ushiftRight, Nat.shiftRight_eq_div_pow]
  rw [e]
theorem bits32_shr4 (a : BitVec 32) (yk : IntKind) : Op.shift .shr .u32 (I32 a) yk 4 = pure (.int .u32 (I32 (a >>> 4))) := shr32 a yk 4 (by decide)
theorem bits32_shr8 (a : BitVec 32) (yk : IntKind) : Op.shift .shr .u32 (I32 a) yk 8 = pure (.int .u32 (I32 (a >>> 8))) := shr32 a yk 8 (by decide)
theorem bits32_shr16 (a : BitVec 32) (yk : IntKind) : Op.shift .shr .u32 (I32 a) yk 16 = pure (.int .u32 (I32 (a >>> 16))) := shr32 a yk 16 (by decide)
theorem bits32_shr24 (a : BitVec 32) (yk : IntKind) : Op.shift .shr .u32 (I32 a) yk 24 = pure (.int .u32 (I32 (a >>> 24))) := shr32 a yk 24 (by decide)
theorem bits8_shr4 (a : BitVec 8) (yk : IntKind) : Op.shift .shr .u8 (I8 a) yk 4 = pure (.int .u8 (I8 (a >>> 4))) := shr8 a yk 4 (by decide)
theorem bits8_32 (a : BitVec 8) : (I8 a) % 4294967296 = I32 (a.setWidth 32) := by
  have := a.isLt; unfold I8 I32; rw [BitVec.toNat_setWidth]; omega
theorem bits32_8 (a : BitVec 32) : (I32 a) % 256 = I8 (a.setWidth 8) := by
  have := a.isLt; unfold I8 I32; rw [BitVec.toNat_setWidth]; omega
theorem I32_0 (a : BitVec 32) : 0 ≤ I32 a := by unfold I32; omega
theorem I32_lt (a : BitVec 32) : I32 a < 4294967296 := by have := a.isLt; unfold I32; omega
theorem I8_0 (a : BitVec 8) : 0 ≤ I8 a := by unfold I8; omega
theorem I8_lt (a : BitVec 8) : I8 a < 256 := by have := a.isLt; unfold I8; omega
theorem I32_15 (a : BitVec 32) : I32 (a &&& 15#32) < 16 := by
  have h : (a &&& 15#32).toNat ≤ 15 := by rw [BitVec.toNat_and]; exact Nat.and_le_right
  unfold I32; omega
theorem I32_inj {a b : BitVec 32} : I32 a = I32 b ↔ a = b := by
  unfold I32; constructor
  · intro h; exact BitVec.eq_of_toNat_eq (by omega)
  · rintro rfl; rfl
theorem I8_inj {a b : BitVec 8} : I8 a = I8 b ↔ a = b := by
  unfold I8; constructor
  · intro h; exact BitVec.eq_of_toNat_eq (by omega)
  · rintro rfl; rfl
theorem exists_I8 (n : Int) (h0 : 0 ≤ n) (h1 : n < 256) : ∃ b : BitVec 8, n = I8 b :=
  ⟨BitVec.ofNat 8 n.toNat, by unfold I8; simp; omega⟩
theorem exists_I32 (n : Int) (h0 : 0 ≤ n) (h1 : n < 4294967296) : ∃ b : BitVec 32, n = I32 b :=
  ⟨BitVec.ofNat 32 n.toNat, by unfold I32; simp; omega⟩
theorem I32_shr (a : BitVec 32) (k : Nat) : I32 a / 2 ^ k = I32 (a >>> k) := by
  unfold I32; simp [BitVec.toNat_ushiftRight, Nat.shiftRight_eq_div_pow]
theorem I8_shr (a : BitVec 8) (k : Nat) : I8 a / 2 ^ k = I8 (a >>> k) := by
  unfold I8; simp [BitVec.toNat_ushiftRight, Nat.shiftRight_eq_div_pow]
theorem I8_bit (s : Nat) : (2 : Int) ^ s % 256 = I8 (1#8 <<< s) := by
  unfold I8; simp [BitVec.toNat_shiftLeft, Nat.shiftLeft_eq]
theorem I32_d2 (a : BitVec 32) : I32 a / 2 = I32 (a >>> 1) := I32_shr a 1
theorem I32_d256 (a : BitVec 32) : I32 a / 256 = I32 (a >>> 8) := I32_shr a 8
theorem I32_d65536 (a : BitVec 32) : I32 a / 65536 = I32 (a >>> 16) := I32_shr a 16
theorem I32_d16777216 (a : BitVec 32) : I32 a / 16777216 = I32 (a >>> 24) := I32_shr a 24
theorem I32_t (a : BitVec 32) (k : Int) : (I32 a).tdiv k = I32 a / k := Int.tdiv_eq_ediv_of_nonneg (I32_0 a)
theorem I32_tm (a : BitVec 32) (k : Int) : (I32 a).tmod k = I32 a % k := Int.tmod_eq_emod_of_nonneg (I32_0 a)
theorem I32_m32 (a : BitVec 32) : I32 a % 4294967296 = I32 a := by have := a.isLt; unfold I32; omega
theorem I32_t2 (a : BitVec 32) : (I32 a).tdiv 2 = I32 (a >>> 1) := by rw [I32_t]; exact I32_d2 a
theorem I32_t256 (a : BitVec 32) : (I32 a).tdiv 256 = I32 (a >>> 8) := by rw [I32_t]; exact I32_d256 a
theorem I32_t65536 (a : BitVec 32) : (I32 a).tdiv 65536 = I32 (a >>> 16) := by rw [I32_t]; exact I32_d65536 a
theorem I32_t16777216 (a : BitVec 32) : (I32 a).tdiv 16777216 = I32 (a >>> 24) := by rw [I32_t]; exact I32_d16777216 a
theorem I32_m2 (a : BitVec 32) : I32 a % 2 = I32 (a &&& 1#32) := by
  unfold I32; rw [BitVec.toNat_and]; simp
theorem I8_m256 (a : BitVec 8) : I8 a % 256 = I8 a := by have := a.isLt; unfold I8; omega
theorem I32_not (a : BitVec 32) : 4294967295 - I32 a = I32 (~~~ a) := by
  have := a.isLt; unfold I32; rw [BitVec.toNat_not]; omega
theorem I32_one_ne (a b : BitVec 32) : (I32 (a &&& 1#32) != I32 (b &&& 1#32)) = (a.getLsbD 0 != b.getLsbD 0) := by
  have h : ∀ x : BitVec 32, x &&& 1#32 = if x.getLsbD 0 then 1#32 else 0#32 := by
    intro x
    apply BitVec.eq_of_getLsbD_eq; intro j hj
    rcases j with _ | j
    · cases h : x.getLsbD 0
      · rw [BitVec.getLsbD_and, h]; simp
      · rw [BitVec.getLsbD_and, h]; simp
    · cases h : x.getLsbD 0 <;> simp
  rw [h a, h b]
  cases a.getLsbD 0 <;> cases b.getLsbD 0 <;> decide +kernel
def B8 (b : BitVec 8) : Value := .int .u8 (I8 b)
def B32 (b : BitVec 32) : Value := .int .u32 (I32 b)

/-- The cells from an address on (if there is one at all) hold these values. -/
def Rd (w : World) (a : Option Addr) (xs : List Value) : Prop := ∀ i (h : i < xs.length), ∃ b o, a = some ⟨b, o, none⟩ ∧ w.cell? ⟨b, o + i, none⟩ = some xs[i]
end Go.Proofs.YtlinhcbjljcgbaaDoor

/- The sum is linear: what a few turned bits do to it. No program in sight. -/
namespace Go.Proofs.YtlinhcbjljcgbaaDoor

def tabL : List (BitVec 32) := [0#32, 498536548#32, 997073096#32, 651767980#32, 1994146192#32, 1802195444#32, 1303535960#32, 1342533948#32, 3988292384#32, 4027552580#32, 3604390888#32, 3412177804#32, 2607071920#32, 2262029012#32, 2685067896#32, 3183342108#32]
def tab (i : BitVec 32) : BitVec 32 := tabL.getD (i &&& 15#32).toNat 0
def nib (n x : BitVec 32) : BitVec 32 := (n >>> 4) ^^^ tab (n ^^^ x)
def stepB (n : BitVec 32) (c : BitVec 8) : BitVec 32 := nib (nib n (c.setWidth 32)) ((c >>> 4).setWidth 32)
def more (s : BitVec 32) (l : List (BitVec 8)) : BitVec 32 := ~~~ (l.foldl stepB (~~~ s))
def sumOf (l : List (BitVec 8)) : BitVec 32 := more 0#32 l
def four (n : BitVec 32) : List (BitVec 8) := [n.setWidth 8, (n >>> 8).setWidth 8, (n >>> 16).setWidth 8, (n >>> 24).setWidth 8]
def endsOf (zs : List (BitVec 8)) : Bool := decide (4 ≤ zs.length ∧ zs.drop (zs.length - 4) = four (sumOf (zs.take (zs.length - 4))))

/-- One bit's step. -/
def T (n : BitVec 32) : BitVec 32 := (n >>> 1) ^^^ (if n.getLsbD 0 then 3988292384#32 else 0#32)
def Ts : Nat → BitVec 32 → BitVec 32
  | 0, n => n
  | k + 1, n => Ts k (T n)
theorem Ts_add (j k : Nat) (n : BitVec 32) : Ts (j + k) n = Ts j (Ts k n) := by
  induction k generalizing n with
  | zero => rfl
  | succ k ih => rw [← Nat.add_assoc]; exact ih (T n)
theorem xor_swap (a b c d : BitVec 32) : (a ^^^ b) ^^^ (c ^^^ d) = (a ^^^ c) ^^^ (b ^^^ d) := by
  ext i; simp; cases a[i] <;> cases b[i] <;> cases c[i] <;> cases d[i] <;> rfl
theorem T_xor (a b : BitVec 32) : T (a ^^^ b) = T a ^^^ T b := by
  unfold T
  rw [BitVec.ushiftRight_xor_distrib, BitVec.getLsbD_xor, xor_swap]
  congr 1
  cases a.getLsbD 0 <;> cases b.getLsbD 0 <;> decide
theorem T_0 : T 0#32 = 0#32 := by decide
theorem T_inj0 {a : BitVec 32} (h : T a = 0#32) : a = 0#32 := by
  have h31 := congrArg (fun x => x.getLsbD 31) h
  unfold T at h31 h
  cases ha : a.getLsbD 0 with
  | true =>
    rw [ha] at h31
    simp only [BitVec.getLsbD_xor, BitVec.getLsbD_ushiftRight] at h31
    rw [BitVec.getLsbD_of_ge a (1 + 31) (by decide)] at h31
    exact absurd h31 (by decide)
  | false =>
    rw [ha] at h
    simp only [Bool.false_eq_true, if_false, BitVec.xor_zero] at h
    apply BitVec.eq_of_getLsbD_eq
    intro i hi
    rcases i with _ | i
    · rw [ha]; rfl
    · have := congrArg (fun x => x.getLsbD i) h
      simp only [BitVec.getLsbD_ushiftRight] at this
      rw [Nat.add_comm] at this
      rw [this]; simp
theorem Ts_xor : ∀ (k : Nat) (a b : BitVec 32), Ts k (a ^^^ b) = Ts k a ^^^ Ts k b
  | 0, _, _ => rfl
  | k + 1, a, b => by simp only [Ts]; rw [T_xor, Ts_xor k]
theorem Ts_0 : ∀ k : Nat, Ts k 0#32 = 0#32
  | 0 => rfl
  | k + 1 => by simp only [Ts]; rw [T_0, Ts_0 k]
theorem Ts_inj0 : ∀ (k : Nat) {a : BitVec 32}, Ts k a = 0#32 → a = 0#32
  | 0, _, h => h
  | k + 1, _, h => T_inj0 (Ts_inj0 k h)
theorem xor_eq_zero {a b : BitVec 32} : a ^^^ b = 0#32 ↔ a = b := by
  constructor
  · intro h
    have : (a ^^^ b) ^^^ b = 0#32 ^^^ b := by rw [h]
    rwa [BitVec.xor_assoc, BitVec.xor_self, BitVec.xor_zero, BitVec.zero_xor] at this
  · rintro rfl; exact BitVec.xor_self
theorem Ts_inj (k : Nat) {a b : BitVec 32} (h : Ts k a = Ts k b) : a = b := by
  apply xor_eq_zero.1
  apply Ts_inj0 k
  rw [Ts_xor, h]; exact BitVec.xor_self

/-- Where the low bits are clear the steps only shift. -/
theorem Ts_shift : ∀ (k : Nat) (z : BitVec 32), (∀ i, i < k → z.getLsbD i = false) → Ts k z = z >>> k
  | 0, z, _ => by simp [Ts]
  | k + 1, z, h => by
    have e : T z = z >>> 1 := by unfold T; rw [h 0 (by omega)]; simp
    simp only [Ts]
    rw [e, Ts_shift k]
    · rw [← BitVec.shiftRight_add, Nat.add_comm]
    · intro i hi
      rw [BitVec.getLsbD_ushiftRight]
      exact h _ (by omega)
theorem Ts_low (k : Nat) (m : BitVec 32) (mask : BitVec 32) (hm : ∀ i, i < k → mask.getLsbD i = true) (hm2 : (mask >>> k) = 0#32) : Ts k m = (m >>> k) ^^^ Ts k (m &&& mask) := by
  have e : m = (m ^^^ (m &&& mask)) ^^^ (m &&& mask) := by rw [BitVec.xor_assoc, BitVec.xor_self, BitVec.xor_zero]
  conv => lhs; rw [e]
  rw [Ts_xor, Ts_shift k (m ^^^ (m &&& mask))]
  · congr 1
    rw [BitVec.ushiftRight_xor_distrib, BitVec.ushiftRight_and_distrib, hm2]
    simp
  · intro i hi
    simp [hm i hi]
theorem tab_T (m : BitVec 32) : Ts 4 m = (m >>> 4) ^^^ tab m := by
  rw [Ts_low 4 m 15#32 (by decide) (by decide)]
  congr 1
  have h : ∀ j : Fin 16, Ts 4 (BitVec.ofNat 32 j.val) = tabL.getD j.val 0 := by decide +kernel
  have hlt : (m &&& 15#32).toNat < 16 := by
    have : (m &&& 15#32).toNat ≤ 15 := by rw [BitVec.toNat_and]; exact Nat.and_le_right
    omega
  have := h ⟨(m &&& 15#32).toNat, hlt⟩
  simp only [BitVec.ofNat_toNat, BitVec.setWidth_eq] at this
  exact this
theorem nib_T (n x : BitVec 32) : nib n x = Ts 4 (n ^^^ x) ^^^ (x >>> 4) := by
  rw [tab_T]; unfold nib
  rw [BitVec.ushiftRight_xor_distrib, BitVec.xor_assoc, BitVec.xor_assoc, BitVec.xor_comm (tab _), ← BitVec.xor_assoc (x >>> 4), BitVec.xor_self, BitVec.zero_xor]
theorem xor_cancel (a b : BitVec 32) : (a ^^^ b) ^^^ b = a := by rw [BitVec.xor_assoc, BitVec.xor_self, BitVec.xor_zero]
theorem stepB_T (n : BitVec 32) (c : BitVec 8) : stepB n c = Ts 8 (n ^^^ c.setWidth 32) := by
  unfold stepB
  have e : (c >>> 4).setWidth 32 = (c.setWidth 32) >>> 4 := by
    apply BitVec.eq_of_toNat_eq; simp
  have e0 : (c.setWidth 32) >>> 4 >>> 4 = 0#32 := by
    apply BitVec.eq_of_toNat_eq
    have := c.isLt
    simp [Nat.shiftRight_eq_div_pow]
    omega
  rw [e, nib_T, e0, BitVec.xor_zero, nib_T, xor_cancel]
  exact (Ts_add 4 4 _).symm
theorem foldl_xor : ∀ (l : List (BitVec 8)) (a b : BitVec 32), l.foldl stepB (a ^^^ b) = l.foldl stepB a ^^^ Ts (8 * l.length) b
  | [], _, _ => rfl
  | c :: l, a, b => by
    simp only [List.foldl_cons, List.length_cons]
    have e : stepB (a ^^^ b) c = stepB a c ^^^ Ts 8 b := by
      rw [stepB_T, stepB_T, ← Ts_xor]; congr 1
      rw [BitVec.xor_assoc, BitVec.xor_comm b, ← BitVec.xor_assoc]
    rw [e, foldl_xor l, ← Ts_add]; rfl
/-- What comes of four bytes more. -/
theorem stepB_low (n x : BitVec 32) : stepB n (x.setWidth 8) = Ts 8 (n ^^^ x) ^^^ (x >>> 8) := by
  rw [stepB_T, Ts_xor, Ts_xor]
  rw [BitVec.xor_assoc]; congr 1
  have e : (x.setWidth 8).setWidth 32 = x &&& 255#32 := by
    apply BitVec.eq_of_toNat_eq
    have := x.isLt
    simp [BitVec.toNat_and, BitVec.toNat_setWidth]
    rw [show 255 = 2 ^ 8 - 1 from rfl, Nat.and_two_pow_sub_one_eq_mod]
    omega
  rw [e, Ts_low 8 x 255#32 (by decide) (by decide), BitVec.xor_comm (x >>> 8), xor_cancel]
theorem foldl_four (r x : BitVec 32) : (four x).foldl stepB r = Ts 32 (r ^^^ x) := by
  simp only [four, List.foldl_cons, List.foldl_nil]
  have e2 : x >>> 16 = (x >>> 8) >>> 8 := by rw [← BitVec.shiftRight_add]
  have e3 : x >>> 24 = (x >>> 8) >>> 8 >>> 8 := by rw [← BitVec.shiftRight_add, ← BitVec.shiftRight_add]
  have e4 : x >>> 8 >>> 8 >>> 8 >>> 8 = 0#32 := by
    rw [← BitVec.shiftRight_add, ← BitVec.shiftRight_add, ← BitVec.shiftRight_add]
    apply BitVec.eq_of_toNat_eq
    have := x.isLt
    simp [Nat.shiftRight_eq_div_pow]; omega
  rw [e2, e3, stepB_low r x, stepB_low _ (x >>> 8), xor_cancel, stepB_low _ (x >>> 8 >>> 8), xor_cancel, stepB_low _ (x >>> 8 >>> 8 >>> 8), xor_cancel, e4, BitVec.xor_zero, ← Ts_add, ← Ts_add, ← Ts_add]
theorem four_inj {a b : BitVec 32} (h : four a = four b) : a = b := by
  have h1 := foldl_four 0#32 a
  rw [h, foldl_four] at h1
  have := Ts_inj 32 h1
  rw [BitVec.zero_xor, BitVec.zero_xor] at this
  exact this.symm
theorem four_surj (l : List (BitVec 8)) (h : l.length = 4) : ∃ x, l = four x := by
  match l, h with
  | [a, b, c, d], _ =>
    have ha := a.isLt
    have hb := b.isLt
    have hc := c.isLt
    have hd := d.isLt
    refine ⟨BitVec.ofNat 32 (a.toNat + 256 * b.toNat + 65536 * c.toNat + 16777216 * d.toNat), ?_⟩
    unfold four
    have e (k : Nat) (y : BitVec 8) (h : (a.toNat + 256 * b.toNat + 65536 * c.toNat + 16777216 * d.toNat) / 2 ^ k % 256 = y.toNat) : y = (BitVec.ofNat 32 (a.toNat + 256 * b.toNat + 65536 * c.toNat + 16777216 * d.toNat) >>> k).setWidth 8 := by
      apply BitVec.eq_of_toNat_eq
      rw [BitVec.toNat_setWidth, BitVec.toNat_ushiftRight, BitVec.toNat_ofNat, Nat.mod_eq_of_lt (a := a.toNat + 256 * b.toNat + 65536 * c.toNat + 16777216 * d.toNat) (by omega), Nat.shiftRight_eq_div_pow, ← h]
    have e0 := e 0 a (by omega)
    rw [BitVec.ushiftRight_zero] at e0
    rw [← e0, ← e 8 b (by omega), ← e 16 c (by omega), ← e 24 d (by omega)]
theorem xor_not (r : BitVec 32) : r ^^^ ~~~ r = ~~~ 0#32 := by
  rw [← BitVec.xor_allOnes, ← BitVec.xor_assoc, BitVec.xor_self]; decide
def reg (l : List (BitVec 8)) : BitVec 32 := l.foldl stepB (~~~ 0#32)
theorem ends_iff (zs : List (BitVec 8)) (h : 4 ≤ zs.length) : endsOf zs = true ↔ reg zs = Ts 32 (~~~ 0#32) := by
  unfold endsOf
  rw [decide_eq_true_iff]
  obtain ⟨x, hx⟩ := four_surj (zs.drop (zs.length - 4)) (by simp; omega)
  have e : reg zs = Ts 32 ((zs.take (zs.length - 4)).foldl stepB (~~~ 0#32) ^^^ x) := by
    unfold reg
    conv => lhs; rw [← List.take_append_drop (zs.length - 4) zs, List.foldl_append, hx]
    exact foldl_four _ _
  rw [e, hx]
  generalize hr : (zs.take (zs.length - 4)).foldl stepB (~~~ 0#32) = r
  have es : sumOf (zs.take (zs.length - 4)) = ~~~ r := by unfold sumOf more; rw [hr]
  rw [es]
  constructor
  · rintro ⟨_, h4⟩
    rw [four_inj h4, xor_not]
  · intro h4
    refine ⟨h, ?_⟩
    have h1 := Ts_inj 32 h4
    rw [← xor_not r] at h1
    have h2 : r ^^^ (r ^^^ x) = r ^^^ (r ^^^ ~~~ r) := by rw [h1]
    rw [← BitVec.xor_assoc, ← BitVec.xor_assoc, BitVec.xor_self, BitVec.zero_xor, BitVec.zero_xor] at h2
    rw [h2]
/-- One bit turned. -/
def flipAt (p : List (BitVec 8)) (k : Nat) : List (BitVec 8) := p.set (k / 8) (p.getD (k / 8) 0 ^^^ (1#8 <<< (k % 8)))
theorem one_shift (s N : Nat) (hs : s < 32) (hN : s ≤ N) : Ts N (1#32 <<< s) = Ts (N - s) 1#32 := by
  have e : N = (N - s) + s := by omega
  conv => lhs; rw [e, Ts_add]
  congr 1
  rw [Ts_shift]
  · apply BitVec.eq_of_getLsbD_eq
    intro i hi
    simp [BitVec.getLsbD_ushiftRight, BitVec.getLsbD_shiftLeft]
    rcases i with _ | i
    · simp [hs]
    · simp
  · intro i hi
    simp [BitVec.getLsbD_shiftLeft, hi]
theorem reg_flip (p : List (BitVec 8)) (k : Nat) (hk : k < 8 * p.length) : reg (flipAt p k) = reg p ^^^ Ts (8 * p.length - k) 1#32 := by
  have hj : k / 8 < p.length := by omega
  have e : p = p.take (k / 8) ++ p[k / 8] :: p.drop (k / 8 + 1) := by simp
  have e2 : flipAt p k = p.take (k / 8) ++ (p[k / 8] ^^^ (1#8 <<< (k % 8))) :: p.drop (k / 8 + 1) := by
    unfold flipAt
    rw [List.set_eq_take_append_cons_drop, if_pos hj, List.getD_eq_getElem?_getD, List.getElem?_eq_getElem hj]; rfl
  unfold reg
  rw [e2]
  conv => rhs; rw [e]
  simp only [List.foldl_append, List.foldl_cons]
  generalize (p.take (k / 8)).foldl stepB (~~~ 0#32) = r
  have hs : stepB r (p[k / 8] ^^^ (1#8 <<< (k % 8))) = stepB r p[k / 8] ^^^ Ts (8 - k % 8) 1#32 := by
    rw [stepB_T, stepB_T, BitVec.setWidth_xor, ← BitVec.xor_assoc, Ts_xor]
    congr 1
    rw [← one_shift (k % 8) 8 (by omega) (by omega)]
    congr 1
    apply BitVec.eq_of_getLsbD_eq
    intro i hi
    simp only [BitVec.getLsbD_setWidth, BitVec.getLsbD_shiftLeft, hi]
    by_cases h8 : i < 8
    · simp [h8]
    · simp [h8]; omega
  rw [hs, foldl_xor, ← Ts_add]
  congr 2
  simp
  omega
/-- Bits turned, one behind the other, as the mask says. -/
def flips (p : List (BitVec 8)) (bits : BitVec 32) (first : Nat) : Nat → List (BitVec 8)
  | 0 => p
  | i + 1 => if bits.getLsbD i then flipAt (flips p bits first i) (first + i) else flips p bits first i
theorem flips_length (p : List (BitVec 8)) (bits : BitVec 32) (first : Nat) : ∀ i, (flips p bits first i).length = p.length
  | 0 => rfl
  | i + 1 => by unfold flips; split <;> simp [flipAt, flips_length p bits first i]
theorem low_succ (bits : BitVec 32) (i : Nat) (hi : i < 32) : bits &&& (BitVec.ofNat 32 (2 ^ (i + 1) - 1)) = (bits &&& (BitVec.ofNat 32 (2 ^ i - 1))) ^^^ (if bits.getLsbD i then 1#32 <<< i else 0#32) := by
  apply BitVec.eq_of_getLsbD_eq
  intro j hj
  have e : ∀ n, (BitVec.ofNat 32 (2 ^ n - 1)).getLsbD j = decide (j < n) := by
    intro n; rw [BitVec.getLsbD_ofNat, Nat.testBit_two_pow_sub_one]; simp [hj]
  rw [BitVec.getLsbD_and, e, BitVec.getLsbD_xor, BitVec.getLsbD_and, e]
  by_cases h : j = i
  · subst h
    cases hb : bits.getLsbD j <;> simp [hj]
  · have e2 : (1#32 <<< i).getLsbD j = false := by
      simp [BitVec.getLsbD_shiftLeft]; omega
    have e3 : decide (j < i + 1) = decide (j < i) := by
      by_cases h2 : j < i <;> simp [h2] <;> omega
    rw [e3]
    cases bits.getLsbD i <;> simp [e2]
theorem reg_flips (p : List (BitVec 8)) (bits : BitVec 32) (first : Nat) (h : first + 32 ≤ 8 * p.length) : ∀ i, i ≤ 32 →
    reg (flips p bits first i) = reg p ^^^ Ts (8 * p.length - first) (bits &&& BitVec.ofNat 32 (2 ^ i - 1))
  | 0, _ => by simp [flips, Ts_0]
  | i + 1, hi => by
    rw [low_succ bits i (by omega), Ts_xor, ← BitVec.xor_assoc, ← reg_flips p bits first h i (by omega)]
    show reg (if bits.getLsbD i then flipAt (flips p bits first i) (first + i) else flips p bits first i) = _
    split
    · rw [reg_flip _ _ (by rw [flips_length]; omega), flips_length]
      congr 1
      rw [one_shift i _ (by omega) (by omega)]
      congr 1; omega
    · rw [Ts_0, BitVec.xor_zero]
/-- The stage's theorem. -/
theorem burst (p : List (BitVec 8)) (bits : BitVec 32) (first : Nat) (h4 : 4 ≤ p.length) (hp : endsOf p = true) (h : first + 32 ≤ 8 * p.length) : endsOf (flips p bits first 32) = decide (bits = 0#32) := by
  have hr := reg_flips p bits first h 32 (Nat.le_refl _)
  have e : bits &&& BitVec.ofNat 32 (2 ^ 32 - 1) = bits := by
    apply BitVec.eq_of_getLsbD_eq; intro i hi
    rw [BitVec.getLsbD_and, BitVec.getLsbD_ofNat, Nat.testBit_two_pow_sub_one]; simp [hi]
  rw [e, (ends_iff p h4).1 hp] at hr
  rw [Bool.eq_iff_iff, ends_iff _ (by rw [flips_length]; exact h4), decide_eq_true_iff, hr]
  constructor
  · intro h5
    apply Ts_inj0 (8 * p.length - first)
    have h6 : Ts 32 (~~~ 0#32) ^^^ (Ts 32 (~~~ 0#32) ^^^ Ts (8 * p.length - first) bits) = Ts 32 (~~~ 0#32) ^^^ Ts 32 (~~~ 0#32) := by rw [h5]
    rwa [← BitVec.xor_assoc, BitVec.xor_self, BitVec.zero_xor] at h6
  · rintro rfl
    rw [Ts_0, BitVec.xor_zero]
theorem ends_put (zs : List (BitVec 8)) : endsOf (zs ++ four (sumOf zs)) = true := by
  unfold endsOf
  rw [decide_eq_true_iff]
  have hl : (zs ++ four (sumOf zs)).length = zs.length + 4 := by simp [four]
  rw [hl]
  refine ⟨by omega, ?_⟩
  simp

/-- Bit by bit: the state behind k bits of a byte. -/
def bitsOf (n : BitVec 32) (c : BitVec 8) (k : Nat) : BitVec 32 := Ts k (n ^^^ c.setWidth 32) ^^^ (c.setWidth 32 >>> k)
theorem bitsOf_0 (n : BitVec 32) (c : BitVec 8) : bitsOf n c 0 = n := by
  unfold bitsOf; simp only [Ts, BitVec.ushiftRight_zero, xor_cancel]
theorem bitsOf_8 (n : BitVec 32) (c : BitVec 8) : bitsOf n c 8 = stepB n c := by
  unfold bitsOf; rw [stepB_T]
  have e0 : (c.setWidth 32) >>> 8 = 0#32 := by
    apply BitVec.eq_of_toNat_eq
    have := c.isLt
    simp [Nat.shiftRight_eq_div_pow]
    omega
  rw [e0, BitVec.xor_zero]
theorem T_low (s d : BitVec 32) : T (s ^^^ d) ^^^ (d >>> 1) = (s >>> 1) ^^^ (if (s.getLsbD 0 != d.getLsbD 0) = true then 3988292384#32 else 0#32) := by
  unfold T
  rw [BitVec.ushiftRight_xor_distrib, BitVec.getLsbD_xor, BitVec.xor_assoc, BitVec.xor_assoc, BitVec.xor_comm _ (d >>> 1), ← BitVec.xor_assoc (d >>> 1), BitVec.xor_self, BitVec.zero_xor]
theorem bitsOf_succ (n : BitVec 32) (c : BitVec 8) (k : Nat) : bitsOf n c (k + 1) = ((bitsOf n c k) >>> 1) ^^^ (if ((bitsOf n c k).getLsbD 0 != ((c.setWidth 32) >>> k).getLsbD 0) = true then 3988292384#32 else 0#32) := by
  rw [← T_low]
  unfold bitsOf
  rw [xor_cancel, ← BitVec.shiftRight_add]
  congr 1
  rw [Nat.add_comm, Ts_add 1 k]; rfl
end Go.Proofs.YtlinhcbjljcgbaaDoor

/- What sums.More and sums.Of compute, for every list of bytes. -/
namespace Go.Proofs.YtlinhcbjljcgbaaDoor
open Go.RowKit
attribute [local go_sem high] bits32_xor bits32_and15 bits32_shr4 bits8_shr4 bits8_32 bits32_not I32_0 I32_15

def TabAt (w : World) : Prop := ∀ x : BitVec 32, w.cell? ⟨0, (I32 (x &&& 15#32)).toNat, none⟩ = some (.int .u32 (I32 (tab x)))

set_option maxHeartbeats 400000 in
theorem more_any (s : BitVec 32) (a : Option Addr) (n cap : Nat) (zs : List (BitVec 8)) (w : World) (hn : n = zs.length) (hl : n ≤ maxLen)
    (hc : Rd w a (zs.map B8)) (ht : TabAt w) :
    Calls Tryd.prog 15 #[.int .u32 (I32 s), .slice a n cap] w fun e w' => e = .returned (.int .u32 (I32 (more s zs))) ∧ w = w' := by
  subst hn
  unfold maxLen at hl
  have HC := Lib.hid hc; clear hc
  have HT := Lib.hid ht; clear ht
  go_enter Tryd.func15, Tryd.ntmps15
  go_wp2
  go_loop [5, 12] (fun n i => ∃ k : Nat, k ≤ zs.length ∧ i = .int .i64 k ∧ n = .int .u32 (I32 ((zs.take k).foldl stepB (~~~ s)))) (fun _ i => zs.length - (intOf i).toNat)
  case atStart => exact ⟨0, Nat.zero_le _, rfl, rfl⟩
  case round =>
    obtain ⟨k, hk, rfl, rfl⟩ := hrel
    by_cases hlt : k < zs.length
    · obtain ⟨b, o, rfl, hcell⟩ := HC.out k (by simpa using hlt)
      simp only [List.getElem_map, B8] at hcell
      have ht := HT.out
      unfold TabAt at ht
      generalize hg : (zs.take k).foldl stepB (~~~ s) = c
      have HG := Lib.hid hg; clear hg
      go_wp2
      go_round
      case rel =>
        refine ⟨k + 1, by omega, by go_num, ?_⟩
        rw [List.take_succ_eq_append_getElem hlt, List.foldl_append, HG.out]; rfl
      case measure => simp [intOf]; omega
    · obtain rfl : k = zs.length := by omega
      rw [List.take_length]
      generalize hg : zs.foldl stepB (~~~ s) = c
      have HG := Lib.hid hg; clear hg
      go_wp2
      go_ret
      exact ⟨by unfold more; rw [HG.out]; rfl, rfl⟩

theorem of_any (a : Option Addr) (n cap : Nat) (zs : List (BitVec 8)) (w : World) (hn : n = zs.length) (hl : n ≤ maxLen)
    (hc : Rd w a (zs.map B8)) (ht : TabAt w) :
    Calls Tryd.prog 13 #[.slice a n cap] w fun e w' => e = .returned (.int .u32 (I32 (sumOf zs))) ∧ w = w' := by
  have HC := Lib.hid hc; clear hc
  have HT := Lib.hid ht; clear ht
  have HN := Lib.hid hn; clear hn
  have h0 : (Value.int .u32 0) = .int .u32 (I32 0#32) := rfl
  have H0 := Lib.hid h0; clear h0
  go_enter Tryd.func13, Tryd.ntmps13
  go_wp2_with fail
  rw [H0.out]
  refine (more_any 0#32 a n cap zs _ HN.out hl HC.out HT.out).mono ?_
  rintro e w' ⟨rfl, rfl⟩
  go_wp2
  go_ret
  exact ⟨rfl, rfl⟩
end Go.Proofs.YtlinhcbjljcgbaaDoor

/- Slices as lists of cells: readable rows (Rd), rows in new memory (Own), and the laws by which append, make and slicing act on them. -/
namespace Go.Proofs.YtlinhcbjljcgbaaDoor
open Go.RowKit

theorem Rd.nil (w : World) (a : Option Addr) : Rd w a [] := fun i h => by simp at h
theorem Rd.lt {w : World} {a : Option Addr} {xs : List Value} (h : Rd w a xs) (hx : 0 < xs.length) : ∃ b o, a = some ⟨b, o, none⟩ ∧ b < w.heap.size := by
  obtain ⟨b, o, e, hc⟩ := h 0 hx
  exact ⟨b, o, e, by simpa using World.block_lt_of_cell? w _ hc⟩
theorem Rd.get {w : World} {b o : Nat} {sp : Option Nat} {xs : List Value} (h : Rd w (some ⟨b, o, sp⟩) xs) {i : Nat} (hi : i < xs.length) : w.cell? ⟨b, o + i, none⟩ = some xs[i] := by
  obtain ⟨b', o', e, hc⟩ := h i hi
  simp only [Option.some.injEq, Addr.mk.injEq] at e
  obtain ⟨rfl, rfl, _⟩ := e
  exact hc
theorem Rd.same {w w' : World} {a : Option Addr} {xs : List Value} (h : Rd w a xs) (hb : ∀ b o sp, a = some ⟨b, o, sp⟩ → w'.heap[b]? = w.heap[b]?) : Rd w' a xs := by
  intro i hi
  obtain ⟨b, o, e, hc⟩ := h i hi
  refine ⟨b, o, e, ?_⟩
  rw [World.cell?_of_block (w := w) (a := ⟨b, o + i, none⟩) (hb b o none e)]; exact hc
theorem Rd.blocks {w w' : World} {B : Nat} {a : Option Addr} {xs : List Value} (h : Rd w a xs) (hb : ∀ k, k < B → w'.heap[k]? = w.heap[k]?) (hB : ∀ b o sp, a = some ⟨b, o, sp⟩ → b < B) : Rd w' a xs :=
  h.same fun b o sp e => hb b (hB b o sp e)
/-- What could be read ahead of a call that writes nothing old can be read behind it. -/
theorem Rd.below {w w' : World} {a : Option Addr} {xs : List Value} (h : Rd w a xs) (hb : Below w.heap.size w w') : Rd w' a xs := by
  intro i hi
  obtain ⟨b, o, e, hc⟩ := h i hi
  refine ⟨b, o, e, ?_⟩
  have hlt : b < w.heap.size := by simpa using World.block_lt_of_cell? w _ hc
  rw [World.cell?_of_block (w := w) (a := ⟨b, o + i, none⟩) (hb.block b hlt)]; exact hc
theorem Rd.belowB {w w' : World} {B : Nat} {a : Option Addr} {xs : List Value} (h : Rd w a xs) (hb : Below B w w') (hB : w.heap.size ≤ B) : Rd w' a xs := h.below (hb.mono hB)
theorem Rd.take {w : World} {a : Option Addr} {xs : List Value} (h : Rd w a xs) (n : Nat) : Rd w a (xs.take n) := by
  intro i hi
  have hi' : i < xs.length := by simp at hi; omega
  obtain ⟨b, o, e, hc⟩ := h i hi'
  exact ⟨b, o, e, by rw [hc]; simp⟩
theorem Rd.drop {w : World} {b o : Nat} {sp : Option Nat} {xs : List Value} (h : Rd w (some ⟨b, o, sp⟩) xs) (n : Nat) : Rd w (some ⟨b, o + n, none⟩) (xs.drop n) := by
  intro i hi
  have hi' : n + i < xs.length := by simp at hi; omega
  refine ⟨b, o + n, rfl, ?_⟩
  have := h.get hi'
  rw [show o + n + i = o + (n + i) by omega, this]; simp
/-- A block's own cells, from some place on. -/
theorem Rd.ofBlock {w : World} {g off : Nat} {cur : Array Value} {e : TypeId} {fz : Nat × Nat} (h : w.heap[g]? = some (.cells cur e fz)) (xs : List Value)
    (hx : ∀ i (hi : i < xs.length), cur[off + i]? = some xs[i]) : Rd w (some ⟨g, off, none⟩) xs := by
  intro i hi
  refine ⟨g, off, rfl, ?_⟩
  simp only [World.cell?, h]
  simpa using hx i hi

theorem Rd.lit (w : World) (cs : Array Value) (e : TypeId) (fz : Nat × Nat) : Rd (w.alloc (.cells cs e fz)) (some ⟨w.heap.size, 0, none⟩) cs.toList :=
  Rd.ofBlock (heap_alloc_new w _) _ (fun i hi => by simp at hi; simp [hi])
theorem Rd.alloc {w : World} {a : Option Addr} {xs : List Value} (h : Rd w a xs) (o : Obj) : Rd (w.alloc o) a xs := h.below ((Below.refl _ _).alloc (Nat.le_refl _) _)
theorem Rd.drew {w : World} {a : Option Addr} {xs : List Value} (h : Rd w a xs) : Rd w.drew a xs := h.below (Below.refl _ _).drew

/-- A row in memory from block 'base' on, that nobody froze: its values are xs. -/
def Own (w : World) (base : Nat) (e : TypeId) (size : Nat) (v : Value) (n : Nat) (xs : List Value) : Prop :=
  xs.length = n * size ∧ ((v = .slice none 0 0 ∧ n = 0) ∨
    ∃ g off cap cur, v = .slice (some ⟨g, off, none⟩) n cap ∧ base ≤ g ∧ w.heap[g]? = some (.cells cur e (0, 0)) ∧ n ≤ cap ∧ cap ≤ maxLen ∧ off + cap * size ≤ cur.size ∧ (cur.toList.drop off).take (n * size) = xs)

theorem Own.ofRow {w : World} {base : Nat} {e : TypeId} {size : Nat} {v : Value} {n : Nat} {xs : List Value} (h : w.ownsRow base e size v n xs) : Own w base e size v n xs := by
  refine ⟨h.1, ?_⟩
  rcases h.2 with h2 | ⟨g, cap, cur, r1, r2, r3, r4, r5, r6, r7⟩
  · exact .inl h2
  · exact .inr ⟨g, 0, cap, cur, r1, r2, r3, r4, r5, by omega, by simpa using r7⟩
theorem Own.rd {w : World} {base : Nat} {e : TypeId} {size : Nat} {v : Value} {n : Nat} {xs : List Value} (h : Own w base e size v n xs) :
    ∃ ao c, v = .slice ao n c ∧ Rd w ao xs ∧ n ≤ c ∧ c ≤ maxLen ∧ (∀ b o sp, ao = some ⟨b, o, sp⟩ → base ≤ b ∧ b < w.heap.size) := by
  rcases h.2 with ⟨rfl, rfl⟩ | ⟨g, off, cap, cur, rfl, hb, hg, hn, hm, hs, hx⟩
  · have := h.1
    simp at this
    subst this
    exact ⟨none, 0, rfl, Rd.nil _ _, Nat.le_refl _, by unfold maxLen; omega, fun b o sp e => by cases e⟩
  · have hl := h.1
    refine ⟨_, cap, rfl, Rd.ofBlock hg xs (fun i hi => ?_), hn, hm, fun b o sp e => ?_⟩
    · subst hx
      simp only [List.length_take, List.length_drop, Array.length_toList] at hi
      simp only [List.getElem_take, List.getElem_drop, Array.getElem_toList]
      rw [Array.getElem?_eq_getElem]
    · simp only [Option.some.injEq, Addr.mk.injEq] at e
      obtain ⟨rfl, _⟩ := e
      exact ⟨hb, (Array.getElem?_eq_some_iff.1 hg).1⟩
theorem Own.same {w w' : World} {base : Nat} {e : TypeId} {size : Nat} {v : Value} {n : Nat} {xs : List Value} (h : Own w base e size v n xs)
    (hk : ∀ k, v.ownBlock = some k → w'.heap[k]? = w.heap[k]?) : Own w' base e size v n xs := by
  refine ⟨h.1, ?_⟩
  rcases h.2 with h2 | ⟨g, off, cap, cur, rfl, hb, hg, r⟩
  · exact .inl h2
  · exact .inr ⟨g, off, cap, cur, rfl, hb, by rw [hk g rfl]; exact hg, r⟩
theorem Own.below {w w' : World} {base : Nat} {e : TypeId} {size : Nat} {v : Value} {n : Nat} {xs : List Value} (h : Own w base e size v n xs) (hb : Below w.heap.size w w') : Own w' base e size v n xs := by
  refine h.same fun k hk => ?_
  rcases h.2 with ⟨rfl, _⟩ | ⟨g, off, cap, cur, rfl, _, hg, _⟩
  · simp [Value.ownBlock] at hk
  · simp [Value.ownBlock] at hk
    subst hk
    exact hb.block _ (Array.getElem?_eq_some_iff.1 hg).1
theorem Own.mono {w : World} {base base' : Nat} {e : TypeId} {size : Nat} {v : Value} {n : Nat} {xs : List Value} (h : Own w base e size v n xs) (hb : base' ≤ base) : Own w base' e size v n xs := by
  refine ⟨h.1, ?_⟩
  rcases h.2 with h2 | ⟨g, off, cap, cur, r1, r2, r⟩
  · exact .inl h2
  · exact .inr ⟨g, off, cap, cur, r1, by omega, r⟩
/-- s[:len(s):len(s)] of a row. -/
theorem Own.clip {w : World} {base : Nat} {e : TypeId} {size : Nat} {ao : Option Addr} {n c : Nat} {xs : List Value} (h : Own w base e size (.slice ao n c) n xs) : Own w base e size (.slice ao n n) n xs := by
  refine ⟨h.1, ?_⟩
  rcases h.2 with ⟨e1, rfl⟩ | ⟨g, off, cap, cur, e1, r2, r3, r4, r5, r6, r7⟩
  · simp only [Value.slice.injEq] at e1
    exact .inl ⟨by rw [e1.1], rfl⟩
  · simp only [Value.slice.injEq, true_and] at e1
    obtain ⟨rfl, rfl⟩ := e1
    exact .inr ⟨g, off, n, cur, rfl, r2, r3, Nat.le_refl _, by omega, by have := Nat.mul_le_mul_right size r4; omega, r7⟩

/-- A store into one of the row's own cells. -/
theorem Own.set {w : World} {base : Nat} {e : TypeId} {size g off n c : Nat} {xs : List Value} (h : Own w base e size (.slice (some ⟨g, off, none⟩) n c) n xs) (j : Nat) (hj : j < n * size) (u : Value) :
    Own (w.setCell ⟨g, off + j, none⟩ u) base e size (.slice (some ⟨g, off, none⟩) n c) n (xs.set j u) := by
  refine ⟨by simpa using h.1, ?_⟩
  rcases h.2 with ⟨h', _⟩ | ⟨g', off', cap, cur, h', hb, hg, hn, hm, hs, hx⟩
  · simp at h'
  · simp only [Value.slice.injEq, Option.some.injEq, Addr.mk.injEq, and_true, true_and] at h'
    obtain ⟨⟨rfl, rfl⟩, rfl⟩ := h'
    refine .inr ⟨g, off, c, cur.setIfInBounds (off + j) u, rfl, hb, heap_setCell_same w g (off + j) cur e u hg, hn, hm, by simpa using hs, ?_⟩
    subst hx
    simp only [Array.toList_setIfInBounds]
    rw [List.drop_set, if_neg (by omega), show off + j - off = j by omega, List.take_set]
theorem Own.frozenAt {w : World} {base : Nat} {e : TypeId} {size g off n c : Nat} {xs : List Value} (h : Own w base e size (.slice (some ⟨g, off, none⟩) n c) n xs) (j : Nat) : w.frozen? ⟨g, j, none⟩ = false := by
  rcases h.2 with ⟨h', _⟩ | ⟨g', off', cap, cur, h', hb, hg, _⟩
  · simp at h'
  · simp only [Value.slice.injEq, Option.some.injEq, Addr.mk.injEq, and_true, true_and] at h'
    obtain ⟨⟨rfl, rfl⟩, rfl⟩ := h'
    exact frozen_of_row w g j cur e hg
theorem Own.drewN {w : World} {base : Nat} {e : TypeId} {size : Nat} {v : Value} {n : Nat} {xs : List Value} (h : Own w base e size v n xs) : Own w.drew base e size v n xs := h.below (Below.refl _ _).drew
theorem Own.ge {w : World} {base : Nat} {e : TypeId} {size g off n c : Nat} {xs : List Value} (h : Own w base e size (.slice (some ⟨g, off, none⟩) n c) n xs) : base ≤ g := by
  rcases h.2 with ⟨h', _⟩ | ⟨g', off', cap, cur, h', hb, hg, _⟩
  · simp at h'
  · simp only [Value.slice.injEq, Option.some.injEq, Addr.mk.injEq, and_true, true_and] at h'
    obtain ⟨⟨rfl, rfl⟩, rfl⟩ := h'
    exact hb

/-- What a slice type's row of the program's table says. -/
structure SlTy (P : Program) (t e size bytes : Nat) (z : Value) : Prop where
  und : P.underlying t = some (.slice e)
  inf : ∃ i, P.info? e = some i ∧ i.zero = some z ∧ i.size = size ∧ i.bytes = bytes
  zc : z.cells.size = size
  pos : 0 < size

theorem addr_add (b o j : Nat) : (⟨b, o, none⟩ : Addr).add j = ⟨b, o + j, none⟩ := by
  unfold Addr.add; split <;> simp_all

theorem run_append_none {P : Program} (w : World) {t e size bytes : Nat} {z : Value} (T : SlTy P t e size bytes z) (ty : TypeId) (v : Value) (n : Nat) (base : Nat) (xs : List Value) (hown : w.ownsRow base e size v n xs) (c : Nat) :
    (Builtin.append_ #[t, t] ty #[v, .slice none 0 c]).run P w = .ok v w := by
  obtain ⟨i, hi, hz, hs, hb⟩ := T.inf
  rcases hown.2 with ⟨rfl, rfl⟩ | ⟨g, cap, cur, rfl, _, _, hnc, _⟩
  · simp [Builtin.append_, run_underlying T.und, sizeOf, typeInfo, hi, Builtin.lenOf, Builtin.firstCells]
  · simp [Builtin.append_, run_underlying T.und, sizeOf, typeInfo, hi, Builtin.lenOf, Builtin.firstCells, hnc, storeCells]

/-- append(s, x...): s a row of the call's own (or nil), x whatever row can be read. -/
theorem wpl_append {P : Program} {w : World} {ops : Array Oper} {rest : List Oper} {o : Oper} {a : Act} {Q : Exit → Act → World → Prop} (hgd : o.guard = none) (s x : Operand) (t : TypeId)
    (ho : o.op = .call { callee := .builtin .append, args := #[s, x], argTypes := #[t, t] })
    {e size bytes : Nat} {z : Value} (T : SlTy P t e size bytes z) (base : Nat)
    (v : Value) (n : Nat) (xs : List Value) (hs : a.eval s = v) (hown : w.ownsRow base e size v n xs)
    (ao : Option Addr) (m c : Nat) (news : List Value) (hx : a.eval x = .slice ao m c) (hl : news.length = m * size) (hrd : Rd w ao news) (h1 : ∀ u ∈ news, u.oneCell' = true)
    (h63 : n + m ≤ maxLen) (hbytes : (n + m) * bytes ≤ 140737488355328) (hbase : base ≤ w.heap.size)
    (h : ∀ v' w', w'.ownsRow base e size v' (n + m) (xs ++ news) → w.grownBy w' v.ownBlock → (v' = .slice none 0 0 ↔ v = .slice none 0 0 ∧ m = 0) → wpList P ops Q rest (a.put o.dst v') w') : wpList P ops Q (o :: rest) a w := by
  obtain ⟨i, hi, hz, hsz, hb⟩ := T.inf
  have hpos := T.pos
  rcases ao with _ | ⟨b, off, sp⟩
  · have hm : m = 0 := by
      rcases Nat.eq_zero_or_pos news.length with h0 | h0
      · rw [h0] at hl
        rcases Nat.eq_zero_or_pos m with h' | h'
        · exact h'
        · have := Nat.mul_pos h' hpos; omega
      · obtain ⟨b, o, e, _⟩ := hrd 0 h0
        cases e
    subst hm
    have hne : news = [] := List.eq_nil_of_length_eq_zero (by simpa using hl)
    subst hne
    refine wpList_plain hgd fun K hK => ?_
    have hrun := run_append_none w T o.type v n base xs hown c
    unfold Oper.wp
    simp [execOp, ho, resolve, invoke, builtin, hs, hx, hrun, Result.andThen]
    exact hK _ _ (by simpa using h v w (by simpa using hown) (World.grownBy.refl _ _) (by simp))
  · refine wpList_append_own w hgd s x t ho base e i z size bytes T.und hi hz hsz hb T.zc T.pos v n xs hs hown ⟨b, off, sp⟩ m c news hx hl ?_ h1 h63 hbytes hbase h
    intro j u hu
    obtain ⟨hj, rfl⟩ := List.getElem?_eq_some_iff.1 hu
    obtain ⟨b', o', e', hc⟩ := hrd j hj
    simp only [Option.some.injEq, Addr.mk.injEq] at e'
    obtain ⟨rfl, rfl, rfl⟩ := e'
    rw [addr_add]; exact hc

theorem Rd.addr {w : World} {a : Addr} {xs : List Value} (h : Rd w (some a) xs) : ∀ j v, xs[j]? = some v → w.cell? (a.add j) = some v := by
  intro j v hv
  obtain ⟨hj, rfl⟩ := List.getElem?_eq_some_iff.1 hv
  obtain ⟨b, o, e, hc⟩ := h j hj
  obtain rfl := Option.some.inj e
  rw [addr_add]; exact hc
/-- Behind an append the row lies where it lay, or in a new block. -/
theorem run_append_block {P : Program} (w : World) {t e size bytes : Nat} {z : Value} (T : SlTy P t e size bytes z) (ty : TypeId) (base : Nat)
    (v : Value) (n : Nat) (xs : List Value) (hown : w.ownsRow base e size v n xs) (a : Addr) (m c : Nat) (news : List Value) (hl : news.length = m * size) (hnews : ∀ j u, news[j]? = some u → w.cell? (a.add j) = some u) (h1 : ∀ u ∈ news, u.oneCell' = true)
    (h63 : n + m ≤ maxLen) (hbytes : (n + m) * bytes ≤ 140737488355328) :
    ∃ v' w', (Builtin.append_ #[t, t] ty #[v, .slice (some a) m c]).run P w = .ok v' w' ∧ (v'.ownBlock = v.ownBlock ∨ v'.ownBlock = some w.heap.size) := by
  obtain ⟨i, hi, hz, hsz, hb⟩ := T.inf
  subst hsz
  subst hb
  have hsmall : n + m ≤ 9223372036854775807 := by simp only [maxLen] at h63; omega
  rcases hown.2 with ⟨rfl, rfl⟩ | ⟨g, cap, cur, rfl, hbg, hg, hnc, hcm, hcs, htake⟩
  · by_cases hm : m = 0
    · subst hm
      have hn : news = [] := List.eq_nil_of_length_eq_zero (by simpa using hl)
      subst hn
      refine ⟨.slice none 0 0, w, ?_, .inl rfl⟩
      simp [Builtin.append_, run_underlying T.und, sizeOf, typeInfo, hi, Builtin.lenOf, Builtin.firstCells, loadCells, loadCellsFrom]
    · exact ⟨_, _, run_append_nil (P := P) w t ty e i z T.und hi hz a m c news hl hnews (by omega) (by omega) (by have hb := hbytes; simp only [Nat.zero_add] at hb; omega), .inr rfl⟩
  · by_cases hroom : n + m ≤ cap
    · have hfit : n * i.size + news.length ≤ cur.size := by rw [hl, hcs, ← Nat.add_mul]; exact Nat.mul_le_mul_right _ hroom
      exact ⟨_, _, run_append_room (P := P) w t ty e i T.und hi g n cap cur hg a m c news hl hnews h1 hroom hfit, .inl rfl⟩
    · have holds : ∀ j u, xs[j]? = some u → w.cell? ((⟨g, 0, none⟩ : Addr).add j) = some u := hown.cells (g := g) rfl
      exact ⟨_, _, run_append_grow (P := P) w t ty e i z T.und hi hz ⟨g, 0, none⟩ n cap xs hown.1 holds a m c news hl hnews (by omega) (by omega) (growslice_fits (by omega) hbytes), .inr rfl⟩
/-- append(s, x...), with the word on where the row lies then. -/
theorem wpl_appendB {P : Program} {w : World} {ops : Array Oper} {rest : List Oper} {o : Oper} {a : Act} {Q : Exit → Act → World → Prop} (hgd : o.guard = none) (s x : Operand) (t : TypeId)
    (ho : o.op = .call { callee := .builtin .append, args := #[s, x], argTypes := #[t, t] })
    {e size bytes : Nat} {z : Value} (T : SlTy P t e size bytes z) (base : Nat)
    (v : Value) (n : Nat) (xs : List Value) (hs : a.eval s = v) (hown : w.ownsRow base e size v n xs)
    (b off m c : Nat) (news : List Value) (hx : a.eval x = .slice (some ⟨b, off, none⟩) m c) (hl : news.length = m * size) (hrd : Rd w (some ⟨b, off, none⟩) news) (h1 : ∀ u ∈ news, u.oneCell' = true)
    (h63 : n + m ≤ maxLen) (hbytes : (n + m) * bytes ≤ 140737488355328) (hbase : base ≤ w.heap.size)
    (h : ∀ v' w', w'.ownsRow base e size v' (n + m) (xs ++ news) → w.grownBy w' v.ownBlock → (v'.ownBlock = v.ownBlock ∨ v'.ownBlock = some w.heap.size) → wpList P ops Q rest (a.put o.dst v') w') : wpList P ops Q (o :: rest) a w := by
  obtain ⟨i, hi, hz, hsz, hb⟩ := T.inf
  have hnews := hrd.addr
  obtain ⟨v1, w1, hr1, hbl⟩ := run_append_block w T o.type base v n xs hown ⟨b, off, none⟩ m c news hl hnews h1 h63 hbytes
  obtain ⟨v', w', hr, h2, h3, h4⟩ := run_append_own (P := P) w base t o.type e i z size bytes T.und hi hz hsz hb T.zc T.pos v n xs hown ⟨b, off, none⟩ m c news hl hnews h1 h63 hbytes hbase
  rw [hr1] at hr
  simp only [Result.ok.injEq] at hr
  obtain ⟨rfl, rfl⟩ := hr
  refine wpList_plain hgd fun K hK => ?_
  unfold Oper.wp execOp
  simp only [ho, resolve, invoke, builtin, Sem.run_bind, Sem.run_pure, Result.andThen_ok, List.map_toArray, List.map_cons, List.map_nil, hs, hx, hr1]
  exact hK _ _ (h _ _ h2 h3 hbl)

/-- append(s, x...) where there is room: s a row of the call's own, x whatever row can be read. -/
theorem wpl_fits {P : Program} {w : World} {ops : Array Oper} {rest : List Oper} {o : Oper} {a : Act} {Q : Exit → Act → World → Prop} (hgd : o.guard = none) (s x : Operand) (t : TypeId)
    (ho : o.op = .call { callee := .builtin .append, args := #[s, x], argTypes := #[t, t] })
    {e size bytes : Nat} {z : Value} (T : SlTy P t e size bytes z) (base : Nat)
    (g n cap : Nat) (xs : List Value) (hs : a.eval s = .slice (some ⟨g, 0, none⟩) n cap) (hown : w.ownsRow base e size (.slice (some ⟨g, 0, none⟩) n cap) n xs)
    (ao : Option Addr) (m c : Nat) (news : List Value) (hx : a.eval x = .slice ao m c) (hl : news.length = m * size) (hrd : Rd w ao news) (h1 : ∀ u ∈ news, u.oneCell' = true)
    (hroom : n + m ≤ cap)
    (h : ∀ w', w'.ownsRow base e size (.slice (some ⟨g, 0, none⟩) (n + m) cap) (n + m) (xs ++ news) → w.grownBy w' (some g) → wpList P ops Q rest (a.put o.dst (.slice (some ⟨g, 0, none⟩) (n + m) cap)) w') : wpList P ops Q (o :: rest) a w := by
  obtain ⟨i, hi, hz, hsz, hb⟩ := T.inf
  have hpos := T.pos
  rcases ao with _ | ⟨b, off, sp⟩
  · have hm : m = 0 := by
      rcases Nat.eq_zero_or_pos news.length with h0 | h0
      · rw [h0] at hl
        rcases Nat.eq_zero_or_pos m with h' | h'
        · exact h'
        · have := Nat.mul_pos h' hpos; omega
      · obtain ⟨b, o, e, _⟩ := hrd 0 h0
        cases e
    subst hm
    have hne : news = [] := List.eq_nil_of_length_eq_zero (by simpa using hl)
    subst hne
    refine wpList_plain hgd fun K hK => ?_
    have hrun := run_append_none w T o.type _ n base xs hown c
    unfold Oper.wp
    simp [execOp, ho, resolve, invoke, builtin, hs, hx, hrun, Result.andThen]
    exact hK _ _ (by simpa using h w (by simpa using hown) (World.grownBy.refl _ _))
  · refine wpList_append_fits w hgd s x t ho base e i size T.und hi hsz g n cap xs hs hown ⟨b, off, sp⟩ m c news hx hl ?_ h1 hroom h
    intro j u hu
    obtain ⟨hj, rfl⟩ := List.getElem?_eq_some_iff.1 hu
    obtain ⟨b', o', e', hc⟩ := hrd j hj
    simp only [Option.some.injEq, Addr.mk.injEq] at e'
    obtain ⟨rfl, rfl, rfl⟩ := e'
    rw [addr_add]; exact hc
/-- make([]T, 0, c). -/
theorem wpl_make0 {P : Program} (w : World) {ops : Array Oper} {rest : List Oper} {o : Oper} {a : Act} {Q : Exit → Act → World → Prop}
    (hgd : o.guard = none) (l c : Operand) (t : TypeId) (hop : o.op = Op.makeSlice t l c)
    {e size bytes : Nat} {z : Value} (T : SlTy P t e size bytes z) (base : Nat)
    (kl kc : IntKind) (C : Int) (n : Nat) (hl : a.eval l = .int kl 0) (hc : a.eval c = .int kc C) (hC : C = (n : Int)) (b2 : bytes * n ≤ 281474976710656) (b3 : n ≤ maxLen) (b4 : base ≤ w.heap.size)
    (hK : ∀ w', w'.ownsRow base e size (.slice (some ⟨w.heap.size, 0, none⟩) 0 n) 0 [] → w.grownBy w' none → wpList P ops Q rest (a.put o.dst (.slice (some ⟨w.heap.size, 0, none⟩) 0 n)) w') :
    wpList P ops Q (o :: rest) a w := by
  obtain ⟨i, hi, hz, hsz, hb⟩ := T.inf
  exact wpList_make_own w hgd l c t hop base e i z size T.und hi hz hsz kl kc C n hl hc hC (by rw [hb]; exact b2) b3 b4 hK

def strOf (zs : List (BitVec 8)) : ByteArray := ⟨(zs.map UInt8.ofBitVec).toArray⟩
theorem strOf_inj {a b : List (BitVec 8)} : strOf a = strOf b ↔ a = b := by
  unfold strOf
  constructor
  · intro h
    have h2 : a.map UInt8.ofBitVec = b.map UInt8.ofBitVec := by simpa using h
    exact (List.map_inj_right (fun x y (e : UInt8.ofBitVec x = UInt8.ofBitVec y) => by cases e; rfl)).1 h2
  · rintro rfl; rfl
theorem strOf_toList_inj {a b : List (BitVec 8)} (h : (strOf a).toList = (strOf b).toList) : strOf a = strOf b := by
  have h1 : ∀ s : ByteArray, s.toList = s.data.toList := fun s => by rw [ByteArray.toList_eq]
  rw [h1, h1] at h
  unfold strOf at *
  simpa using h
/-- string(bytes). -/
theorem run_toString {P : Program} (w : World) {src dst e : TypeId} (hs : P.underlying src = some (.slice e)) (he : P.underlying e = some (.int .u8)) (hd : P.underlying dst = some .string)
    (a : Option Addr) (n c : Nat) (zs : List (BitVec 8)) (hn : n = zs.length) (hrd : Rd w a (zs.map B8)) : (convert src dst (.slice a n c)).run P w = .ok (.string (strOf zs)) w := by
  subst hn
  rw [run_convert_bytes_string w src dst e a _ c hs he hd]
  rcases a with _ | a
  · have : zs = [] := by
      rcases zs with _ | ⟨z, zs⟩
      · rfl
      · obtain ⟨b, o, e, _⟩ := hrd 0 (by simp)
        cases e
    subst this
    rfl
  · have h1 := run_loadCells_list (P := P) w a (zs.map B8) hrd.addr
    have h2 : zs.map B8 = (zs.map I8).map (Value.int .u8) := by rw [List.map_map]; rfl
    rw [run_bytesToString w a zs.length c (zs.map I8) (by rw [List.length_map] at h1; rw [h1, h2])]
    rw [foldl_push_bytes]
    congr 2
    unfold strOf
    have e0 : ByteArray.empty.data = #[] := rfl
    rw [e0, Array.empty_append, List.map_map]
    congr 2
    apply List.map_congr_left
    intro b _
    have := b.isLt
    simp only [Function.comp, I8]
    apply UInt8.eq_of_toBitVec_eq
    apply BitVec.eq_of_toNat_eq
    simp

/-- Where s[lo:hi] begins. -/
def cutA (a : Option Addr) (cap lo size : Nat) : Option Addr := if cap = lo then a else a.map (fun x => x.add (lo * size))
theorem Rd.cutA {w : World} {a : Option Addr} {xs : List Value} (h : Rd w a xs) (cap lo hi size : Nat) (hh : hi ≤ cap) : Rd w (cutA a cap lo size) ((xs.drop (lo * size)).take ((hi - lo) * size)) := by
  unfold Proofs.YtlinhcbjljcgbaaDoor.cutA
  split
  · rename_i hc
    subst hc
    rw [show hi - cap = 0 by omega]
    simpa using Rd.nil _ _
  · refine Rd.take ?_ _
    intro i hi
    have hi' : lo * size + i < xs.length := by simp at hi; omega
    obtain ⟨b, o, rfl, hc⟩ := h (lo * size + i) hi'
    exact ⟨b, o + lo * size, by simp [addr_add], by rw [Nat.add_assoc, hc]; simp⟩
theorem run_cut {P : Program} {t e size bytes : Nat} {z : Value} (T : SlTy P t e size bytes z) (a : Option Addr) (len cap lo hi : Nat) (k1 k2 : IntKind) (h1 : lo ≤ hi) (h2 : hi ≤ cap) (w : World) :
    (Instr.slice t (.slice a len cap) (some (.int k1 (lo : Int))) (some (.int k2 (hi : Int))) none).run P w = .ok (.slice (cutA a cap lo size) (hi - lo) (cap - lo)) w := by
  obtain ⟨i, hi', hz, hs, hb⟩ := T.inf
  simp [Instr.slice, Instr.sliceBounds, Instr.sliceBound, run_underlying T.und, asIntOf, sizeOf, typeInfo, hi', hs, cutA, h1, h2, go_sem]
theorem run_cutTo {P : Program} {t e size bytes : Nat} {z : Value} (T : SlTy P t e size bytes z) (a : Option Addr) (len cap hi : Nat) (k2 : IntKind) (h2 : hi ≤ cap) (w : World) :
    (Instr.slice t (.slice a len cap) none (some (.int k2 (hi : Int))) none).run P w = .ok (.slice a hi cap) w := by
  obtain ⟨i, hi', hz, hs, hb⟩ := T.inf
  simp [Instr.slice, Instr.sliceBounds, Instr.sliceBound, run_underlying T.und, asIntOf, sizeOf, typeInfo, hi', h2, go_sem]
theorem run_cutFrom {P : Program} {t e size bytes : Nat} {z : Value} (T : SlTy P t e size bytes z) (a : Option Addr) (len cap lo : Nat) (k1 : IntKind) (h1 : lo ≤ len) (w : World) :
    (Instr.slice t (.slice a len cap) (some (.int k1 (lo : Int))) none none).run P w = .ok (.slice (cutA a cap lo size) (len - lo) (cap - lo)) w := by
  obtain ⟨i, hi', hz, hs, hb⟩ := T.inf
  simp [Instr.slice, Instr.sliceBounds, Instr.sliceBound, run_underlying T.und, asIntOf, sizeOf, typeInfo, hi', hs, cutA, h1, go_sem]

theorem run_min2 {P : Program} {w : World} (ts : Array TypeId) (t : TypeId) (k k' : IntKind) (x y : Int) : (Builtin.min_ ts t #[.int k x, .int k' y]).run P w = .ok (.int k (min x y)) w := by
  rw [run_min_int2]; congr 2; rw [Int.min_def]; split <;> split <;> omega
theorem take_ne {α : Type} {xs ys : List α} {k : Nat} (hx : k < xs.length) (hy : k < ys.length) (h : xs[k] ≠ ys[k]) : xs ≠ ys := by rintro rfl; exact h rfl
theorem take_snoc_eq {α : Type} {xs ys : List α} {k : Nat} (hx : k < xs.length) (hy : k < ys.length) (h : xs.take k = ys.take k) (he : xs[k] = ys[k]) : xs.take (k + 1) = ys.take (k + 1) := by
  rw [List.take_succ_eq_append_getElem hx, List.take_succ_eq_append_getElem hy, h, he]
theorem oneCell_B8 (zs : List (BitVec 8)) : ∀ u ∈ zs.map B8, u.oneCell' = true := by
  intro u hu; obtain ⟨b, _, rfl⟩ := List.mem_map.1 hu; rfl

end Go.Proofs.YtlinhcbjljcgbaaDoor
