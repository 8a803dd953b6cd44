/- Numbers of 8 and 32 bits as the walk spells them: each bit operation on I8, I32 is the operation on bit vectors. -/
import Derived.WalkKit
import Derived.WalkSpells
import Derived.Handy
import Derived.Lib.Hide
namespace Go.Proofs.Ytacglcpjbepfnaa
open Go.RowKit

def I32 (x : BitVec 32) : Int := x.toNat
def I8 (x : BitVec 8) : Int := x.toNat
theorem ofInt_I32 (x : BitVec 32) : BitVec.ofInt 32 (I32 x) = x := by
  apply BitVec.eq_of_toNat_eq; simp [I32]
theorem ofInt_I8 (x : BitVec 8) : BitVec.ofInt 8 (I8 x) = x := by
  apply BitVec.eq_of_toNat_eq; simp [I8]
theorem wrap_I32 (x : BitVec 32) : IntKind.u32.wrap (x.toNat : Int) = I32 x := by
  rw [IntKind.wrap_u32]; have := x.isLt; unfold I32; omega
theorem wrap_I8 (x : BitVec 8) : IntKind.u8.wrap (x.toNat : Int) = I8 x := by
  rw [IntKind.wrap_u8]; have := x.isLt; unfold I8; omega
theorem bits32_xor (a b : BitVec 32) : bits .xor .u32 (I32 a) (I32 b) = I32 (a ^^^ b) := by
  have h : bits .xor .u32 (I32 a) (I32 b) = IntKind.u32.wrap ((BitVec.ofInt 32 (I32 a) ^^^ BitVec.ofInt 32 (I32 b)).toNat : Int) := rfl
  rw [h, ofInt_I32, ofInt_I32, wrap_I32]
theorem bits32_and (a b : BitVec 32) : bits .and .u32 (I32 a) (I32 b) = I32 (a &&& b) := by
  have h : bits .and .u32 (I32 a) (I32 b) = IntKind.u32.wrap ((BitVec.ofInt 32 (I32 a) &&& BitVec.ofInt 32 (I32 b)).toNat : Int) := rfl
  rw [h, ofInt_I32, ofInt_I32, wrap_I32]
theorem bits32_and15 (a : BitVec 32) : bits .and .u32 (I32 a) 15 = I32 (a &&& 15#32) := bits32_and a 15#32
theorem bits32_and1 (a : BitVec 32) : bits .and .u32 (I32 a) 1 = I32 (a &&& 1#32) := bits32_and a 1#32
theorem bits8_xor (a b : BitVec 8) : bits .xor .u8 (I8 a) (I8 b) = I8 (a ^^^ b) := by
  have h : bits .xor .u8 (I8 a) (I8 b) = IntKind.u8.wrap ((BitVec.ofInt 8 (I8 a) ^^^ BitVec.ofInt 8 (I8 b)).toNat : Int) := rfl
  rw [h, ofInt_I8, ofInt_I8, wrap_I8]
theorem bits32_not (a : BitVec 32) : bits .xor .u32 IntKind.u32.max (I32 a) = I32 (~~~ a) := by
  have h : IntKind.u32.max = I32 (BitVec.allOnes 32) := by decide +kernel
  rw [h, bits32_xor, BitVec.allOnes_xor]
theorem shr32 (a : BitVec 32) (yk : IntKind) (n : Nat) (hn : n ≤ 32) : Op.shift .shr .u32 (I32 a) yk n = pure (.int .u32 (I32 (a >>> n))) := by
  rw [shift_shr_any _ _ _ _ (by omega)]
  have e : I32 a / 2 ^ min ((n : Int).toNat) IntKind.u32.bits = I32 (a >>> n) := by
    have h2 : min ((n : Int).toNat) IntKind.u32.bits = n := by simp [IntKind.bits]; omega
    rw [h2]; unfold I32; simp [BitVec.toNat_ushiftRight, Nat.shiftRight_eq_div_pow]
  rw [e]
theorem shr8 (a : BitVec 8) (yk : IntKind) (n : Nat) (hn : n ≤ 8) : Op.shift .shr .u8 (I8 a) yk n = pure (.int .u8 (I8 (a >>> n))) := by
  rw [shift_shr_any _ _ _ _ (by omega)]
  have e : I8 a / 2 ^ min ((n : Int).toNat) IntKind.u8.bits = I8 (a >>> n) := by
    have h2 : min ((n : Int).toNat) IntKind.u8.bits = n := by simp [IntKind.bits]; omega
    rw [h2]; unfold I8; simp [BitVec.toNat_ushiftRight, Nat.shiftRight_eq_div_pow]
  rw [e]
theorem bits32_shr4 (a : BitVec 32) (yk : IntKind) : Op.shift .shr .u32 (I32 a) yk 4 = pure (.int .u32 (I32 (a >>> 4))) := shr32 a yk 4 (by decide)
theorem bits32_shr8 (a : BitVec 32) (yk : IntKind) : Op.shift .shr .u32 (I32 a) yk 8 = pure (.int .u32 (I32 (a >>> 8))) := shr32 a yk 8 (by decide)
theorem bits32_shr16 (a : BitVec 32) (yk : IntKind) : Op.shift .shr .u32 (I32 a) yk 16 = pure (.int .u32 (I32 (a >>> 16))) := shr32 a yk 16 (by decide)
theorem bits32_shr24 (a : BitVec 32) (yk : IntKind) : Op.shift .shr .u32 (I32 a) yk 24 = pure (.int .u32 (I32 (a >>> 24))) := shr32 a yk 24 (by decide)
theorem bits8_shr4 (a : BitVec 8) (yk : IntKind) : Op.shift .shr .u8 (I8 a) yk 4 = pure (.int .u8 (I8 (a >>> 4))) := shr8 a yk 4 (by decide)
theorem bits8_32 (a : BitVec 8) : (I8 a) % 4294967296 = I32 (a.setWidth 32) := by
  have := a.isLt; unfold I8 I32; rw [BitVec.toNat_setWidth]; omega
theorem bits32_8 (a : BitVec 32) : (I32 a) % 256 = I8 (a.setWidth 8) := by
  have := a.isLt; unfold I8 I32; rw [BitVec.toNat_setWidth]; omega
theorem I32_0 (a : BitVec 32) : 0 ≤ I32 a := by unfold I32; omega
theorem I32_lt (a : BitVec 32) : I32 a < 4294967296 := by have := a.isLt; unfold I32; omega
theorem I8_0 (a : BitVec 8) : 0 ≤ I8 a := by unfold I8; omega
theorem I8_lt (a : BitVec 8) : I8 a < 256 := by have := a.isLt; unfold I8; omega
theorem I32_15 (a : BitVec 32) : I32 (a &&& 15#32) < 16 := by
  have h : (a &&& 15#32).toNat ≤ 15 := by rw [BitVec.toNat_and]; exact Nat.and_le_right
  unfold I32; omega
theorem I32_inj {a b : BitVec 32} : I32 a = I32 b ↔ a = b := by
  unfold I32; constructor
  · intro h; exact BitVec.eq_of_toNat_eq (by omega)
  · rintro rfl; rfl
theorem I8_inj {a b : BitVec 8} : I8 a = I8 b ↔ a = b := by
  unfold I8; constructor
  · intro h; exact BitVec.eq_of_toNat_eq (by omega)
  · rintro rfl; rfl
theorem exists_I8 (n : Int) (h0 : 0 ≤ n) (h1 : n < 256) : ∃ b : BitVec 8, n = I8 b :=
  ⟨BitVec.ofNat 8 n.toNat, by unfold I8; simp; omega⟩
theorem exists_I32 (n : Int) (h0 : 0 ≤ n) (h1 : n < 4294967296) : ∃ b : BitVec 32, n = I32 b :=
  ⟨BitVec.ofNat 32 n.toNat, by unfold I32; simp; omega⟩
theorem I32_shr (a : BitVec 32) (k : Nat) : I32 a / 2 ^ k = I32 (a >>> k) := by
  unfold I32; simp [BitVec.toNat_ushiftRight, Nat.shiftRight_eq_div_pow]
theorem I8_shr (a : BitVec 8) (k : Nat) : I8 a / 2 ^ k = I8 (a >>> k) := by
  unfold I8; simp [BitVec.toNat_ushiftRight, Nat.shiftRight_eq_div_pow]
theorem I8_bit (s : Nat) : (2 : Int) ^ s % 256 = I8 (1#8 <<< s) := by
  unfold I8; simp [BitVec.toNat_shiftLeft, Nat.shiftLeft_eq]
theorem I32_d2 (a : BitVec 32) : I32 a / 2 = I32 (a >>> 1) := I32_shr a 1
theorem I32_d256 (a : BitVec 32) : I32 a / 256 = I32 (a >>> 8) := I32_shr a 8
theorem I32_d65536 (a : BitVec 32) : I32 a / 65536 = I32 (a >>> 16) := I32_shr a 16
theorem I32_d16777216 (a : BitVec 32) : I32 a / 16777216 = I32 (a >>> 24) := I32_shr a 24
theorem I32_t (a : BitVec 32) (k : Int) : (I32 a).tdiv k = I32 a / k := Int.tdiv_eq_ediv_of_nonneg (I32_0 a)
theorem I32_tm (a : BitVec 32) (k : Int) : (I32 a).tmod k = I32 a % k := Int.tmod_eq_emod_of_nonneg (I32_0 a)
theorem I32_m32 (a : BitVec 32) : I32 a % 4294967296 = I32 a := by have := a.isLt; unfold I32; omega
theorem I32_t2 (a : BitVec 32) : (I32 a).tdiv 2 = I32 (a >>> 1) := by rw [I32_t]; exact I32_d2 a
theorem I32_t256 (a : BitVec 32) : (I32 a).tdiv 256 = I32 (a >>> 8) := by rw [I32_t]; exact I32_d256 a
theorem I32_t65536 (a : BitVec 32) : (I32 a).tdiv 65536 = I32 (a >>> 16) := by rw [I32_t]; exact I32_d65536 a
theorem I32_t16777216 (a : BitVec 32) : (I32 a).tdiv 16777216 = I32 (a >>> 24) := by rw [I32_t]; exact I32_d16777216 a
theorem I32_m2 (a : BitVec 32) : I32 a % 2 = I32 (a &&& 1#32) := by
  unfold I32; rw [BitVec.toNat_and]; simp
theorem I8_m256 (a : BitVec 8) : I8 a % 256 = I8 a := by have := a.isLt; unfold I8; omega
theorem I32_not (a : BitVec 32) : 4294967295 - I32 a = I32 (~~~ a) := by
  have := a.isLt; unfold I32; rw [BitVec.toNat_not]; omega
theorem I32_one_ne (a b : BitVec 32) : (I32 (a &&& 1#32) != I32 (b &&& 1#32)) = (a.getLsbD 0 != b.getLsbD 0) := by
  have h : ∀ x : BitVec 32, x &&& 1#32 = if x.getLsbD 0 then 1#32 else 0#32 := by
    intro x
    apply BitVec.eq_of_getLsbD_eq; intro j hj
    rcases j with _ | j
    · cases h : x.getLsbD 0
      · rw [BitVec.getLsbD_and, h]; simp
      · rw [BitVec.getLsbD_and, h]; simp
    · cases h : x.getLsbD 0 <;> simp
  rw [h a, h b]
  cases a.getLsbD 0 <;> cases b.getLsbD 0 <;> decide +kernel
def B8 (b : BitVec 8) : Value := .int .u8 (I8 b)
def B32 (b : BitVec 32) : Value := .int .u32 (I32 b)

/-- The cells from an address on (if there is one at all) hold these values. -/
def Rd (w : World) (a : Option Addr) (xs : List Value) : Prop := ∀ i (h : i < xs.length), ∃ b o, a = some ⟨b, o, none⟩ ∧ w.cell? ⟨b, o + i, none⟩ = some xs[i]
end Go.Proofs.Ytacglcpjbepfnaa
