/- The sum is linear: what a few turned bits do to it. No program in sight. -/
import Derived.Test.YtlinhcbjljcgbaaDoorBits
namespace Go.Proofs.YtlinhcbjljcgbaaDoor

def tabL : List (BitVec 32) := [0#32, 498536548#32, 997073096#32, 651767980#32, 1994146192#32, 1802195444#32, 1303535960#32, 1342533948#32, 3988292384#32, 4027552580#32, 3604390888#32, 3412177804#32, 2607071920#32, 2262029012#32, 2685067896#32, 3183342108#32]
def tab (i : BitVec 32) : BitVec 32 := tabL.getD (i &&& 15#32).toNat 0
def nib (n x : BitVec 32) : BitVec 32 := (n >>> 4) ^^^ tab (n ^^^ x)
def stepB (n : BitVec 32) (c : BitVec 8) : BitVec 32 := nib (nib n (c.setWidth 32)) ((c >>> 4).setWidth 32)
def more (s : BitVec 32) (l : List (BitVec 8)) : BitVec 32 := ~~~ (l.foldl stepB (~~~ s))
def sumOf (l : List (BitVec 8)) : BitVec 32 := more 0#32 l
def four (n : BitVec 32) : List (BitVec 8) := [n.setWidth 8, (n >>> 8).setWidth 8, (n >>> 16).setWidth 8, (n >>> 24).setWidth 8]
def endsOf (zs : List (BitVec 8)) : Bool := decide (4 ≤ zs.length ∧ zs.drop (zs.length - 4) = four (sumOf (zs.take (zs.length - 4))))

/-- One bit's step. -/
def T (n : BitVec 32) : BitVec 32 := (n >>> 1) ^^^ (if n.getLsbD 0 then 3988292384#32 else 0#32)
def Ts : Nat → BitVec 32 → BitVec 32
  | 0, n => n
  | k + 1, n => Ts k (T n)
theorem Ts_add (j k : Nat) (n : BitVec 32) : Ts (j + k) n = Ts j (Ts k n) := by
  induction k generalizing n with
  | zero => rfl
  | succ k ih => rw [← Nat.add_assoc]; exact ih (T n)
theorem xor_swap (a b c d : BitVec 32) : (a ^^^ b) ^^^ (c ^^^ d) = (a ^^^ c) ^^^ (b ^^^ d) := by
  ext i; simp; cases a[i] <;> cases b[i] <;> cases c[i] <;> cases d[i] <;> rfl
theorem T_xor (a b : BitVec 32) : T (a ^^^ b) = T a ^^^ T b := by
  unfold T
  rw [BitVec.ushiftRight_xor_distrib, BitVec.getLsbD_xor, xor_swap]
  congr 1
  cases a.getLsbD 0 <;> cases b.getLsbD 0 <;> decide
theorem T_0 : T 0#32 = 0#32 := by decide
theorem T_inj0 {a : BitVec 32} (h : T a = 0#32) : a = 0#32 := by
  have h31 := congrArg (fun x => x.getLsbD 31) h
  unfold T at h31 h
  cases ha : a.getLsbD 0 with
  | true =>
    rw [ha] at h31
    simp only [BitVec.getLsbD_xor, BitVec.getLsbD_ushiftRight] at h31
    rw [BitVec.getLsbD_of_ge a (1 + 31) (by decide)] at h31
    exact absurd h31 (by decide)
  | false =>
    rw [ha] at h
    simp only [Bool.false_eq_true, if_false, BitVec.xor_zero] at h
    apply BitVec.eq_of_getLsbD_eq
    intro i hi
    rcases i with _ | i
    · rw [ha]; rfl
    · have := congrArg (fun x => x.getLsbD i) h
      simp only [BitVec.getLsbD_ushiftRight] at this
      rw [Nat.add_comm] at this
      rw [this]; simp
theorem Ts_xor : ∀ (k : Nat) (a b : BitVec 32), Ts k (a ^^^ b) = Ts k a ^^^ Ts k b
  | 0, _, _ => rfl
  | k + 1, a, b => by simp only [Ts]; rw [T_xor, Ts_xor k]
theorem Ts_0 : ∀ k : Nat, Ts k 0#32 = 0#32
  | 0 => rfl
  | k + 1 => by simp only [Ts]; rw [T_0, Ts_0 k]
theorem Ts_inj0 : ∀ (k : Nat) {a : BitVec 32}, Ts k a = 0#32 → a = 0#32
  | 0, _, h => h
  | k + 1, _, h => T_inj0 (Ts_inj0 k h)
theorem xor_eq_zero {a b : BitVec 32} : a ^^^ b = 0#32 ↔ a = b := by
  constructor
  · intro h
    have : (a ^^^ b) ^^^ b = 0#32 ^^^ b := by rw [h]
    rwa [BitVec.xor_assoc, BitVec.xor_self, BitVec.xor_zero, BitVec.zero_xor] at this
  · rintro rfl; exact BitVec.xor_self
theorem Ts_inj (k : Nat) {a b : BitVec 32} (h : Ts k a = Ts k b) : a = b := by
  apply xor_eq_zero.1
  apply Ts_inj0 k
  rw [Ts_xor, h]; exact BitVec.xor_self

/-- Where the low bits are clear the steps only shift. -/
theorem Ts_shift : ∀ (k : Nat) (z : BitVec 32), (∀ i, i < k → z.getLsbD i = false) → Ts k z = z >>> k
  | 0, z, _ => by simp [Ts]
  | k + 1, z, h => by
    have e : T z = z >>> 1 := by unfold T; rw [h 0 (by omega)]; simp
    simp only [Ts]
    rw [e, Ts_shift k]
    · rw [← BitVec.shiftRight_add, Nat.add_comm]
    · intro i hi
      rw [BitVec.getLsbD_ushiftRight]
      exact h _ (by omega)
theorem Ts_low (k : Nat) (m : BitVec 32) (mask : BitVec 32) (hm : ∀ i, i < k → mask.getLsbD i = true) (hm2 : (mask >>> k) = 0#32) : Ts k m = (m >>> k) ^^^ Ts k (m &&& mask) := by
  have e : m = (m ^^^ (m &&& mask)) ^^^ (m &&& mask) := by rw [BitVec.xor_assoc, BitVec.xor_self, BitVec.xor_zero]
  conv => lhs; rw [e]
  rw [Ts_xor, Ts_shift k (m ^^^ (m &&& mask))]
  · congr 1
    rw [BitVec.ushiftRight_xor_distrib, BitVec.ushiftRight_and_distrib, hm2]
    simp
  · intro i hi
    simp [hm i hi]
theorem tab_T (m : BitVec 32) : Ts 4 m = (m >>> 4) ^^^ tab m := by
  rw [Ts_low 4 m 15#32 (by decide) (by decide)]
  congr 1
  have h : ∀ j : Fin 16, Ts 4 (BitVec.ofNat 32 j.val) = tabL.getD j.val 0 := by decide +kernel
  have hlt : (m &&& 15#32).toNat < 16 := by
    have : (m &&& 15#32).toNat ≤ 15 := by rw [BitVec.toNat_and]; exact Nat.and_le_right
    omega
  have := h ⟨(m &&& 15#32).toNat, hlt⟩
  simp only [BitVec.ofNat_toNat, BitVec.setWidth_eq] at this
  exact this
theorem nib_T (n x : BitVec 32) : nib n x = Ts 4 (n ^^^ x) ^^^ (x >>> 4) := by
  rw [tab_T]; unfold nib
  rw [BitVec.ushiftRight_xor_distrib, BitVec.xor_assoc, BitVec.xor_assoc, BitVec.xor_comm (tab _), ← BitVec.xor_assoc (x >>> 4), BitVec.xor_self, BitVec.zero_xor]
theorem xor_cancel (a b : BitVec 32) : (a ^^^ b) ^^^ b = a := by rw [BitVec.xor_assoc, BitVec.xor_self, BitVec.xor_zero]
theorem stepB_T (n : BitVec 32) (c : BitVec 8) : stepB n c = Ts 8 (n ^^^ c.setWidth 32) := by
  unfold stepB
  have e : (c >>> 4).setWidth 32 = (c.setWidth 32) >>> 4 := by
    apply BitVec.eq_of_toNat_eq; simp
  have e0 : (c.setWidth 32) >>> 4 >>> 4 = 0#32 := by
    apply BitVec.eq_of_toNat_eq
    have := c.isLt
    simp [Nat.shiftRight_eq_div_pow]
    omega
  rw [e, nib_T, e0, BitVec.xor_zero, nib_T, xor_cancel]
  exact (Ts_add 4 4 _).symm
theorem foldl_xor : ∀ (l : List (BitVec 8)) (a b : BitVec 32), l.foldl stepB (a ^^^ b) = l.foldl stepB a ^^^ Ts (8 * l.length) b
  | [], _, _ => rfl
  | c :: l, a, b => by
    simp only [List.foldl_cons, List.length_cons]
    have e : stepB (a ^^^ b) c = stepB a c ^^^ Ts 8 b := by
      rw [stepB_T, stepB_T, ← Ts_xor]; congr 1
      rw [BitVec.xor_assoc, BitVec.xor_comm b, ← BitVec.xor_assoc]
    rw [e, foldl_xor l, ← Ts_add]; rfl
/-- What comes of four bytes more. -/
theorem stepB_low (n x : BitVec 32) : stepB n (x.setWidth 8) = Ts 8 (n ^^^ x) ^^^ (x >>> 8) := by
  rw [stepB_T, Ts_xor, Ts_xor]
  rw [BitVec.xor_assoc]; congr 1
  have e : (x.setWidth 8).setWidth 32 = x &&& 255#32 := by
    apply BitVec.eq_of_toNat_eq
    have := x.isLt
    simp [BitVec.toNat_and, BitVec.toNat_setWidth]
    rw [show 255 = 2 ^ 8 - 1 from rfl, Nat.and_two_pow_sub_one_eq_mod]
    omega
  rw [e, Ts_low 8 x 255#32 (by decide) (by decide), BitVec.xor_comm (x >>> 8), xor_cancel]
theorem foldl_four (r x : BitVec 32) : (four x).foldl stepB r = Ts 32 (r ^^^ x) := by
  simp only [four, List.foldl_cons, List.foldl_nil]
  have e2 : x >>> 16 = (x >>> 8) >>> 8 := by rw [← BitVec.shiftRight_add]
  have e3 : x >>> 24 = (x >>> 8) >>> 8 >>> 8 := by rw [← BitVec.shiftRight_add, ← BitVec.shiftRight_add]
  have e4 : x >>> 8 >>> 8 >>> 8 >>> 8 = 0#32 := by
    rw [← BitVec.shiftRight_add, ← BitVec.shiftRight_add, ← BitVec.shiftRight_add]
    apply BitVec.eq_of_toNat_eq
    have := x.isLt
    simp [Nat.shiftRight_eq_div_pow]; omega
  rw [e2, e3, stepB_low r x, stepB_low _ (x >>> 8), xor_cancel, stepB_low _ (x >>> 8 >>> 8), xor_cancel, stepB_low _ (x >>> 8 >>> 8 >>> 8), xor_cancel, e4, BitVec.xor_zero, ← Ts_add, ← Ts_add, ← Ts_add]
theorem four_inj {a b : BitVec 32} (h : four a = four b) : a = b := by
  have h1 := foldl_four 0#32 a
  rw [h, foldl_four] at h1
  have := Ts_inj 32 h1
  rw [BitVec.zero_xor, BitVec.zero_xor] at this
  exact this.symm
theorem four_surj (l : List (BitVec 8)) (h : l.length = 4) : ∃ x, l = four x := by
  match l, h with
  | [a, b, c, d], _ =>
    have ha := a.isLt
    have hb := b.isLt
    have hc := c.isLt
    have hd := d.isLt
    refine ⟨BitVec.ofNat 32 (a.toNat + 256 * b.toNat + 65536 * c.toNat + 16777216 * d.toNat), ?_⟩
    unfold four
    have e (k : Nat) (y : BitVec 8) (h : (a.toNat + 256 * b.toNat + 65536 * c.toNat + 16777216 * d.toNat) / 2 ^ k % 256 = y.toNat) : y = (BitVec.ofNat 32 (a.toNat + 256 * b.toNat + 65536 * c.toNat + 16777216 * d.toNat) >>> k).setWidth 8 := by
      apply BitVec.eq_of_toNat_eq
      rw [BitVec.toNat_setWidth, BitVec.toNat_ushiftRight, BitVec.toNat_ofNat, Nat.mod_eq_of_lt (a := a.toNat + 256 * b.toNat + 65536 * c.toNat + 16777216 * d.toNat) (by omega), Nat.shiftRight_eq_div_pow, ← h]
    have e0 := e 0 a (by omega)
    rw [BitVec.ushiftRight_zero] at e0
    rw [← e0, ← e 8 b (by omega), ← e 16 c (by omega), ← e 24 d (by omega)]
theorem xor_not (r : BitVec 32) : r ^^^ ~~~ r = ~~~ 0#32 := by
  rw [← BitVec.xor_allOnes, ← BitVec.xor_assoc, BitVec.xor_self]; decide
def reg (l : List (BitVec 8)) : BitVec 32 := l.foldl stepB (~~~ 0#32)
theorem ends_iff (zs : List (BitVec 8)) (h : 4 ≤ zs.length) : endsOf zs = true ↔ reg zs = Ts 32 (~~~ 0#32) := by
  unfold endsOf
  rw [decide_eq_true_iff]
  obtain ⟨x, hx⟩ := four_surj (zs.drop (zs.length - 4)) (by simp; omega)
  have e : reg zs = Ts 32 ((zs.take (zs.length - 4)).foldl stepB (~~~ 0#32) ^^^ x) := by
    unfold reg
    conv => lhs; rw [← List.take_append_drop (zs.length - 4) zs, List.foldl_append, hx]
    exact foldl_four _ _
  rw [e, hx]
  generalize hr : (zs.take (zs.length - 4)).foldl stepB (~~~ 0#32) = r
  have es : sumOf (zs.take (zs.length - 4)) = ~~~ r := by unfold sumOf more; rw [hr]
  rw [es]
  constructor
  · rintro ⟨_, h4⟩
    rw [four_inj h4, xor_not]
  · intro h4
    refine ⟨h, ?_⟩
    have h1 := Ts_inj 32 h4
    rw [← xor_not r] at h1
    have h2 : r ^^^ (r ^^^ x) = r ^^^ (r ^^^ ~~~ r) := by rw [h1]
    rw [← BitVec.xor_assoc, ← BitVec.xor_assoc, BitVec.xor_self, BitVec.zero_xor, BitVec.zero_xor] at h2
    rw [h2]
/-- One bit turned. -/
def flipAt (p : List (BitVec 8)) (k : Nat) : List (BitVec 8) := p.set (k / 8) (p.getD (k / 8) 0 ^^^ (1#8 <<< (k % 8)))
theorem one_shift (s N : Nat) (hs : s < 32) (hN : s ≤ N) : Ts N (1#32 <<< s) = Ts (N - s) 1#32 := by
  have e : N = (N - s) + s := by omega
  conv => lhs; rw [e, Ts_add]
  congr 1
  rw [Ts_shift]
  · apply BitVec.eq_of_getLsbD_eq
    intro i hi
    simp [BitVec.getLsbD_ushiftRight, BitVec.getLsbD_shiftLeft]
    rcases i with _ | i
    · simp [hs]
    · simp
  · intro i hi
    simp [BitVec.getLsbD_shiftLeft, hi]
theorem reg_flip (p : List (BitVec 8)) (k : Nat) (hk : k < 8 * p.length) : reg (flipAt p k) = reg p ^^^ Ts (8 * p.length - k) 1#32 := by
  have hj : k / 8 < p.length := by omega
  have e : p = p.take (k / 8) ++ p[k / 8] :: p.drop (k / 8 + 1) := by simp
  have e2 : flipAt p k = p.take (k / 8) ++ (p[k / 8] ^^^ (1#8 <<< (k % 8))) :: p.drop (k / 8 + 1) := by
    unfold flipAt
    rw [List.set_eq_take_append_cons_drop, if_pos hj, List.getD_eq_getElem?_getD, List.getElem?_eq_getElem hj]; rfl
  unfold reg
  rw [e2]
  conv => rhs; rw [e]
  simp only [List.foldl_append, List.foldl_cons]
  generalize (p.take (k / 8)).foldl stepB (~~~ 0#32) = r
  have hs : stepB r (p[k / 8] ^^^ (1#8 <<< (k % 8))) = stepB r p[k / 8] ^^^ Ts (8 - k % 8) 1#32 := by
    rw [stepB_T, stepB_T, BitVec.setWidth_xor, ← BitVec.xor_assoc, Ts_xor]
    congr 1
    rw [← one_shift (k % 8) 8 (by omega) (by omega)]
    congr 1
    apply BitVec.eq_of_getLsbD_eq
    intro i hi
    simp only [BitVec.getLsbD_setWidth, BitVec.getLsbD_shiftLeft, hi]
    by_cases h8 : i < 8
    · simp [h8]
    · simp [h8]; omega
  rw [hs, foldl_xor, ← Ts_add]
  congr 2
  simp
  omega
/-- Bits turned, one behind the other, as the mask says. -/
def flips (p : List (BitVec 8)) (bits : BitVec 32) (first : Nat) : Nat → List (BitVec 8)
  | 0 => p
  | i + 1 => if bits.getLsbD i then flipAt (flips p bits first i) (first + i) else flips p bits first i
theorem flips_length (p : List (BitVec 8)) (bits : BitVec 32) (first : Nat) : ∀ i, (flips p bits first i).length = p.length
  | 0 => rfl
  | i + 1 => by unfold flips; split <;> simp [flipAt, flips_length p bits first i]
theorem low_succ (bits : BitVec 32) (i : Nat) (hi : i < 32) : bits &&& (BitVec.ofNat 32 (2 ^ (i + 1) - 1)) = (bits &&& (BitVec.ofNat 32 (2 ^ i - 1))) ^^^ (if bits.getLsbD i then 1#32 <<< i else 0#32) := by
  apply BitVec.eq_of_getLsbD_eq
  intro j hj
  have e : ∀ n, (BitVec.ofNat 32 (2 ^ n - 1)).getLsbD j = decide (j < n) := by
    intro n; rw [BitVec.getLsbD_ofNat, Nat.testBit_two_pow_sub_one]; simp [hj]
  rw [BitVec.getLsbD_and, e, BitVec.getLsbD_xor, BitVec.getLsbD_and, e]
  by_cases h : j = i
  · subst h
    cases hb : bits.getLsbD j <;> simp [hj]
  · have e2 : (1#32 <<< i).getLsbD j = false := by
      simp [BitVec.getLsbD_shiftLeft]; omega
    have e3 : decide (j < i + 1) = decide (j < i) := by
      by_cases h2 : j < i <;> simp [h2] <;> omega
    rw [e3]
    cases bits.getLsbD i <;> simp [e2]
theorem reg_flips (p : List (BitVec 8)) (bits : BitVec 32) (first : Nat) (h : first + 32 ≤ 8 * p.length) : ∀ i, i ≤ 32 →
    reg (flips p bits first i) = reg p ^^^ Ts (8 * p.length - first) (bits &&& BitVec.ofNat 32 (2 ^ i - 1))
  | 0, _ => by simp [flips, Ts_0]
  | i + 1, hi => by
    rw [low_succ bits i (by omega), Ts_xor, ← BitVec.xor_assoc, ← reg_flips p bits first h i (by omega)]
    show reg (if bits.getLsbD i then flipAt (flips p bits first i) (first + i) else flips p bits first i) = _
    split
    · rw [reg_flip _ _ (by rw [flips_length]; omega), flips_length]
      congr 1
      rw [one_shift i _ (by omega) (by omega)]
      congr 1; omega
    · rw [Ts_0, BitVec.xor_zero]
/-- The stage's theorem. -/
theorem burst (p : List (BitVec 8)) (bits : BitVec 32) (first : Nat) (h4 : 4 ≤ p.length) (hp : endsOf p = true) (h : first + 32 ≤ 8 * p.length) : endsOf (flips p bits first 32) = decide (bits = 0#32) := by
  have hr := reg_flips p bits first h 32 (Nat.le_refl _)
  have e : bits &&& BitVec.ofNat 32 (2 ^ 32 - 1) = bits := by
    apply BitVec.eq_of_getLsbD_eq; intro i hi
    rw [BitVec.getLsbD_and, BitVec.getLsbD_ofNat, Nat.testBit_two_pow_sub_one]; simp [hi]
  rw [e, (ends_iff p h4).1 hp] at hr
  rw [Bool.eq_iff_iff, ends_iff _ (by rw [flips_length]; exact h4), decide_eq_true_iff, hr]
  constructor
  · intro h5
    apply Ts_inj0 (8 * p.length - first)
    have h6 : Ts 32 (~~~ 0#32) ^^^ (Ts 32 (~~~ 0#32) ^^^ Ts (8 * p.length - first) bits) = Ts 32 (~~~ 0#32) ^^^ Ts 32 (~~~ 0#32) := by rw [h5]
    rwa [← BitVec.xor_assoc, BitVec.xor_self, BitVec.zero_xor] at h6
  · rintro rfl
    rw [Ts_0, BitVec.xor_zero]
theorem ends_put (zs : List (BitVec 8)) : endsOf (zs ++ four (sumOf zs)) = true := by
  unfold endsOf
  rw [decide_eq_true_iff]
  have hl : (zs ++ four (sumOf zs)).length = zs.length + 4 := by simp [four]
  rw [hl]
  refine ⟨by omega, ?_⟩
  simp

/-- Bit by bit: the state behind k bits of a byte. -/
def bitsOf (n : BitVec 32) (c : BitVec 8) (k : Nat) : BitVec 32 := Ts k (n ^^^ c.setWidth 32) ^^^ (c.setWidth 32 >>> k)
theorem bitsOf_0 (n : BitVec 32) (c : BitVec 8) : bitsOf n c 0 = n := by
  unfold bitsOf; simp only [Ts, BitVec.ushiftRight_zero, xor_cancel]
theorem bitsOf_8 (n : BitVec 32) (c : BitVec 8) : bitsOf n c 8 = stepB n c := by
  unfold bitsOf; rw [stepB_T]
  have e0 : (c.setWidth 32) >>> 8 = 0#32 := by
    apply BitVec.eq_of_toNat_eq
    have := c.isLt
    simp [Nat.shiftRight_eq_div_pow]
    omega
  rw [e0, BitVec.xor_zero]
theorem T_low (s d : BitVec 32) : T (s ^^^ d) ^^^ (d >>> 1) = (s >>> 1) ^^^ (if (s.getLsbD 0 != d.getLsbD 0) = true then 3988292384#32 else 0#32) := by
  unfold T
  rw [BitVec.ushiftRight_xor_distrib, BitVec.getLsbD_xor, BitVec.xor_assoc, BitVec.xor_assoc, BitVec.xor_comm _ (d >>> 1), ← BitVec.xor_assoc (d >>> 1), BitVec.xor_self, BitVec.zero_xor]
theorem bitsOf_succ (n : BitVec 32) (c : BitVec 8) (k : Nat) : bitsOf n c (k + 1) = ((bitsOf n c k) >>> 1) ^^^ (if ((bitsOf n c k).getLsbD 0 != ((c.setWidth 32) >>> k).getLsbD 0) = true then 3988292384#32 else 0#32) := by
  rw [← T_low]
  unfold bitsOf
  rw [xor_cancel, ← BitVec.shiftRight_add]
  congr 1
  rw [Nat.add_comm, Ts_add 1 k]; rfl
end Go.Proofs.YtlinhcbjljcgbaaDoor
