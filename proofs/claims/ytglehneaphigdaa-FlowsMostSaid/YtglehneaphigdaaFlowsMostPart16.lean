/- FlowsMost: part 16 of its proof: Flow5, Cut7, Reached7, Lives07p, Lives07, TwinF, LawGraphsPlay. -/
import Derived.Test.YtglehneaphigdaaFlowsMostPart15
/- Flows: who is reached, as bits; and what a set of parties lets out (plain). -/
namespace Go.Proofs.Ytglehneaphigdaa
open Go.RowKit
set_option linter.unusedSimpArgs false
set_option linter.unusedVariables false
def Closed (c : Caps) (T : Nat → Bool) : Prop := ∀ a b, 1 ≤ a → a ≤ 16 → 1 ≤ b → b ≤ 16 → T a = true → 0 < c a b → T b = true
theorem Closed.cut {c : Caps} (hg : GoodC c) {T : Nat → Bool} (h : Closed c T) : cutS c T = 0 := by
  refine sumN_zero _ fun a _ => sumN_zero _ fun b _ => ?_
  split
  · rename_i hs
    simp only [Bool.and_eq_true, Bool.not_eq_true'] at hs
    have hge := hg.ge a b
    by_cases hp : 0 < c a b
    · have h1 := mayP_true (hg.may a b hp).1
      have h2 := mayP_true (hg.may a b hp).2
      have := h a b (by omega) (by omega) (by omega) (by omega) hs.1 hp
      rw [hs.2] at this; cases this
    · omega
  · rfl
theorem sumN_at {g : Nat → Int} : ∀ k, (∀ i, i < k → 0 ≤ g i) → sumN k g = 0 → ∀ i, i < k → g i = 0
  | 0, _, _, i, hi => by omega
  | k + 1, e, h, i, hi => by
    rw [sumN] at h
    have h1 := sumN_nonneg k (fun i hi => e i (by omega))
    have h2 := e k (by omega)
    by_cases e2 : i = k
    · subst e2; omega
    · exact sumN_at k (fun i hi => e i (by omega)) (by omega) i (by omega)
theorem Closed.of_cut {c : Caps} (hg : GoodC c) {T : Nat → Bool} (h : cutS c T = 0) : Closed c T := by
  intro a b h1 h2 h3 h4 ha hp
  have r := sumN_at 17 (fun a _ => sumN_nonneg 17 fun b _ => by split <;> first | exact hg.ge _ _ | exact Int.le_refl _) h a (by omega)
  have r2 := sumN_at 17 (fun b _ => by split <;> first | exact hg.ge _ _ | exact Int.le_refl _) r b (by omega)
  cases hb : T b
  · simp only [ha, hb] at r2
    simp at r2
    omega
  · rfl
def cnt (S : Nat → Bool) : Nat := (List.range 17).countP S
theorem countS_lt {S T : Nat → Bool} (h : ∀ p, S p = true → T p = true) : ∀ (L : List Nat), (∃ p ∈ L, T p = true ∧ S p = false) → L.countP S < L.countP T
  | [], ⟨p, hp, _⟩ => by cases hp
  | x :: L, ⟨p, hp, h1, h2⟩ => by
    have hle : L.countP S ≤ L.countP T := List.countP_mono_left fun x _ hx => h x hx
    rw [List.countP_cons, List.countP_cons]
    rcases List.mem_cons.1 hp with rfl | hp
    · rw [h1, h2]; simp; omega
    · have := countS_lt h L ⟨p, hp, h1, h2⟩
      cases hx : S x
      · simp; split <;> omega
      · rw [h x hx]; simp; omega
theorem cnt_le {S : Nat → Bool} (h0 : S 0 = false) : cnt S ≤ 16 := by
  unfold cnt
  rw [List.range_succ_eq_map, List.countP_cons, h0]
  simp only [Bool.false_eq_true, if_false, Nat.add_zero]
  have := List.countP_le_length (p := S) (l := (List.range 16).map Nat.succ)
  simpa using this
theorem getL_or (M : BitVec 32) (b p : Nat) (hb : b < 32) : (M ||| (1#32 <<< b)).getLsbD p = (M.getLsbD p || decide (p = b)) := by
  rw [BitVec.getLsbD_or, BitVec.getLsbD_shiftLeft]
  congr 1
  by_cases h : p = b
  · subst h; simp [hb]
  · simp only [h, decide_false]
    by_cases h2 : p < b
    · simp [h2]
    · have : p - b ≠ 0 := by omega
      simp [BitVec.getLsbD_one, this]
structure RchIn (c : Caps) (M0 : BitVec 32) (a b : Nat) (M : BitVec 32) : Prop where
  up : ∀ p, M0.getLsbD p = true → M.getLsbD p = true
  snd : ∀ T : Nat → Bool, Closed c T → (∀ p, M0.getLsbD p = true → T p = true) → ∀ p, M.getLsbD p = true → T p = true
  did : ∀ x y, 1 ≤ x → x ≤ 16 → 1 ≤ y → y ≤ 16 → (x < a ∨ x = a ∧ y < b) → M0.getLsbD x = true → 0 < c x y → M.getLsbD y = true
theorem RchIn.start (c : Caps) (M : BitVec 32) : RchIn c M 1 1 M := ⟨fun _ h => h, fun _ _ h => h, fun x y h1 _ h2 _ h => by omega⟩
theorem RchIn.row {c : Caps} {M0 M : BitVec 32} {a : Nat} (h : RchIn c M0 a 17 M) : RchIn c M0 (a + 1) 1 M := ⟨h.up, h.snd, fun x y h1 h2 h3 h4 h5 => h.did x y h1 h2 h3 h4 (by omega)⟩
theorem RchIn.yes {c : Caps} {M0 M : BitVec 32} {a b : Nat} (h : RchIn c M0 a b M) (ha : 1 ≤ a) (ha2 : a ≤ 16) (hb : 1 ≤ b) (hb2 : b ≤ 16) (h1 : M.getLsbD a = true) (h2 : 0 < c a b) : RchIn c M0 a (b + 1) (M ||| (1#32 <<< b)) := by
  refine ⟨fun p hp => ?_, fun T hT hs p hp => ?_, fun x y k1 k2 k3 k4 k5 k6 k7 => ?_⟩
  · rw [getL_or _ _ _ (by omega), h.up p hp]; rfl
  · rw [getL_or _ _ _ (by omega)] at hp
    cases hm : M.getLsbD p
    · rw [hm] at hp
      simp at hp
      subst hp
      exact hT a p ha ha2 hb hb2 (h.snd T hT hs a h1) h2
    · exact h.snd T hT hs p hm
  · rw [getL_or _ _ _ (by omega)]
    by_cases e : x = a ∧ y = b
    · simp [e.2]
    · rw [h.did x y k1 k2 k3 k4 (by omega) k6 k7]; rfl
theorem RchIn.no {c : Caps} {M0 M : BitVec 32} {a b : Nat} (h : RchIn c M0 a b M) (h1 : ¬ (M.getLsbD a = true ∧ 0 < c a b)) : RchIn c M0 a (b + 1) M := by
  refine ⟨h.up, h.snd, fun x y k1 k2 k3 k4 k5 k6 k7 => ?_⟩
  by_cases e : x = a ∧ y = b
  · obtain ⟨rfl, rfl⟩ := e
    exact absurd ⟨h.up x k6, k7⟩ h1
  · exact h.did x y k1 k2 k3 k4 (by omega) k6 k7
structure Rch (c : Caps) (f n : Nat) (M : BitVec 32) : Prop where
  has : M.getLsbD f = true
  snd : ∀ T : Nat → Bool, Closed c T → T f = true → ∀ p, M.getLsbD p = true → T p = true
  grow : Closed c M.getLsbD ∨ n + 1 ≤ cnt M.getLsbD
theorem Rch.start (c : Caps) {f : Nat} (h1 : 1 ≤ f) (h2 : f ≤ 16) : Rch c f 0 (1#32 <<< f) := by
  have e : ∀ p, (1#32 <<< f).getLsbD p = decide (p = f) := fun p => by
    have := getL_or 0#32 f p (by omega)
    simpa using this
  refine ⟨by rw [e]; simp, fun T _ hT p hp => by rw [e] at hp; simp at hp; rw [hp]; exact hT, .inr ?_⟩
  unfold cnt
  have : 0 < (List.range 17).countP (1#32 <<< f).getLsbD := List.countP_pos_iff.2 ⟨f, List.mem_range.2 (by omega), by rw [e]; simp⟩
  omega
theorem Rch.next {c : Caps} {f n : Nat} {M0 M : BitVec 32} (h : Rch c f n M0) (g : RchIn c M0 17 1 M) : Rch c f (n + 1) M := by
  refine ⟨g.up _ h.has, fun T hT hf p hp => g.snd T hT (h.snd T hT hf) p hp, ?_⟩
  by_cases hc : Closed c M0.getLsbD
  · left
    have : M = M0 := by
      refine BitVec.eq_of_getLsbD_eq fun i hi => ?_
      cases e : M0.getLsbD i
      · cases e2 : M.getLsbD i
        · rfl
        · have := g.snd M0.getLsbD hc (fun _ h => h) i e2
          rw [e] at this; cases this
      · exact g.up i e
    rw [this]; exact hc
  · right
    have hn := h.grow.resolve_left hc
    unfold Closed at hc
    have hx : ∃ a b, 1 ≤ a ∧ a ≤ 16 ∧ 1 ≤ b ∧ b ≤ 16 ∧ M0.getLsbD a = true ∧ 0 < c a b ∧ M0.getLsbD b = false := by
      apply Classical.byContradiction
      intro hno
      refine hc fun a b h1 h2 h3 h4 h5 h6 => ?_
      cases e : M0.getLsbD b
      · exact absurd ⟨a, b, h1, h2, h3, h4, h5, h6, e⟩ hno
      · rfl
    obtain ⟨a, b, h1, h2, h3, h4, h5, h6, h7⟩ := hx
    have h8 := g.did a b h1 h2 h3 h4 (.inl (by omega)) h5 h6
    have := countS_lt g.up (List.range 17) ⟨b, List.mem_range.2 (by omega), h8, h7⟩
    unfold cnt at *
    omega
theorem Rch.fin {c : Caps} {f : Nat} {M : BitVec 32} (hg : GoodC c) (h1 : 1 ≤ f) (h : Rch c f 16 M) : Closed c M.getLsbD := by
  rcases h.grow with h2 | h2
  · exact h2
  · have h0 : M.getLsbD 0 = false := by
      cases e : M.getLsbD 0
      · rfl
      · have := h.snd (fun p => decide (1 ≤ p)) (fun a b _ _ h3 _ _ _ => by simpa using h3) (by simpa using h1) 0 e
        simp at this
    have := cnt_le h0
    omega
/-- Who is not reached is not among them. -/
theorem Rch.far {c : Caps} {f t : Nat} {M : BitVec 32} (hg : GoodC c) (hf : mayP f = true) (ht : mayP t = true) (hne : f ≠ t) (h : Rch c f 16 M) (hs : IsShort c f t []) : M.getLsbD t = false := by
  obtain ⟨S, s1, s2, s3⟩ := hs.cut hg hf ht hne
  cases e : M.getLsbD t
  · rfl
  · have := h.snd S (Closed.of_cut hg s3) s1 t e
    rw [s2] at this; cases this
end Go.Proofs.Ytglehneaphigdaa

/- countinghouselaw07.Cut and Reached: what they answer. -/
namespace Go.Proofs.Ytglehneaphigdaa
open Go.RowKit
attribute [local go_sem] Oper.semAt_some
set_option linter.unusedSimpArgs false
set_option linter.unusedVariables false
theorem bit_v (M : BitVec 32) (a : Nat) : bits .and .u32 (I32 M / 2 ^ a) 1 = if M.getLsbD a then 1 else 0 := by
  rw [I32_shr, bits32_and1, ← I32_m2]
  unfold I32
  rw [BitVec.toNat_ushiftRight]
  have : M.getLsbD a = (M.toNat.testBit a) := rfl
  rw [this, Nat.testBit_eq_decide_div_mod_eq, Nat.shiftRight_eq_div_pow]
  have h2 := Nat.mod_two_eq_zero_or_one (M.toNat / 2 ^ a)
  have h3 : ((M.toNat / 2 ^ a : Nat) : Int) % 2 = ((M.toNat / 2 ^ a % 2 : Nat) : Int) := by omega
  rw [h3]
  rcases h2 with h2 | h2
  · rw [h2]; rfl
  · rw [h2]; rfl
theorem bit_1 (M : BitVec 32) (a : Nat) : (bits .and .u32 (I32 M / 2 ^ a) 1 == 1) = M.getLsbD a := by
  rw [bit_v]
  cases M.getLsbD a <;> rfl
theorem bit_0 (M : BitVec 32) (a : Nat) : (bits .and .u32 (I32 M / 2 ^ a) 1 == 0) = !M.getLsbD a := by
  rw [bit_v]
  cases M.getLsbD a <;> rfl
def rowTo (c : Caps) (S : Nat → Bool) (a k : Nat) : Int := sumN k fun b => if S a && !S b then c a b else 0
def colTo (c : Caps) (S : Nat → Bool) (k : Nat) : Int := sumN k fun a => rowTo c S a 17
theorem cutS_col (c : Caps) (S : Nat → Bool) : cutS c S = colTo c S 17 := rfl
theorem sumN_mono {g : Nat → Int} (h : ∀ i, 0 ≤ g i) : ∀ {k m : Nat}, k ≤ m → sumN k g ≤ sumN m g
  | k, 0, e => by obtain rfl : k = 0 := by omega
                  exact Int.le_refl _
  | k, m + 1, e => by
    by_cases e2 : k = m + 1
    · subst e2; exact Int.le_refl _
    · have := sumN_mono h (k := k) (m := m) (by omega)
      have := h m
      rw [sumN]; omega
theorem rowTo_pos {c : Caps} (hg : GoodC c) (S : Nat → Bool) (a i : Nat) : (0 : Int) ≤ if S a && !S i then c a i else 0 := by split <;> first | exact hg.ge _ _ | exact Int.le_refl _
theorem cut_part {c : Caps} (h : PlayC c) (S : Nat → Bool) {a b : Nat} (ha : a < 17) (hb : b ≤ 17) : 0 ≤ colTo c S a + rowTo c S a b ∧ colTo c S a + rowTo c S a b ≤ 1271035441709056 := by
  have h1 := h.cutB S
  rw [cutS_col] at h1
  have p := fun a => sumN_nonneg 17 (fun i _ => rowTo_pos h.good S a i)
  have h2 : rowTo c S a b ≤ rowTo c S a 17 := sumN_mono (rowTo_pos h.good S a) hb
  have h3 : colTo c S (a + 1) ≤ colTo c S 17 := sumN_mono p (by omega)
  have h4 : colTo c S (a + 1) = colTo c S a + rowTo c S a 17 := rfl
  have h5 : 0 ≤ colTo c S a := sumN_nonneg _ fun i _ => p i
  have h6 : 0 ≤ rowTo c S a b := sumN_nonneg _ fun i _ => rowTo_pos h.good S a i
  omega
theorem good_zero {c : Caps} (hg : GoodC c) (a : Nat) : c 0 a = 0 ∧ c a 0 = 0 := by
  have h1 := hg.ge 0 a
  have h2 := hg.ge a 0
  refine ⟨?_, ?_⟩
  · by_cases e : 0 < c 0 a
    · have := mayP_true (hg.may 0 a e).1; omega
    · omega
  · by_cases e : 0 < c a 0
    · have := mayP_true (hg.may a 0 e).2; omega
    · omega
theorem col_one {c : Caps} (hg : GoodC c) (S : Nat → Bool) : colTo c S 1 = 0 := by
  have : rowTo c S 0 17 = 0 := sumN_zero _ fun b _ => by rw [(good_zero hg b).1]; split <;> rfl
  unfold colTo
  rw [sumN, this]; rfl
theorem row_one {c : Caps} (hg : GoodC c) (S : Nat → Bool) (a : Nat) : rowTo c S a 1 = 0 := by
  unfold rowTo
  rw [sumN, (good_zero hg a).2]
  split <;> rfl
structure CutL (W : World) (l : List Thing) (c : Caps) (S : Nat → Bool) (n a : Value) (wr : World) : Prop where
  out : ∃ k : Nat, a = .int .u8 (k : Int) ∧ 1 ≤ k ∧ k ≤ 17 ∧ n = .int .i64 (colTo c S k) ∧ Heap W l wr
structure CutIn (W : World) (l : List Thing) (c : Caps) (S : Nat → Bool) (a : Nat) (n b : Value) (wr : World) : Prop where
  out : ∃ k : Nat, b = .int .u8 (k : Int) ∧ 1 ≤ k ∧ k ≤ 17 ∧ n = .int .i64 (colTo c S a + rowTo c S a k) ∧ Heap W l wr
section
variable {W w : World} {l : List Thing} {p : Nat}
set_option maxRecDepth 100000
set_option maxHeartbeats 2000000
theorem cut_H (c : Caps) (M : BitVec 32) (most : Int) (hc : PlayC c) (m1 : Gr p c ∈ l) : AnsH W l 32 #[.pointer (some ⟨p, 0, none⟩), .int .u32 (I32 M), .int .i64 most] (.bool (decide (cutS c M.getLsbD ≤ most))) := by
  intro w H
  have C := fun (a b : Nat) (ha : a ≤ 255) (hb : b ≤ 255) => by
    have := cap_H (W := W) (l := l) (p := p) (c := c) a b ha hb m1
    rw [hc.good.capOf] at this
    exact this
  have HC := Lib.hid hc
  clear m1 hc
  go_enter Try.func32, Try.ntmps32
  go_wp2_with (go_skip)
  go_loopw [7, 8] (CutL W l c M.getLsbD) (fun _ i _ => 17 - (intOf i).toNat)
  case atStart => exact ⟨⟨1, rfl, by omega, by omega, by rw [col_one HC.out.good], H⟩⟩
  case round =>
    obtain ⟨a, rfl, ha1, ha17, rfl, H'⟩ := hrel.out
    clear H hrel
    have H := H'
    clear H'
    by_cases hlt : a < 17
    · have da : decide ((a : Int) < 17) = true := by simp; omega
      go_wp2_with (go_skip)
      go_loopw [7, 9] (CutIn W l c M.getLsbD a) (fun _ i _ => 17 - (intOf i).toNat)
      case atStart => exact ⟨⟨1, rfl, by omega, by omega, by rw [row_one HC.out.good, Int.add_zero], H⟩⟩
      case round =>
        obtain ⟨b, rfl, hb1, hb17, rfl, H'⟩ := hrel.out
        clear H hrel
        have H := H'
        clear H'
        by_cases hlb : b < 17
        · have s1 : Op.shift .shr .u32 (I32 M) .u8 (a : Int) = pure (.int .u32 (I32 (M >>> a))) := shr32 M .u8 a (by omega)
          have s2 : Op.shift .shr .u32 (I32 M) .u8 (b : Int) = pure (.int .u32 (I32 (M >>> b))) := shr32 M .u8 b (by omega)
          have t1 := bits32_and1 (M >>> a)
          have t2 := bits32_and1 (M >>> b)
          have e1 := bit_1 M a
          have e2 := bit_0 M b
          have hb := cut_part HC.out M.getLsbD (a := a) (b := b) hlt hb17
          have hs := cut_part HC.out M.getLsbD (a := a) (b := b + 1) hlt (by omega)
          have hr : rowTo c M.getLsbD a (b + 1) = rowTo c M.getLsbD a b + if M.getLsbD a && !M.getLsbD b then c a b else 0 := rfl
          have Cab := C a b (by omega) (by omega)
          by_cases hh : (M.getLsbD a && !M.getLsbD b) = true
          · rw [if_pos hh] at hr
            have hw : wrap64 (colTo c M.getLsbD a + rowTo c M.getLsbD a b + c a b) = colTo c M.getLsbD a + rowTo c M.getLsbD a (b + 1) := by rw [IntWalk.wrap64_in _ ⟨by omega, by omega⟩]; omega
            simp only [Bool.and_eq_true, Bool.not_eq_true'] at hh
            rw [hh.1] at e1
            rw [hh.2] at e2
            clear hb hs hr hh
            go_wp2_with (first | go_skip | ((with_reducible refine AnsH.call (by assumption) H ?_); clear H; intro _ H))
            refine ⟨?_, ?_⟩
            · exact ⟨⟨b + 1, by go_num, by omega, by omega, by rw [hw], H⟩⟩
            · simp [intOf]; omega
          · rw [if_neg hh, Int.add_zero] at hr
            cases h1 : M.getLsbD a
            · rw [h1] at e1
              clear hb hs hh
              go_wp2_with (first | go_skip | ((with_reducible refine AnsH.call (by assumption) H ?_); clear H; intro _ H))
              refine ⟨?_, ?_⟩
              · exact ⟨⟨b + 1, by go_num, by omega, by omega, by rw [hr], H⟩⟩
              · simp [intOf]; omega
            · have h2 : M.getLsbD b = true := by
                cases h2 : M.getLsbD b
                · rw [h1, h2] at hh; simp at hh
                · rfl
              rw [h1] at e1
              rw [h2] at e2
              clear hb hs hh
              go_wp2_with (first | go_skip | ((with_reducible refine AnsH.call (by assumption) H ?_); clear H; intro _ H))
              refine ⟨?_, ?_⟩
              · exact ⟨⟨b + 1, by go_num, by omega, by omega, by rw [hr], H⟩⟩
              · simp [intOf]; omega
        · obtain rfl : b = 17 := by omega
          go_wp2_with (go_skip)
          refine ⟨?_, ?_⟩
          · exact ⟨⟨a + 1, by go_num, by omega, by omega, rfl, H⟩⟩
          · simp [intOf]; omega
    · obtain rfl : a = 17 := by omega
      go_wp2_with (go_skip)
      go_ret
      exact ⟨rfl, H⟩
end
end Go.Proofs.Ytglehneaphigdaa

/- countinghouselaw07.Reached: what it answers. -/
namespace Go.Proofs.Ytglehneaphigdaa
open Go.RowKit
attribute [local go_sem] Oper.semAt_some
set_option linter.unusedSimpArgs false
set_option linter.unusedVariables false
structure RchL (W : World) (l : List Thing) (c : Caps) (f : Nat) (v i : Value) (wr : World) : Prop where
  out : ∃ (n : Nat) (M : BitVec 32), i = .int .i64 (n : Int) ∧ n ≤ 16 ∧ v = .int .u32 (I32 M) ∧ Rch c f n M ∧ Heap W l wr
structure RchA (W : World) (l : List Thing) (c : Caps) (M0 : BitVec 32) (v i : Value) (wr : World) : Prop where
  out : ∃ (a : Nat) (M : BitVec 32), i = .int .u8 (a : Int) ∧ 1 ≤ a ∧ a ≤ 17 ∧ v = .int .u32 (I32 M) ∧ RchIn c M0 a 1 M ∧ Heap W l wr
structure RchB (W : World) (l : List Thing) (c : Caps) (M0 : BitVec 32) (a : Nat) (v i : Value) (wr : World) : Prop where
  out : ∃ (b : Nat) (M : BitVec 32), i = .int .u8 (b : Int) ∧ 1 ≤ b ∧ b ≤ 17 ∧ v = .int .u32 (I32 M) ∧ RchIn c M0 a b M ∧ Heap W l wr
theorem I32_bit (s : Nat) : (2 : Int) ^ s % 4294967296 = I32 (1#32 <<< s) := by
  unfold I32; simp [BitVec.toNat_shiftLeft, Nat.shiftLeft_eq]
theorem bits32_or (a b : BitVec 32) : bits .or .u32 (I32 a) (I32 b) = I32 (a ||| b) := by
  have h : bits .or .u32 (I32 a) (I32 b) = IntKind.u32.wrap ((BitVec.ofInt 32 (I32 a) ||| BitVec.ofInt 32 (I32 b)).toNat : Int) := rfl
  rw [h, ofInt_I32, ofInt_I32, wrap_I32]
section
variable {W w : World} {l : List Thing} {p : Nat}
set_option maxRecDepth 100000
set_option maxHeartbeats 2000000
theorem reached_H (c : Caps) (f : Nat) (hf1 : 1 ≤ f) (hf : f ≤ 16) (hc : PlayC c) (m1 : Gr p c ∈ l) (H : Heap W l w) : Calls Try.prog 31 #[.pointer (some ⟨p, 0, none⟩), .int .u8 (f : Int)] w fun e w' => ∃ M : BitVec 32, e = .returned (.int .u32 (I32 M)) ∧ Rch c f 16 M ∧ Heap W l w' := by
  have C := fun (a b : Nat) (ha : a ≤ 255) (hb : b ≤ 255) => by
    have := cap_H (W := W) (l := l) (p := p) (c := c) a b ha hb m1
    rw [hc.good.capOf] at this
    exact this
  have HC := Lib.hid hc
  clear m1 hc
  go_enter Try.func31, Try.ntmps31
  go_wp2_with (go_skip)
  go_loopw [5, 6] (RchL W l c f) (fun _ i _ => 16 - (intOf i).toNat)
  case atStart =>
    refine ⟨⟨0, 1#32 <<< f, rfl, by omega, ?_, Rch.start c hf1 hf, H⟩⟩
    rw [Nat.mod_eq_of_lt (by omega : f < 32), I32_bit]
  case round =>
    obtain ⟨n, M0, rfl, hn, rfl, hR, H'⟩ := hrel.out
    clear H hrel
    have H := H'
    clear H'
    have HR := Lib.hid hR
    clear hR
    by_cases hlt : n < 16
    · have dn : decide ((n : Int) < 16) = true := by simp; omega
      go_wp2_with (go_skip)
      go_loopw [5, 7] (RchA W l c M0) (fun _ i _ => 17 - (intOf i).toNat)
      case atStart => exact ⟨⟨1, M0, rfl, by omega, by omega, rfl, RchIn.start c M0, H⟩⟩
      case round =>
        obtain ⟨a, Ma, rfl, ha1, ha17, rfl, hA, H'⟩ := hrel.out
        clear H hrel
        have H := H'
        clear H'
        have HA := Lib.hid hA
        clear hA
        by_cases hla : a < 17
        · have da : decide ((a : Int) < 17) = true := by simp; omega
          go_wp2_with (go_skip)
          go_loopw [5, 8] (RchB W l c M0 a) (fun _ i _ => 17 - (intOf i).toNat)
          case atStart => exact ⟨⟨1, Ma, rfl, by omega, by omega, rfl, HA.out, H⟩⟩
          case round =>
            obtain ⟨b, M, rfl, hb1, hb17, rfl, hB, H'⟩ := hrel.out
            clear H hrel
            have H := H'
            clear H'
            have HB := Lib.hid hB
            clear hB
            by_cases hlb : b < 17
            · have Cab := C a b (by omega) (by omega)
              have e1 := bit_1 M a
              cases h1 : M.getLsbD a
              · rw [h1] at e1
                go_wp2_with (first | go_skip | ((with_reducible refine AnsH.call (by assumption) H ?_); clear H; intro _ H))
                refine ⟨?_, ?_⟩
                · exact ⟨⟨b + 1, M, by go_num, by omega, by omega, rfl, HB.out.no (by rw [h1]; simp), H⟩⟩
                · simp [intOf]; omega
              · rw [h1] at e1
                by_cases hp : 0 < c a b
                · have f1 : decide (c a b > 0) = true := by simpa using hp
                  have f2 : decide (0 < c a b) = true := by simpa using hp
                  go_wp2_with (first | go_skip | ((with_reducible refine AnsH.call (by assumption) H ?_); clear H; intro _ H))
                  refine ⟨?_, ?_⟩
                  · exact ⟨⟨b + 1, _, by go_num, by omega, by omega, by rw [I32_bit, bits32_or], HB.out.yes ha1 (by omega) hb1 (by omega) h1 hp, H⟩⟩
                  · simp [intOf]; omega
                · have f1 : decide (c a b > 0) = false := by simpa using hp
                  have f2 : decide (0 < c a b) = false := by simpa using hp
                  go_wp2_with (first | go_skip | ((with_reducible refine AnsH.call (by assumption) H ?_); clear H; intro _ H))
                  refine ⟨?_, ?_⟩
                  · exact ⟨⟨b + 1, M, by go_num, by omega, by omega, rfl, HB.out.no (fun h => absurd h.2 (by omega)), H⟩⟩
                  · simp [intOf]; omega
            · obtain rfl : b = 17 := by omega
              go_wp2_with (go_skip)
              refine ⟨?_, ?_⟩
              · exact ⟨⟨a + 1, M, by go_num, by omega, by omega, rfl, HB.out.row, H⟩⟩
              · simp [intOf]; omega
        · obtain rfl : a = 17 := by omega
          go_wp2_with (go_skip)
          refine ⟨?_, ?_⟩
          · exact ⟨⟨n + 1, Ma, by go_num, by omega, rfl, HR.out.next HA.out, H⟩⟩
          · simp [intOf]; omega
    · obtain rfl : n = 16 := by omega
      go_wp2_with (go_skip)
      go_ret
      exact ⟨M0, rfl, HR.out, H⟩
end
end Go.Proofs.Ytglehneaphigdaa

/- The chapter's example of flows, reckoned (plain). -/
namespace Go.Proofs.Ytglehneaphigdaa
open Go.RowKit
set_option linter.unusedSimpArgs false
set_option linter.unusedVariables false
def tabD (l : List Nat) (p : Nat) : Nat := l.getD p 17
def distB (c : Caps) (t : Nat) (l : List Nat) : Bool :=
  (l.length == 17) && (tabD l t == 0) && ((List.range 17).all fun p => decide (tabD l p ≤ 17) && (decide (tabD l p = 17) || (decide (1 ≤ p) && decide (tabD l p ≤ 15)))
    && ((List.range 17).all fun q => !edge c p q || decide (tabD l p ≤ tabD l q + 1)) && (decide (tabD l p = 17) || decide (p = t) || ((List.range 17).any fun q => edge c p q && decide (tabD l q + 1 = tabD l p))))
theorem edge_rng {c : Caps} {p q : Nat} (h : edge c p q = true) : p < 17 ∧ q < 17 := by
  unfold edge capOf at h
  split at h
  · rename_i hm
    have h1 := mayP_true hm.1
    have h2 := mayP_true hm.2
    omega
  · simp at h
theorem tabD_far {l : List Nat} (hl : l.length = 17) {p : Nat} (h : 17 ≤ p) : tabD l p = 17 := by
  unfold tabD
  rw [List.getD_eq_getElem?_getD, List.getElem?_eq_none (by omega)]
  rfl
theorem distB_spec {c : Caps} {t : Nat} {l : List Nat} (h : distB c t l = true) : IsDist (edge c) t (tabD l) := by
  unfold distB at h
  simp only [Bool.and_eq_true, beq_iff_eq, List.all_eq_true, List.mem_range, decide_eq_true_eq, Bool.or_eq_true, List.any_eq_true, Bool.not_eq_true'] at h
  obtain ⟨⟨hl, h0⟩, h⟩ := h
  refine ⟨h0, fun p => ?_, fun p hp => ?_, fun p q he => ?_, fun p hp hne => ?_⟩
  · by_cases e : p < 17
    · exact (h p e).1.1.1
    · rw [tabD_far hl (by omega)]; omega
  · have e : p < 17 := by
      apply Classical.byContradiction
      intro hn
      rw [tabD_far hl (by omega)] at hp
      omega
    rcases (h p e).1.1.2 with h1 | h1
    · omega
    · exact ⟨h1.1, by omega, h1.2⟩
  · have hr := edge_rng he
    rcases (h p hr.1).1.2 q hr.2 with h1 | h1
    · rw [he] at h1; cases h1
    · exact h1
  · have e : p < 17 := by
      apply Classical.byContradiction
      intro hn
      rw [tabD_far hl (by omega)] at hp
      omega
    rcases (h p e).2 with (h1 | h1) | ⟨q, hq, h1⟩
    · omega
    · exact absurd h1 hne
    · exact ⟨q, h1.1, h1.2⟩
def stepsB (c : Caps) (d : Nat → Nat) : List Nat → Bool
  | x :: y :: L => (decide (1 ≤ y) && decide (y ≤ 16) && decide (d y + 1 = d x) && edge c x y && ((List.range y).all fun q => decide (q = 0) || !(decide (d q + 1 = d x) && edge c x q))) && stepsB c d (y :: L)
  | _ => true
theorem stepsB_spec {c : Caps} {d : Nat → Nat} : ∀ {L : List Nat}, stepsB c d L = true → Steps (edge c) d L
  | [], _, i, x, y, h1, _ => by simp at h1
  | [a], _, i, x, y, h1, h2 => by simp at h2
  | a :: b :: L, h, i, x, y, h1, h2 => by
    unfold stepsB at h
    rw [Bool.and_eq_true] at h
    cases i with
    | zero =>
      simp at h1 h2
      subst h1 h2
      have h3 := h.1
      simp only [Bool.and_eq_true, decide_eq_true_eq, List.all_eq_true, List.mem_range, Bool.or_eq_true, Bool.not_eq_true'] at h3
      obtain ⟨⟨⟨⟨h4, h5⟩, h6⟩, h7⟩, h8⟩ := h3
      refine ⟨h4, h5, ⟨h6, h7⟩, fun q hq hlt hg => ?_⟩
      rcases h8 q hlt with h9 | h9
      · omega
      · rw [decide_eq_true hg.1, hg.2] at h9; cases h9
    | succ i => exact stepsB_spec h.2 i x y (by simpa using h1) (by simpa using h2)
def shortB (c : Caps) (f t : Nat) (l L : List Nat) : Bool := distB c t l && mayP f && mayP t && decide (f ≠ t) && decide (tabD l f < 17) && decide (L[0]? = some f) && decide (L[L.length - 1]? = some t) && decide (L.length = tabD l f + 1) && stepsB c (tabD l) L
theorem shortB_spec {c : Caps} {f t : Nat} {l L : List Nat} (h : shortB c f t l L = true) : IsShort c f t L ∧ L ≠ [] := by
  unfold shortB at h
  simp only [Bool.and_eq_true, decide_eq_true_eq] at h
  obtain ⟨⟨⟨⟨⟨⟨⟨⟨h1, h2⟩, h3⟩, h4⟩, h5⟩, h6⟩, h7⟩, h8⟩, h9⟩ := h
  refine ⟨.inr ⟨h2, h3, h4, tabD l, distB_spec h1, h5, h6, h7, h8, stepsB_spec h9⟩, fun e => ?_⟩
  subst e
  simp at h8
def farB (c : Caps) (f t : Nat) (l : List Nat) : Bool := distB c t l && decide (tabD l f = 17)
theorem farB_spec {c : Caps} {f t : Nat} {l : List Nat} (h : farB c f t l = true) : IsShort c f t [] := by
  unfold farB at h
  simp only [Bool.and_eq_true, decide_eq_true_eq] at h
  exact .inl ⟨rfl, .inr (.inr (.inr ⟨tabD l, distB_spec h.1, h.2⟩))⟩
/-- The example's edges. -/
def exF : List Flw := [⟨1, 2, 3⟩, ⟨2, 4, 2⟩, ⟨1, 3, 2⟩, ⟨3, 4, 9⟩, ⟨2, 3, 5⟩]
def exC : Caps := upd2 (upd2 (upd2 (upd2 (upd2 zeroC 1 2 3) 2 4 2) 1 3 2) 3 4 9) 2 3 5
theorem exG : newG exF = some exC := by kernel_rfl
def e7d0 : List Nat := [17, 2, 1, 1, 0, 17, 17, 17, 17, 17, 17, 17, 17, 17, 17, 17, 17]
def e7d1 : List Nat := [17, 2, 2, 1, 0, 17, 17, 17, 17, 17, 17, 17, 17, 17, 17, 17, 17]
def e7d2 : List Nat := [17, 3, 2, 1, 0, 17, 17, 17, 17, 17, 17, 17, 17, 17, 17, 17, 17]
def e7d3 : List Nat := [17, 17, 2, 1, 0, 17, 17, 17, 17, 17, 17, 17, 17, 17, 17, 17, 17]
def e7d4 : List Nat := [17, 0, 17, 17, 17, 17, 17, 17, 17, 17, 17, 17, 17, 17, 17, 17, 17]
def exC1 : Caps := psW exC [1, 2, 4] 2
def exC2 : Caps := psW exC1 [1, 3, 4] 2
def exC3 : Caps := psW exC2 [1, 2, 3, 4] 1
theorem ex_s0 : IsShort exC 1 4 [1, 2, 4] ∧ [1, 2, 4] ≠ [] := shortB_spec (c := exC) (f := 1) (t := 4) (l := e7d0) (L := [1, 2, 4]) (by decide +kernel)
theorem ex_s1 : IsShort exC1 1 4 [1, 3, 4] ∧ [1, 3, 4] ≠ [] := shortB_spec (c := exC1) (f := 1) (t := 4) (l := e7d1) (L := [1, 3, 4]) (by decide +kernel)
theorem ex_s2 : IsShort exC2 1 4 [1, 2, 3, 4] ∧ [1, 2, 3, 4] ≠ [] := shortB_spec (c := exC2) (f := 1) (t := 4) (l := e7d2) (L := [1, 2, 3, 4]) (by decide +kernel)
theorem ex_s3 : IsShort exC3 1 4 [] := farB_spec (c := exC3) (f := 1) (t := 4) (l := e7d3) (by decide +kernel)
theorem ex_s4 : IsShort exC 4 1 [] := farB_spec (c := exC) (f := 4) (t := 1) (l := e7d4) (by decide +kernel)
def exP : List Flw := [⟨1, 2, 2⟩, ⟨2, 4, 2⟩, ⟨1, 3, 2⟩, ⟨3, 4, 2⟩]
def exQ : List Flw := [⟨1, 2, 2⟩, ⟨2, 4, 2⟩, ⟨1, 3, 2⟩, ⟨3, 4, 2⟩, ⟨1, 2, 1⟩, ⟨2, 3, 1⟩, ⟨3, 4, 1⟩]
theorem ex_two (n : Int) (h : 4 ≤ n) : Tr 1 4 exC n 2 exC2 (n - 2 - 2) exP := by
  have m1 : mnW exC [1, 2, 4] n = 2 := by
    show min (min n 3) 2 = 2
    omega
  have m2 : mnW exC1 [1, 3, 4] (n - 2) = 2 := by
    show min (min (n - 2) 2) 9 = 2
    omega
  have t1 := Tr.snoc (Tr.nil (f := 1) (t := 4) (c0 := exC) (n0 := n)) (by omega) ex_s0.1 ex_s0.2
  rw [m1] at t1
  have t2 := Tr.snoc t1 (by omega) ex_s1.1 ex_s1.2
  rw [show psW exC [1, 2, 4] 2 = exC1 from rfl, m2] at t2
  exact t2
theorem ex_route4 : RouteOut 1 4 exC 4 exP 4 := ⟨2, exC2, 0, ex_two 4 (by omega), .inl (by omega), by decide⟩
theorem ex_three (n : Int) (h : 5 ≤ n) : RouteOut 1 4 exC n exQ 5 := by
  have m3 : mnW exC2 [1, 2, 3, 4] (n - 2 - 2) = 1 := by
    show min (min (min (n - 2 - 2) 1) 5) 7 = 1
    omega
  have t3 := Tr.snoc (ex_two n (by omega)) (by omega) ex_s2.1 ex_s2.2
  rw [m3] at t3
  exact ⟨3, exC3, n - 2 - 2 - 1, t3, .inr ex_s3, by omega⟩
theorem ex_none : RouteOut 4 1 exC 1 [] 0 := ⟨0, exC, 1, .nil, .inr ex_s4, by decide⟩
end Go.Proofs.Ytglehneaphigdaa

/- The chapter's example of flows (countinghouselaw07.lives) answers true, and leaves what stood. -/
namespace Go.Proofs.Ytglehneaphigdaa
open Go.RowKit
attribute [local go_sem] Oper.semAt_some
set_option linter.unusedSimpArgs false
set_option linter.unusedVariables false
def exW : Array Value := #[.int .u8 1, .int .u8 2, .int .i64 2, .int .u8 2, .int .u8 4, .int .i64 2, .int .u8 1, .int .u8 3, .int .i64 2, .int .u8 3, .int .u8 4, .int .i64 2]
def exM : Array Value := #[.int .u8 1, .int .u8 2, .int .i64 1, .int .u8 2, .int .u8 3, .int .i64 1, .int .u8 3, .int .u8 4, .int .i64 1]
theorem exW_one : OneCells exW.toList := fun u hu => List.all_eq_true.1 (show exW.toList.all (fun u => u.oneCell') = true from rfl) u hu
theorem exM_one : OneCells exM.toList := fun u hu => List.all_eq_true.1 (show exM.toList.all (fun u => u.oneCell') = true from rfl) u hu
section
variable {W w : World} {l : List Thing}
theorem wpl_bsAny {dst : Option Tmp} {ty : TypeId} {pos : String} {after : Array Edge} {guard : Option (Nat × Bool)} {t e n size bytes : Nat} {z : Value} {ops : Array Oper} {rest : List Oper} {a : Act} {Q : Exit → Act → World → Prop} (T : SlTy Try.prog t e size bytes z) (xs : List (Nat × Operand)) (vs : List (Nat × Value)) (c : Array Value) (hw : Region.wanted ⟨dst, .buildSlice t n xs.toArray, ty, pos, after, guard⟩ (yielded ops a.tmps) = true)
    (hx : xs.map (fun (i, x) => (i, a.eval x)) = vs) (h0 : 0 < n) (h1 : n * size ≤ 65536)
    (hf : Instr.fill (fun i => some (i * size, size)) (Array.map (fun x => z.cells[x % z.cells.size]!) (Array.range (n * size))) vs = some c)
    (H : Heap W l w) (h : ∀ p w', Heap W (Cel p c e :: l) w' → wpList Try.prog ops Q rest (a.put dst (.slice (some ⟨p, 0, none⟩) n n)) w') : wpList Try.prog ops Q (⟨dst, .buildSlice t n xs.toArray, ty, pos, after, guard⟩ :: rest) a w := by
  obtain ⟨i, hi, hz, hsi, hbi⟩ := T.inf
  have h2 := T.pos
  have h3 : n ≤ n * size := Nat.le_mul_of_pos_right _ h2
  have r1 : (sizeOf e).run Try.prog w = .ok size w := by simp [sizeOf, typeInfo, hi, hsi, go_sem]
  have r2 : (zeroValue e).run Try.prog w = .ok z w := by simp [zeroValue, typeInfo, hi, hz, go_sem]
  refine BigFrame.wpList_want hw fun K hK => ?_
  have hrun : (Instr.buildSlice t n (xs.toArray.map fun (i, x) => (i, a.eval x))).run Try.prog w = .ok (.slice (some ⟨w.heap.size, 0, none⟩) n n) (w.alloc (.cells c e)) := by
    unfold Instr.buildSlice
    rw [Sem.run_bind, run_underlying T.und]
    simp only [Result.andThen_ok]
    rw [Sem.run_bind, r1]
    simp only [Result.andThen_ok]
    rw [if_neg (by omega), if_neg (by omega)]
    simp only [Sem.run_bind, r2, Result.andThen_ok, Sem.run_pure]
    have hx2 : (xs.toArray.map (fun (i, x) => (i, a.eval x))).toList = vs := by rw [← hx]; simp
    rw [hx2, hf]
    simp [newRow, go_sem]
  unfold Oper.wp execOp
  simp only [Sem.run_bind, hrun, Result.andThen_ok, Sem.run_pure]
  exact hK _ _ (h _ _ (H.alloc _ _))
set_option maxRecDepth 100000
set_option maxHeartbeats 2000000
theorem lives07_H (H : Heap W l w) : Calls Try.prog 28 #[] w fun e w' => e = .returned (.bool true) ∧ Heap W l w' := by
  have hc := newG_play exG
  go_enter Try.func28, Try.ntmps28
  go_wp2_with (go_skip)
  have C := new_H (some ⟨w.heap.size, 0, none⟩) 5 5 exF rfl (by omega) (by intro x hx; simp [exF] at hx; rcases hx with rfl | rfl | rfl | rfl | rfl <;> (unfold FlwOk; simp)) (fun w' H' => H'.celRd List.mem_cons_self) (H.alloc #[.int .u8 1, .int .u8 2, .int .i64 3, .int .u8 2, .int .u8 4, .int .i64 2, .int .u8 1, .int .u8 3, .int .i64 2, .int .u8 3, .int .u8 4, .int .i64 9, .int .u8 2, .int .u8 3, .int .i64 5] 35)
  clear H
  refine C.mono ?_
  clear C
  rw [exG]
  rintro e w1 ⟨p, rfl, H⟩
  replace H := H.drop (.there .here)
  go_wp2_with (go_skip)
  have C := route_H (p := p) exC 1 4 4 (by omega) (by omega) (by omega) (by omega) hc List.mem_cons_self H
  clear H
  refine C.mono ?_
  clear C
  rintro e w2 ⟨va, P, got, rfl, hr, H⟩
  obtain ⟨rfl, rfl⟩ := hr.eq ex_route4
  clear hr
  obtain ⟨aa, ca, rfl⟩ := OwnT.form0 (H.ok _ List.mem_cons_self)
  go_wp2_with (go_skip)
  have C := route_H (p := p) exC 1 4 9 (by omega) (by omega) (by omega) (by omega) hc (List.mem_cons_of_mem _ List.mem_cons_self) H
  clear H
  refine C.mono ?_
  clear C
  rintro e w3 ⟨vb, P, got, rfl, hr, H⟩
  obtain ⟨rfl, rfl⟩ := hr.eq (ex_three 9 (by omega))
  clear hr
  obtain ⟨ab, cb, rfl⟩ := OwnT.form0 (H.ok _ List.mem_cons_self)
  go_wp2_with (go_skip)
  have C := route_H (p := p) exC 4 1 1 (by omega) (by omega) (by omega) (by omega) hc (List.mem_cons_of_mem _ (List.mem_cons_of_mem _ List.mem_cons_self)) H
  clear H
  refine C.mono ?_
  clear C
  rintro e w4 ⟨vc, P, got, rfl, hr, H⟩
  obtain ⟨rfl, rfl⟩ := hr.eq ex_none
  clear hr
  obtain ⟨ac, cc, rfl⟩ := OwnT.form0 (H.ok _ List.mem_cons_self)
  replace H := H.tail
  go_wp2_with (first
    | go_skip
    | ((with_reducible show wpList _ _ _ (_ :: _) _ _); (with_reducible apply wpl_bsAny (n := 4) slF _ _ exW); (· rfl); (· rfl); (· decide); (· decide); (· kernel_rfl); (· exact H); (clear H; intro pw _ H); (simp only [Act.put, List.setIfInBounds_toArray, List.set_cons_zero, List.set_cons_succ]))
    | ((with_reducible show wpList _ _ _ (_ :: _) _ _); (with_reducible apply wpl_appendA slF); (· rfl); (· rfl); (· rfl); (· rfl); (· exact H.nilRow 35 3); (· exact H.celRd List.mem_cons_self); (· rfl); (· exact exW_one); (· decide); (· decide); (clear H; intro v1 _ _ H); (simp only [Act.put, List.setIfInBounds_toArray, List.set_cons_zero, List.set_cons_succ]))
    | ((with_reducible show wpList _ _ _ (_ :: _) _ _); (with_reducible apply wpl_bsAny (n := 3) slF _ _ exM); (· rfl); (· rfl); (· decide); (· decide); (· kernel_rfl); (· exact H); (clear H; intro pm _ H); (simp only [Act.put, List.setIfInBounds_toArray, List.set_cons_zero, List.set_cons_succ]))
    | ((with_reducible show wpList _ _ _ (_ :: _) _ _); (with_reducible apply wpl_appendA slF); (· rfl); (· rfl); (· rfl); (· rfl); (· exact H.perm (.swap _ _ _)); (· exact H.celRd List.mem_cons_self); (· rfl); (· exact exM_one); (· decide); (· decide); (clear H; intro v2 _ _ H; obtain ⟨a2, c2, rfl, hc2, hm2⟩ := RowT.form0 (H.ok _ List.mem_cons_self)); (simp only [Act.put, List.setIfInBounds_toArray, List.set_cons_zero, List.set_cons_succ])))
  replace H : Heap W (RowT 35 3 (.slice a2 7 c2) 7 (flwL exQ) :: Cel pm exM 35 :: Cel pw exW 35 :: OwnT 35 3 (.slice ab exQ.length cb) exQ.length (flwL exQ) :: OwnT 35 3 (.slice aa exP.length ca) exP.length (flwL exP) :: Gr p exC :: l) _ := H
  have S1 : AnsH W (RowT 35 3 (.slice a2 7 c2) 7 (flwL exQ) :: Cel pm exM 35 :: Cel pw exW 35 :: OwnT 35 3 (.slice ab exQ.length cb) exQ.length (flwL exQ) :: OwnT 35 3 (.slice aa exP.length ca) exP.length (flwL exP) :: Gr p exC :: l) 23 #[.slice aa exP.length ca, .slice (some ⟨pw, 0, none⟩) 4 4] (.bool true) := by
    have := sameFlows_P (W := W) (l := RowT 35 3 (.slice a2 7 c2) 7 (flwL exQ) :: Cel pm exM 35 :: Cel pw exW 35 :: OwnT 35 3 (.slice ab exQ.length cb) exQ.length (flwL exQ) :: OwnT 35 3 (.slice aa exP.length ca) exP.length (flwL exP) :: Gr p exC :: l) (A := exP) (B := exP) aa (some ⟨pw, 0, none⟩) 4 4 ca 4 rfl rfl (by omega) (by omega) (fun w' h => h.ownRd (List.mem_cons_of_mem _ (List.mem_cons_of_mem _ (List.mem_cons_of_mem _ (List.mem_cons_of_mem _ List.mem_cons_self))))) (fun w' h => h.celRd (List.mem_cons_of_mem _ (List.mem_cons_of_mem _ List.mem_cons_self)))
    rwa [decide_eq_true rfl] at this
  have S2 : AnsH W (RowT 35 3 (.slice a2 7 c2) 7 (flwL exQ) :: Cel pm exM 35 :: Cel pw exW 35 :: OwnT 35 3 (.slice ab exQ.length cb) exQ.length (flwL exQ) :: OwnT 35 3 (.slice aa exP.length ca) exP.length (flwL exP) :: Gr p exC :: l) 23 #[.slice ab exQ.length cb, .slice a2 (0 + 4 + 3) c2] (.bool true) := by
    have := sameFlows_P (W := W) (l := RowT 35 3 (.slice a2 7 c2) 7 (flwL exQ) :: Cel pm exM 35 :: Cel pw exW 35 :: OwnT 35 3 (.slice ab exQ.length cb) exQ.length (flwL exQ) :: OwnT 35 3 (.slice aa exP.length ca) exP.length (flwL exP) :: Gr p exC :: l) (A := exQ) (B := exQ) ab a2 7 7 cb c2 rfl rfl (by omega) (by omega) (fun w' h => h.ownRd (List.mem_cons_of_mem _ (List.mem_cons_of_mem _ (List.mem_cons_of_mem _ List.mem_cons_self)))) (fun w' h => h.rowRd List.mem_cons_self)
    rwa [decide_eq_true rfl] at this
  have HC := Lib.hid hc
  refine (S1 _ H).mono ?_
  clear H S1
  rintro _ _ ⟨rfl, H⟩
  go_wp2_with (go_skip)
  refine (S2 _ H).mono ?_
  clear H S2
  rintro _ _ ⟨rfl, H⟩
  go_wp2_with (go_skip)
  have C := most_H (p := p) exC 1 4 (by omega) (by omega) HC.out (List.mem_cons_of_mem _ (List.mem_cons_of_mem _ (List.mem_cons_of_mem _ (List.mem_cons_of_mem _ (List.mem_cons_of_mem _ List.mem_cons_self))))) H
  clear H
  refine C.mono ?_
  clear C
  rintro e w5 ⟨P, got, rfl, hr, H⟩
  obtain ⟨rfl, rfl⟩ := hr.eq (ex_three _ (by omega))
  clear hr
  go_wp2_with (go_skip)
  go_ret
  exact ⟨rfl, H.tail.tail.tail.tail.tail.tail⟩
end
end Go.Proofs.Ytglehneaphigdaa

/- Twins of flows, and whether they were left. -/
namespace Go.Proofs.Ytglehneaphigdaa
open Go.RowKit
set_option linter.unusedSimpArgs false
set_option linter.unusedVariables false
abbrev mkF : Array Value := flow 0 0 (-77)
abbrev mkF2 : List Value := [.int .u8 0, .int .u8 0, .int .i64 (-77), .int .u8 0, .int .u8 0, .int .i64 (-77)]
theorem flwL_ones (F : List Flw) : OneCells (flwL F) := fun u hu => by
  unfold flwL at hu
  rw [List.mem_flatMap] at hu
  obtain ⟨x, _, hx⟩ := hu
  simp only [flwV, List.mem_cons, List.not_mem_nil, or_false] at hx
  rcases hx with rfl | rfl | rfl <;> rfl
theorem mkF2_one : OneCells mkF2 := by
  intro u hu
  simp only [mkF2, List.mem_cons, List.not_mem_nil, or_false] at hu
  rcases hu with rfl | rfl | rfl | rfl | rfl | rfl <;> rfl
/-- A twin: the list, and two marks behind it. -/
abbrev TwT (a : Option Addr) (c n : Nat) (F : List Flw) : Thing := RowT 35 3 (.slice a (n + 2) c) (n + 2) (flwL F ++ mkF2)
theorem madeRowF {W w : World} {l : List Thing} {g m : Nat} {z : Value} {e size : Nat} (H : Heap W (Cel g (madeCells z.cells (m * size)) e :: l) w) (hm : m ≤ maxLen) : Heap W (RowT e size (.slice (some ⟨g, 0, none⟩) 0 m) 0 [] :: l) w := by
  have := H.celRowA (n := 0) (m := m) (size := size) (by rw [size_madeCells]) (Nat.zero_le _) hm
  simpa using this
section
variable {ops : Array Oper} {rest : List Oper} {a : Act} {w W : World} {l : List Thing} {Q : Exit → Act → World → Prop}
theorem run_bs2F (w : World) : (Instr.buildSlice 22 2 #[(0, .agg mkF), (1, .agg mkF)]).run Try.prog w = .ok (.slice (some ⟨w.heap.size, 0, none⟩) 2 2) (w.alloc (.cells mkF2.toArray 35)) := by
  obtain ⟨i, hi, hz, hsi, hbi⟩ := slF.inf
  have r1 : (sizeOf 35).run Try.prog w = .ok 3 w := by simp [sizeOf, typeInfo, hi, hsi, go_sem]
  have r2 : (zeroValue 35).run Try.prog w = .ok (.agg (flow 0 0 0)) w := by simp [zeroValue, typeInfo, hi, hz, go_sem]
  unfold Instr.buildSlice
  rw [Sem.run_bind, run_underlying slF.und]
  simp only [Result.andThen_ok]
  rw [Sem.run_bind, r1]
  simp only [Result.andThen_ok]
  rw [if_neg (by decide), if_neg (by decide)]
  have hf : Instr.fill (fun i => some (i * 3, 3)) (Array.map (fun x => (Value.agg (flow 0 0 0)).cells[x % (Value.agg (flow 0 0 0)).cells.size]!) (Array.range (2 * 3))) [(0, Value.agg mkF), (1, Value.agg mkF)] = some mkF2.toArray := by kernel_rfl
  simp only [Sem.run_bind, r2, Result.andThen_ok, Sem.run_pure]
  rw [hf]
  simp [newRow, go_sem]
theorem wpl_bs2F {dst : Option Tmp} {ty : TypeId} {pos : String} {after : Array Edge} {guard : Option (Nat × Bool)} {x y : Operand} (hw : Region.wanted ⟨dst, .buildSlice 22 2 #[(0, x), (1, y)], ty, pos, after, guard⟩ (yielded ops a.tmps) = true)
    (hx : a.eval x = .agg mkF) (hy : a.eval y = .agg mkF) (H : Heap W l w) (h : ∀ p w', Heap W (Cel p mkF2.toArray 35 :: l) w' → wpList Try.prog ops Q rest (a.put dst (.slice (some ⟨p, 0, none⟩) 2 2)) w') : wpList Try.prog ops Q (⟨dst, .buildSlice 22 2 #[(0, x), (1, y)], ty, pos, after, guard⟩ :: rest) a w := by
  refine BigFrame.wpList_want hw fun K hK => ?_
  unfold Oper.wp execOp
  simp only [List.map_toArray, List.map_cons, List.map_nil, hx, hy, Sem.run_bind, run_bs2F, Result.andThen_ok, Sem.run_pure]
  exact hK _ _ (h _ _ (H.alloc _ _))
theorem eqlF_run (a b n x y z : Int) (w : World) : (binOp .eql 35 (.agg (flow a b n)) (.agg (flow x y z))).run Try.prog w = .ok (.bool (flowSame a b n x y z)) w := by
  have h : (Op.equal 35 (.agg (flow a b n)) (.agg (flow x y z))).run Try.prog w = .ok (flowSame a b n x y z) w := eqF_run 9998 a b n x y z w
  simp only [binOp]
  simp [Sem.run_bind, h]
theorem wpQ_eqlF {dst : Option Tmp} {ty : TypeId} {pos : String} {after : Array Edge} {guard : Option (Nat × Bool)} {p q : Operand} {a0 b0 n0 x y n : Int} {K : Act → Prop} {H : Heap W l w} (hw : Region.wanted ⟨dst, .binOp .eql 35 p q 35, ty, pos, after, guard⟩ (yielded ops a.tmps) = true) (hp : a.eval p = .agg (flow a0 b0 n0)) (hq : a.eval q = .agg (flow x y n)) {r : Bool} (hr : flowSame a0 b0 n0 x y n = r)
    (h : wpQuiet Try.prog ops (fun w' => ∃ d, w' = H.any d) K rest (a.put dst (.bool r))) : wpQuiet Try.prog ops (fun w' => ∃ d, w' = H.any d) K (⟨dst, .binOp .eql 35 p q 35, ty, pos, after, guard⟩ :: rest) a := by
  subst hr
  have hg : (Try.prog.eqGuardType Try.prog.depth 35) = false := by kernel_rfl
  refine BigFrame.wpQuiet_want hw fun K hK => ⟨_, ?_, hK _ h⟩
  rintro _ ⟨d, rfl⟩
  unfold Oper.quietAt execOp
  simp only [hp, hq, Sem.run_bind, eqlF_run]
  simp [eqGuard, hg, eqlF_run]
  exact ⟨rfl, rfl⟩
end
section
variable {W w : World} {l : List Thing}
set_option maxRecDepth 100000
set_option maxHeartbeats 4000000
theorem twin_F (ea : Option Addr) (n ec : Nat) (F : List Flw) (hl : F.length = n) (hn : n ≤ 10000) (R : ∀ l' w', (∀ x ∈ l, x ∈ l') → Heap W l' w' → Rd w' ea (flwL F)) (H : Heap W l w) :
    Calls Try.prog 43 #[.slice ea n ec, .agg mkF] w fun e w' => ∃ a c, e = .returned (.slice a n c) ∧ n + 2 ≤ c ∧ c ≤ maxLen ∧ Heap W (TwT a c n F :: l) w' := by
  have HR := Lib.hid R
  have hlen : (flwL F).length = n * 3 := by rw [flwL_len, hl]
  have h1 : 0 + n ≤ maxLen := by unfold maxLen; omega
  have h2 : (0 + n) * 16 ≤ 140737488355328 := by omega
  have h3 : 0 + n + 2 ≤ maxLen := by unfold maxLen; omega
  have h4 : (0 + n + 2) * 16 ≤ 140737488355328 := by omega
  have h5 : n + 2 ≤ maxLen := by unfold maxLen; omega
  have h6 : n + 2 ≤ 65536 := by omega
  have h7 : 16 * (n + 2) ≤ 281474976710656 := by omega
  clear R hl
  go_enter Try.func43, Try.ntmps43
  go_wp2_with (first
    | go_skip
    | ((with_reducible show wpList _ _ _ (_ :: _) _ _); (with_reducible apply wpl_boxRH); (· rfl); (· rfl); (· exact H); (clear H; intro px _ H); (simp only [Act.put, List.setIfInBounds_toArray, List.set_cons_zero, List.set_cons_succ]))
    | ((with_reducible show wpList _ _ _ (_ :: _) _ _); (with_reducible apply wpl_makeC slF (n := 0) (m := n + 2)); (· rfl); (· rfl); (· rfl); (· rfl); (· omega); (· omega); (· omega); (· exact H); (clear H; intro pm _ H); (simp only [Act.put, List.setIfInBounds_toArray, List.set_cons_zero, List.set_cons_succ]))
    | ((with_reducible show wpList _ _ _ (_ :: _) _ _); (with_reducible apply wpl_appendA slF); (· rfl); (· rfl); (· rfl); (· rfl); (· exact madeRowF H h5); (· exact HR.out _ _ (fun x hx => List.mem_cons_of_mem _ (List.mem_cons_of_mem _ hx)) H); (· exact hlen); (· exact flwL_ones F); (· exact h1); (· exact h2); (clear H; intro v1 _ _ H); (simp only [Act.put, List.setIfInBounds_toArray, List.set_cons_zero, List.set_cons_succ]))
    | ((with_reducible show wpList _ _ _ (_ :: _) _ _); (with_reducible apply wpl_loadRH row_flow); (· rfl); (· rfl); (· exact H); (· (repeat (first | (with_reducible exact List.mem_cons_self) | with_reducible apply List.mem_cons_of_mem))); (· (simp only [flow_sz, Nat.reduceAdd, Nat.reduceLeDiff, Nat.le_refl]; done)); (· with_reducible exact flow_all ..); (simp only [Act.put, List.setIfInBounds_toArray, List.set_cons_zero, List.set_cons_succ]))
    | ((with_reducible show wpList _ _ _ (_ :: _) _ _); (with_reducible apply wpl_bs2F); (· rfl); (· rfl); (· rfl); (· exact H); (clear H; intro pk _ H); (simp only [Act.put, List.setIfInBounds_toArray, List.set_cons_zero, List.set_cons_succ]))
    | ((with_reducible show wpList _ _ _ (_ :: _) _ _); (with_reducible apply wpl_appendA slF); (· rfl); (· rfl); (· rfl); (· rfl); (· exact H.pull (.there .here)); (· exact H.celRd List.mem_cons_self); (· rfl); (· exact mkF2_one); (· exact h3); (· exact h4); (clear H; intro v2 _ _ H; obtain ⟨a2, c2, rfl, hc2, hm2⟩ := RowT.form0 (H.ok _ List.mem_cons_self)); (simp only [Act.put, List.setIfInBounds_toArray, List.set_cons_zero, List.set_cons_succ]))
    | ((with_reducible show wpList _ _ _ (_ :: _) _ _); (with_reducible apply wpl_cutTo slF); (· rfl); (· rfl); (· rfl); (· omega); (simp only [Act.put, List.setIfInBounds_toArray, List.set_cons_zero, List.set_cons_succ])))
  go_ret
  simp only [Nat.zero_add, List.nil_append] at H hc2
  exact ⟨a2, c2, rfl, hc2, hm2, (H.drop (.there .here)).drop (.there .here)⟩
theorem twinFlows_H (ea : Option Addr) (n ec : Nat) (F : List Flw) (hl : F.length = n) (hn : n ≤ 10000) (R : ∀ l' w', (∀ x ∈ l, x ∈ l') → Heap W l' w' → Rd w' ea (flwL F)) (H : Heap W l w) :
    Calls Try.prog 13 #[.slice ea n ec] w fun e w' => ∃ a c, e = .returned (.slice a n c) ∧ n + 2 ≤ c ∧ c ≤ maxLen ∧ Heap W (TwT a c n F :: l) w' := by
  have C := twin_F ea n ec F hl hn R H
  clear hl R H
  go_enter Try.func13, Try.ntmps13
  go_wp2_with (go_skip)
  refine C.mono ?_
  clear C
  rintro e w' ⟨a, c, rfl, h1, h2, H⟩
  go_wp2_with (go_skip)
  go_ret
  exact ⟨a, c, rfl, h1, h2, H⟩
theorem left_F (a ea : Option Addr) (n c ec : Nat) (F : List Flw) (hl : F.length = n) (hn : n ≤ 10000) (hc : n + 2 ≤ c) (hm : c ≤ maxLen) (m : TwT a c n F ∈ l) (R : ∀ l' w', (∀ x ∈ l, x ∈ l') → Heap W l' w' → Rd w' ea (flwL F)) :
    AnsH W l 46 #[.slice a n c, .slice ea n ec, .agg mkF] (.bool true) := by
  intro w H
  obtain ⟨g, c', e, _, _⟩ := RowT.sl (H.ok _ m) (by omega)
  simp only [Value.slice.injEq, true_and] at e
  obtain ⟨rfl, rfl⟩ := e
  have hlen : (flwL F).length = n * 3 := by rw [flwL_len, hl]
  have HT := Lib.hid (show ∀ l' w', TwT (some ⟨g, 0, none⟩) c n F ∈ l' → Heap W l' w' → Rd w' (some ⟨g, 0, none⟩) (flwL F ++ mkF2) from fun l' w' m h => h.rowRd m)
  have HTF := fun l' w' m h => by
    have := (HT.out l' w' m h).takeN (flwL F).length
    rwa [List.take_left] at this
  have HS := fun (x : Thing) => sameF_P (W := W) (l := x :: l) (A := F) (B := F) (some ⟨g, 0, none⟩) ea n c ec hl hl (by omega) (fun w' h => HTF _ w' (List.mem_cons_of_mem _ m) h) (fun w' h => R _ w' (fun y hy => List.mem_cons_of_mem _ hy) h)
  rw [decide_eq_true rfl] at HS
  have HS := Lib.hid HS
  obtain ⟨q, hq⟩ : ∃ q, c - n = q := ⟨_, rfl⟩
  have hcut : cutA (some ⟨g, 0, none⟩) c n 3 = some ⟨g, n * 3, none⟩ := by
    unfold cutA
    rw [if_neg (by omega)]
    simp [addr_add]
  have HCUT := Lib.hid (And.intro hcut hq)
  have q1 : decide ((q : Int) < 2) = false := by simp; omega
  have hle2 : n ≤ c := by omega
  have hb1 : n * 3 + 3 ≤ (flwL F ++ mkF2).length := by rw [List.length_append, hlen]; simp [mkF2]
  have hb2 : n * 3 + 3 + 3 ≤ (flwL F ++ mkF2).length := by rw [List.length_append, hlen]; simp [mkF2]
  have hv1 : (((flwL F ++ mkF2).drop (n * 3)).take 3).toArray = mkF := by rw [← hlen, List.drop_left]; rfl
  have hv2 : (((flwL F ++ mkF2).drop (n * 3 + 3)).take 3).toArray = mkF := by
    rw [← hlen, ← List.drop_drop, List.drop_left]; rfl
  have hff : flowSame 0 0 (-77) 0 0 (-77) = true := by decide
  clear hcut HTF hl R hlen
  go_enter Try.func46, Try.ntmps46
  go_wp2_with (first
    | go_skip
    | ((with_reducible show wpList _ _ _ (_ :: _) _ _); (with_reducible apply wpl_boxRH); (· rfl); (· rfl); (· exact H); (clear H; intro px _ H); (simp only [Act.put, List.setIfInBounds_toArray, List.set_cons_zero, List.set_cons_succ]))
    | ((refine (HS.out _ _ H).mono ?_); clear H; rintro _ _ ⟨rfl, H⟩)
    | ((with_reducible show wpList _ _ _ (_ :: _) _ _); (with_reducible apply wpl_cutBoth slF); (· rfl); (· rfl); (· rfl); (· rfl); (· exact hle2); (· exact Nat.le_refl _); (· exact HCUT.out.1); (· exact HCUT.out.2); (· exact HCUT.out.2); (simp only [Act.put, List.setIfInBounds_toArray, List.set_cons_zero, List.set_cons_succ])))
  have hq2 : 2 ≤ q := by have := HCUT.out.2; omega
  have HT1 := Lib.hid (show ∀ w', Heap W (Cel px mkF 35 :: l) w' → Rd w' (some ⟨g, 0, none⟩) (flwL F ++ mkF2) from fun w' h => HT.out _ w' (List.mem_cons_of_mem _ m) h)
  refine wp_region_H H (by kernel_rfl) (by kernel_rfl) ?_
  repeat (first | go_big_quiet_skip | (first | ((with_reducible apply wpQ_loadRdR0 row_flow); (· rfl); (· rfl); (· exact HT1.out); (· exact hb1); (· decide); (· exact hv1); (simp only [Act.put, List.setIfInBounds_toArray, List.set_cons_zero, List.set_cons_succ])) | ((with_reducible apply wpQ_loadRdR0 row_flow); (· rfl); (· rfl); (· exact HT1.out); (· exact hb2); (· decide); (· exact hv2); (simp only [Act.put, List.setIfInBounds_toArray, List.set_cons_zero, List.set_cons_succ])) | ((with_reducible apply wpQ_loadRH row_flow); (· rfl); (· rfl); (· (repeat (first | (with_reducible exact List.mem_cons_self) | with_reducible apply List.mem_cons_of_mem))); (· (simp only [flow_sz, Nat.reduceAdd, Nat.reduceLeDiff, Nat.le_refl]; done)); (· with_reducible exact flow_all ..); (simp only [Act.put, List.setIfInBounds_toArray, List.set_cons_zero, List.set_cons_succ])) | ((with_reducible apply wpQ_eqlF); (· rfl); (· rfl); (· rfl); (· exact hff); (simp only [Act.put, List.setIfInBounds_toArray, List.set_cons_zero, List.set_cons_succ]))) | go_big_quiet_step (fail))
  refine wpQuiet_nil ?_
  clear H
  intro _ H
  go_wp2_with (go_skip)
  go_ret
  exact ⟨rfl, H.tail⟩
theorem leftFlows_H (a ea : Option Addr) (n c ec : Nat) (F : List Flw) (hl : F.length = n) (hn : n ≤ 10000) (hc : n + 2 ≤ c) (hm : c ≤ maxLen) (m : TwT a c n F ∈ l) (R : ∀ l' w', (∀ x ∈ l, x ∈ l') → Heap W l' w' → Rd w' ea (flwL F)) :
    AnsH W l 16 #[.slice a n c, .slice ea n ec] (.bool true) := by
  intro w H
  have C := left_F a ea n c ec F hl hn hc hm m R
  clear hl hm m R
  go_enter Try.func16, Try.ntmps16
  go_wp2_with (first | go_skip | ((refine (C _ H).mono ?_); clear H; rintro _ _ ⟨rfl, H⟩))
  go_ret
  exact ⟨rfl, H⟩
end
end Go.Proofs.Ytglehneaphigdaa

/- GraphsPlay: its walk. -/
namespace Go.Proofs.Ytglehneaphigdaa
open Go.RowKit
set_option linter.unusedSimpArgs false
set_option linter.unusedVariables false
/-- All that stays while the pushes are played. -/
abbrev PlayB (l : List Thing) (c : Caps) (pc qd : Nat) (da : Option Addr) (dc N0 : Nat) : List Thing := RgT qd (.slice da N0 dc) :: FlT (.slice da N0 dc) N0 (edgesOf c) :: Gr pc c :: l
structure PlLoop (W : World) (B : List Thing) (p q n : Nat) (i : Value) (wr : World) : Prop where
  out : ∃ (k : Nat) (c : Caps), i = .int .i64 (k : Int) ∧ k ≤ n ∧ PlayC c ∧ RgH W (Gr p c :: B) q c wr
structure PlZero (W : World) (B : List Thing) (a : Option Addr) (m c n : Nat) (i : Value) (wr : World) : Prop where
  out : ∃ (k : Nat) (xs : List Value), i = .int .i64 (k : Int) ∧ k ≤ n ∧ Heap W (OwnT 35 3 (.slice a m c) m xs :: B) wr
theorem flwL_row {F : List Flw} {k : Nat} {x : Flw} (h : F[k]? = some x) : k * 3 + 3 ≤ (flwL F).length ∧ (((flwL F).drop (k * 3)).take 3).toArray = flow x.f x.t x.n := by
  have hlt : k < F.length := by
    apply Classical.byContradiction
    intro hn
    rw [List.getElem?_eq_none (by omega)] at h
    cases h
  have hat := flwL_at F k hlt
  rw [List.getElem?_eq_getElem hlt] at h
  rw [Option.some.inj h] at hat
  refine ⟨by rw [flwL_len]; omega, ?_⟩
  rw [hat]
  rfl
section
variable {W w : World} {l : List Thing}
set_option maxRecDepth 100000
set_option maxHeartbeats 4000000
theorem gplay_many (a b : Option Addr) (n c m d : Nat) (h : 300 < n ∨ 60 < m) (hn : n ≤ 9223372036854775807) (hm : m ≤ 9223372036854775807) (H : Heap W l w) : Calls Try.prog 3 #[.slice a n c, .slice b m d] w fun e w' => e = .returned (.bool true) ∧ Heap W l w' := by
  have L := fun (V : World) (H : Heap W l V) => lives05_H (W := W) (l := l) (w := V) H
  by_cases h1 : 300 < n
  · have d1 : decide ((n : Int) > 300) = true := by simp; omega
    have d2 : decide ((300 : Int) < n) = true := by simp; omega
    go_enter Try.func3, Try.ntmps3
    go_wp2_with (first | go_skip | ((with_reducible refine (L _ H).mono ?_); clear H; rintro _ _ ⟨rfl, H⟩))
    go_ret
    exact ⟨rfl, H⟩
  · have h2 : 60 < m := by omega
    have d1 : decide ((n : Int) > 300) = false := by simp; omega
    have d2 : decide ((300 : Int) < n) = false := by simp; omega
    have d3 : decide ((m : Int) > 60) = true := by simp; omega
    have d4 : decide ((60 : Int) < m) = true := by simp; omega
    go_enter Try.func3, Try.ntmps3
    go_wp2_with (first | go_skip | ((with_reducible refine (L _ H).mono ?_); clear H; rintro _ _ ⟨rfl, H⟩))
    go_ret
    exact ⟨rfl, H⟩
theorem gplay_none (ea pa : Option Addr) (en ec pn pc : Nat) (F : List Flw) (h : en ≤ 300) (h2 : pn ≤ 60) (hl : F.length = en) (hF : ∀ x ∈ F, FlwOk x) (R : ∀ l' w', (∀ x ∈ l, x ∈ l') → Heap W l' w' → Rd w' ea (flwL F)) (hG : newG F = none) (H : Heap W l w) :
    Calls Try.prog 3 #[.slice ea en ec, .slice pa pn pc] w fun e w' => e = .returned (.bool true) ∧ Heap W l w' := by
  have d1 : decide ((en : Int) > 300) = false := by simp; omega
  have d2 : decide ((300 : Int) < en) = false := by simp; omega
  have d3 : decide ((pn : Int) > 60) = false := by simp; omega
  have d4 : decide ((60 : Int) < pn) = false := by simp; omega
  have L := fun (l : List Thing) (V : World) (H : Heap W l V) => lives05_H (W := W) (l := l) (w := V) H
  have T := twinFlows_H (W := W) (l := l) (w := w) ea en ec F hl (by omega) R H
  have N := fun (a : Option Addr) (c : Nat) (V : World) (H : Heap W (TwT a c en F :: l) V) => new_H (W := W) (l := TwT a c en F :: l) (w := V) a en c F hl (by omega) hF (fun w' h => by
      have := (h.rowRd (a := a) (n := en + 2) (c := c) List.mem_cons_self).takeN (flwL F).length
      rwa [List.take_left] at this) H
  rw [hG] at N
  have N2 := fun (x : Thing) (V : World) (H : Heap W (x :: l) V) => rnew_H (W := W) (l := x :: l) (w := V) ea en ec F hl (by omega) hF (fun l' w' hs h => R l' w' (fun y hy => hs y (List.mem_cons_of_mem _ hy)) h) H
  have LF := fun (a : Option Addr) (c : Nat) (h1 : en + 2 ≤ c) (h2 : c ≤ maxLen) => leftFlows_H (W := W) (l := TwT a c en F :: l) a ea en c ec F hl (by omega) h1 h2 List.mem_cons_self (fun l' w' hs h => R l' w' (fun y hy => hs y (List.mem_cons_of_mem _ hy)) h)
  have HG := Lib.hid hG
  clear hl hF R hG H
  go_enter Try.func3, Try.ntmps3
  go_wp2_with (go_skip)
  refine T.mono ?_
  clear T
  rintro e w1 ⟨a, c, rfl, hc1, hc2, H⟩
  have LF1 := LF a c hc1 hc2
  clear LF
  go_wp2_with (go_skip)
  refine (N a c _ H).mono ?_
  clear N H
  rintro e w2 ⟨rfl, H⟩
  go_wp2_with (go_skip)
  refine (N2 _ _ H).mono ?_
  clear H N2
  rintro e w3 (⟨_, rfl, H⟩ | ⟨c', p, hc, _⟩)
  · go_wp2_with (first | go_skip | ((with_reducible refine AnsH.call (by assumption) H ?_); clear H; intro _ H) | ((with_reducible refine (L _ _ H).mono ?_); clear H; rintro _ _ ⟨rfl, H⟩))
    go_ret
    exact ⟨rfl, H.tail⟩
  · rw [HG.out] at hc; cases hc
end
end Go.Proofs.Ytglehneaphigdaa
