/- FramesSpoilt: part 5 of its proof: Frame2, Frame3, FrBridge, Append, HeapClear, Pack, Take. -/
import Derived.Test.YtlinhcbjljcgbaaDoorFramesSpoiltPart4
import Derived.Lib.SliceRun
import Derived.OwnWalk
/- Frames, one behind the other: what is read of them, cut or spoilt (plain). -/
namespace Go.Proofs.YtlinhcbjljcgbaaDoor
set_option linter.unusedVariables false
/-- So many frames are read, up to there. -/
inductive Fw (zs : Bs) : List Bs → Nat → Prop
  | nil : Fw zs [] 0
  | snoc {l : List Bs} {k : Nat} : Fw zs l k → (getOf (zs.drop k)).e = 0 → Fw zs (l ++ [(getOf (zs.drop k)).body]) (k + (getOf (zs.drop k)).all)
/-- All that is read. -/
def ReadOf (zs : Bs) (l : List Bs) (k : Nat) : Prop := Fw zs l k ∧ (getOf (zs.drop k)).e ≠ 0
theorem getOf_ok {zs : Bs} (h : (getOf zs).e = 0) : 5 ≤ (getOf zs).all ∧ (getOf zs).all ≤ zs.length ∧ (getOf zs).body.length + 5 ≤ (getOf zs).all ∧ (getOf zs).body.length ≤ 8192 := by
  unfold getOf at *
  rcases tk_e zs with ⟨h1, h2, h3, h4⟩ | ⟨h1, h2, h3⟩
  · rw [if_neg (by omega)] at *
    split at h
    · simp at h
    · split at h
      · simp at h
      · split at h
        · simp at h
        · rename_i a b c
          rw [if_neg a, if_neg b, if_neg c]
          simp only [List.length_take, List.length_drop]
          omega
  · rw [if_pos (by omega)] at h
    have : (tk zs).e = 0 := h
    omega
theorem Fw.le {zs : Bs} {l : List Bs} {k : Nat} (h : Fw zs l k) : k ≤ zs.length ∧ 5 * l.length ≤ k ∧ (∀ x ∈ l, x.length ≤ 8192) := by
  induction h with
  | nil => exact ⟨Nat.zero_le _, Nat.zero_le _, by simp⟩
  | @snoc l k h h1 ih =>
    obtain ⟨i1, i2, i3⟩ := ih
    have h2 := getOf_ok h1
    rw [List.length_drop] at h2
    refine ⟨by omega, by simp; omega, fun x hx => ?_⟩
    rcases List.mem_append.1 hx with hx | hx
    · exact i3 x hx
    · rw [List.mem_singleton.1 hx]; exact h2.2.2.2
theorem Fw.det {zs : Bs} {l : List Bs} {k : Nat} (h : Fw zs l k) : ∀ {m : List Bs} {j : Nat}, Fw zs m j → m.length = l.length → m = l ∧ j = k := by
  induction h with
  | nil => intro m j g hl; cases g with
    | nil => exact ⟨rfl, rfl⟩
    | snoc _ _ => simp at hl
  | @snoc l k h h1 ih =>
    intro m j g hl
    cases g with
    | nil => simp at hl
    | snoc g g1 =>
      obtain ⟨rfl, rfl⟩ := ih g (by simpa using hl)
      exact ⟨rfl, rfl⟩
theorem Fw.pre {zs : Bs} {l : List Bs} {k : Nat} (h : Fw zs l k) : ∀ n, n < l.length → ∃ m j, Fw zs m j ∧ m.length = n ∧ (getOf (zs.drop j)).e = 0 := by
  induction h with
  | nil => intro n hn; simp at hn
  | @snoc l k h h1 ih =>
    intro n hn
    by_cases e : n = l.length
    · exact ⟨l, k, h, e.symm, h1⟩
    · exact ih n (by simp at hn; omega)
theorem ReadOf.eq {zs : Bs} {l m : List Bs} {k j : Nat} (h : ReadOf zs l k) (g : ReadOf zs m j) : m = l ∧ j = k := by
  have key : ∀ {l m : List Bs} {k j : Nat}, ReadOf zs l k → ReadOf zs m j → ¬ l.length < m.length := by
    intro l m k j h g hlt
    obtain ⟨m2, j2, h2, hl2, h3⟩ := g.1.pre _ hlt
    obtain ⟨rfl, rfl⟩ := h.1.det h2 hl2
    exact h.2 h3
  have h1 := key h g
  have h2 := key g h
  exact h.1.det g.1 (by omega)
/-- Frames of bodies. -/
def frs (L : List Bs) : Bs := (L.map frameOf).flatten
theorem frs_cons (x : Bs) (L : List Bs) : frs (x :: L) = frameOf x ++ frs L := rfl
theorem frs_append (L M : List Bs) : frs (L ++ M) = frs L ++ frs M := by unfold frs; simp
theorem frs_one (x : Bs) : frs [x] = frameOf x := by unfold frs; simp
/-- Frames that are whole are read. -/
theorem Fw.frs : ∀ (L : List Bs) (A B : Bs) {l : List Bs}, (∀ x ∈ L, x.length ≤ 8192) → Fw (A ++ (Proofs.YtlinhcbjljcgbaaDoor.frs L ++ B)) l A.length → Fw (A ++ (Proofs.YtlinhcbjljcgbaaDoor.frs L ++ B)) (l ++ L) (A.length + (Proofs.YtlinhcbjljcgbaaDoor.frs L).length)
  | [], A, B, l, _, h => by simpa [Proofs.YtlinhcbjljcgbaaDoor.frs] using h
  | x :: L, A, B, l, hL, h => by
    have hg : getOf ((A ++ (Proofs.YtlinhcbjljcgbaaDoor.frs (x :: L) ++ B)).drop A.length) = ⟨x, (frameOf x).length, 0⟩ := by
      rw [List.drop_left, frs_cons, List.append_assoc]
      exact getOf_frame (hL x List.mem_cons_self) _
    have h1 := Fw.snoc h (by rw [hg])
    rw [hg] at h1
    have e : A ++ (Proofs.YtlinhcbjljcgbaaDoor.frs (x :: L) ++ B) = (A ++ frameOf x) ++ (Proofs.YtlinhcbjljcgbaaDoor.frs L ++ B) := by rw [frs_cons]; simp
    have h2 : Fw ((A ++ frameOf x) ++ (Proofs.YtlinhcbjljcgbaaDoor.frs L ++ B)) (l ++ [x]) (A ++ frameOf x).length := by
      rw [← e, List.length_append]; exact h1
    have h3 := Fw.frs L (A ++ frameOf x) B (fun y hy => hL y (List.mem_cons_of_mem _ hy)) h2
    rw [← e] at h3
    have e4 : A.length + (Proofs.YtlinhcbjljcgbaaDoor.frs (x :: L)).length = (A ++ frameOf x).length + (Proofs.YtlinhcbjljcgbaaDoor.frs L).length := by rw [frs_cons, List.length_append, List.length_append]; omega
    rw [e4, show l ++ x :: L = (l ++ [x]) ++ L by simp]
    exact h3
theorem Fw.all (L : List Bs) (B : Bs) (hL : ∀ x ∈ L, x.length ≤ 8192) : Fw (Proofs.YtlinhcbjljcgbaaDoor.frs L ++ B) L (Proofs.YtlinhcbjljcgbaaDoor.frs L).length := by
  have := Fw.frs L [] B (l := []) hL .nil
  simpa using this
theorem tk_cut {n : Nat} (hn : n ≤ 8192) {k : Nat} (hk : k < (num2 n).length) : (tk ((num2 n).take k)).e = 5 := by
  rw [tk_short]
  rw [num2_len] at hk
  refine ⟨by rw [List.length_take]; split at hk <;> omega, fun c hc => ?_⟩
  unfold num2 at hc
  split at hk
  · obtain rfl : k = 0 := by omega
    simp at hc
  · rename_i h
    rw [if_neg h] at hc
    have : c ∈ [BitVec.ofNat 8 (128 + n % 128)] := by
      have h1 : k = 0 ∨ k = 1 := by omega
      rcases h1 with rfl | rfl
      · simp at hc
      · exact hc
    rw [List.mem_singleton.1 this, BitVec.toNat_ofNat]
    omega
/-- A frame that is cut is none. -/
theorem getOf_cut {x : Bs} (hx : x.length ≤ 8192) {k : Nat} (hk : k < (frameOf x).length) : (getOf ((frameOf x).take k)).e ≠ 0 := by
  have hl := frameOf_len x
  by_cases h : k < (num2 x.length).length
  · have e : (frameOf x).take k = (num2 x.length).take k := by
      unfold frameOf
      rw [List.append_assoc, List.take_append_of_le_length (by omega)]
    unfold getOf
    rw [e, tk_cut hx h, if_pos (by decide)]
    decide
  · have e : (frameOf x).take k = num2 x.length ++ ((x ++ four (sumOf (num2 x.length ++ x))).take (k - (num2 x.length).length)) := by
      unfold frameOf
      rw [List.append_assoc, List.take_append, List.take_of_length_le (by omega)]
    unfold getOf
    rw [e, tk_num2 hx]
    simp only [ne_eq, not_true_eq_false, if_false]
    rw [if_neg (by omega), ← e, if_pos (by rw [List.length_take]; omega)]
    decide
theorem getOf_nil : (getOf []).e ≠ 0 := by decide
/-- Frames cut somewhere: those are read that are whole. -/
theorem readOf_cut {L : List Bs} (hL : ∀ x ∈ L, x.length ≤ 8192) {n to : Nat} (hn : n ≤ L.length) (h1 : (frs (L.take n)).length ≤ to) (h2 : n = L.length ∧ to ≤ (frs L).length ∨ n < L.length ∧ to < (frs (L.take (n + 1))).length) : ReadOf ((frs L).take to) (L.take n) (frs (L.take n)).length := by
  have e0 : frs L = frs (L.take n) ++ frs (L.drop n) := by rw [← frs_append, List.take_append_drop]
  have e1 : (frs L).take to = frs (L.take n) ++ (frs (L.drop n)).take (to - (frs (L.take n)).length) := by
    rw [e0, List.take_append, List.take_of_length_le h1]
  refine ⟨by rw [e1]; exact Fw.all _ _ (fun x hx => hL x (List.mem_of_mem_take hx)), ?_⟩
  rw [e1, List.drop_left]
  rcases h2 with ⟨rfl, h2⟩ | ⟨hlt, h2⟩
  · have e9 : ∀ j, (frs (L.drop L.length)).take j = [] := fun j => by rw [List.drop_length]; unfold frs; simp
    rw [e9]
    exact getOf_nil
  · have e2 : L.drop n = L[n] :: L.drop (n + 1) := List.drop_eq_getElem_cons hlt
    have e3 : L.take (n + 1) = L.take n ++ [L[n]] := by rw [List.take_add_one, List.getElem?_eq_getElem hlt]; rfl
    rw [e3, frs_append, frs_one, List.length_append] at h2
    rw [e2, frs_cons, List.take_append_of_le_length (by omega)]
    exact getOf_cut (hL _ (List.getElem_mem hlt)) (by omega)
theorem readOf_frs {L : List Bs} (hL : ∀ x ∈ L, x.length ≤ 8192) : ReadOf (frs L) L (frs L).length := by
  have := readOf_cut hL (n := L.length) (to := (frs L).length) (Nat.le_refl _) (by rw [List.take_length]; exact Nat.le_refl _) (.inl ⟨rfl, Nat.le_refl _⟩)
  rwa [List.take_length, List.take_length] at this
end Go.Proofs.YtlinhcbjljcgbaaDoor

/- A frame with bits turned in its body, or its sum, is none (plain). -/
namespace Go.Proofs.YtlinhcbjljcgbaaDoor
set_option linter.unusedVariables false
theorem flipAt_mid (A p B : Bs) (k : Nat) (h : k < 8 * p.length) : flipAt (A ++ (p ++ B)) (8 * A.length + k) = A ++ (flipAt p k ++ B) := by
  unfold flipAt
  have e1 : (8 * A.length + k) / 8 = A.length + k / 8 := by omega
  have e2 : (8 * A.length + k) % 8 = k % 8 := by omega
  have e3 : k / 8 < p.length := by omega
  rw [e1, e2, List.set_append_right _ _ (by omega), List.set_append_left _ _ (by omega), show A.length + k / 8 - A.length = k / 8 by omega]
  congr 4
  rw [List.getD_eq_getElem?_getD, List.getD_eq_getElem?_getD, List.getElem?_append_right (by omega), List.getElem?_append_left (by omega), show A.length + k / 8 - A.length = k / 8 by omega]
theorem flips_mid (A p B : Bs) (bits : BitVec 32) (f : Nat) (h : f + 32 ≤ 8 * p.length) : ∀ i, i ≤ 32 → flips (A ++ (p ++ B)) bits (8 * A.length + f) i = A ++ (flips p bits f i ++ B)
  | 0, _ => rfl
  | i + 1, hi => by
    unfold flips
    rw [flips_mid A p B bits f h i (by omega)]
    split
    · rw [show 8 * A.length + f + i = 8 * A.length + (f + i) by omega, flipAt_mid _ _ _ _ (by rw [flips_length]; omega)]
    · rfl
/-- A frame spoilt behind its number. -/
theorem getOf_spoilt {x : Bs} (hx : x.length ≤ 8192) {bits : BitVec 32} (hb : bits ≠ 0#32) {f : Nat} (h1 : 8 * (num2 x.length).length ≤ f) (h2 : f + 32 ≤ 8 * (frameOf x).length) (B : Bs) : (getOf (flips (frameOf x) bits f 32 ++ B)).e ≠ 0 := by
  have hl := frameOf_len x
  have e1 : frameOf x = num2 x.length ++ ((x ++ four (sumOf (num2 x.length ++ x))) ++ []) := by unfold frameOf; simp
  have hr : (x ++ four (sumOf (num2 x.length ++ x))).length = x.length + 4 := by simp [four_len]
  have e2 : flips (frameOf x) bits f 32 = num2 x.length ++ (flips (x ++ four (sumOf (num2 x.length ++ x))) bits (f - 8 * (num2 x.length).length) 32 ++ []) := by
    have := flips_mid (num2 x.length) (x ++ four (sumOf (num2 x.length ++ x))) [] bits (f - 8 * (num2 x.length).length) (by rw [hr]; omega) 32 (Nat.le_refl _)
    rw [← e1, show 8 * (num2 x.length).length + (f - 8 * (num2 x.length).length) = f by omega] at this
    exact this
  have hfl : (flips (frameOf x) bits f 32).length = (frameOf x).length := flips_length _ _ _ _
  have e3 : tk (flips (frameOf x) bits f 32 ++ B) = ⟨x.length, (num2 x.length).length, 0⟩ := by
    rw [e2, List.append_assoc]
    exact tk_num2 hx _
  have e4 := burst (frameOf x) bits f (by omega) (endsOf_frame _) h2
  rw [decide_eq_false hb] at e4
  unfold getOf
  rw [e3]
  simp only [ne_eq, not_true_eq_false, if_false]
  rw [if_neg (by omega), if_neg (by rw [List.length_append, hfl]; omega), ← hl, ← hfl, List.take_left, if_pos e4]
  decide
theorem readOf_spoilt {L : List Bs} (hL : ∀ x ∈ L, x.length ≤ 8192) {k : Nat} (hk : k < L.length) {bits : BitVec 32} (hb : bits ≠ 0#32) {f : Nat} (h1 : 8 * ((frs (L.take k)).length + (num2 (L[k]).length).length) ≤ f) (h2 : f + 32 ≤ 8 * (frs (L.take (k + 1))).length) : ReadOf (flips (frs L) bits f 32) (L.take k) (frs (L.take k)).length := by
  have e3 : L.take (k + 1) = L.take k ++ [L[k]] := by rw [List.take_add_one, List.getElem?_eq_getElem hk]; rfl
  rw [e3, frs_append, frs_one, List.length_append] at h2
  have e0 : frs L = frs (L.take k) ++ (frameOf (L[k]) ++ frs (L.drop (k + 1))) := by
    rw [← frs_cons, ← frs_append, ← List.drop_eq_getElem_cons hk, List.take_append_drop]
  have e1 := flips_mid (frs (L.take k)) (frameOf (L[k])) (frs (L.drop (k + 1))) bits (f - 8 * (frs (L.take k)).length) (by omega) 32 (Nat.le_refl _)
  rw [← e0, show 8 * (frs (L.take k)).length + (f - 8 * (frs (L.take k)).length) = f by omega] at e1
  rw [e1]
  refine ⟨Fw.all _ _ (fun x hx => hL x (List.mem_of_mem_take hx)), ?_⟩
  rw [List.drop_left]
  exact getOf_spoilt (hL _ (List.getElem_mem hk)) hb (by omega) (by omega) _
end Go.Proofs.YtlinhcbjljcgbaaDoor

/- What the sums' chapter's functions answer, over a memory of things; bytes: clip, concat, twin, left, same. -/
namespace Go.Proofs.YtlinhcbjljcgbaaDoor
open Go.RowKit
set_option linter.unusedSimpArgs false
set_option linter.unusedVariables false
section
variable {W w w' : World} {l : List Thing}
theorem Own.blk {base e size n : Nat} {v : Value} {xs : List Value} (h : Own w base e size v n xs) {k : Nat} (hk : v.ownBlock = some k) : base ≤ k ∧ k < w.heap.size := by
  rcases h.2 with ⟨rfl, _⟩ | ⟨g, off, cap, cur, rfl, hb, hg, _⟩
  · cases hk
  · simp [Value.ownBlock] at hk
    subst hk
    exact ⟨hb, (Array.getElem?_eq_some_iff.1 hg).1⟩
theorem Below.grownNone (h : Below w.heap.size w w') : w.grownBy w' none := ⟨h.os, h.tape, h.output, h.size, fun k hk _ => h.block k hk⟩
theorem Heap.addOwn (H : Heap W l w) {e size n : Nat} {v : Value} {xs : List Value} (hb : Below w.heap.size w w') (ho : Own w' w.heap.size e size v n xs) : Heap W (OwnT e size v n xs :: l) w' :=
  H.add (Below.grownNone hb) (ho.mono (Nat.zero_le _)) fun k hk => ho.blk hk
theorem Heap.addRowB (H : Heap W l w) {e size n : Nat} {v : Value} {xs : List Value} (hb : Below w.heap.size w w') (ho : w'.ownsRow w.heap.size e size v n xs) : Heap W (RowT e size v n xs :: l) w' :=
  H.add (Below.grownNone hb) (by
    obtain ⟨h1, h2⟩ := ho
    refine ⟨h1, ?_⟩
    rcases h2 with h2 | ⟨g, cap, cur, hv, hg, r⟩
    · exact .inl h2
    · exact .inr ⟨g, cap, cur, hv, Nat.zero_le _, r⟩) fun k hk => (Own.ofRow ho).blk hk
theorem Heap.addCel (H : Heap W l w) {g t : Nat} {c : Array Value} (hb : Below w.heap.size w w') (hg : w.heap.size ≤ g) (hc : w'.heap[g]? = some (.cells c t (0, 0))) : Heap W (Cel g c t :: l) w' :=
  H.add (Below.grownNone hb) hc fun k hk => by
    cases hk
    exact ⟨hg, (Array.getElem?_eq_some_iff.1 hc).1⟩
theorem TabAt.heap (h : TabAt W) (H : Heap W l w) : TabAt w := h.below H.low
/-- Bytes that may be read whatever else is done. -/
abbrev RdB (W : World) (l : List Thing) (a : Option Addr) (zs : Bs) : Prop := ∀ w', Heap W l w' → Rd w' a (zs.map B8)
abbrev OwnB (v : Value) (n : Nat) (zs : Bs) : Thing := OwnT 5 1 v n (zs.map B8)
theorem sput_H (a : Option Addr) (n c : Nat) (zs : Bs) (hn : n = zs.length) (hl : n ≤ 100000) (T : TabAt W) (R : RdB W l a zs) (H : Heap W l w) :
    Calls Tryd.prog 12 #[.slice a n c] w fun e w' => ∃ v, e = .returned v ∧ Heap W (OwnB v (n + 4) (zs ++ four (sumOf zs)) :: l) w' := by
  refine (put_any a n c zs w hn hl (R w H) (T.heap H)).mono ?_
  rintro e w' ⟨v, rfl, ho, hb⟩
  exact ⟨v, rfl, H.addOwn hb ho⟩
theorem rput_H (a : Option Addr) (n c : Nat) (zs : Bs) (hn : n = zs.length) (hl : n ≤ 100000) (R : RdB W l a zs) (H : Heap W l w) :
    Calls Tryd.prog 17 #[.slice a n c] w fun e w' => ∃ v, e = .returned v ∧ Heap W (OwnB v (n + 4) (zs ++ four (sumOf zs)) :: l) w' := by
  refine (refPut_any a n c zs w hn hl (R w H)).mono ?_
  rintro e w' ⟨v, rfl, ho, hb⟩
  exact ⟨v, rfl, H.addOwn hb ho⟩
theorem sends_H (a : Option Addr) (n c : Nat) (zs : Bs) (hn : n = zs.length) (hl : n ≤ 100000) (hc : n ≤ c) (hm : c ≤ maxLen) (T : TabAt W) (R : RdB W l a zs) : AnsH W l 18 #[.slice a n c] (.bool (endsOf zs)) := by
  intro w H
  exact (ends_any a n c zs w hn hl hc hm (R w H) (T.heap H)).mono fun _ _ ⟨he, hb⟩ => ⟨he, H.grow hb⟩
theorem rends_H (a : Option Addr) (n c : Nat) (zs : Bs) (hn : n = zs.length) (hl : n ≤ 100000) (hc : n ≤ c) (hm : c ≤ maxLen) (R : RdB W l a zs) : AnsH W l 19 #[.slice a n c] (.bool (endsOf zs)) := by
  intro w H
  exact (refEnds_any a n c zs w hn hl hc hm (R w H)).mono fun _ _ ⟨he, hb⟩ => ⟨he, H.grow hb⟩
theorem sameB_H (a1 a2 : Option Addr) (n1 n2 c1 c2 : Nat) (xs ys : Bs) (h1 : n1 = xs.length) (h2 : n2 = ys.length) (hl : n1 ≤ maxLen) (R1 : RdB W l a1 xs) (R2 : RdB W l a2 ys) : AnsH W l 16 #[.slice a1 n1 c1, .slice a2 n2 c2] (.bool (decide (xs = ys))) := by
  intro w H
  exact (sameBytes_any a1 a2 n1 n2 c1 c2 xs ys w h1 h2 hl (R1 w H) (R2 w H)).mono fun _ _ ⟨he, hb⟩ => ⟨he, H.grow hb⟩
/-- A twin: the bytes, and two marks behind them. -/
abbrev TwB (g : Nat) (zs : Bs) : Thing := Cel g (zs.map B8 ++ [Value.int .u8 195, Value.int .u8 195]).toArray 5
theorem TwB.rd {g : Nat} {zs : Bs} (H : Heap W l w) (m : TwB g zs ∈ l) : Rd w (some ⟨g, 0, none⟩) (zs.map B8) := by
  have := Rd.take (H.celRd m) (zs.map B8).length
  rw [List.toList_toArray, List.take_left] at this
  exact this
theorem twinB_H (a : Option Addr) (n c : Nat) (zs : Bs) (hn : n = zs.length) (hl : n ≤ 1000000) (R : RdB W l a zs) (H : Heap W l w) :
    Calls Tryd.prog 11 #[.slice a n c] w fun e w' => ∃ g, e = .returned (.slice (some ⟨g, 0, none⟩) n (n + 2)) ∧ Heap W (TwB g zs :: l) w' := by
  refine (twinBytes_any a n c (zs.map B8) w (by simpa using hn) hl (R w H) (oneCell_B8 _)).mono ?_
  rintro e w' ⟨g, rfl, hg, ht, hb⟩
  exact ⟨g, rfl, H.addCel hb hg ht⟩
theorem leftB_H (g n c2 : Nat) (a2 : Option Addr) (n2 : Nat) (xs ys : Bs) (hn : n = xs.length) (hl : n ≤ 1000000) (h2 : n2 = ys.length) (m : TwB g xs ∈ l) (R : RdB W l a2 ys) : AnsH W l 20 #[.slice (some ⟨g, 0, none⟩) n (n + 2), .slice a2 n2 c2] (.bool (decide (xs = ys))) := by
  intro w H
  exact (leftBytes_any g n c2 a2 n2 xs ys w hn hl h2 (H.blk m) (R w H)).mono fun _ _ ⟨he, hb⟩ => ⟨he, H.grow hb⟩
theorem clipB_H (a : Option Addr) (n c : Nat) (hn : n ≤ c) (hc : c ≤ maxLen) : AnsH W l 34 #[.slice a n c] (.slice a n n) := by
  intro w H
  exact (clip_any a n c w hn hc).mono fun _ _ ⟨he, hb⟩ => ⟨he, by rw [← hb]; exact H⟩
/-- Of two lists, one behind the other. -/
theorem concatB_H (k : Nat) (a b : Option Addr) (n m ca cb : Nat) (xs ys : Bs) (hn : xs.length = n) (hm : ys.length = m) (hl : n + m ≤ 1000000) (hk : Cel k #[.slice a n ca, .slice b m cb] 22 ∈ l) (R1 : RdB W l a xs) (R2 : RdB W l b ys) (H : Heap W l w) :
    Calls Tryd.prog 35 #[.slice (some ⟨k, 0, none⟩) 2 2] w fun e w' => ∃ v, e = .returned v ∧ Heap W (RowT 5 1 v (n + m) ((xs ++ ys).map B8) :: l) w' := by
  subst hn hm
  have hp : Parts w [.slice a xs.length ca, .slice b ys.length cb] [xs.map B8, ys.map B8] := ⟨rfl, fun i hi => by
    match i, hi with
    | 0, _ => exact ⟨a, ca, by simp, R1 w H, oneCell_B8 _⟩
    | 1, _ => exact ⟨b, cb, by simp, R2 w H, oneCell_B8 _⟩⟩
  refine (concat_any (some ⟨k, 0, none⟩) 2 2 [.slice a xs.length ca, .slice b ys.length cb] [xs.map B8, ys.map B8] w rfl (by unfold maxLen; omega) (H.celRd hk) hp (by simp; omega)).mono ?_
  rintro e w' ⟨v, rfl, ho, hb⟩
  refine ⟨v, rfl, ?_⟩
  have e1 : [xs.map B8, ys.map B8].flatten = (xs ++ ys).map B8 := by simp
  have e2 : ((xs ++ ys).map B8).length = xs.length + ys.length := by simp
  rw [e1, e2] at ho
  exact H.addRowB hb ho
end
end Go.Proofs.YtlinhcbjljcgbaaDoor

/- Append from whatever can be read (nil too); a block's head as a row. -/
namespace Go.Proofs.YtlinhcbjljcgbaaDoor
open Go.RowKit
set_option linter.unusedSimpArgs false
set_option linter.unusedVariables false
theorem Heap.celRowA {W w : World} {l : List Thing} {g e size n m : Nat} {c : Array Value} (H : Heap W (Cel g c e :: l) w) (hc : c.size = m * size) (hn : n ≤ m) (hm : m ≤ maxLen) : Heap W (RowT e size (.slice (some ⟨g, 0, none⟩) n m) n (c.toList.take (n * size)) :: l) w := by
  have h2 : n * size ≤ m * size := Nat.mul_le_mul_right _ hn
  exact H.head (World.grownBy.refl _ _) ⟨by simp; omega, .inr ⟨g, m, c, rfl, Nat.zero_le _, H.blk List.mem_cons_self, hn, hm, by omega, rfl⟩⟩ (.inl rfl)
section
variable {ops : Array Oper} {rest : List Oper} {o : Oper} {a : Act} {w W : World} {l : List Thing} {Q : Exit → Act → World → Prop}
/-- append(s, x...), x whatever can be read. -/
theorem wpl_appendA {t e size bytes : Nat} {z : Value} (T : SlTy Tryd.prog t e size bytes z) (hgd : o.guard = none) {s x : Operand}
    (ho : o.op = .call { callee := .builtin .append, args := #[s, x], argTypes := #[t, t] }) {v : Value} (hs : a.eval s = v) {ao : Option Addr} {m c : Nat} (hx : a.eval x = .slice ao m c)
    {n : Nat} {xs news : List Value} (H : Heap W (RowT e size v n xs :: l) w) (hrd : Rd w ao news) (hl : news.length = m * size) (h1 : OneCells news)
    (h63 : n + m ≤ maxLen) (hbytes : (n + m) * bytes ≤ 140737488355328)
    (h : ∀ v' w', (v' = .slice none 0 0 ↔ v = .slice none 0 0 ∧ m = 0) → Heap W (RowT e size v' (n + m) (xs ++ news) :: l) w' → wpList Tryd.prog ops Q rest (a.put o.dst v') w') : wpList Tryd.prog ops Q (o :: rest) a w := by
  by_cases hm : m = 0
  · subst hm
    have hn0 : news = [] := List.eq_nil_of_length_eq_zero (by simpa using hl)
    subst hn0
    obtain ⟨i, hi, hz, hsi, hbi⟩ := T.inf
    have hr : (Builtin.append_ #[t, t] o.type #[v, .slice ao 0 c]).run Tryd.prog w = .ok v w := by
      rcases (H.ok _ List.mem_cons_self).2 with ⟨rfl, rfl⟩ | ⟨g, cap, cur, rfl, _, _, hnc, _⟩
      · cases ao <;> simp [Builtin.append_, run_underlying T.und, sizeOf, typeInfo, hi, Builtin.lenOf, Builtin.firstCells, loadCells, loadCellsFrom]
      · cases ao <;> simp [Builtin.append_, run_underlying T.und, sizeOf, typeInfo, hi, Builtin.lenOf, Builtin.firstCells, hnc, storeCells, loadCells, loadCellsFrom]
    refine wpList_plain hgd fun K hK => ?_
    unfold Oper.wp execOp
    simp only [ho, resolve, invoke, builtin, Sem.run_bind, Sem.run_pure, Result.andThen_ok, List.map_toArray, List.map_cons, List.map_nil, hs, hx, hr]
    exact hK _ _ (h v w ⟨fun e => ⟨e, rfl⟩, fun e => e.1⟩ (by rw [List.append_nil]; exact H))
  · obtain ⟨b, off, rfl, _⟩ := hrd.lt (by rw [hl]; have := T.pos; exact Nat.mul_pos (by omega) this)
    refine wpl_appendH T hgd ho hs hx H hrd hl h1 h63 hbytes fun v' w' H' => h v' w' ⟨fun e => ?_, fun e => absurd e.2 hm⟩ H'
    subst e
    obtain ⟨_, ⟨_, h0⟩ | ⟨g, cap, cur, hv, _⟩⟩ := H'.ok _ List.mem_cons_self
    · omega
    · cases hv
/-- s[:hi]. -/
theorem wpl_cutTo {t e size bytes : Nat} {z : Value} (T : SlTy Tryd.prog t e size bytes z) {dst : Option Tmp} {ty : TypeId} {pos : String} {after : Array Edge} {guard : Option (Nat × Bool)} {x y : Operand} (hw : Region.wanted ⟨dst, .slice t x none (some y) none, ty, pos, after, guard⟩ (yielded ops a.tmps) = true)
    {ao : Option Addr} {n c hi : Nat} {k : IntKind} (hx : a.eval x = .slice ao n c) (hy : a.eval y = .int k (hi : Int)) (hh : hi ≤ c) (h : wpList Tryd.prog ops Q rest (a.put dst (.slice ao hi c)) w) : wpList Tryd.prog ops Q (⟨dst, .slice t x none (some y) none, ty, pos, after, guard⟩ :: rest) a w := by
  refine wpl_pure hw _ (fun w => ?_) h
  have hr := run_cutTo (P := Tryd.prog) T ao n c hi k hh w
  have hs : (Instr.sliceAt t (.slice ao n c) none (some (.int k (hi : Int))) none).run Tryd.prog w = .ok (.slice ao hi c) w := by
    unfold Instr.sliceAt
    rw [Sem.run_bind, run_underlying T.und]
    simp only [Result.andThen_ok]
    exact hr
  unfold execOp
  simp only [hx, Option.map_some, hy, Option.map_none, Sem.run_bind, hs, Result.andThen_ok, Sem.run_pure]
/-- s[lo:hi]. -/
theorem wpl_cutBoth {t e size bytes : Nat} {z : Value} (T : SlTy Tryd.prog t e size bytes z) {dst : Option Tmp} {ty : TypeId} {pos : String} {after : Array Edge} {guard : Option (Nat × Bool)} {x y u : Operand} (hw : Region.wanted ⟨dst, .slice t x (some u) (some y) none, ty, pos, after, guard⟩ (yielded ops a.tmps) = true)
    {ao : Option Addr} {n c lo hi : Nat} {k k2 : IntKind} (hx : a.eval x = .slice ao n c) (hu : a.eval u = .int k (lo : Int)) (hy : a.eval y = .int k2 (hi : Int)) (hl : lo ≤ hi) (hh : hi ≤ c) {ao2 : Option Addr} {m c2 : Nat} (he : cutA ao c lo size = ao2) (hm : hi - lo = m) (hc2 : c - lo = c2) (h : wpList Tryd.prog ops Q rest (a.put dst (.slice ao2 m c2)) w) : wpList Tryd.prog ops Q (⟨dst, .slice t x (some u) (some y) none, ty, pos, after, guard⟩ :: rest) a w := by
  subst he hm hc2
  refine wpl_pure hw _ (fun w => ?_) h
  have hr := run_cut (P := Tryd.prog) T ao n c lo hi k k2 hl hh w
  have hs : (Instr.sliceAt t (.slice ao n c) (some (.int k (lo : Int))) (some (.int k2 (hi : Int))) none).run Tryd.prog w = .ok (.slice (cutA ao c lo size) (hi - lo) (c - lo)) w := by
    unfold Instr.sliceAt
    rw [Sem.run_bind, run_underlying T.und]
    simp only [Result.andThen_ok]
    exact hr
  unfold execOp
  simp only [hx, Option.map_some, hu, hy, Option.map_none, Sem.run_bind, hs, Result.andThen_ok, Sem.run_pure]
theorem wpQ_loadRdR0 {T n : Nat} {z : Array Value} {dst : Option Tmp} {ty : TypeId} {pos : String} {after : Array Edge} {guard : Option (Nat × Bool)} {x : Operand} {b k : Nat} {K : Act → Prop} {H : Heap W l w} (RT : RowTy T n z) (hw : Region.wanted ⟨dst, .load T x, ty, pos, after, guard⟩ (yielded ops a.tmps) = true) (hx : a.eval x = .pointer (some ⟨b, k, none⟩))
    {xs : List Value} {c1 : Array Value} (R : ∀ w', Heap W l w' → Rd w' (some ⟨b, 0, none⟩) xs) (hn : k + n ≤ xs.length) (h0 : 0 < n) (hv : ((xs.drop k).take n).toArray = c1)
    (h : wpQuiet Tryd.prog ops (fun w' => ∃ d, w' = H.any d) K rest (a.put dst (.agg c1))) : wpQuiet Tryd.prog ops (fun w' => ∃ d, w' = H.any d) K (⟨dst, .load T x, ty, pos, after, guard⟩ :: rest) a :=
  wpQ_loadRdR RT hw hx R (Nat.zero_add k).symm hn h0 hv h
end
end Go.Proofs.YtlinhcbjljcgbaaDoor

/- clear of a slice; []T{}. -/
namespace Go.Proofs.YtlinhcbjljcgbaaDoor
open Go.RowKit
set_option linter.unusedSimpArgs false
set_option linter.unusedVariables false
section
variable {ops : Array Oper} {rest : List Oper} {o : Oper} {a : Act} {w W : World} {l : List Thing} {Q : Exit → Act → World → Prop}
theorem wpl_clearC {t e size bytes : Nat} {z : Value} (T : SlTy Tryd.prog t e size bytes z) (hz1 : ∀ u ∈ z.cells, u.oneCell' = true) (hgd : o.guard = none) {x : Operand}
    (ho : o.op = .call { callee := .builtin .clear, args := #[x], argTypes := #[t] }) {g off n c e' : Nat} (hx : a.eval x = .slice (some ⟨g, off, none⟩) n c)
    {cur : Array Value} (H : Heap W (Cel g cur e' :: l) w) (hfit : off + n * size ≤ cur.size)
    (h : ∀ c1 w', c1.size = cur.size → c1.toList.take off = cur.toList.take off → Heap W (Cel g c1 e' :: l) w' → wpList Tryd.prog ops Q rest (a.put o.dst (.tuple #[])) w') : wpList Tryd.prog ops Q (o :: rest) a w := by
  refine wpList_plain hgd fun K hK => ?_
  have hg := H.blk List.mem_cons_self
  obtain ⟨i, hi, hz, hsi, hbi⟩ := T.inf
  have r2 : ∀ w, (zeroValue e).run Tryd.prog w = .ok z w := fun w => by simp [zeroValue, typeInfo, hi, hz, go_sem]
  rcases n with _ | n
  · have hr : (Builtin.clear_ #[t] o.type #[.slice (some ⟨g, off, none⟩) 0 c]).run Tryd.prog w = .ok (.tuple #[]) w := by
      simp [Builtin.clear_, run_underlying T.und]
    unfold Oper.wp execOp
    simp only [ho, resolve, invoke, builtin, Sem.run_bind, Sem.run_pure, Result.andThen_ok, List.map_toArray, List.map_cons, List.map_nil, hx, hr]
    exact hK _ _ (h _ _ rfl rfl H)
  · have hs : (Builtin.zeroCells z.cells (n + 1)).size = (n + 1) * size := by simp [Builtin.zeroCells, T.zc]
    have h1 : ∀ v ∈ (Builtin.zeroCells z.cells (n + 1)).toList, v.oneCell' = true := by
      intro v hv
      simp only [Builtin.zeroCells, Array.toList_map, Array.toList_range, List.mem_map, List.mem_range] at hv
      obtain ⟨j, hj, rfl⟩ := hv
      have hp : 0 < z.cells.size := by rw [T.zc]; exact T.pos
      have hlt : j % z.cells.size < z.cells.size := Nat.mod_lt _ hp
      rw [getElem!_pos z.cells _ hlt]
      exact hz1 _ (Array.getElem_mem hlt)
    have hst := run_storeCells_at Tryd.prog g off e' (Builtin.zeroCells z.cells (n + 1)).toList 0 cur w hg (by simp [hs]; exact hfit) h1
    simp only [Nat.add_zero] at hst
    have hr : (Builtin.clear_ #[t] o.type #[.slice (some ⟨g, off, none⟩) (n + 1) c]).run Tryd.prog w = .ok (.tuple #[]) (w.setRow g (cur.toList.take off ++ (Builtin.zeroCells z.cells (n + 1)).toList ++ cur.toList.drop (off + (Builtin.zeroCells z.cells (n + 1)).toList.length)).toArray) := by
      simp only [Builtin.clear_]
      simp [run_underlying T.und, r2, hst]
    unfold Oper.wp execOp
    simp only [ho, resolve, invoke, builtin, Sem.run_bind, Sem.run_pure, Result.andThen_ok, List.map_toArray, List.map_cons, List.map_nil, hx, hr]
    refine hK _ _ (h _ _ ?_ ?_ (H.head ⟨rfl, rfl, rfl, by simp, fun k _ hk => setRow_other w g k _ (fun e => hk (by show some k = some g; rw [e]))⟩ (setRow_heap w g cur _ e' _ hg) (.inl rfl)))
    · simp [hs]; omega
    · have hA : (cur.toList.take off).length = off := by simp; omega
      simp only [List.append_assoc]
      rw [List.take_append_of_le_length (by rw [hA]; exact Nat.le_refl _), List.take_of_length_le (by rw [hA]; exact Nat.le_refl _)]
theorem wpl_bs0 {dst : Option Tmp} {ty : TypeId} {pos : String} {after : Array Edge} {guard : Option (Nat × Bool)} {t e : Nat} (hw : Region.wanted ⟨dst, .buildSlice t 0 #[], ty, pos, after, guard⟩ (yielded ops a.tmps) = true)
    {size bytes : Nat} {z : Value} (T : SlTy Tryd.prog t e size bytes z) (H : Heap W l w)
    (h : ∀ p w', Heap W (Cel p #[] e :: l) w' → wpList Tryd.prog ops Q rest (a.put dst (.slice (some ⟨p, 0, none⟩) 0 0)) w') : wpList Tryd.prog ops Q (⟨dst, .buildSlice t 0 #[], ty, pos, after, guard⟩ :: rest) a w := by
  obtain ⟨i, hi, hz, hsi, hbi⟩ := T.inf
  have r1 : ∀ w, (sizeOf e).run Tryd.prog w = .ok i.size w := fun w => by simp [sizeOf, typeInfo, hi, go_sem]
  have r2 : ∀ w, (zeroValue e).run Tryd.prog w = .ok z w := fun w => by simp [zeroValue, typeInfo, hi, hz, go_sem]
  refine BigFrame.wpList_want hw fun K hK => ?_
  have hrun : (Instr.buildSlice t 0 (#[].map fun ((i, x) : Nat × Operand) => (i, a.eval x))).run Tryd.prog w = .ok (.slice (some ⟨w.heap.size, 0, none⟩) 0 0) (w.alloc (.cells #[] e)) := by
    unfold Instr.buildSlice
    rw [Sem.run_bind, run_underlying T.und]
    simp only [Result.andThen_ok]
    rw [Sem.run_bind, r1]
    simp only [Result.andThen_ok]
    simp [Sem.run_bind, r2, newRow, go_sem, Instr.fill]
  unfold Oper.wp execOp
  simp only [Sem.run_bind, hrun, Result.andThen_ok, Sem.run_pure]
  exact hK _ _ (h _ _ (H.alloc _ _))
end
end Go.Proofs.YtlinhcbjljcgbaaDoor

/- Numbers in bytes: packs.Num of a body's length, ref16.Num likewise. -/
namespace Go.Proofs.YtlinhcbjljcgbaaDoor
open Go.RowKit
attribute [local go_sem] Oper.semAt_some
set_option linter.unusedSimpArgs false
set_option linter.unusedVariables false
theorem bytes_all {p : Nat → Bool} (h : (List.range 256).all p = true) (n : Nat) (hn : n < 256) : p n = true := List.all_eq_true.1 h n (List.mem_range.2 hn)
theorem or128 (n : Nat) (hn : n < 256) : bits .or .u8 (n : Int) 128 = 128 + ((n % 128 : Nat) : Int) := by
  have h : (List.range 256).all (fun n => bits .or .u8 (n : Int) 128 == 128 + ((n % 128 : Nat) : Int)) = true := by decide +kernel
  simpa using bytes_all h n hn
theorem I8_ofNat {n : Nat} (hn : n < 256) : I8 (BitVec.ofNat 8 n) = (n : Int) := by
  unfold I8; rw [BitVec.toNat_ofNat, Nat.mod_eq_of_lt hn]
theorem bs_byte : Tryd.prog.underlying 22 = some (.slice 5) ∧ (Tryd.prog.info? 5).map (fun i => (i.size, i.zero)) = some (1, some (.int .u8 0)) := ⟨Tryd.underlying22, by kernel_rfl⟩
theorem b_ones (x : BitVec 8) : ∀ v ∈ [B8 x], v.cells = #[v] := fun v hv => by rw [List.mem_singleton.1 hv]; rfl
structure PnL (W : World) (l : List Thing) (n : Nat) (m v : Value) (wr : World) : Prop where
  out : ∃ (k : Nat) (xs : Bs), m = .int .u64 (k : Int) ∧ k ≤ n ∧ ((xs = [] ∧ k = n) ∨ (128 ≤ n ∧ k = n / 128 ∧ xs = [BitVec.ofNat 8 (128 + n % 128)])) ∧ Heap W (RowT 5 1 v xs.length (xs.map B8) :: l) wr
section
variable {W w : World} {l : List Thing}
set_option maxRecDepth 100000
set_option maxHeartbeats 2000000
theorem cloneB_nil : Ans 44 #[.slice none 0 0] (.slice none 0 0) := by
  intro w
  have hnil : ∀ V, (binOp .eql 22 (.slice none 0 0) (.slice none 0 0)).run Tryd.prog V = .ok (.bool true) V := fun V => Lib.run_eql_slice_nil V _ _ none 0 0 0 0 Tryd.underlying22
  go_enter Tryd.func44, Tryd.ntmps44
  go_wp2_with (go_skip)
  go_ret
  exact ⟨rfl, Ext.refl _⟩
theorem num_H (n : Nat) (hn : n ≤ 8192) (H : Heap W l w) : Calls Tryd.prog 41 #[.slice none 0 0, .int .u64 (n : Int)] w fun e w' => ∃ a c, e = .returned (.slice a (num2 n).length (num2 n).length) ∧ Heap W (RowT 5 1 (.slice a (num2 n).length c) (num2 n).length ((num2 n).map B8) :: l) w' := by
  have cn := cloneB_nil
  go_enter Tryd.func41, Tryd.ntmps41
  go_wp2_with (first | go_skip | ((with_reducible refine Ans.callH (by assumption) H ?_); clear H; intro _ H))
  go_loopw [1, 5] (PnL W l n) (fun m _ _ => (intOf m).toNat)
  case atStart => exact ⟨⟨n, [], rfl, Nat.le_refl _, .inl ⟨rfl, rfl⟩, H.nilRow 5 1⟩⟩
  case round =>
    obtain ⟨k, xs, rfl, hk, hx, H'⟩ := hrel.out
    clear H hrel
    have H := H'
    clear H'
    have HX := Lib.hid hx
    have hxl : xs.length ≤ 1 := by rcases hx with ⟨rfl, _⟩ | ⟨_, _, rfl⟩ <;> simp
    clear hx
    have hm1 : xs.length + 1 ≤ maxLen := by unfold maxLen; omega
    have hm2 : (xs.length + 1) * 1 ≤ 140737488355328 := by omega
    by_cases hge : 128 ≤ k
    · obtain ⟨rfl, rfl⟩ : xs = [] ∧ k = n := by
        rcases HX.out with h | ⟨_, h, _⟩
        · exact h
        · omega
      have c1 : decide ((k : Int) ≥ 128) = true := by simp; omega
      have c2 : decide (128 ≤ (k : Int)) = true := by simp; omega
      have hb := or128 (k % 256) (by omega)
      have hb2 : ((k % 256 : Nat) : Int) = (k : Int) % 256 := by omega
      rw [hb2, show k % 256 % 128 = k % 128 by omega] at hb
      have hv : Value.int .u8 (128 + (k : Int) % 128) = B8 (BitVec.ofNat 8 (128 + k % 128)) := by
        unfold B8
        rw [I8_ofNat (by omega)]
        rfl
      go_wp2_with (first
        | go_skip
        | ((with_reducible show wpList _ _ _ (_ :: _) _ _); (with_reducible apply wpl_bsOnes _ [B8 (BitVec.ofNat 8 (128 + k % 128))]); (· rfl); (· rfl); (· rfl); (· decide); (· decide); (· exact b_ones _); (· exact bs_byte); (· rfl); (· exact H); (clear H; intro pk _ H); (simp only [Act.put, List.setIfInBounds_toArray, List.set_cons_zero, List.set_cons_succ]))
        | ((with_reducible show wpList _ _ _ (_ :: _) _ _); (with_reducible apply wpl_appendA slB); (· rfl); (· rfl); (· rfl); (· rfl); (· exact H.perm (.swap _ _ _)); (· exact H.celRd List.mem_cons_self); (· rfl); (· exact oneCell_B8 [_]); (· exact hm1); (· exact hm2); (clear H; intro v1 _ _ H); (simp only [Act.put, List.setIfInBounds_toArray, List.set_cons_zero, List.set_cons_succ])))
      refine ⟨?_, ?_⟩
      · exact ⟨⟨k / 128, [BitVec.ofNat 8 (128 + k % 128)], by go_num, by omega, .inr ⟨hge, rfl, rfl⟩, H.drop (.there .here)⟩⟩
      · simp [intOf]; omega
    · have c1 : decide ((k : Int) ≥ 128) = false := by simp; omega
      have c2 : decide (128 ≤ (k : Int)) = false := by simp; omega
      have hv : Value.int .u8 (k : Int) = B8 (BitVec.ofNat 8 k) := by
        unfold B8
        rw [I8_ofNat (by omega)]
      go_wp2_with (first
        | go_skip
        | ((with_reducible show wpList _ _ _ (_ :: _) _ _); (with_reducible apply wpl_bsOnes _ [.int .u8 (k : Int)]); (· rfl); (· rfl); (· rfl); (· decide); (· decide); (· rw [hv]; exact b_ones _); (· exact bs_byte); (· rfl); (· exact H); (clear H; intro pk _ H; rw [hv] at H); (simp only [Act.put, List.setIfInBounds_toArray, List.set_cons_zero, List.set_cons_succ]))
        | ((with_reducible show wpList _ _ _ (_ :: _) _ _); (with_reducible apply wpl_appendA slB); (· rfl); (· rfl); (· rfl); (· rfl); (· exact H.perm (.swap _ _ _)); (· exact H.celRd List.mem_cons_self); (· rfl); (· exact oneCell_B8 [_]); (· exact hm1); (· exact hm2); (clear H; intro v1 _ _ H); (simp only [Act.put, List.setIfInBounds_toArray, List.set_cons_zero, List.set_cons_succ])))
      have hxs : xs ++ [BitVec.ofNat 8 k] = num2 n := by
        unfold num2
        rcases HX.out with ⟨rfl, rfl⟩ | ⟨h1, rfl, rfl⟩
        · rw [if_pos (by omega)]; rfl
        · rw [if_neg (by omega)]; rfl
      have hln : xs.length + 1 = (num2 n).length := by rw [← hxs]; simp
      have hmap : xs.map B8 ++ [B8 (BitVec.ofNat 8 k)] = (num2 n).map B8 := by rw [← hxs]; simp
      rw [hln, hmap] at H
      replace H := H.drop (.there .here)
      obtain ⟨a1, c9, rfl, hc9, hm9⟩ := RowT.form0 (H.ok _ List.mem_cons_self)
      refine (clipB_H a1 _ c9 hc9 hm9 _ H).mono ?_
      clear H
      rintro _ _ ⟨rfl, H⟩
      go_wp2_with (go_skip)
      go_ret
      exact ⟨a1, c9, rfl, H⟩
theorem rnum_H (n : Nat) (hn : n ≤ 8192) (H : Heap W l w) : Calls Tryd.prog 42 #[.slice none 0 0, .int .u64 (n : Int)] w fun e w' => ∃ a c, e = .returned (.slice a (num2 n).length c) ∧ Heap W (RowT 5 1 (.slice a (num2 n).length c) (num2 n).length ((num2 n).map B8) :: l) w' := by
  go_enter Tryd.func42, Tryd.ntmps42
  go_wp2_with (first
    | ((with_reducible show wpList _ _ _ (_ :: _) _ _); (with_reducible apply wpl_appendA slB); (· rfl); (· rfl); (· rfl); (· rfl); (· exact H.nilRow 5 1); (· exact Rd.nil _ _); (· rfl); (· exact oneCell_B8 []); (· decide); (· decide); (clear H; intro v0 _ _ H); (simp only [Act.put, List.setIfInBounds_toArray, List.set_cons_zero, List.set_cons_succ]))
    | go_skip)
  go_loopw [1, 5] (PnL W l n) (fun m _ _ => (intOf m).toNat)
  case atStart => exact ⟨⟨n, [], rfl, Nat.le_refl _, .inl ⟨rfl, rfl⟩, by first | exact H | exact H.nilRow 5 1⟩⟩
  case round =>
    obtain ⟨k, xs, rfl, hk, hx, H'⟩ := hrel.out
    clear H hrel
    have H := H'
    clear H'
    have HX := Lib.hid hx
    have hxl : xs.length ≤ 1 := by rcases hx with ⟨rfl, _⟩ | ⟨_, _, rfl⟩ <;> simp
    clear hx
    have hm1 : xs.length + 1 ≤ maxLen := by unfold maxLen; omega
    have hm2 : (xs.length + 1) * 1 ≤ 140737488355328 := by omega
    by_cases hge : 128 ≤ k
    · obtain ⟨rfl, rfl⟩ : xs = [] ∧ k = n := by
        rcases HX.out with h | ⟨_, h, _⟩
        · exact h
        · omega
      have c1 : decide ((k : Int) ≥ 128) = true := by simp; omega
      have c2 : decide (128 ≤ (k : Int)) = true := by simp; omega
      have hv : Value.int .u8 (128 + (k : Int) % 128) = B8 (BitVec.ofNat 8 (128 + k % 128)) := by
        unfold B8
        rw [I8_ofNat (by omega)]
        rfl
      have hv2 : Value.int .u8 ((128 + (k : Int) % 128) % 256) = B8 (BitVec.ofNat 8 (128 + k % 128)) := by rw [← hv, Int.emod_eq_of_lt (by omega) (by omega)]
      go_wp2_with (first
        | go_skip
        | ((with_reducible show wpList _ _ _ (_ :: _) _ _); (with_reducible apply wpl_bsOnes _ [B8 (BitVec.ofNat 8 (128 + k % 128))]); (· rfl); (· rfl); (· rfl); (· decide); (· decide); (· exact b_ones _); (· exact bs_byte); (· rfl); (· exact H); (clear H; intro pk _ H); (simp only [Act.put, List.setIfInBounds_toArray, List.set_cons_zero, List.set_cons_succ]))
        | ((with_reducible show wpList _ _ _ (_ :: _) _ _); (with_reducible apply wpl_bsOnes _ [.int .u8 (128 + (k : Int) % 128)]); (· rfl); (· rfl); (· rfl); (· decide); (· decide); (· rw [hv]; exact b_ones _); (· exact bs_byte); (· rfl); (· exact H); (clear H; intro pk _ H; rw [hv] at H); (simp only [Act.put, List.setIfInBounds_toArray, List.set_cons_zero, List.set_cons_succ]))
        | ((with_reducible show wpList _ _ _ (_ :: _) _ _); (with_reducible apply wpl_bsOnes _ [.int .u8 ((128 + (k : Int) % 128) % 256)]); (· rfl); (· rfl); (· rfl); (· decide); (· decide); (· rw [hv2]; exact b_ones _); (· exact bs_byte); (· rfl); (· exact H); (clear H; intro pk _ H; rw [hv2] at H); (simp only [Act.put, List.setIfInBounds_toArray, List.set_cons_zero, List.set_cons_succ]))
        | ((with_reducible show wpList _ _ _ (_ :: _) _ _); (with_reducible apply wpl_appendA slB); (· rfl); (· rfl); (· rfl); (· rfl); (· exact H.perm (.swap _ _ _)); (· exact H.celRd List.mem_cons_self); (· rfl); (· exact oneCell_B8 [_]); (· exact hm1); (· exact hm2); (clear H; intro v1 _ _ H); (simp only [Act.put, List.setIfInBounds_toArray, List.set_cons_zero, List.set_cons_succ])))
      refine ⟨?_, ?_⟩
      · exact ⟨⟨k / 128, [BitVec.ofNat 8 (128 + k % 128)], by go_num, by omega, .inr ⟨hge, rfl, rfl⟩, H.drop (.there .here)⟩⟩
      · simp [intOf]; omega
    · have c1 : decide ((k : Int) ≥ 128) = false := by simp; omega
      have c2 : decide (128 ≤ (k : Int)) = false := by simp; omega
      have hv : Value.int .u8 (k : Int) = B8 (BitVec.ofNat 8 k) := by
        unfold B8
        rw [I8_ofNat (by omega)]
      go_wp2_with (first
        | go_skip
        | ((with_reducible show wpList _ _ _ (_ :: _) _ _); (with_reducible apply wpl_bsOnes _ [.int .u8 (k : Int)]); (· rfl); (· rfl); (· rfl); (· decide); (· decide); (· rw [hv]; exact b_ones _); (· exact bs_byte); (· rfl); (· exact H); (clear H; intro pk _ H; rw [hv] at H); (simp only [Act.put, List.setIfInBounds_toArray, List.set_cons_zero, List.set_cons_succ]))
        | ((with_reducible show wpList _ _ _ (_ :: _) _ _); (with_reducible apply wpl_appendA slB); (· rfl); (· rfl); (· rfl); (· rfl); (· exact H.perm (.swap _ _ _)); (· exact H.celRd List.mem_cons_self); (· rfl); (· exact oneCell_B8 [_]); (· exact hm1); (· exact hm2); (clear H; intro v1 _ _ H); (simp only [Act.put, List.setIfInBounds_toArray, List.set_cons_zero, List.set_cons_succ])))
      have hxs : xs ++ [BitVec.ofNat 8 k] = num2 n := by
        unfold num2
        rcases HX.out with ⟨rfl, rfl⟩ | ⟨h1, rfl, rfl⟩
        · rw [if_pos (by omega)]; rfl
        · rw [if_neg (by omega)]; rfl
      have hln : xs.length + 1 = (num2 n).length := by rw [← hxs]; simp
      have hmap : xs.map B8 ++ [B8 (BitVec.ofNat 8 k)] = (num2 n).map B8 := by rw [← hxs]; simp
      rw [hln, hmap] at H
      replace H := H.drop (.there .here)
      obtain ⟨a1, c9, rfl, hc9, hm9⟩ := RowT.form0 (H.ok _ List.mem_cons_self)
      go_ret
      exact ⟨a1, c9, rfl, H⟩
end
end Go.Proofs.YtlinhcbjljcgbaaDoor

/- packs.take: a number read from bytes. -/
namespace Go.Proofs.YtlinhcbjljcgbaaDoor
open Go.RowKit
attribute [local go_sem] Oper.semAt_some
set_option linter.unusedSimpArgs false
set_option linter.unusedVariables false
theorem andNot128 (n : Nat) (hn : n < 256) : bits .andNot .u8 (n : Int) 128 = ((n % 128 : Nat) : Int) := by
  have h : (List.range 256).all (fun n => bits .andNot .u8 (n : Int) 128 == ((n % 128 : Nat) : Int)) = true := by decide +kernel
  simpa using bytes_all h n hn
theorem or64 (a b k : Nat) (ha : a < 2 ^ k) (hs : a + b * 2 ^ k < 18446744073709551616) : bits .or .u64 (a : Int) (((b * 2 ^ k : Nat) : Nat) : Int) = ((a + b * 2 ^ k : Nat) : Int) := by
  have h : bits .or .u64 (a : Int) ((b * 2 ^ k : Nat) : Int) = IntKind.u64.wrap ((BitVec.ofInt 64 (a : Int) ||| BitVec.ofInt 64 ((b * 2 ^ k : Nat) : Int)).toNat : Int) := rfl
  have e : (BitVec.ofInt 64 (a : Int) ||| BitVec.ofInt 64 ((b * 2 ^ k : Nat) : Int)).toNat = a + b * 2 ^ k := by
    rw [BitVec.toNat_or, BitVec.ofInt_natCast, BitVec.ofInt_natCast, BitVec.toNat_ofNat, BitVec.toNat_ofNat, Nat.mod_eq_of_lt (by omega), Nat.mod_eq_of_lt (by omega), Nat.or_comm, Nat.mul_comm, ← Nat.two_pow_add_eq_or_of_lt ha b]
    omega
  rw [h, e, IntKind.wrap_u64]
  omega
theorem cell_byte : CellTy 5 := ⟨⟨_, Tryd.underlying5, rfl⟩, by kernel_rfl⟩
structure TkL (W : World) (l : List Thing) (zs : Bs) (v i : Value) (wr : World) : Prop where
  out : ∃ (k acc : Nat), i = .int .i64 (k : Int) ∧ v = .int .u64 (acc : Int) ∧ k ≤ 10 ∧ k ≤ zs.length ∧ acc < 128 ^ k ∧ tkFrom (10 - k) k acc (zs.drop k) = tk zs ∧ Heap W l wr
section
variable {W w : World} {l : List Thing}
set_option maxRecDepth 100000
set_option maxHeartbeats 2000000
theorem take_H (a : Option Addr) (n c : Nat) (zs : Bs) (hn : zs.length = n) (hl : n ≤ 1000000) (R : RdB W l a zs) : AnsH W l 54 #[.slice a n c] (.tuple #[.int .u64 ((tk zs).n : Int), .int .i64 ((tk zs).h : Int), .int .i64 (tk zs).e]) := by
  intro w H
  have HN := Lib.hid hn
  have HR := Lib.hid R
  clear hn R
  go_enter Tryd.func54, Tryd.ntmps54
  go_wp2_with (go_skip)
  go_loopw [2, 7] (TkL W l zs) (fun _ i _ => 10 - (intOf i).toNat)
  case atStart => exact ⟨⟨0, 0, rfl, rfl, by omega, by omega, by omega, rfl, H⟩⟩
  case round =>
    obtain ⟨k, acc, rfl, rfl, hk, hkl, hacc, htk, H'⟩ := hrel.out
    clear H hrel
    have H := H'
    clear H'
    by_cases hk10 : k < 10
    · by_cases hkn : k < n
      · have hd : zs.drop k = zs[k]'(by have := HN.out; omega) :: zs.drop (k + 1) := List.drop_eq_getElem_cons _
        generalize zs[k]'(by have := HN.out; omega) = x at hd
        have hx : zs[k]? = some x := by
          have := congrArg List.head? hd
          rw [List.head?_drop] at this
          simpa using this
        have hlt : k < (zs.map B8).length := by rw [List.length_map, HN.out]; exact hkn
        obtain ⟨g, o, rfl, _⟩ := (HR.out wr H).lt (by omega)
        have hc0 : wr.cell? ⟨g, o + k, none⟩ = some (.int .u8 (x.toNat : Int)) := by
          rw [(HR.out wr H).get hlt]
          rw [List.getElem_map]
          rw [List.getElem?_eq_getElem (by rw [HN.out]; exact hkn)] at hx
          rw [Option.some.inj hx]
          rfl
        have hm := x.isLt
        generalize hmx : x.toNat = m at hc0 hm
        rw [hd, show 10 - k = (9 - k) + 1 by omega, tkFrom, hmx] at htk
        clear hd hx hlt
        have hand := andNot128 m (by omega)
        by_cases hA : k = 9 ∧ 1 < m
        · rw [if_pos hA] at htk
          have f1 : ((k : Int) == 9) = true := by simp; omega
          have f2 : decide ((m : Int) > 1) = true := by simp; omega
          have f3 : decide (1 < (m : Int)) = true := by simp; omega
          have HTK := Lib.hid htk
          clear htk hmx hA
          go_wp2_with (first
            | go_skip
            | ((with_reducible show wpList _ _ _ (_ :: _) _ _); (with_reducible apply wpl_loadCell cell_byte); (· rfl); (· rfl); (· exact hc0); (simp only [Act.put, List.setIfInBounds_toArray, List.set_cons_zero, List.set_cons_succ])))
          go_ret3
          exact ⟨by rw [← HTK.out]; rfl, H⟩
        · rw [if_neg hA] at htk
          have HTK := Lib.hid htk
          clear htk
          have hpw : (2 : Nat) ^ (7 * k) = 128 ^ k := by rw [Nat.pow_mul]
          have hs1 : m % 128 * 128 ^ k ≤ 127 * 128 ^ k := Nat.mul_le_mul_right _ (by omega)
          have hs : acc + m % 128 * 128 ^ k < 18446744073709551616 := by
            by_cases h9 : k = 9
            · subst h9
              have e9 : (128 : Nat) ^ 9 = 9223372036854775808 := by decide
              omega
            · have hp8 : 128 ^ k ≤ 128 ^ 8 := Nat.pow_le_pow_right (by omega) (by omega)
              have e8 : (128 : Nat) ^ 8 = 72057594037927936 := by decide
              omega
          have HS := Lib.hid (And.intro hs1 hacc)
          have hor : bits .or .u64 (acc : Int) (IntKind.u64.wrap ((m : Int) % 128 * 2 ^ (7 * k))) = ((acc + m % 128 * 128 ^ k : Nat) : Int) := by
            have h1 := or64 acc (m % 128) (7 * k) (by rw [hpw]; exact hacc) (by rw [hpw]; exact hs)
            rw [hpw] at h1
            have e1 : (m : Int) % 128 * 2 ^ (7 * k) = ((m % 128 * 128 ^ k : Nat) : Int) := by
              rw [← hpw]; push_cast; rfl
            rw [e1, IntKind.wrap_u64, Int.emod_eq_of_lt (by omega) (by omega), h1]
          have HOR := Lib.hid hor
          clear hor hs hs1 hpw hacc hmx
          by_cases h9 : k = 9
          · have f1 : ((k : Int) == 9) = true := by simp; omega
            have f2 : decide ((m : Int) > 1) = false := by simp; omega
            have f3 : decide (1 < (m : Int)) = false := by simp; omega
            clear h9 hA
            by_cases hlt : m < 128
            · have f4 : decide ((m : Int) < 128) = true := by simp; omega
              by_cases h0 : m = 0 ∧ 0 < k
              · have f5 : ((m : Int) == 0) = true := by simp; omega
                have f6 : decide ((k : Int) > 0) = true := by simp; omega
                have f7 : decide (0 < (k : Int)) = true := by simp; omega
                have f8 : decide (0 < k) = true := by simp; omega
                have HO := Lib.hid (And.intro hlt h0)
                clear hlt h0
                go_wp2_with (first
            | go_skip
            | ((with_reducible show wpList _ _ _ (_ :: _) _ _); (with_reducible apply wpl_loadCell cell_byte); (· rfl); (· rfl); (· exact hc0); (simp only [Act.put, List.setIfInBounds_toArray, List.set_cons_zero, List.set_cons_succ])))
                go_ret3
                refine ⟨?_, H⟩
                rw [← HTK.out, if_pos HO.out.1, if_pos HO.out.2]
                rfl
              · have HO := Lib.hid (And.intro hlt h0)
                clear hlt
                by_cases hm0 : m = 0
                · have f5 : ((m : Int) == 0) = true := by simp; omega
                  have f6 : decide ((k : Int) > 0) = false := by simp; omega
                  have f7 : decide (0 < (k : Int)) = false := by simp; omega
                  have f8 : decide (0 < k) = false := by simp; omega
                  clear h0 hm0
                  go_wp2_with (first
            | go_skip
            | ((with_reducible show wpList _ _ _ (_ :: _) _ _); (with_reducible apply wpl_loadCell cell_byte); (· rfl); (· rfl); (· exact hc0); (simp only [Act.put, List.setIfInBounds_toArray, List.set_cons_zero, List.set_cons_succ])))
                  go_ret3
                  refine ⟨?_, H⟩
                  rw [← HTK.out, if_pos HO.out.1, if_neg HO.out.2, show m * 128 ^ k = m % 128 * 128 ^ k by rw [Nat.mod_eq_of_lt HO.out.1]]
                  simp only [Array.getD_eq_getD_getElem?, List.getElem?_toArray, List.getElem?_cons_succ, List.getElem?_cons_zero, Option.getD_some, HOR.out]
                  rfl
                · have f5 : ((m : Int) == 0) = false := by simp; omega
                  clear h0 hm0
                  go_wp2_with (first
            | go_skip
            | ((with_reducible show wpList _ _ _ (_ :: _) _ _); (with_reducible apply wpl_loadCell cell_byte); (· rfl); (· rfl); (· exact hc0); (simp only [Act.put, List.setIfInBounds_toArray, List.set_cons_zero, List.set_cons_succ])))
                  go_ret3
                  refine ⟨?_, H⟩
                  rw [← HTK.out, if_pos HO.out.1, if_neg HO.out.2, show m * 128 ^ k = m % 128 * 128 ^ k by rw [Nat.mod_eq_of_lt HO.out.1]]
                  simp only [Array.getD_eq_getD_getElem?, List.getElem?_toArray, List.getElem?_cons_succ, List.getElem?_cons_zero, Option.getD_some, HOR.out]
                  rfl
            · have f4 : decide ((m : Int) < 128) = false := by simp; omega
              have HO := Lib.hid (And.intro hlt hm)
              clear hlt
              go_wp2_with (first
            | go_skip
            | ((with_reducible show wpList _ _ _ (_ :: _) _ _); (with_reducible apply wpl_loadCell cell_byte); (· rfl); (· rfl); (· exact hc0); (simp only [Act.put, List.setIfInBounds_toArray, List.set_cons_zero, List.set_cons_succ])))
              refine ⟨?_, ?_⟩
              · refine ⟨⟨k + 1, acc + m % 128 * 128 ^ k, by go_num, by rw [HOR.out], by omega, by rw [HN.out]; omega, ?_, ?_, H⟩⟩
                · have := HS.out
                  rw [Nat.pow_succ]; omega
                · rw [← HTK.out, if_neg HO.out.1, show 10 - (k + 1) = 9 - k by omega, show m - 128 = m % 128 by have := HO.out; omega]
              · simp [intOf]; omega
          · have f1 : ((k : Int) == 9) = false := by simp; omega
            clear h9 hA
            by_cases hlt : m < 128
            · have f4 : decide ((m : Int) < 128) = true := by simp; omega
              by_cases h0 : m = 0 ∧ 0 < k
              · have f5 : ((m : Int) == 0) = true := by simp; omega
                have f6 : decide ((k : Int) > 0) = true := by simp; omega
                have f7 : decide (0 < (k : Int)) = true := by simp; omega
                have f8 : decide (0 < k) = true := by simp; omega
                have HO := Lib.hid (And.intro hlt h0)
                clear hlt h0
                go_wp2_with (first
            | go_skip
            | ((with_reducible show wpList _ _ _ (_ :: _) _ _); (with_reducible apply wpl_loadCell cell_byte); (· rfl); (· rfl); (· exact hc0); (simp only [Act.put, List.setIfInBounds_toArray, List.set_cons_zero, List.set_cons_succ])))
                go_ret3
                refine ⟨?_, H⟩
                rw [← HTK.out, if_pos HO.out.1, if_pos HO.out.2]
                rfl
              · have HO := Lib.hid (And.intro hlt h0)
                clear hlt
                by_cases hm0 : m = 0
                · have f5 : ((m : Int) == 0) = true := by simp; omega
                  have f6 : decide ((k : Int) > 0) = false := by simp; omega
                  have f7 : decide (0 < (k : Int)) = false := by simp; omega
                  have f8 : decide (0 < k) = false := by simp; omega
                  clear h0 hm0
                  go_wp2_with (first
            | go_skip
            | ((with_reducible show wpList _ _ _ (_ :: _) _ _); (with_reducible apply wpl_loadCell cell_byte); (· rfl); (· rfl); (· exact hc0); (simp only [Act.put, List.setIfInBounds_toArray, List.set_cons_zero, List.set_cons_succ])))
                  go_ret3
                  refine ⟨?_, H⟩
                  rw [← HTK.out, if_pos HO.out.1, if_neg HO.out.2, show m * 128 ^ k = m % 128 * 128 ^ k by rw [Nat.mod_eq_of_lt HO.out.1]]
                  simp only [Array.getD_eq_getD_getElem?, List.getElem?_toArray, List.getElem?_cons_succ, List.getElem?_cons_zero, Option.getD_some, HOR.out]
                  rfl
                · have f5 : ((m : Int) == 0) = false := by simp; omega
                  clear h0 hm0
                  go_wp2_with (first
            | go_skip
            | ((with_reducible show wpList _ _ _ (_ :: _) _ _); (with_reducible apply wpl_loadCell cell_byte); (· rfl); (· rfl); (· exact hc0); (simp only [Act.put, List.setIfInBounds_toArray, List.set_cons_zero, List.set_cons_succ])))
                  go_ret3
                  refine ⟨?_, H⟩
                  rw [← HTK.out, if_pos HO.out.1, if_neg HO.out.2, show m * 128 ^ k = m % 128 * 128 ^ k by rw [Nat.mod_eq_of_lt HO.out.1]]
                  simp only [Array.getD_eq_getD_getElem?, List.getElem?_toArray, List.getElem?_cons_succ, List.getElem?_cons_zero, Option.getD_some, HOR.out]
                  rfl
            · have f4 : decide ((m : Int) < 128) = false := by simp; omega
              have HO := Lib.hid (And.intro hlt hm)
              clear hlt
              go_wp2_with (first
            | go_skip
            | ((with_reducible show wpList _ _ _ (_ :: _) _ _); (with_reducible apply wpl_loadCell cell_byte); (· rfl); (· rfl); (· exact hc0); (simp only [Act.put, List.setIfInBounds_toArray, List.set_cons_zero, List.set_cons_succ])))
              refine ⟨?_, ?_⟩
              · refine ⟨⟨k + 1, acc + m % 128 * 128 ^ k, by go_num, by rw [HOR.out], by omega, by rw [HN.out]; omega, ?_, ?_, H⟩⟩
                · have := HS.out
                  rw [Nat.pow_succ]; omega
                · rw [← HTK.out, if_neg HO.out.1, show 10 - (k + 1) = 9 - k by omega, show m - 128 = m % 128 by have := HO.out; omega]
              · simp [intOf]; omega
      · obtain rfl : k = n := by have := HN.out; omega
        rw [← HN.out, List.drop_length, show 10 - zs.length = (9 - zs.length) + 1 by rw [HN.out]; omega, tkFrom] at htk
        have HTK := Lib.hid htk
        clear htk
        have f1 : decide ((k : Int) ≥ k) = true := by simp
        have f2 : decide ((k : Int) ≤ k) = true := by simp
        go_wp2_with (go_skip)
        go_ret3
        exact ⟨by rw [← HTK.out]; rfl, H⟩
    · obtain rfl : k = 10 := by omega
      have HTK := Lib.hid htk
      clear htk
      go_wp2_with (go_skip)
      go_ret3
      exact ⟨by rw [← HTK.out]; rfl, H⟩
end
end Go.Proofs.YtlinhcbjljcgbaaDoor
