/- A region that draws its order, where two allocs may come in either order. -/
import Derived.Test.YtacglcpjbepfnaaHeapRegion
namespace Go.Proofs.Ytacglcpjbepfnaa
open Go.RowKit
set_option linter.unusedVariables false
section
variable {P : Program} {ops : Array Oper} {md : Region.Mode} {W : World} {G : List Thing → Prop}
/-- Is this order one that serves? (i, some j: i and j come in either order.) -/
def Region.lexM (md : Region.Mode) (ops : Array Oper) (loud : List Nat) : List (Nat × Option Nat) → Array Bool → Bool
  | [], listed => (Region.ready md ops listed).isEmpty
  | (k, none) :: ks, listed => (if loud.contains k then Region.ready md ops listed == [k] else (Region.ready md ops listed).contains k && Region.free md ops listed k) && Region.lexM md ops loud ks (listed.setIfInBounds k true)
  | (i, some j) :: ks, listed => (Region.ready md ops listed == [i, j]) && (Region.ready md ops (listed.setIfInBounds i true) == [j]) && (Region.ready md ops (listed.setIfInBounds j true) == [i]) && i != j && Region.lexM md ops loud ks ((listed.setIfInBounds i true).setIfInBounds j true)
def lenM : List (Nat × Option Nat) → Nat
  | [] => 0
  | (_, none) :: ks => lenM ks + 1
  | (_, some _) :: ks => lenM ks + 2
def Region.lexMB (ops : Array Oper) (loud : List Nat) (ord : List (Nat × Option Nat)) : Bool := Region.noSelect ops && Region.lexM .any ops loud ord (Array.replicate ops.size false) && lenM ord == ops.size
def wpM (P : Program) (ops : Array Oper) (W : World) (G : List Thing → Prop) (loud : List Nat) (K : List Thing → Act → Prop) : List (Nat × Option Nat) → List Thing → Act → Prop
  | [], l, a => K l a
  | (k, none) :: ks, l, a => ∃ o, ops[k]? = some o ∧ if loud.contains k then LoudG P ops W o l a fun l' u => G l' ∧ wpM P ops W G loud K ks l' (a.put o.dst u)
      else ∃ v, YieldsG P ops W G o v a ∧ wpM P ops W G loud K ks l (a.put o.dst v)
  | (i, some j) :: ks, l, a => ∃ oi oj, ops[i]? = some oi ∧ ops[j]? = some oj ∧
      (LoudG P ops W oi l a fun l1 u => G l1 ∧ LoudG P ops W oj l1 (a.put oi.dst u) fun l2 u2 => G l2 ∧ wpM P ops W G loud K ks l2 ((a.put oi.dst u).put oj.dst u2)) ∧
      (LoudG P ops W oj l a fun l1 u => G l1 ∧ LoudG P ops W oi l1 (a.put oj.dst u) fun l2 u2 => G l2 ∧ wpM P ops W G loud K ks l2 ((a.put oj.dst u).put oi.dst u2))
theorem WholeG.lexM {loud : List Nat} {K : List Thing → Act → Prop} (hsel : Region.noSelect ops = true) :
    ∀ (ks : List (Nat × Option Nat)) (l : List Thing) (listed : Array Bool) (a : Act), Region.lexM md ops loud ks listed = true → wpM P ops W G loud K ks l a → WholeG P md ops W G K (lenM ks) l listed a := by
  intro ks
  induction ks with
  | nil => intro l listed a hB h; exact ⟨by simpa [Region.lexM] using hB, h⟩
  | cons k ks ih =>
    intro l listed a hB h
    obtain ⟨i, j⟩ := k
    cases j with
    | none =>
      obtain ⟨o, h0, h⟩ := h
      rw [Region.lexM] at hB
      simp only [Bool.and_eq_true] at hB
      obtain ⟨hB, hB'⟩ := hB
      by_cases hk : loud.contains i = true
      · rw [if_pos hk] at h hB
        have hr : Region.ready md ops listed = [i] := by simpa using hB
        refine ⟨by rw [hr]; simp, fun i' hi => ?_⟩
        rw [hr] at hi
        obtain rfl : i' = i := by simpa using hi
        exact ⟨o, h0, .inr (h.mono fun l' u ⟨hg, h⟩ => ⟨hg, ih _ _ _ hB' h⟩)⟩
      · rw [if_neg hk] at h hB
        simp only [Bool.and_eq_true] at hB
        obtain ⟨v, hy, h⟩ := h
        exact WholeG.first h0 (Region.noSelect_spec hsel) (lenM ks) l listed a (Region.free_spec h0 hB.2) (by simpa using hB.1) hy (ih _ _ _ hB' h)
    | some j =>
      obtain ⟨oi, oj, hi0, hj0, h1, h2⟩ := h
      rw [Region.lexM] at hB
      simp only [Bool.and_eq_true, beq_iff_eq, bne_iff_ne, ne_eq] at hB
      obtain ⟨⟨⟨⟨r0, r1⟩, r2⟩, hne⟩, hB'⟩ := hB
      refine ⟨by rw [r0]; simp, fun k hk => ?_⟩
      rw [r0] at hk
      simp only [List.mem_cons, List.not_mem_nil, or_false] at hk
      rcases hk with rfl | rfl
      · refine ⟨oi, hi0, .inr (h1.mono fun l1 u ⟨hg, h⟩ => ⟨hg, ?_⟩)⟩
        refine ⟨by rw [r1]; simp, fun k2 hk2 => ?_⟩
        rw [r1] at hk2
        obtain rfl : k2 = j := by simpa using hk2
        exact ⟨oj, hj0, .inr (h.mono fun l2 u2 ⟨hg, h⟩ => ⟨hg, ih _ _ _ hB' h⟩)⟩
      · refine ⟨oj, hj0, .inr (h2.mono fun l1 u ⟨hg, h⟩ => ⟨hg, ?_⟩)⟩
        refine ⟨by rw [r2]; simp, fun k2 hk2 => ?_⟩
        rw [r2] at hk2
        obtain rfl : k2 = i := by simpa using hk2
        refine ⟨oi, hi0, .inr (h.mono fun l2 u2 ⟨hg, h⟩ => ⟨hg, ?_⟩)⟩
        rw [Array.setIfInBounds_comm _ _ (fun e => hne e.symm)]
        exact ih _ _ _ hB' h
theorem wp_region_M {id : Nat} {Q : Exit → Act → World → Prop} {a : Act} {w : World} {l : List Thing} {lo : List Oper} (loud : List Nat) (ord : List (Nat × Option Nat)) (G : List Thing → Prop) (H : Heap W l w) (hG : G l) (hm : P.follows .mixedOrders = true) (hB : Region.lexMB lo.toArray loud ord = true)
    (h : wpM P lo.toArray W G loud (fun l' a' => ∀ w', Heap W l' w' → Q .normal a' w') ord l a) : (Code.region id lo.toArray true).wp P Q a w := by
  simp only [Region.lexMB, Bool.and_eq_true, beq_iff_eq] at hB
  refine wp_region_any hm ?_
  have := WholeG.lexM (md := .any) hB.1.1 ord l _ a hB.1.2 h
  have h2 := WholeG.any (Q := Q) (fun l a w H h => h w H) (lenM ord) l _ a _ hG H.drew this
  rw [hB.2] at h2
  exact h2
theorem wpM_nil {loud : List Nat} {K : List Thing → Act → Prop} {l : List Thing} {a : Act} (h : K l a) : wpM P ops W G loud K [] l a := h
/-- Quiet ones at the front: as in wpO. -/
theorem wpM_step {loud : List Nat} {lo : List Oper} {K : List Thing → Act → Prop} {o : Oper} {k : Nat} {ks : List (Nat × Option Nat)} {l : List Thing} {a : Act} {s : Nat} {v : Value} (ho : lo[k]? = some o) (hk : loud.contains k = false) (hd : o.dst = some s) (hlt : s < a.tmps.size)
    (h1 : ∀ l0, G l0 → ∀ (w0 : World) (H0 : Heap W l0 w0), wpQuiet P lo.toArray (fun w' => ∃ d, w' = H0.any d) (fun a' => a'.tmps.getD s undef = v) [o] a) (h2 : wpM P lo.toArray W G loud K ks l (a.put o.dst v)) : wpM P lo.toArray W G loud K ((k, none) :: ks) l a := by
  refine ⟨o, by simpa using ho, ?_⟩
  rw [if_neg (by rw [hk]; exact Bool.false_ne_true)]
  refine ⟨v, fun l0 hl0 w0 H0 => ?_, h2⟩
  have h := h1 l0 hl0 w0 H0
  have inj : ∀ u, (a.put o.dst u).tmps.getD s undef = v → u = v := fun u hu => by
    rw [hd] at hu
    simpa [Act.put, hlt] using hu
  unfold wpQuiet at h
  by_cases hw : Region.wanted o (yielded lo.toArray a.tmps) = true
  · rw [if_pos hw] at h
    obtain ⟨u, hu, hk⟩ := h
    obtain rfl := inj u hk
    exact .inl ⟨hw, hu⟩
  · rw [if_neg hw] at h
    exact .inr ⟨by simpa using hw, (inj undef h).symm⟩
theorem wpM_loud {loud : List Nat} {lo : List Oper} {K : List Thing → Act → Prop} {o : Oper} {k : Nat} {ks : List (Nat × Option Nat)} {l : List Thing} {a : Act} (ho : lo[k]? = some o) (hk : loud.contains k = true) (h : LoudG P lo.toArray W o l a fun l' u => G l' ∧ wpM P lo.toArray W G loud K ks l' (a.put o.dst u)) : wpM P lo.toArray W G loud K ((k, none) :: ks) l a := by
  refine ⟨o, by simpa using ho, ?_⟩
  rw [if_pos hk]
  exact h
end
section
variable {W : World} {G : List Thing → Prop} {loud : List Nat} {K : List Thing → Act → Prop} {lo : List Oper} {ks : List (Nat × Option Nat)} {k : Nat} {l : List Thing} {a : Act} {T n : Nat} {z : Array Value}
theorem loud_alloc {ops : Array Oper} {dst : Option Tmp} {ty : TypeId} {pos : String} {after : Array Edge} {guard : Option (Nat × Bool)} (RT : RowTy T n z) (hw : Region.wanted ⟨dst, .alloc T, ty, pos, after, guard⟩ (yielded ops a.tmps) = true) {k : List Thing → Value → Prop}
    (h : ∀ p, k (Cel p z T :: l) (.pointer (some ⟨p, 0, none⟩))) : LoudG Try.prog ops W ⟨dst, .alloc T, ty, pos, after, guard⟩ l a k := by
  refine ⟨hw, fun w H => ⟨Cel w.heap.size z T :: l, .pointer (some ⟨w.heap.size, 0, none⟩), w.alloc (.cells z T), .inl ?_, H.alloc _ _, h _⟩⟩
  have hz := RT.zero
  cases hi : Try.prog.info? T with
  | none => rw [hi] at hz; cases hz
  | some i =>
    rw [hi] at hz
    have hz' : i.zero = some (.agg z) := hz
    have r2 : (zeroValue T).run Try.prog w = .ok (.agg z) w := by simp [zeroValue, typeInfo, hi, hz', go_sem]
    unfold execOp
    simp only [Instr.alloc, Sem.run_bind, r2, Result.andThen_ok, newVar, newRow, Value.cells]
    rfl
theorem LoudG.perm {ops : Array Oper} {o : Oper} {k k' : List Thing → Value → Prop} (h : LoudG Try.prog ops W o l a k) (hk : ∀ l' u, k l' u → ∃ l2, l'.Perm l2 ∧ k' l2 u) : LoudG Try.prog ops W o l a k' :=
  ⟨h.1, fun w H => by
    obtain ⟨l', u, w', hr, H', hk1⟩ := h.2 w H
    obtain ⟨l2, hp, hk2⟩ := hk _ _ hk1
    exact ⟨l2, u, w', hr, H'.perm hp, hk2⟩⟩
theorem wpM_allocR {dst : Option Tmp} {ty : TypeId} {pos : String} {after : Array Edge} {guard : Option (Nat × Bool)} (RT : RowTy T n z) (ho : lo[k]? = some ⟨dst, .alloc T, ty, pos, after, guard⟩) (hk : loud.contains k = true) (hw : Region.wanted ⟨dst, .alloc T, ty, pos, after, guard⟩ (yielded lo.toArray a.tmps) = true)
    (hG : ∀ p, G (Cel p z T :: l)) (h : ∀ p, wpM Try.prog lo.toArray W G loud K ks (Cel p z T :: l) (a.put dst (.pointer (some ⟨p, 0, none⟩)))) : wpM Try.prog lo.toArray W G loud K ((k, none) :: ks) l a :=
  wpM_loud ho hk (loud_alloc RT hw fun p => ⟨hG p, h p⟩)
/-- Two allocs, in either order. -/
theorem wpM_alloc2 {T2 n2 : Nat} {z2 : Array Value} {k2 : Nat} {d1 d2 : Nat} {ty ty2 : TypeId} {pos pos2 : String} {after after2 : Array Edge} {guard guard2 : Option (Nat × Bool)} (RT : RowTy T n z) (RT2 : RowTy T2 n2 z2) (ho : lo[k]? = some ⟨some d1, .alloc T, ty, pos, after, guard⟩) (ho2 : lo[k2]? = some ⟨some d2, .alloc T2, ty2, pos2, after2, guard2⟩)
    (hg : guard = none) (hg2 : guard2 = none) (hd : d1 ≠ d2)
    (hG1 : ∀ p, G (Cel p z T :: l)) (hG2 : ∀ p, G (Cel p z2 T2 :: l)) (hG : ∀ p q, G (Cel q z2 T2 :: Cel p z T :: l))
    (h : ∀ p q, wpM Try.prog lo.toArray W G loud K ks (Cel q z2 T2 :: Cel p z T :: l) ((a.put (some d1) (.pointer (some ⟨p, 0, none⟩))).put (some d2) (.pointer (some ⟨q, 0, none⟩)))) : wpM Try.prog lo.toArray W G loud K ((k, some k2) :: ks) l a := by
  subst hg hg2
  refine ⟨_, _, by simpa using ho, by simpa using ho2, ?_, ?_⟩
  · exact loud_alloc RT rfl fun p => ⟨hG1 p, loud_alloc RT2 rfl fun q => ⟨hG p q, h p q⟩⟩
  · refine loud_alloc RT2 rfl fun q => ⟨hG2 q, ?_⟩
    refine LoudG.perm (k := fun l' u => ∃ p, l' = Cel p z T :: Cel q z2 T2 :: l ∧ u = .pointer (some ⟨p, 0, none⟩)) (loud_alloc RT rfl fun p => ⟨p, rfl, rfl⟩) ?_
    rintro _ _ ⟨p, rfl, rfl⟩
    refine ⟨_, .swap _ _ _, hG p q, ?_⟩
    have e := Act.put_comm a (x := some d2) (y := some d1) (.pointer (some ⟨q, 0, none⟩)) (.pointer (some ⟨p, 0, none⟩)) (fun d e1 e2 => hd (by cases e1; cases e2; rfl))
    rw [e]
    exact h p q
theorem wpM_storeR {dst : Option Tmp} {ty : TypeId} {pos : String} {after : Array Edge} {guard : Option (Nat × Bool)} {x y : Operand} {b off : Nat} {c2 : Array Value} (RT : RowTy T n z) (ho : lo[k]? = some ⟨dst, .store T x y, ty, pos, after, guard⟩) (hk : loud.contains k = true) (hw : Region.wanted ⟨dst, .store T x y, ty, pos, after, guard⟩ (yielded lo.toArray a.tmps) = true) (hx : a.eval x = .pointer (some ⟨b, off, none⟩)) (hy : a.eval y = .agg c2) (hc : Cells n c2)
    {c c1 : Array Value} {t : TypeId} {l' : List Thing} (m : Cel b c t ∈ l) (hn : off + n ≤ c.size) (hs : splice c off c2 = c1) (r : Repl l (Cel b c t) (Cel b c1 t) l') (hG : G l')
    (h : wpM Try.prog lo.toArray W G loud K ks l' (a.put dst undef)) : wpM Try.prog lo.toArray W G loud K ((k, none) :: ks) l a := by
  subst hs
  refine wpM_loud ho hk ⟨hw, fun w H => ⟨l', undef, setBlk w b (splice c off c2), .inr ⟨?_, rfl⟩, H.set r, hG, h⟩⟩
  unfold execOp
  simp only [hx, hy, Sem.run_bind, run_storeR RT hc (H.blk m) hn, Result.andThen_ok]
  rfl
end
end Go.Proofs.Ytacglcpjbepfnaa
