/- Part 4 of what ProofBooksPlay stands on: HeapSoft, Bok4, Bok5, RegCut, Bok6, Bok7. -/
import Derived.Test.YtacglcpjbepfnaaBksPPart3
/- A region that draws its order, with loud operations of two kinds: soft ones (that leave what an early read reads) and hard ones (each stands behind each early read); in a round too. -/
namespace Go.Proofs.Ytacglcpjbepfnaa
open Go.RowKit
set_option linter.unusedVariables false
section
variable {P : Program} {ops : Array Oper} {md : Region.Mode} {W : World} {G E : List Thing → Prop} {loud hard : List Nat}
def WholeF (P : Program) (md : Region.Mode) (ops : Array Oper) (W : World) (G E : List Thing → Prop) (loud hard : List Nat) (K : List Thing → Act → Prop) : Nat → List Thing → Array Bool → Act → Prop
  | 0, l, listed, a => Region.ready md ops listed = [] ∧ K l a
  | f + 1, l, listed, a => Region.ready md ops listed ≠ [] ∧ ∀ i ∈ Region.ready md ops listed, ∃ o, ops[i]? = some o ∧
      ((∃ v, YieldsG P ops W (fun l' => l' = l) o v a ∧ WholeF P md ops W G E loud hard K f l (listed.setIfInBounds i true) (a.put o.dst v)) ∨
       (loud.contains i = true ∧ LoudG P ops W o l a fun l' u => G l' ∧ (hard.contains i = false → E l → E l') ∧ WholeF P md ops W G E loud hard K f l' (listed.setIfInBounds i true) (a.put o.dst u)))
theorem WholeF.any {K : List Thing → Act → Prop} {Q : Exit → Act → World → Prop} (hK : ∀ l a w, Heap W l w → K l a → Q .normal a w) :
    ∀ (f : Nat) (l : List Thing) (listed : Array Bool) (a : Act) (w : World), Heap W l w → WholeF P md ops W G E loud hard K f l listed a → wpAny P md ops Q f listed a w := by
  intro f
  induction f with
  | zero => intro l listed a w H h; exact ⟨h.1, hK _ _ _ H h.2⟩
  | succ f ih =>
    intro l listed a w H h
    refine ⟨fun h0 => absurd h0 h.1, fun i hi => ?_⟩
    obtain ⟨o, ho, h⟩ := h.2 i hi
    rcases h with ⟨v, hy, h⟩ | ⟨_, h⟩
    · refine wpOp_of_qOp (C := fun w' => ∃ d, w' = H.any d) (H.any_of H) (fun a' w' hw' ha' => ?_) ((hy l rfl w H).qOp ho (K := fun a' => a' = a.put o.dst v) rfl)
      obtain ⟨d, rfl⟩ := hw'
      subst ha'
      exact ih _ _ _ _ (H.any_heap d) h
    · obtain ⟨l', u, w', hr, H', _, _, hk⟩ := h.2 w H
      unfold wpOp
      simp only [ho]
      rw [if_pos h.1]
      refine .inl ?_
      unfold Oper.wp
      rcases hr with hr | ⟨hr, rfl⟩ <;> rw [hr] <;> exact ih _ _ _ _ H' hk
/-- It yields v: whatever the things, or early, as they are. -/
def FirmF (P : Program) (md : Region.Mode) (ops : Array Oper) (W : World) (G E : List Thing → Prop) (loud hard : List Nat) (k : Nat) (l : List Thing) (o : Oper) (v : Value) (a : Act) : Prop :=
  (G l ∧ YieldsG P ops W G o v a) ∨ (Region.early md ops hard k = true ∧ E l ∧ YieldsG P ops W E o v a)
theorem FirmF.now {k : Nat} {l : List Thing} {o : Oper} {v : Value} {a : Act} (h : FirmF P md ops W G E loud hard k l o v a) : YieldsG P ops W (fun l' => l' = l) o v a := by
  rcases h with ⟨hg, h⟩ | ⟨_, hg, h⟩
  · intro l' e w H; subst e; exact h _ hg w H
  · intro l' e w H; subst e; exact h _ hg w H
theorem FirmF.of_same {k : Nat} {l : List Thing} {o : Oper} {v : Value} {a a' : Act} (h : FirmF P md ops W G E loud hard k l o v a) (he : execOp a'.eval o = execOp a.eval o)
    (hw : Region.wanted o (yielded ops a'.tmps) = Region.wanted o (yielded ops a.tmps)) : FirmF P md ops W G E loud hard k l o v a' := by
  rcases h with ⟨hg, h⟩ | ⟨h0, hg, h⟩
  · exact .inl ⟨hg, h.of_same he hw⟩
  · exact .inr ⟨h0, hg, h.of_same he hw⟩
theorem WholeF.first {i : Nat} {oi : Oper} {v : Value} {K : List Thing → Act → Prop} (hi : ops[i]? = some oi) (hsel : ∀ (j : Nat) (o : Oper) cs b, ops[j]? = some o → o.op ≠ .select cs b) :
    ∀ (f : Nat) (l : List Thing) (listed : Array Bool) (a : Act),
      (∀ j oj, ops[j]? = some oj → j ≠ i → listed.getD j true = false → (∀ e ∈ oj.after, Region.binds md e = true → e.on ≠ i) → oi.apart ops oj = true) →
      i ∈ Region.ready md ops listed → FirmF P md ops W G E loud hard i l oi v a → WholeF P md ops W G E loud hard K f l (listed.setIfInBounds i true) (a.put oi.dst v) → WholeF P md ops W G E loud hard K (f + 1) l listed a := by
  intro f
  induction f with
  | zero =>
    intro l listed a _ hr hy H
    refine ⟨fun h => by rw [h] at hr; simp at hr, fun j hj => ?_⟩
    by_cases e : j = i
    · subst e; exact ⟨oi, hi, .inl ⟨v, hy.now, H⟩⟩
    · have := ready_mono hj e
      rw [H.1] at this; cases this
  | succ f ih =>
    intro l listed a hfree hr hy H
    have hun := (mem_ready.1 hr).1
    refine ⟨fun h => by rw [h] at hr; simp at hr, fun j hj => ?_⟩
    by_cases e : j = i
    · subst e; exact ⟨oi, hi, .inl ⟨v, hy.now, H⟩⟩
    · obtain ⟨hjun, oj, hoj, hall⟩ := mem_ready.1 hj
      have hnot : ∀ e ∈ oj.after, Region.binds md e = true → e.on ≠ i := fun e he hb heq => by
        have := hall e he hb
        rw [heq, getD_both hun] at this
        cases this
      obtain ⟨h1, h2, h3⟩ := Oper.apart_spec (hfree j oj hoj e hjun hnot)
      have hsi := fun cs b => hsel i oi cs b hi
      have hsj := fun cs b => hsel j oj cs b hoj
      have hfree' : ∀ k ok, ops[k]? = some ok → k ≠ i → (listed.setIfInBounds j true).getD k true = false →
          (∀ e ∈ ok.after, Region.binds md e = true → e.on ≠ i) → oi.apart ops ok = true := fun k ok hk hki hun hno => by
        refine hfree k ok hk hki ?_ hno
        by_cases hjk : j = k
        · subst hjk; exact hjun
        · rw [getD_set_ne true hjk] at hun; exact hun
      obtain ⟨o', ho', h⟩ := H.2 j (ready_mono hj e)
      obtain rfl : o' = oj := Option.some.inj (ho'.symm.trans hoj)
      refine ⟨o', hoj, ?_⟩
      rcases h with ⟨u, hu, h⟩ | ⟨hl, h⟩
      · refine .inl ⟨u, hu.of_same (execOp_put o' hsj a oi.dst v h1).symm (wanted_put o' a oi.dst v h1).symm, ih _ _ _ hfree' (ready_mono hr (Ne.symm e)) (hy.of_same (execOp_put oi hsi a o'.dst u h3) (wanted_put oi a o'.dst u h3)) ?_⟩
        rw [Array.setIfInBounds_comm _ _ e, ← Act.put_comm a v _ h2]
        exact h
      · refine .inr ⟨hl, (h.of_same (execOp_put o' hsj a oi.dst v h1).symm (wanted_put o' a oi.dst v h1).symm).mono fun l' u ⟨hg', hs', h⟩ => ⟨hg', hs', ih _ _ _ hfree' (ready_mono hr (Ne.symm e)) ?_ ?_⟩⟩
        · rcases hy with ⟨hg, hy⟩ | ⟨he, hE, hy⟩
          · exact .inl ⟨hg', hy.of_same (execOp_put oi hsi a o'.dst u h3) (wanted_put oi a o'.dst u h3)⟩
          · by_cases hh : hard.contains j = true
            · obtain ⟨ed, hed, hb, hon⟩ := Region.early_spec he hh hoj
              exact absurd hon (hnot ed hed hb)
            · exact .inr ⟨he, hs' (by simpa using hh) hE, hy.of_same (execOp_put oi hsi a o'.dst u h3) (wanted_put oi a o'.dst u h3)⟩
        · rw [Array.setIfInBounds_comm _ _ e, ← Act.put_comm a v _ h2]
          exact h
/-- The walk in an order of one's own. -/
def wpF (P : Program) (ops : Array Oper) (W : World) (G E : List Thing → Prop) (loud hard : List Nat) (K : List Thing → Act → Prop) : List Nat → List Thing → Act → Prop
  | [], l, a => K l a
  | k :: ks, l, a => ∃ o, ops[k]? = some o ∧ if loud.contains k then LoudG P ops W o l a fun l' u => G l' ∧ (hard.contains k = false → E l → E l') ∧ wpF P ops W G E loud hard K ks l' (a.put o.dst u)
      else ∃ v, FirmF P .any ops W G E loud hard k l o v a ∧ wpF P ops W G E loud hard K ks l (a.put o.dst v)
theorem WholeF.lexO {K : List Thing → Act → Prop} (hsel : Region.noSelect ops = true) :
    ∀ (ks : List Nat) (l : List Thing) (listed : Array Bool) (a : Act), Region.lexO .any ops loud ks listed = true → wpF P ops W G E loud hard K ks l a → WholeF P .any ops W G E loud hard K ks.length l listed a := by
  intro ks
  induction ks with
  | nil => intro l listed a hB h; exact ⟨by simpa [Region.lexO] using hB, h⟩
  | cons k ks ih =>
    intro l listed a hB h
    obtain ⟨o, h0, h⟩ := h
    rw [Region.lexO] at hB
    simp only [Bool.and_eq_true] at hB
    obtain ⟨hB, hB'⟩ := hB
    by_cases hk : loud.contains k = true
    · rw [if_pos hk] at h hB
      have hr : Region.ready .any ops listed = [k] := by simpa using hB
      refine ⟨by rw [hr]; simp, fun i hi => ?_⟩
      rw [hr] at hi
      obtain rfl : i = k := by simpa using hi
      exact ⟨o, h0, .inr ⟨hk, h.mono fun l' u ⟨hg, hs, h⟩ => ⟨hg, hs, ih _ _ _ hB' h⟩⟩⟩
    · rw [if_neg hk] at h hB
      simp only [Bool.and_eq_true] at hB
      obtain ⟨v, hy, h⟩ := h
      exact WholeF.first h0 (Region.noSelect_spec hsel) ks.length l listed a (Region.free_spec h0 hB.2) (by simpa using hB.1) hy (ih _ _ _ hB' h)
theorem wp_region_F {id : Nat} {Q : Exit → Act → World → Prop} {a : Act} {w : World} {l : List Thing} {lo : List Oper} (loud hard ord : List Nat) (G E : List Thing → Prop) (H : Heap W l w) (hm : P.follows .mixedOrders = true) (hB : Region.lexOB lo.toArray loud ord = true)
    (h : wpF P lo.toArray W G E loud hard (fun l' a' => ∀ w', Heap W l' w' → Q .normal a' w') ord l a) : (Code.region id lo.toArray true).wp P Q a w := by
  simp only [Region.lexOB, Bool.and_eq_true, beq_iff_eq] at hB
  refine wp_region_any hm ?_
  have := WholeF.lexO hB.1.1 ord l _ a hB.1.2 h
  have h2 := WholeF.any (Q := Q) (fun l a w H h => h w H) ord.length l _ a _ H.drew this
  rw [hB.2] at h2
  exact h2
theorem wpF_nil {K : List Thing → Act → Prop} {l : List Thing} {a : Act} (h : K l a) : wpF P ops W G E loud hard K [] l a := h
/-- A quiet one, whatever the things that stay. -/
theorem wpF_step {lo : List Oper} {K : List Thing → Act → Prop} {o : Oper} {k : Nat} {ks : List Nat} {l : List Thing} {a : Act} {s : Nat} {v : Value} (ho : lo[k]? = some o) (hk : loud.contains k = false) (hd : o.dst = some s) (hlt : s < a.tmps.size) (hG : G l)
    (h1 : ∀ l0, G l0 → ∀ (w0 : World) (H0 : Heap W l0 w0), wpQuiet P lo.toArray (fun w' => ∃ d, w' = H0.any d) (fun a' => a'.tmps.getD s undef = v) [o] a) (h2 : wpF P lo.toArray W G E loud hard K ks l (a.put o.dst v)) : wpF P lo.toArray W G E loud hard K (k :: ks) l a := by
  refine ⟨o, by simpa using ho, ?_⟩
  rw [if_neg (by rw [hk]; exact Bool.false_ne_true)]
  exact ⟨v, .inl ⟨hG, yields_of hd hlt h1⟩, h2⟩
/-- A read of what a hard one changes: ahead of it. -/
theorem wpF_early {lo : List Oper} {K : List Thing → Act → Prop} {o : Oper} {k : Nat} {ks : List Nat} {l : List Thing} {a : Act} {s : Nat} {v : Value} (ho : lo[k]? = some o) (hk : loud.contains k = false) (he : Region.early .any lo.toArray hard k = true) (hd : o.dst = some s) (hlt : s < a.tmps.size) (hE : E l)
    (h1 : ∀ l0, E l0 → ∀ (w0 : World) (H0 : Heap W l0 w0), wpQuiet P lo.toArray (fun w' => ∃ d, w' = H0.any d) (fun a' => a'.tmps.getD s undef = v) [o] a) (h2 : wpF P lo.toArray W G E loud hard K ks l (a.put o.dst v)) : wpF P lo.toArray W G E loud hard K (k :: ks) l a := by
  refine ⟨o, by simpa using ho, ?_⟩
  rw [if_neg (by rw [hk]; exact Bool.false_ne_true)]
  exact ⟨v, .inr ⟨he, hE, yields_of hd hlt h1⟩, h2⟩
theorem wpF_loud {lo : List Oper} {K : List Thing → Act → Prop} {o : Oper} {k : Nat} {ks : List Nat} {l : List Thing} {a : Act} (ho : lo[k]? = some o) (hk : loud.contains k = true) (h : LoudG P lo.toArray W o l a fun l' u => G l' ∧ (hard.contains k = false → E l → E l') ∧ wpF P lo.toArray W G E loud hard K ks l' (a.put o.dst u)) : wpF P lo.toArray W G E loud hard K (k :: ks) l a := by
  refine ⟨o, by simpa using ho, ?_⟩
  rw [if_pos hk]
  exact h
end
section
variable {W : World} {G E : List Thing → Prop} {loud hard : List Nat} {K : List Thing → Act → Prop} {l r : List Thing} {a : Act} {lo : List Oper} {ks : List Nat} {k : Nat} {dst : Option Tmp} {ty : TypeId} {pos : String} {after : Array Edge}
theorem keeps1 {x : Thing} {l : List Thing} (m : x ∈ l) : Keeps [x] l := fun t ht => by rw [List.mem_singleton.1 ht]; exact m
theorem keeps2 {x y : Thing} {l : List Thing} (m : x ∈ l) (m2 : y ∈ l) : Keeps [x, y] l := fun t ht => by
  rcases List.mem_cons.1 ht with rfl | ht
  · exact m
  · rw [List.mem_singleton.1 ht]; exact m2
theorem Heap.push {W w : World} {l r : List Thing} {x : Thing} (H : Heap W (x :: r) w) (h : Pull l x r) : Heap W l w := H.perm h.perm.symm
theorem RowT.form1 {w : World} {e size n : Nat} {v : Value} {xs : List Value} (h : w.ownsRow 0 e size v n xs) : ∃ a c, v = .slice a n c ∧ n ≤ c ∧ c ≤ maxLen := by
  rcases h.2 with ⟨rfl, rfl⟩ | ⟨g, cap, cur, rfl, _, _, hnc, hcm, _⟩
  · exact ⟨none, 0, rfl, Nat.le_refl _, by unfold maxLen; omega⟩
  · exact ⟨_, _, rfl, hnc, hcm⟩
theorem wpF_bsR {x : Operand} {t e : TypeId} {c zs : Array Value} (ho : lo[k]? = some ⟨dst, .buildSlice t 1 #[(0, x)], ty, pos, after, none⟩) (hk : loud.contains k = true) (hx : a.eval x = .agg c)
    (hT : Try.prog.underlying t = some (.slice e) ∧ (Try.prog.info? e).map (fun i => (i.size, i.zero.map Value.cells)) = some (zs.size, some zs) ∧ 0 < zs.size ∧ zs.size ≤ 65536) (hv : c.size = zs.size)
    (hG : ∀ p, G (Cel p c e :: l)) (hE : ∀ p, E l → E (Cel p c e :: l)) (h : ∀ p, wpF Try.prog lo.toArray W G E loud hard K ks (Cel p c e :: l) (a.put dst (.slice (some ⟨p, 0, none⟩) 1 1))) : wpF Try.prog lo.toArray W G E loud hard K (k :: ks) l a := by
  refine wpF_loud ho hk ⟨rfl, fun w H => ⟨_, _, _, .inl ?_, H.alloc c e, hG _, fun _ => hE _, h _⟩⟩
  unfold execOp
  simp only [List.map_toArray, List.map_cons, List.map_nil, hx, Sem.run_bind, run_buildSlice1 hT.1 hT.2.1 hT.2.2.1 hT.2.2.2 (.agg c) hv, Result.andThen_ok, Sem.run_pure]
  rfl
theorem wpF_append {t e size bytes : Nat} {z : Value} (T : SlTy Try.prog t e size bytes z) {s x : Operand} (ho : lo[k]? = some ⟨dst, .call { callee := .builtin .append, args := #[s, x], argTypes := #[t, t] }, ty, pos, after, none⟩) (hk : loud.contains k = true)
    {v : Value} {b m c n : Nat} {xs news : List Value} {cc : Array Value} {te : TypeId} (hs : a.eval s = v) (hx : a.eval x = .slice (some ⟨b, 0, none⟩) m c) (pl : Pull l (RowT e size v n xs) r) (mb : Cel b cc te ∈ l) (hnews : cc.toList = news)
    (hl : news.length = m * size) (h1 : OneCells news) (h63 : n + m ≤ maxLen) (hbytes : (n + m) * bytes ≤ 140737488355328)
    (hh : hard.contains k = true) (hG : ∀ v', G (RowT e size v' (n + m) (xs ++ news) :: r)) (h : ∀ a' c', wpF Try.prog lo.toArray W G E loud hard K ks (RowT e size (.slice a' (n + m) c') (n + m) (xs ++ news) :: r) (a.put dst (.slice a' (n + m) c'))) : wpF Try.prog lo.toArray W G E loud hard K (k :: ks) l a := by
  refine wpF_loud ho hk ⟨rfl, fun w H => ?_⟩
  have H2 := H.pull pl
  have hown : w.ownsRow 0 e size v n xs := H2.ok _ List.mem_cons_self
  have hrd := H.celRd mb
  rw [hnews] at hrd
  obtain ⟨i, hi, hz, hsz, hb⟩ := T.inf
  have hnw := hrd.addr
  obtain ⟨v1, w1, hr1, hbl⟩ := run_append_block w T ty 0 v n xs hown ⟨b, 0, none⟩ m c news hl hnw h1 h63 hbytes
  obtain ⟨v', w', hr, h2, h3, h4⟩ := run_append_own (P := Try.prog) w 0 t ty e i z size bytes T.und hi hz hsz hb T.zc T.pos v n xs hown ⟨b, 0, none⟩ m c news hl hnw h1 h63 hbytes (Nat.zero_le _)
  rw [hr1] at hr
  simp only [Result.ok.injEq] at hr
  obtain ⟨rfl, rfl⟩ := hr
  obtain ⟨a', c', rfl, _, _⟩ := RowT.form1 h2
  refine ⟨_, _, w1, .inl ?_, H2.head h3 h2 ?_, hG _, fun e => absurd hh (by rw [e]; exact Bool.false_ne_true), h _ _⟩
  · unfold execOp
    simp only [resolve, invoke, builtin, Sem.run_bind, Sem.run_pure, Result.andThen_ok, List.map_toArray, List.map_cons, List.map_nil, hs, hx, hr1]
  · rcases hbl with hbl | hbl
    · exact .inl hbl
    · refine .inr fun j hj => ?_
      have h5 := ownsRow_fp h2 j hj
      have hj' : (Value.slice a' (n + m) c').ownBlock = some j := hj
      rw [hbl] at hj'
      cases hj'
      exact ⟨Nat.le_refl _, h5.2⟩
end
end Go.Proofs.Ytacglcpjbepfnaa

/- books: Find, Place. -/
namespace Go.Proofs.Ytacglcpjbepfnaa
open Go.RowKit
set_option linter.unusedSimpArgs false
set_option linter.unusedVariables false
set_option maxRecDepth 100000
abbrev ofrZ : Ofr := ⟨0, 0, 0, 0, 0, 0, 0⟩
/-- What Find answers. -/
def findV (L : List Ofr) (s : Int) : Value := match findO L s with
  | some o => .tuple #[.agg (ofrA o), .bool true]
  | none => .tuple #[.agg (ofrA ofrZ), .bool false]
theorem findV_some {L : List Ofr} {s : Int} {o : Ofr} (h : findO L s = some o) : findV L s = .tuple #[.agg (ofrA o), .bool true] := by unfold findV; rw [h]
theorem findV_none {L : List Ofr} {s : Int} (h : findO L s = none) : findV L s = .tuple #[.agg (ofrA ofrZ), .bool false] := by unfold findV; rw [h]
theorem run_buildO0 (w : World) : (Instr.build 83 #[]).run Try.prog w = .ok (.agg (ofrA ofrZ)) w := by kernel_rfl
theorem run_buildO (o : Ofr) (w : World) : (Instr.build 83 #[(0, .int .u64 o.sq), (1, .int .u8 o.ow), (2, .int .u8 o.se), (3, .int .u8 o.bu), (4, .int .i64 o.le), (5, .agg #[.int .i64 o.nu, .int .i64 o.de])]).run Try.prog w = .ok (.agg (ofrA o)) w := by kernel_rfl
section
variable {ops : Array Oper} {rest : List Oper} {a : Act} {W w : World} {l : List Thing} {K : Act → Prop} {Q : Exit → Act → World → Prop} {dst : Option Tmp} {ty : TypeId} {pos : String} {after : Array Edge} {guard : Option (Nat × Bool)}
theorem wpl_buildO0 (hw : Region.wanted ⟨dst, .build 83 #[], ty, pos, after, guard⟩ (yielded ops a.tmps) = true)
    (h : wpList Try.prog ops Q rest (a.put dst (.agg (ofrA ofrZ))) w) : wpList Try.prog ops Q (⟨dst, .build 83 #[], ty, pos, after, guard⟩ :: rest) a w := by
  refine wpl_pure hw _ (fun w => ?_) h
  unfold execOp
  simp only [List.map_toArray, List.map_nil, Sem.run_bind, run_buildO0, Result.andThen_ok, Sem.run_pure]
theorem wpQ_buildO {H : Heap W l w} {x0 x1 x2 x3 x4 x5 : Operand} {sq ow se bu le nu de : Int} (hw : Region.wanted ⟨dst, .build 83 #[(0, x0), (1, x1), (2, x2), (3, x3), (4, x4), (5, x5)], ty, pos, after, guard⟩ (yielded ops a.tmps) = true)
    (h0 : a.eval x0 = .int .u64 sq) (h1 : a.eval x1 = .int .u8 ow) (h2 : a.eval x2 = .int .u8 se) (h3 : a.eval x3 = .int .u8 bu) (h4 : a.eval x4 = .int .i64 le) (h5 : a.eval x5 = .agg #[.int .i64 nu, .int .i64 de])
    (h : wpQuiet Try.prog ops (fun w' => ∃ d, w' = H.any d) K rest (a.put dst (.agg (ofrA ⟨sq, ow, se, bu, le, nu, de⟩)))) : wpQuiet Try.prog ops (fun w' => ∃ d, w' = H.any d) K (⟨dst, .build 83 #[(0, x0), (1, x1), (2, x2), (3, x3), (4, x4), (5, x5)], ty, pos, after, guard⟩ :: rest) a := by
  refine BigFrame.wpQuiet_want hw fun K hK => ⟨_, ?_, hK _ h⟩
  rintro _ ⟨d, rfl⟩
  unfold Oper.quietAt execOp
  simp only [List.map_toArray, List.map_cons, List.map_nil, h0, h1, h2, h3, h4, h5, Sem.run_bind, run_buildO ⟨sq, ow, se, bu, le, nu, de⟩]
  exact ⟨rfl, rfl⟩
end
section
variable {W : World} {G E : List Thing → Prop} {loud hard : List Nat} {K : List Thing → Act → Prop} {l r : List Thing} {a : Act} {lo : List Oper} {ks : List Nat} {k : Nat} {dst : Option Tmp} {ty : TypeId} {pos : String} {after : Array Edge}
theorem wpF_storeC {T : TypeId} {guard : Option (Nat × Bool)} {x y : Operand} {b off : Nat} {v : Value} (CT : CellTy T) (ho : lo[k]? = some ⟨dst, .store T x y, ty, pos, after, guard⟩) (hk : loud.contains k = true) (hw : Region.wanted ⟨dst, .store T x y, ty, pos, after, guard⟩ (yielded lo.toArray a.tmps) = true) (hx : a.eval x = .pointer (some ⟨b, off, none⟩)) (hy : a.eval y = v) (hc : v.cells = #[v] ∧ v.oneCell' = true)
    {c c1 : Array Value} {t : TypeId} {l' : List Thing} (m : Cel b c t ∈ l) (hn : off < c.size) (hs : c.setIfInBounds off v = c1) (r : Repl l (Cel b c t) (Cel b c1 t) l') (hh : hard.contains k = true) (hG : G l')
    (h : wpF Try.prog lo.toArray W G E loud hard K ks l' (a.put dst undef)) : wpF Try.prog lo.toArray W G E loud hard K (k :: ks) l a := by
  subst hs
  refine wpF_loud ho hk ⟨hw, fun w H => ⟨l', undef, setBlk w b (c.setIfInBounds off v), .inr ⟨?_, rfl⟩, H.set r, hG, fun e => absurd hh (by rw [e]; exact Bool.false_ne_true), h⟩⟩
  unfold execOp
  simp only [hx, hy, Sem.run_bind, run_storeC CT hc (H.blk m) hn, Result.andThen_ok]
  rfl
end
section
variable {W w : World} {l : List Thing}
set_option maxHeartbeats 8000000
theorem find_H {p n : Nat} {v : Value} {nx : Int} {L : List Ofr} (s : Int) (m1 : BkB p v nx ∈ l) (m2 : OfT v n L ∈ l) (h : 0 < nx) (hl : L.length = n) (hn : n ≤ 1000000) : AnsH W l 56 #[.pointer (some ⟨p, 0, none⟩), .int .u64 s] (findV L s) := by
  intro w H
  obtain ⟨va, c, rfl, hc1, hc2⟩ := RowT.form0 (H.ok _ m2)
  have T := fun px c t => bthere_yes (W := W) (l := Cel px c t :: l) (List.mem_cons_of_mem _ m1) h
  have T2 := fun px c t => at_H (W := W) (l := Cel px c t :: l) s (List.mem_cons_of_mem _ m1) (List.mem_cons_of_mem _ m2) hl hn
  cases hf : findO L s with
  | none =>
    rw [findV_none hf]
    rw [idxO_none hf] at T2
    clear hf
    go_enter Try.func56, Try.ntmps56
    go_wp2_with (first
      | ((with_reducible show wpList _ _ _ (_ :: _) _ _); (with_reducible apply wpl_allocRH row_ofr); (· rfl); (· exact H); (clear H; intro px _ H); (simp only [Act.put, List.setIfInBounds_toArray, List.set_cons_zero, List.set_cons_succ]))
      | ((with_reducible show wpList _ _ _ (_ :: _) _ _); (with_reducible apply wpl_buildO0); (· rfl); (simp only [Act.put, List.setIfInBounds_toArray, List.set_cons_zero, List.set_cons_succ]))
      | go_skip
      | ((with_reducible refine AnsH.call (T _ _ _) H ?_); clear H; intro _ H)
      | ((with_reducible refine AnsH.call (T2 _ _ _) H ?_); clear H; intro _ H)
      | ((with_reducible show wpList _ _ _ (_ :: _) _ _); (with_reducible apply wpl_storeRH row_ofr); (· rfl); (· rfl); (· rfl); (· with_reducible exact ofr_cells ..); (· exact H); (· (repeat (first | (with_reducible exact List.mem_cons_self) | with_reducible apply List.mem_cons_of_mem))); (· (simp only [ofrA_sz, Nat.reduceAdd, Nat.reduceLeDiff, Nat.le_refl]; done)); (· with_reducible exact ofr_splice ..); (· (repeat (first | (with_reducible exact Repl.here) | with_reducible apply Repl.there))); (clear H; intro _ H); (simp only [Act.put, List.setIfInBounds_toArray, List.set_cons_zero, List.set_cons_succ])))
    refine ret_row2H row_ofr rfl rfl rfl H List.mem_cons_self rfl rfl ?_
    exact ⟨rfl, H.tail⟩
  | some o =>
    obtain ⟨hi, hg, hlt⟩ := idxO_some hf
    rw [findV_some hf]
    rw [hi] at T2
    have ho : L[iO L s] = o := by rw [List.getElem?_eq_getElem hlt] at hg; exact Option.some.inj hg
    have hrow := ofrL_get L (iO L s) hlt
    rw [ho] at hrow
    have hlen : iO L s * 7 + 7 ≤ (ofrL L).length := by rw [ofrL_len]; omega
    have hin : iO L s < n := by omega
    have Rw := H.rowRd m2
    obtain ⟨ba, oa, rfl, _⟩ := Rw.lt (by omega)
    have HN := Lib.hid (⟨hf, hi, hg, hl, ho⟩ : _ ∧ _ ∧ _ ∧ _ ∧ _)
    clear hf hi hg ho hl
    generalize iO L s = k at *
    go_enter Try.func56, Try.ntmps56
    go_wp2_with (first
      | ((with_reducible show wpList _ _ _ (_ :: _) _ _); (with_reducible apply wpl_allocRH row_ofr); (· rfl); (· exact H); (clear H; intro px _ H); (simp only [Act.put, List.setIfInBounds_toArray, List.set_cons_zero, List.set_cons_succ]))
      | go_skip
      | ((with_reducible refine AnsH.call (T _ _ _) H ?_); clear H; intro _ H)
      | ((with_reducible refine AnsH.call (T2 _ _ _) H ?_); clear H; intro _ H)
      | ((with_reducible show wpList _ _ _ (_ :: _) _ _); (with_reducible apply wpl_loadCH); (· exact cell_ofrs); (· rfl); (· rfl); (· exact H); (· exact List.mem_cons_of_mem _ m1); (· exact bkb_g0 ..); (simp only [Act.put, List.setIfInBounds_toArray, List.set_cons_zero, List.set_cons_succ]))
      | ((with_reducible show wpList _ _ _ (_ :: _) _ _); (with_reducible apply wpl_loadRdR row_ofr); (· rfl); (· rfl); (· exact H.rowRd (List.mem_cons_of_mem _ m2)); (· rfl); (· exact hlen); (· decide); (· exact hrow); (simp only [Act.put, List.setIfInBounds_toArray, List.set_cons_zero, List.set_cons_succ]))
      | ((with_reducible show wpList _ _ _ (_ :: _) _ _); (with_reducible apply wpl_storeRH row_ofr); (· rfl); (· rfl); (· rfl); (· with_reducible exact ofr_cells ..); (· exact H); (· (repeat (first | (with_reducible exact List.mem_cons_self) | with_reducible apply List.mem_cons_of_mem))); (· (simp only [ofrA_sz, Nat.reduceAdd, Nat.reduceLeDiff, Nat.le_refl]; done)); (· with_reducible exact ofr_splice ..); (· (repeat (first | (with_reducible exact Repl.here) | with_reducible apply Repl.there))); (clear H; intro _ H); (simp only [Act.put, List.setIfInBounds_toArray, List.set_cons_zero, List.set_cons_succ])))
    refine ret_row2H row_ofr rfl rfl rfl H List.mem_cons_self rfl rfl ?_
    exact ⟨rfl, H.tail⟩
end
end Go.Proofs.Ytacglcpjbepfnaa

/- books: Place. -/
namespace Go.Proofs.Ytacglcpjbepfnaa
open Go.RowKit
set_option linter.unusedSimpArgs false
set_option linter.unusedVariables false
set_option maxRecDepth 100000
theorem ofrL_app (L M : List Ofr) : ofrL (L ++ M) = ofrL L ++ ofrL M := by simp [ofrL]
theorem ofrL_one (o : Ofr) : ofrL [o] = (ofrA o).toList := by simp [ofrL, ofrA]
theorem ofrA_ones (o : Ofr) : OneCells (ofrA o).toList := by rw [← ofrL_one]; exact ofrL_ones _
abbrev ratA (nu de : Int) : Array Value := #[.int .i64 nu, .int .i64 de]
theorem ratA_sz (nu de : Int) : (ratA nu de).size = 2 := rfl
theorem ratA_all (nu de : Int) : (ratA nu de).extract 0 (0 + 2) = ratA nu de := by simp [ratA]
theorem bs_ofr : Try.prog.underlying 76 = some (.slice 83) ∧ (Try.prog.info? 83).map (fun i => (i.size, i.zero.map Value.cells)) = some ((ofrA ofrZ).size, some (ofrA ofrZ)) ∧ 0 < (ofrA ofrZ).size ∧ (ofrA ofrZ).size ≤ 65536 := ⟨Try.underlying76, by kernel_rfl, by decide, by decide⟩
theorem place_bad {B : Bok} {ow se bu le nu de : Int} (h : mayO ⟨B.nx, ow, se, bu, le, nu, de⟩ = false) : placeE B ow se bu le nu de = 1 := by unfold placeE placeO; rw [if_pos h]
theorem place_full {B : Bok} {ow se bu le nu de : Int} (h : mayO ⟨B.nx, ow, se, bu, le, nu, de⟩ = true) (h2 : 32 ≤ B.L.length ∨ B.nx = 18446744073709551615) : placeE B ow se bu le nu de = 9 := by
  unfold placeE placeO; rw [if_neg (by rw [h]; decide), if_pos h2]
theorem place_fine {B : Bok} {ow se bu le nu de : Int} (h : mayO ⟨B.nx, ow, se, bu, le, nu, de⟩ = true) (h2 : ¬ (32 ≤ B.L.length ∨ B.nx = 18446744073709551615)) : placeE B ow se bu le nu de = 0 := by
  unfold placeE placeO; rw [if_neg (by rw [h]; decide), if_neg h2]
theorem placeN_no {B : Bok} {ow se bu le nu de : Int} (h : placeE B ow se bu le nu de ≠ 0) : placeN B ow se bu le nu de = 0 := by unfold placeN; rw [if_neg h]
theorem placeN_yes {B : Bok} {ow se bu le nu de : Int} (h : placeE B ow se bu le nu de = 0) : placeN B ow se bu le nu de = B.nx := by unfold placeN; rw [if_pos h]
theorem placeS_no {B : Bok} {ow se bu le nu de : Int} (h : placeE B ow se bu le nu de ≠ 0) : placeS B ow se bu le nu de = B := by unfold placeS; rw [if_neg h]
theorem placeS_yes {B : Bok} {ow se bu le nu de : Int} (h : placeE B ow se bu le nu de = 0) : placeS B ow se bu le nu de = ⟨B.L ++ [⟨B.nx, ow, se, bu, le, nu, de⟩], B.nx + 1⟩ := by unfold placeS placeO; rw [if_pos h]
section
variable {W w : World} {l : List Thing}
set_option maxHeartbeats 8000000
theorem place_H {p : Nat} {v : Value} {B : Bok} (ow se bu le nu de : Int) (hk : OfrOk ⟨B.nx, ow, se, bu, le, nu, de⟩) (G : B.Good) (H : Heap W (BkB p v B.nx :: OfT v B.L.length B.L :: l) w) :
    Calls Try.prog 58 #[.pointer (some ⟨p, 0, none⟩), .int .u8 ow, .int .u8 se, .int .u8 bu, .int .i64 le, .agg (ratA nu de)] w fun e w' =>
      ∃ v', e = .returned (.tuple #[.int .u64 (placeN B ow se bu le nu de), .int .i64 (placeE B ow se bu le nu de)]) ∧ Heap W (BkB p v' (placeS B ow se bu le nu de).nx :: OfT v' (placeS B ow se bu le nu de).L.length (placeS B ow se bu le nu de).L :: l) w' := by
  obtain ⟨va, c, rfl, hc1, hc2⟩ := RowT.form0 (H.ok _ (List.mem_cons_of_mem _ List.mem_cons_self))
  have hfew := G.few
  have hnx1 := G.nx.1
  have hnx2 := G.nx.2
  have T := fun px c2 t => bthere_yes (W := W) (l := Cel px c2 t :: BkB p (.slice va B.L.length c) B.nx :: OfT (.slice va B.L.length c) B.L.length B.L :: l) (List.mem_cons_of_mem _ List.mem_cons_self) (show 0 < B.nx by omega)
  have M := fun l' => bmay_H (W := W) (l := l') ⟨B.nx, ow, se, bu, le, nu, de⟩ hk
  cases hb : mayO ⟨B.nx, ow, se, bu, le, nu, de⟩ with
  | false =>
    rw [hb] at M
    have e1 := place_bad hb
    have e2 := placeN_no (by rw [e1]; decide : placeE B ow se bu le nu de ≠ 0)
    have e3 := placeS_no (by rw [e1]; decide : placeE B ow se bu le nu de ≠ 0)
    rw [e1, e2, e3]
    clear e1 e2 e3 hb hfew
    generalize B.L.length = n at *
    go_enter Try.func58, Try.ntmps58
    go_wp2_with (first
      | ((with_reducible show wpList _ _ _ (_ :: _) _ _); (with_reducible apply wpl_boxRH); (· rfl); (· rfl); (· exact H); (clear H; intro px _ H); (simp only [Act.put, List.setIfInBounds_toArray, List.set_cons_zero, List.set_cons_succ]))
      | go_skip
      | ((with_reducible refine AnsH.call (T _ _ _) H ?_); clear H; intro _ H))
    refine wp_region_W [10, 11] (fun l0 => ∃ pre, l0 = pre ++ _) H ⟨[], rfl⟩ (by kernel_rfl) (by kernel_rfl) ?_
    iterate 10 (apply wpW_step; (· rfl); (· rfl); (· exact Nat.le_of_ble_eq_true rfl); (· rintro l0 ⟨pre, rfl⟩ w0 H0; (first | go_big_quiet_skip | ((with_reducible apply wpQ_loadCH); (· exact cell_u64); (· rfl); (· rfl); (· ((refine List.mem_append_right _ ?_); (repeat (first | (with_reducible exact List.mem_cons_self) | with_reducible apply List.mem_cons_of_mem)))); (· exact bkb_g1 ..); (simp only [Act.put, List.setIfInBounds_toArray, List.set_cons_zero, List.set_cons_succ])) | ((with_reducible apply wpQ_loadRH row_rat); (· rfl); (· rfl); (· ((refine List.mem_append_right _ ?_); (repeat (first | (with_reducible exact List.mem_cons_self) | with_reducible apply List.mem_cons_of_mem)))); (· (simp only [ratA_sz, Nat.reduceAdd, Nat.reduceLeDiff, Nat.le_refl]; done)); (· with_reducible exact ratA_all ..); (simp only [Act.put, List.setIfInBounds_toArray, List.set_cons_zero, List.set_cons_succ])) | ((with_reducible apply wpQ_buildO); (· rfl); (· rfl); (· rfl); (· rfl); (· rfl); (· rfl); (· rfl); (simp only [Act.put, List.setIfInBounds_toArray, List.set_cons_zero, List.set_cons_succ])) | go_big_quiet_step (fail)); (refine wpQuiet_nil ?_); (simp only [Array.getD_eq_getD_getElem?, List.getElem?_toArray, List.getElem?_cons_succ, List.getElem?_cons_zero, Option.getD_some]; rfl)); (simp only [Act.put, List.setIfInBounds_toArray, List.set_cons_zero, List.set_cons_succ]))
    ((with_reducible apply wpW_allocR row_ofr); (· rfl); (· rfl); (· intro p; exact ⟨[_], rfl⟩); (intro po); (simp only [Act.put, List.setIfInBounds_toArray, List.set_cons_zero, List.set_cons_succ]))
    ((with_reducible apply wpW_storeR row_ofr); (· rfl); (· rfl); (· rfl); (· rfl); (· with_reducible exact ofr_cells ..); (· (repeat (first | (with_reducible exact List.mem_cons_self) | with_reducible apply List.mem_cons_of_mem))); (· (simp only [ofrA_sz, Nat.reduceAdd, Nat.reduceLeDiff, Nat.le_refl]; done)); (· with_reducible exact ofr_splice ..); (· (repeat (first | (with_reducible exact Repl.here) | with_reducible apply Repl.there))); (· exact ⟨[_], rfl⟩); (simp only [Act.put, List.setIfInBounds_toArray, List.set_cons_zero, List.set_cons_succ]))
    (refine wpW_nil ?_; clear H; intro _ H)
    go_wp2_with (first
      | go_skip
      | ((with_reducible show wpList _ _ _ (_ :: _) _ _); (with_reducible apply wpl_loadRH row_ofr); (· rfl); (· rfl); (· exact H); (· (repeat (first | (with_reducible exact List.mem_cons_self) | with_reducible apply List.mem_cons_of_mem))); (· (simp only [ofrA_sz, Nat.reduceAdd, Nat.reduceLeDiff, Nat.le_refl]; done)); (· with_reducible exact ofrA_all ..); (simp only [Act.put, List.setIfInBounds_toArray, List.set_cons_zero, List.set_cons_succ]))
      | ((with_reducible refine AnsH.call (M _) H ?_); clear H; intro _ H))
    go_ret2
    exact ⟨_, rfl, H.tail.tail⟩
  | true =>
    rw [hb] at M
    by_cases hf : 32 ≤ B.L.length ∨ B.nx = 18446744073709551615
    · have e1 := place_full hb hf
      have e2 := placeN_no (by rw [e1]; decide : placeE B ow se bu le nu de ≠ 0)
      have e3 := placeS_no (by rw [e1]; decide : placeE B ow se bu le nu de ≠ 0)
      rw [e1, e2, e3]
      clear e1 e2 e3 hb hfew
      by_cases h1 : 32 ≤ B.L.length
      · have d1 : decide ((B.L.length : Int) ≥ 32) = true := decide_eq_true (by omega)
        have d2 : decide (32 ≤ (B.L.length : Int)) = true := decide_eq_true (by omega)
        clear hf h1
        generalize B.L.length = n at *
        go_enter Try.func58, Try.ntmps58
        go_wp2_with (first
          | ((with_reducible show wpList _ _ _ (_ :: _) _ _); (with_reducible apply wpl_boxRH); (· rfl); (· rfl); (· exact H); (clear H; intro px _ H); (simp only [Act.put, List.setIfInBounds_toArray, List.set_cons_zero, List.set_cons_succ]))
          | go_skip
          | ((with_reducible refine AnsH.call (T _ _ _) H ?_); clear H; intro _ H))
        refine wp_region_W [10, 11] (fun l0 => ∃ pre, l0 = pre ++ _) H ⟨[], rfl⟩ (by kernel_rfl) (by kernel_rfl) ?_
        iterate 10 (apply wpW_step; (· rfl); (· rfl); (· exact Nat.le_of_ble_eq_true rfl); (· rintro l0 ⟨pre, rfl⟩ w0 H0; (first | go_big_quiet_skip | ((with_reducible apply wpQ_loadCH); (· exact cell_u64); (· rfl); (· rfl); (· ((refine List.mem_append_right _ ?_); (repeat (first | (with_reducible exact List.mem_cons_self) | with_reducible apply List.mem_cons_of_mem)))); (· exact bkb_g1 ..); (simp only [Act.put, List.setIfInBounds_toArray, List.set_cons_zero, List.set_cons_succ])) | ((with_reducible apply wpQ_loadRH row_rat); (· rfl); (· rfl); (· ((refine List.mem_append_right _ ?_); (repeat (first | (with_reducible exact List.mem_cons_self) | with_reducible apply List.mem_cons_of_mem)))); (· (simp only [ratA_sz, Nat.reduceAdd, Nat.reduceLeDiff, Nat.le_refl]; done)); (· with_reducible exact ratA_all ..); (simp only [Act.put, List.setIfInBounds_toArray, List.set_cons_zero, List.set_cons_succ])) | ((with_reducible apply wpQ_buildO); (· rfl); (· rfl); (· rfl); (· rfl); (· rfl); (· rfl); (· rfl); (simp only [Act.put, List.setIfInBounds_toArray, List.set_cons_zero, List.set_cons_succ])) | go_big_quiet_step (fail)); (refine wpQuiet_nil ?_); (simp only [Array.getD_eq_getD_getElem?, List.getElem?_toArray, List.getElem?_cons_succ, List.getElem?_cons_zero, Option.getD_some]; rfl)); (simp only [Act.put, List.setIfInBounds_toArray, List.set_cons_zero, List.set_cons_succ]))
        ((with_reducible apply wpW_allocR row_ofr); (· rfl); (· rfl); (· intro p; exact ⟨[_], rfl⟩); (intro po); (simp only [Act.put, List.setIfInBounds_toArray, List.set_cons_zero, List.set_cons_succ]))
        ((with_reducible apply wpW_storeR row_ofr); (· rfl); (· rfl); (· rfl); (· rfl); (· with_reducible exact ofr_cells ..); (· (repeat (first | (with_reducible exact List.mem_cons_self) | with_reducible apply List.mem_cons_of_mem))); (· (simp only [ofrA_sz, Nat.reduceAdd, Nat.reduceLeDiff, Nat.le_refl]; done)); (· with_reducible exact ofr_splice ..); (· (repeat (first | (with_reducible exact Repl.here) | with_reducible apply Repl.there))); (· exact ⟨[_], rfl⟩); (simp only [Act.put, List.setIfInBounds_toArray, List.set_cons_zero, List.set_cons_succ]))
        (refine wpW_nil ?_; clear H; intro _ H)
        go_wp2_with (first
          | go_skip
          | ((with_reducible show wpList _ _ _ (_ :: _) _ _); (with_reducible apply wpl_loadRH row_ofr); (· rfl); (· rfl); (· exact H); (· (repeat (first | (with_reducible exact List.mem_cons_self) | with_reducible apply List.mem_cons_of_mem))); (· (simp only [ofrA_sz, Nat.reduceAdd, Nat.reduceLeDiff, Nat.le_refl]; done)); (· with_reducible exact ofrA_all ..); (simp only [Act.put, List.setIfInBounds_toArray, List.set_cons_zero, List.set_cons_succ]))
          | ((with_reducible refine AnsH.call (M _) H ?_); clear H; intro _ H)
          | ((with_reducible show wpList _ _ _ (_ :: _) _ _); (with_reducible apply wpl_loadCH); (· first | exact cell_ofrs | exact cell_u64); (· rfl); (· rfl); (· exact H); (· (repeat (first | (with_reducible exact List.mem_cons_self) | with_reducible apply List.mem_cons_of_mem))); (· with_reducible first | exact bkb_g0 .. | exact bkb_g1 ..); (simp only [Act.put, List.setIfInBounds_toArray, List.set_cons_zero, List.set_cons_succ])))
        go_ret2
        exact ⟨_, rfl, H.tail.tail⟩
      · have d1 : decide ((B.L.length : Int) ≥ 32) = false := decide_eq_false (by omega)
        have d2 : decide (32 ≤ (B.L.length : Int)) = false := decide_eq_false (by omega)
        have d3 : (B.nx == 18446744073709551615) = true := by simp; omega
        clear hf h1
        generalize B.L.length = n at *
        go_enter Try.func58, Try.ntmps58
        go_wp2_with (first
          | ((with_reducible show wpList _ _ _ (_ :: _) _ _); (with_reducible apply wpl_boxRH); (· rfl); (· rfl); (· exact H); (clear H; intro px _ H); (simp only [Act.put, List.setIfInBounds_toArray, List.set_cons_zero, List.set_cons_succ]))
          | go_skip
          | ((with_reducible refine AnsH.call (T _ _ _) H ?_); clear H; intro _ H))
        refine wp_region_W [10, 11] (fun l0 => ∃ pre, l0 = pre ++ _) H ⟨[], rfl⟩ (by kernel_rfl) (by kernel_rfl) ?_
        iterate 10 (apply wpW_step; (· rfl); (· rfl); (· exact Nat.le_of_ble_eq_true rfl); (· rintro l0 ⟨pre, rfl⟩ w0 H0; (first | go_big_quiet_skip | ((with_reducible apply wpQ_loadCH); (· exact cell_u64); (· rfl); (· rfl); (· ((refine List.mem_append_right _ ?_); (repeat (first | (with_reducible exact List.mem_cons_self) | with_reducible apply List.mem_cons_of_mem)))); (· exact bkb_g1 ..); (simp only [Act.put, List.setIfInBounds_toArray, List.set_cons_zero, List.set_cons_succ])) | ((with_reducible apply wpQ_loadRH row_rat); (· rfl); (· rfl); (· ((refine List.mem_append_right _ ?_); (repeat (first | (with_reducible exact List.mem_cons_self) | with_reducible apply List.mem_cons_of_mem)))); (· (simp only [ratA_sz, Nat.reduceAdd, Nat.reduceLeDiff, Nat.le_refl]; done)); (· with_reducible exact ratA_all ..); (simp only [Act.put, List.setIfInBounds_toArray, List.set_cons_zero, List.set_cons_succ])) | ((with_reducible apply wpQ_buildO); (· rfl); (· rfl); (· rfl); (· rfl); (· rfl); (· rfl); (· rfl); (simp only [Act.put, List.setIfInBounds_toArray, List.set_cons_zero, List.set_cons_succ])) | go_big_quiet_step (fail)); (refine wpQuiet_nil ?_); (simp only [Array.getD_eq_getD_getElem?, List.getElem?_toArray, List.getElem?_cons_succ, List.getElem?_cons_zero, Option.getD_some]; rfl)); (simp only [Act.put, List.setIfInBounds_toArray, List.set_cons_zero, List.set_cons_succ]))
        ((with_reducible apply wpW_allocR row_ofr); (· rfl); (· rfl); (· intro p; exact ⟨[_], rfl⟩); (intro po); (simp only [Act.put, List.setIfInBounds_toArray, List.set_cons_zero, List.set_cons_succ]))
        ((with_reducible apply wpW_storeR row_ofr); (· rfl); (· rfl); (· rfl); (· rfl); (· with_reducible exact ofr_cells ..); (· (repeat (first | (with_reducible exact List.mem_cons_self) | with_reducible apply List.mem_cons_of_mem))); (· (simp only [ofrA_sz, Nat.reduceAdd, Nat.reduceLeDiff, Nat.le_refl]; done)); (· with_reducible exact ofr_splice ..); (· (repeat (first | (with_reducible exact Repl.here) | with_reducible apply Repl.there))); (· exact ⟨[_], rfl⟩); (simp only [Act.put, List.setIfInBounds_toArray, List.set_cons_zero, List.set_cons_succ]))
        (refine wpW_nil ?_; clear H; intro _ H)
        go_wp2_with (first
          | go_skip
          | ((with_reducible show wpList _ _ _ (_ :: _) _ _); (with_reducible apply wpl_loadRH row_ofr); (· rfl); (· rfl); (· exact H); (· (repeat (first | (with_reducible exact List.mem_cons_self) | with_reducible apply List.mem_cons_of_mem))); (· (simp only [ofrA_sz, Nat.reduceAdd, Nat.reduceLeDiff, Nat.le_refl]; done)); (· with_reducible exact ofrA_all ..); (simp only [Act.put, List.setIfInBounds_toArray, List.set_cons_zero, List.set_cons_succ]))
          | ((with_reducible refine AnsH.call (M _) H ?_); clear H; intro _ H)
          | ((with_reducible show wpList _ _ _ (_ :: _) _ _); (with_reducible apply wpl_loadCH); (· first | exact cell_ofrs | exact cell_u64); (· rfl); (· rfl); (· exact H); (· (repeat (first | (with_reducible exact List.mem_cons_self) | with_reducible apply List.mem_cons_of_mem))); (· with_reducible first | exact bkb_g0 .. | exact bkb_g1 ..); (simp only [Act.put, List.setIfInBounds_toArray, List.set_cons_zero, List.set_cons_succ])))
        go_ret2
        exact ⟨_, rfl, H.tail.tail⟩
    · have e1 := place_fine hb hf
      have e2 := placeN_yes e1
      have e3 := placeS_yes e1
      rw [e1, e2, e3]
      clear e1 e2 e3 hb
      have d1 : decide ((B.L.length : Int) ≥ 32) = false := decide_eq_false (by omega)
      have d2 : decide (32 ≤ (B.L.length : Int)) = false := decide_eq_false (by omega)
      have d3 : (B.nx == 18446744073709551615) = false := by simp; omega
      have hn1 : B.L.length + 1 ≤ maxLen := by unfold maxLen; omega
      have hn2 : (B.L.length + 1) * 40 ≤ 140737488355328 := by omega
      have HLL := Lib.hid (show (B.L ++ [(⟨B.nx, ow, se, bu, le, nu, de⟩ : Ofr)]).length = B.L.length + 1 by simp)
      have HAP := Lib.hid (show ofrL (B.L ++ [(⟨B.nx, ow, se, bu, le, nu, de⟩ : Ofr)]) = ofrL B.L ++ (ofrA ⟨B.nx, ow, se, bu, le, nu, de⟩).toList by rw [ofrL_app, ofrL_one])
      have hwr : IntKind.u64.wrap (B.nx + 1) = B.nx + 1 := by simp [IntKind.wrap, IntKind.bits, IntKind.signed]; omega
      clear hf
      go_enter Try.func58, Try.ntmps58
      go_wp2_with (first
        | ((with_reducible show wpList _ _ _ (_ :: _) _ _); (with_reducible apply wpl_boxRH); (· rfl); (· rfl); (· exact H); (clear H; intro px _ H); (simp only [Act.put, List.setIfInBounds_toArray, List.set_cons_zero, List.set_cons_succ]))
        | go_skip
        | ((with_reducible refine AnsH.call (T _ _ _) H ?_); clear H; intro _ H))
      refine wp_region_W [10, 11] (fun l0 => ∃ pre, l0 = pre ++ _) H ⟨[], rfl⟩ (by kernel_rfl) (by kernel_rfl) ?_
      iterate 10 (apply wpW_step; (· rfl); (· rfl); (· exact Nat.le_of_ble_eq_true rfl); (· rintro l0 ⟨pre, rfl⟩ w0 H0; (first | go_big_quiet_skip | ((with_reducible apply wpQ_loadCH); (· exact cell_u64); (· rfl); (· rfl); (· ((refine List.mem_append_right _ ?_); (repeat (first | (with_reducible exact List.mem_cons_self) | with_reducible apply List.mem_cons_of_mem)))); (· exact bkb_g1 ..); (simp only [Act.put, List.setIfInBounds_toArray, List.set_cons_zero, List.set_cons_succ])) | ((with_reducible apply wpQ_loadRH row_rat); (· rfl); (· rfl); (· ((refine List.mem_append_right _ ?_); (repeat (first | (with_reducible exact List.mem_cons_self) | with_reducible apply List.mem_cons_of_mem)))); (· (simp only [ratA_sz, Nat.reduceAdd, Nat.reduceLeDiff, Nat.le_refl]; done)); (· with_reducible exact ratA_all ..); (simp only [Act.put, List.setIfInBounds_toArray, List.set_cons_zero, List.set_cons_succ])) | ((with_reducible apply wpQ_buildO); (· rfl); (· rfl); (· rfl); (· rfl); (· rfl); (· rfl); (· rfl); (simp only [Act.put, List.setIfInBounds_toArray, List.set_cons_zero, List.set_cons_succ])) | go_big_quiet_step (fail)); (refine wpQuiet_nil ?_); (simp only [Array.getD_eq_getD_getElem?, List.getElem?_toArray, List.getElem?_cons_succ, List.getElem?_cons_zero, Option.getD_some]; rfl)); (simp only [Act.put, List.setIfInBounds_toArray, List.set_cons_zero, List.set_cons_succ]))
      ((with_reducible apply wpW_allocR row_ofr); (· rfl); (· rfl); (· intro p; exact ⟨[_], rfl⟩); (intro po); (simp only [Act.put, List.setIfInBounds_toArray, List.set_cons_zero, List.set_cons_succ]))
      ((with_reducible apply wpW_storeR row_ofr); (· rfl); (· rfl); (· rfl); (· rfl); (· with_reducible exact ofr_cells ..); (· (repeat (first | (with_reducible exact List.mem_cons_self) | with_reducible apply List.mem_cons_of_mem))); (· (simp only [ofrA_sz, Nat.reduceAdd, Nat.reduceLeDiff, Nat.le_refl]; done)); (· with_reducible exact ofr_splice ..); (· (repeat (first | (with_reducible exact Repl.here) | with_reducible apply Repl.there))); (· exact ⟨[_], rfl⟩); (simp only [Act.put, List.setIfInBounds_toArray, List.set_cons_zero, List.set_cons_succ]))
      (refine wpW_nil ?_; clear H; intro _ H)
      go_wp2_with (first
        | go_skip
        | ((with_reducible show wpList _ _ _ (_ :: _) _ _); (with_reducible apply wpl_loadRH row_ofr); (· rfl); (· rfl); (· exact H); (· (repeat (first | (with_reducible exact List.mem_cons_self) | with_reducible apply List.mem_cons_of_mem))); (· (simp only [ofrA_sz, Nat.reduceAdd, Nat.reduceLeDiff, Nat.le_refl]; done)); (· with_reducible exact ofrA_all ..); (simp only [Act.put, List.setIfInBounds_toArray, List.set_cons_zero, List.set_cons_succ]))
        | ((with_reducible refine AnsH.call (M _) H ?_); clear H; intro _ H)
        | ((with_reducible show wpList _ _ _ (_ :: _) _ _); (with_reducible apply wpl_loadCH); (· first | exact cell_ofrs | exact cell_u64); (· rfl); (· rfl); (· exact H); (· (repeat (first | (with_reducible exact List.mem_cons_self) | with_reducible apply List.mem_cons_of_mem))); (· with_reducible first | exact bkb_g0 .. | exact bkb_g1 ..); (simp only [Act.put, List.setIfInBounds_toArray, List.set_cons_zero, List.set_cons_succ])))
      refine wp_region_F [6, 7, 10] [7, 10] [0, 1, 2, 3, 4, 5, 6, 7, 8, 9, 10] (Keeps [Cel po (ofrA ⟨B.nx, ow, se, bu, le, nu, de⟩) 83]) (Keeps [BkB p (.slice va B.L.length c) B.nx]) H (by kernel_rfl) (by kernel_rfl) ?_
      iterate 4 (apply wpF_step; (· rfl); (· rfl); (· rfl); (· exact Nat.le_of_ble_eq_true rfl); (· exact keeps1 (by (repeat (first | (with_reducible exact List.mem_cons_self) | with_reducible apply List.mem_cons_of_mem)))); (· intro l0 hs0 w0 H0; (first | go_big_quiet_skip | fail | go_big_quiet_step (fail)); (refine wpQuiet_nil ?_); (simp only [Array.getD_eq_getD_getElem?, List.getElem?_toArray, List.getElem?_cons_succ, List.getElem?_cons_zero, Option.getD_some]; rfl)); (simp only [Act.put, List.setIfInBounds_toArray, List.set_cons_zero, List.set_cons_succ]))
      (apply wpF_early; (· rfl); (· rfl); (· kernel_rfl); (· rfl); (· exact Nat.le_of_ble_eq_true rfl); (· exact keeps1 (by (repeat (first | (with_reducible exact List.mem_cons_self) | with_reducible apply List.mem_cons_of_mem)))); (· intro l0 hs0 w0 H0; (first | ((with_reducible apply wpQ_loadCH); (· exact cell_ofrs); (· rfl); (· rfl); (· exact hs0 _ List.mem_cons_self); (· exact bkb_g0 ..); (simp only [Act.put, List.setIfInBounds_toArray, List.set_cons_zero, List.set_cons_succ]))); (refine wpQuiet_nil ?_); (simp only [Array.getD_eq_getD_getElem?, List.getElem?_toArray, List.getElem?_cons_succ, List.getElem?_cons_zero, Option.getD_some]; rfl)); (simp only [Act.put, List.setIfInBounds_toArray, List.set_cons_zero, List.set_cons_succ]))
      (apply wpF_step; (· rfl); (· rfl); (· rfl); (· exact Nat.le_of_ble_eq_true rfl); (· exact keeps1 (by (repeat (first | (with_reducible exact List.mem_cons_self) | with_reducible apply List.mem_cons_of_mem)))); (· intro l0 hs0 w0 H0; (first | go_big_quiet_skip | ((with_reducible apply wpQ_loadRH row_ofr); (· rfl); (· rfl); (· exact hs0 _ List.mem_cons_self); (· exact Nat.le_refl _); (· exact ofrA_all ..); (simp only [Act.put, List.setIfInBounds_toArray, List.set_cons_zero, List.set_cons_succ])) | go_big_quiet_step (fail)); (refine wpQuiet_nil ?_); (simp only [Array.getD_eq_getD_getElem?, List.getElem?_toArray, List.getElem?_cons_succ, List.getElem?_cons_zero, Option.getD_some]; rfl)); (simp only [Act.put, List.setIfInBounds_toArray, List.set_cons_zero, List.set_cons_succ]))
      refine wpF_bsR rfl rfl rfl bs_ofr rfl (fun _ => keeps1 (by (repeat (first | (with_reducible exact List.mem_cons_self) | with_reducible apply List.mem_cons_of_mem)))) (fun _ h t ht => List.mem_cons_of_mem _ (h t ht)) fun pq => ?_
      (simp only [Act.put, List.setIfInBounds_toArray, List.set_cons_zero, List.set_cons_succ])
      refine wpF_append slO rfl rfl rfl rfl (.there (.there (.there (.there .here)))) List.mem_cons_self rfl rfl (ofrA_ones _) hn1 hn2 rfl (fun _ => keeps1 (by (repeat (first | (with_reducible exact List.mem_cons_self) | with_reducible apply List.mem_cons_of_mem)))) fun a2 c2 => ?_
      (simp only [Act.put, List.setIfInBounds_toArray, List.set_cons_zero, List.set_cons_succ])
      iterate 2 (apply wpF_step; (· rfl); (· rfl); (· rfl); (· exact Nat.le_of_ble_eq_true rfl); (· exact keeps1 (by (repeat (first | (with_reducible exact List.mem_cons_self) | with_reducible apply List.mem_cons_of_mem)))); (· intro l0 hs0 w0 H0; (first | go_big_quiet_skip | fail | go_big_quiet_step (fail)); (refine wpQuiet_nil ?_); (simp only [Array.getD_eq_getD_getElem?, List.getElem?_toArray, List.getElem?_cons_succ, List.getElem?_cons_zero, Option.getD_some]; rfl)); (simp only [Act.put, List.setIfInBounds_toArray, List.set_cons_zero, List.set_cons_succ]))
      refine wpF_storeC (v := .slice a2 (B.L.length + 1) c2) cell_ofrs rfl rfl rfl rfl rfl ⟨rfl, rfl⟩ (by (repeat (first | (with_reducible exact List.mem_cons_self) | with_reducible apply List.mem_cons_of_mem))) (by rw [bkb_sz]; decide) (bkb_s0 ..) (by (repeat (first | (with_reducible exact Repl.here) | with_reducible apply Repl.there))) rfl (keeps1 (by (repeat (first | (with_reducible exact List.mem_cons_self) | with_reducible apply List.mem_cons_of_mem)))) ?_
      (simp only [Act.put, List.setIfInBounds_toArray, List.set_cons_zero, List.set_cons_succ])
      (refine wpF_nil ?_; clear H; intro _ H)
      go_wp2_with (first
        | go_skip
        | ((with_reducible show wpList _ _ _ (_ :: _) _ _); (with_reducible apply wpl_loadCH); (· first | exact cell_ofrs | exact cell_u64); (· rfl); (· rfl); (· exact H); (· (repeat (first | (with_reducible exact List.mem_cons_self) | with_reducible apply List.mem_cons_of_mem))); (· with_reducible first | exact bkb_g0 .. | exact bkb_g1 ..); (simp only [Act.put, List.setIfInBounds_toArray, List.set_cons_zero, List.set_cons_succ]))
        | (first | ((with_reducible show wpList _ _ _ (_ :: _) _ _); (with_reducible apply wpl_storeIH); (· exact cell_u64); (· rfl); (· rfl); (· rfl); (· exact H); (· (repeat (first | (with_reducible exact List.mem_cons_self) | with_reducible apply List.mem_cons_of_mem))); (· (simp only [bkb_sz, Nat.reduceLT]; done)); (· (with_reducible first | exact bkb_s0 .. | exact bkb_s1 ..)); (· (repeat (first | (with_reducible exact Repl.here) | with_reducible apply Repl.there))); (clear H; intro _ H); (simp only [Act.put, List.setIfInBounds_toArray, List.set_cons_zero, List.set_cons_succ])) | ((with_reducible show wpList _ _ _ (_ :: _) _ _); (with_reducible apply wpl_storeBH); (· exact cell_u64); (· rfl); (· rfl); (· rfl); (· exact H); (· (repeat (first | (with_reducible exact List.mem_cons_self) | with_reducible apply List.mem_cons_of_mem))); (· (simp only [bkb_sz, Nat.reduceLT]; done)); (· (with_reducible first | exact bkb_s0 .. | exact bkb_s1 ..)); (· (repeat (first | (with_reducible exact Repl.here) | with_reducible apply Repl.there))); (clear H; intro _ H); (simp only [Act.put, List.setIfInBounds_toArray, List.set_cons_zero, List.set_cons_succ])) | ((with_reducible show wpList _ _ _ (_ :: _) _ _); (with_reducible apply wpl_storeSH); (· exact cell_u64); (· rfl); (· rfl); (· rfl); (· exact H); (· (repeat (first | (with_reducible exact List.mem_cons_self) | with_reducible apply List.mem_cons_of_mem))); (· (simp only [bkb_sz, Nat.reduceLT]; done)); (· (with_reducible first | exact bkb_s0 .. | exact bkb_s1 ..)); (· (repeat (first | (with_reducible exact Repl.here) | with_reducible apply Repl.there))); (clear H; intro _ H); (simp only [Act.put, List.setIfInBounds_toArray, List.set_cons_zero, List.set_cons_succ])) | ((with_reducible show wpList _ _ _ (_ :: _) _ _); (with_reducible apply wpl_storePH); (· exact cell_u64); (· rfl); (· rfl); (· rfl); (· exact H); (· (repeat (first | (with_reducible exact List.mem_cons_self) | with_reducible apply List.mem_cons_of_mem))); (· (simp only [bkb_sz, Nat.reduceLT]; done)); (· (with_reducible first | exact bkb_s0 .. | exact bkb_s1 ..)); (· (repeat (first | (with_reducible exact Repl.here) | with_reducible apply Repl.there))); (clear H; intro _ H); (simp only [Act.put, List.setIfInBounds_toArray, List.set_cons_zero, List.set_cons_succ])))
        | ((with_reducible show wpList _ _ _ (_ :: _) _ _); (with_reducible apply wpl_loadCH); (· first | exact cell_u64 | exact cell_party | exact cell_cur | exact cell_i64); (· rfl); (· rfl); (· exact H); (· (repeat (first | (with_reducible exact List.mem_cons_self) | with_reducible apply List.mem_cons_of_mem))); (· with_reducible first | exact ofr_g0 .. | exact ofr_g1 .. | exact ofr_g2 .. | exact ofr_g3 .. | exact ofr_g4 ..); (simp only [Act.put, List.setIfInBounds_toArray, List.set_cons_zero, List.set_cons_succ])))
      go_ret2
      refine ⟨.slice a2 (B.L.length + 1) c2, rfl, ?_⟩
      rw [HLL.out]
      show Heap W (BkB p _ _ :: RowT 83 7 _ _ (ofrL _) :: l) _
      rw [HAP.out]
      exact ((H.top2 (.there (.there (.there (.there .here)))) .here).drop (.there (.there .here))).drop (.there (.there .here)) |>.drop (.there (.there .here))
end
end Go.Proofs.Ytacglcpjbepfnaa

/- Parts of slices, read quietly; an append of a part, in a region that draws. -/
namespace Go.Proofs.Ytacglcpjbepfnaa
open Go.RowKit
set_option linter.unusedVariables false
set_option maxRecDepth 100000
set_option maxHeartbeats 1000000
section
variable {ops : Array Oper} {rest : List Oper} {a : Act} {w W : World} {l : List Thing}
theorem wpQ_cutTo {t e size bytes : Nat} {z : Value} (T : SlTy Try.prog t e size bytes z) {dst : Option Tmp} {ty : TypeId} {pos : String} {after : Array Edge} {guard : Option (Nat × Bool)} {x y : Operand} {K : Act → Prop} {H : Heap W l w} (hw : Region.wanted ⟨dst, .slice t x none (some y) none, ty, pos, after, guard⟩ (yielded ops a.tmps) = true)
    {ao : Option Addr} {n c hi : Nat} {v : Int} {k : IntKind} (hx : a.eval x = .slice ao n c) (hy : a.eval y = .int k v) (hv : v = (hi : Int)) (hh : hi ≤ c)
    (h : wpQuiet Try.prog ops (fun w' => ∃ d, w' = H.any d) K rest (a.put dst (.slice ao hi c))) : wpQuiet Try.prog ops (fun w' => ∃ d, w' = H.any d) K (⟨dst, .slice t x none (some y) none, ty, pos, after, guard⟩ :: rest) a := by
  subst hv
  refine BigFrame.wpQuiet_want hw fun K hK => ⟨_, ?_, hK _ h⟩
  rintro _ ⟨d, rfl⟩
  have hr := run_cutTo (P := Try.prog) T ao n c hi k hh (H.any d)
  have hs : (Instr.sliceAt t (.slice ao n c) none (some (.int k (hi : Int))) none).run Try.prog (H.any d) = .ok (.slice ao hi c) (H.any d) := by
    unfold Instr.sliceAt
    rw [Sem.run_bind, run_underlying T.und]
    simp only [Result.andThen_ok]
    exact hr
  unfold Oper.quietAt execOp
  simp only [hx, Option.map_some, hy, Option.map_none, Sem.run_bind, hs]
  exact ⟨rfl, rfl⟩
end
section
variable {W : World} {G : List Thing → Prop} {loud : List Nat} {K : List Thing → Act → Prop} {l r : List Thing} {a : Act} {lo : List Oper} {ks : List Nat} {k : Nat} {dst : Option Tmp} {ty : TypeId} {pos : String} {after : Array Edge}
end
end Go.Proofs.Ytacglcpjbepfnaa

/- books: slices.Delete of offers. -/
namespace Go.Proofs.Ytacglcpjbepfnaa
open Go.RowKit
set_option linter.unusedSimpArgs false
set_option linter.unusedVariables false
set_option maxRecDepth 100000
theorem ofrL_take (L : List Ofr) (i : Nat) (h : i ≤ L.length) : (ofrL L).take (i * 7) = ofrL (L.take i) := by
  have e : ofrL L = ofrL (L.take i) ++ ofrL (L.drop i) := by rw [← ofrL_app, List.take_append_drop]
  have hl : (ofrL (L.take i)).length = i * 7 := by rw [ofrL_len, List.length_take, Nat.min_eq_left h]
  rw [e, ← hl]
  exact List.take_left
theorem ofrL_drop (L : List Ofr) (i : Nat) (h : i ≤ L.length) : (ofrL L).drop (i * 7) = ofrL (L.drop i) := by
  have e : ofrL L = ofrL (L.take i) ++ ofrL (L.drop i) := by rw [← ofrL_app, List.take_append_drop]
  have hl : (ofrL (L.take i)).length = i * 7 := by rw [ofrL_len, List.length_take, Nat.min_eq_left h]
  rw [e, ← hl]
  exact List.drop_left
/-- A row that is not empty, as its block. -/
theorem Heap.rowCelO {W w : World} {l : List Thing} {e size n : Nat} {v : Value} {xs : List Value} (H : Heap W (RowT e size v n xs :: l) w) (hn : 0 < n) :
    ∃ g m c, v = .slice (some ⟨g, 0, none⟩) n m ∧ n ≤ m ∧ m ≤ maxLen ∧ c.size = m * size ∧ c.toList.take (n * size) = xs ∧ Heap W (Cel g c e :: l) w := by
  obtain ⟨h1, ⟨_, h2⟩ | ⟨g, m, c, hv, _, hg, hnm, hm, hs, ht⟩⟩ := H.ok _ List.mem_cons_self
  · omega
  · refine ⟨g, m, c, hv, hnm, hm, hs, ht, H.head (World.grownBy.refl _ _) hg (.inl ?_)⟩
    subst hv
    rfl
section
variable {W : World} {G : List Thing → Prop} {loud : List Nat} {K : List Thing → Act → Prop} {l r : List Thing} {a : Act} {ops : Array Oper} {rest : List Oper} {k : Nat} {dst : Option Tmp} {ty : TypeId} {pos : String} {after : Array Edge}
/-- append(s[:i], s[j:]...), in one block. -/
theorem wpW_appendSelf {t e size bytes : Nat} {z : Value} (T : SlTy Try.prog t e size bytes z) {s x : Operand} (hk : loud.contains k = true)
    {g off n m k2 c2 q : Nat} {cur cur1 : Array Value} {news : List Value} (hs : a.eval s = .slice (some ⟨g, 0, none⟩) n m) (hx : a.eval x = .slice (some ⟨g, off, none⟩) k2 c2) (pl : Pull l (Cel g cur e) r)
    (hrd : ∀ w', Heap W l w' → Rd w' (some ⟨g, off, none⟩) news) (hl : news.length = k2 * size) (h1 : OneCells news) (hroom : n + k2 ≤ m) (hfit : n * size + news.length ≤ cur.size) (hq : n + k2 = q)
    (hcur : (cur.toList.take (n * size) ++ news ++ cur.toList.drop (n * size + news.length)).toArray = cur1) (hG : G (Cel g cur1 e :: r))
    (h : wpW Try.prog ops W G loud K rest (k + 1) (Cel g cur1 e :: r) (a.put dst (.slice (some ⟨g, 0, none⟩) q m))) :
    wpW Try.prog ops W G loud K (⟨dst, .call { callee := .builtin .append, args := #[s, x], argTypes := #[t, t] }, ty, pos, after, none⟩ :: rest) k l a := by
  subst hq hcur
  refine wpW_loud hk ⟨rfl, fun w H => ?_⟩
  have H2 := H.pull pl
  have hg := H2.blk List.mem_cons_self
  have hr0 := hrd w H
  obtain ⟨i, hi, hz, hsi, hbi⟩ := T.inf
  subst hsi
  have hr := run_append_roomO (P := Try.prog) w t ty e i T.und hi g 0 n m cur hg ⟨g, off, none⟩ k2 c2 news hl hr0.addr h1 hroom (by omega)
  rw [Nat.zero_add] at hr
  have H3 : Heap W (Cel g (cur.toList.take (n * i.size) ++ news ++ cur.toList.drop (n * i.size + news.length)).toArray e :: r) (w.setRow g (cur.toList.take (n * i.size) ++ news ++ cur.toList.drop (n * i.size + news.length)).toArray) :=
    H2.head ⟨rfl, rfl, rfl, by simp, fun k _ hk => setRow_other w g k _ (fun e => hk (by show some k = some g; rw [e]))⟩ (setRow_heap w g cur _ e _ hg) (.inl rfl)
  refine ⟨_, _, _, .inl ?_, H3, hG, h⟩
  unfold execOp
  simp only [resolve, invoke, builtin, Sem.run_bind, Sem.run_pure, Result.andThen_ok, List.map_toArray, List.map_cons, List.map_nil, hs, hx, hr]
end
section
variable {ops : Array Oper} {rest : List Oper} {a : Act} {w W : World} {l : List Thing}
theorem wpQ_cutAny {t e size bytes : Nat} {z : Value} (T : SlTy Try.prog t e size bytes z) {dst : Option Tmp} {ty : TypeId} {pos : String} {after : Array Edge} {guard : Option (Nat × Bool)} {x y : Operand} {K : Act → Prop} {H : Heap W l w} (hw : Region.wanted ⟨dst, .slice t x (some y) none none, ty, pos, after, guard⟩ (yielded ops a.tmps) = true)
    {g n c lo off : Nat} {v : Int} {k : IntKind} (hx : a.eval x = .slice (some ⟨g, 0, none⟩) n c) (hy : a.eval y = .int k v) (hv : v = (lo : Int)) (hh : lo ≤ n) (ho : cutA (some ⟨g, 0, none⟩) c lo size = some ⟨g, off, none⟩)
    (h : wpQuiet Try.prog ops (fun w' => ∃ d, w' = H.any d) K rest (a.put dst (.slice (some ⟨g, off, none⟩) (n - lo) (c - lo)))) : wpQuiet Try.prog ops (fun w' => ∃ d, w' = H.any d) K (⟨dst, .slice t x (some y) none none, ty, pos, after, guard⟩ :: rest) a := by
  subst hv
  refine BigFrame.wpQuiet_want hw fun K hK => ⟨_, ?_, hK _ h⟩
  rintro _ ⟨d, rfl⟩
  have hr := run_cutFrom (P := Try.prog) T (some ⟨g, 0, none⟩) n c lo k hh (H.any d)
  rw [ho] at hr
  have hs : (Instr.sliceAt t (.slice (some ⟨g, 0, none⟩) n c) (some (.int k (lo : Int))) none none).run Try.prog (H.any d) = .ok (.slice (some ⟨g, off, none⟩) (n - lo) (c - lo)) (H.any d) := by
    unfold Instr.sliceAt
    rw [Sem.run_bind, run_underlying T.und]
    simp only [Result.andThen_ok]
    exact hr
  unfold Oper.quietAt execOp
  simp only [hx, Option.map_some, hy, Option.map_none, Sem.run_bind, hs]
  exact ⟨rfl, rfl⟩
end
theorem cut_some (g c lo : Nat) : ∃ off, cutA (some ⟨g, 0, none⟩) c lo 7 = some ⟨g, off, none⟩ := by
  unfold Proofs.Ytacglcpjbepfnaa.cutA
  split
  · exact ⟨0, rfl⟩
  · exact ⟨lo * 7, by simp [Addr.add]; exact fun h => h.symm⟩
section
variable {W w : World} {l : List Thing}
set_option maxHeartbeats 8000000
theorem deleteO_H {v : Value} {n i : Nat} {L : List Ofr} (hl : L.length = n) (hi : i < n) (hn : n ≤ 1000000) (H : Heap W (OfT v n L :: l) w) :
    Calls Try.prog 111 #[v, .int .i64 (i : Int), .int .i64 ((i : Int) + 1)] w fun e w' => ∃ v', e = .returned v' ∧ Heap W (OfT v' (n - 1) (L.eraseIdx i) :: l) w' := by
  obtain ⟨g, c, cur, rfl, hc1, hc2, hc3, hc4, Hc⟩ := H.rowCelO (by omega)
  clear H
  have H := Hc
  clear Hc
  have hc2' : c ≤ 9223372036854775807 := by unfold maxLen at hc2; omega
  obtain ⟨off, hoff⟩ := cut_some g c (i + 1)
  have hN := Lib.hid (show ((cur.toList.drop ((i + 1) * 7)).take ((n - (i + 1)) * 7)) = ofrL (L.drop (i + 1)) by
    rw [← ofrL_drop L (i + 1) (by omega), ← hc4, List.drop_take]
    congr 1
    rw [← Nat.sub_mul])
  have hR := Lib.hid (show ∀ w', Heap W (Cel g cur 83 :: l) w' → Rd w' (some ⟨g, off, none⟩) (ofrL (L.drop (i + 1))) from fun w' H' => by
    have := (H'.celRd List.mem_cons_self).cutA c (i + 1) n 7 hc1
    rw [hoff, hN.out] at this
    exact this)
  have hnl := Lib.hid (show (ofrL (L.drop (i + 1))).length = (n - (i + 1)) * 7 by rw [ofrL_len, List.length_drop, hl])
  have hfit := Lib.hid (show i * 7 + (ofrL (L.drop (i + 1))).length ≤ cur.size by
    rw [hnl.out, hc3]
    have : (n - (i + 1)) * 7 + i * 7 ≤ c * 7 := by omega
    omega)
  have h0 : ((i : Int) == (i : Int) + 1) = false := by simp; omega
  have hcast : (i : Int) + 1 = ((i + 1 : Nat) : Int) := by omega
  obtain ⟨n', hn'⟩ : ∃ n', n' + 1 = n := ⟨n - 1, by omega⟩
  obtain ⟨cur1, e1⟩ : ∃ x : Array Value, (cur.toList.take (i * 7) ++ ofrL (L.drop (i + 1)) ++ cur.toList.drop (i * 7 + (ofrL (L.drop (i + 1))).length)).toArray = x := ⟨_, rfl⟩
  have hA : cur.toList.take (i * 7) = ofrL (L.take i) := by
    rw [← ofrL_take L i (by omega), ← hc4, List.take_take, Nat.min_eq_left (by omega)]
  have hs1 : cur1.size = c * 7 := by
    have h1 := hfit.out
    rw [← e1]
    simp only [List.size_toArray, List.length_append, List.length_take, List.length_drop, Array.length_toList]
    omega
  have ht1 : cur1.toList.take (n' * 7) = ofrL (L.eraseIdx i) := by
    rw [← e1, List.eraseIdx_eq_take_drop_succ, hA, ofrL_app]
    have h2 : (ofrL (L.take i) ++ ofrL (L.drop (i + 1))).length = n' * 7 := by
      rw [List.length_append, hnl.out, ofrL_len, List.length_take]
      omega
    rw [← h2]
    exact List.take_left
  have hoff2 : cutA (some ⟨g, 0, none⟩) c n' 7 = some ⟨g, n' * 7, none⟩ := by
    unfold Proofs.Ytacglcpjbepfnaa.cutA
    rw [if_neg (by omega)]
    simp [Addr.add]
    exact fun h => h.symm
  have hz1 : ∀ u ∈ (Value.agg (ofrA ofrZ)).cells, u.oneCell' = true := by
    intro u hu
    simp [Value.cells, ofrA, ofrV] at hu
    rcases hu with rfl | rfl | rfl <;> rfl
  have hq : i + (n - (i + 1)) = n' := by omega
  have hq2 : n - n' = 1 := by omega
  have hq3 : n' ≤ n := by omega
  have hin : i + 1 ≤ n := by omega
  have hic : i ≤ c := by omega
  have hroom : i + (n - (i + 1)) ≤ c := by omega
  have hfit2 : n' * 7 + 1 * 7 ≤ cur1.size := by rw [hs1]; omega
  have HL := Lib.hid hl
  have HC := Lib.hid (⟨hc3, hc4, e1, hA, hs1, ht1⟩ : _ ∧ _ ∧ _ ∧ _ ∧ _ ∧ _)
  have HN := Lib.hid (⟨hn', hq, hq2, hroom⟩ : _ ∧ _ ∧ _ ∧ _)
  have HCA := Lib.hid hcast
  have HO2 := Lib.hid hoff2
  have HOF := Lib.hid hoff
  clear hl hc3 hc4 e1 hA hs1 ht1 hn' hq hq2 hroom hcast hoff2 hoff
  go_enter Try.func111, Try.ntmps111
  go_wp2_with (first | go_skip)
  refine wp_region_W [6] (fun _ => True) H trivial (by kernel_rfl) (by kernel_rfl) ?_
  iterate 6 (apply wpW_step; (· rfl); (· rfl); (· exact Nat.le_of_ble_eq_true rfl); (· intro l0 _ w0 H0; (first | go_big_quiet_skip | ((with_reducible apply wpQ_cutTo slO); (· rfl); (· rfl); (· rfl); (· rfl); (· exact hic); (simp only [Act.put, List.setIfInBounds_toArray, List.set_cons_zero, List.set_cons_succ])) | ((with_reducible apply wpQ_cutAny slO); (· rfl); (· rfl); (· rfl); (· exact HCA.out); (· exact hin); (· exact HOF.out); (simp only [Act.put, List.setIfInBounds_toArray, List.set_cons_zero, List.set_cons_succ])) | go_big_quiet_step (fail)); (refine wpQuiet_nil ?_); (simp only [Array.getD_eq_getD_getElem?, List.getElem?_toArray, List.getElem?_cons_succ, List.getElem?_cons_zero, Option.getD_some]; rfl)); (simp only [Act.put, List.setIfInBounds_toArray, List.set_cons_zero, List.set_cons_succ]))
  refine wpW_appendSelf slO rfl rfl rfl .here hR.out hnl.out (ofrL_ones _) HN.out.2.2.2 hfit.out HN.out.2.1 HC.out.2.2.1 trivial ?_
  (simp only [Act.put, List.setIfInBounds_toArray, List.set_cons_zero, List.set_cons_succ])
  (apply wpW_step; (· rfl); (· rfl); (· exact Nat.le_of_ble_eq_true rfl); (· intro l0 _ w0 H0; (first | go_big_quiet_skip | fail | go_big_quiet_step (fail)); (refine wpQuiet_nil ?_); (simp only [Array.getD_eq_getD_getElem?, List.getElem?_toArray, List.getElem?_cons_succ, List.getElem?_cons_zero, Option.getD_some]; rfl)); (simp only [Act.put, List.setIfInBounds_toArray, List.set_cons_zero, List.set_cons_succ]))
  (refine wpW_nil ?_; clear H; intro _ H)
  go_wp2_with (first
    | go_skip
    | ((with_reducible show wpList _ _ _ (_ :: _) _ _); (with_reducible apply wpl_cutBoth slO); (· rfl); (· rfl); (· rfl); (· rfl); (· exact hq3); (· exact hc1); (· exact HO2.out); (· exact HN.out.2.2.1); (· rfl); (simp only [Act.put, List.setIfInBounds_toArray, List.set_cons_zero, List.set_cons_succ]))
    | ((with_reducible show wpList _ _ _ (_ :: _) _ _); (with_reducible apply wpl_clearC slO); (· exact hz1); (· rfl); (· rfl); (· rfl); (· exact H); (· exact hfit2); (clear H; intro c1 _ hk1 hk2 H); (simp only [Act.put, List.setIfInBounds_toArray, List.set_cons_zero, List.set_cons_succ])))
  go_ret
  obtain ⟨hc3, hc4, e1, hA, hs1, ht1⟩ := HC.out
  obtain ⟨hn', hq, _, _⟩ := HN.out
  refine ⟨_, rfl, ?_⟩
  have H2 := H.celRowA (n := n') (m := c) (size := 7) (by rw [hk1, hs1]) (by omega) hc2
  rw [hk2, ht1] at H2
  rw [show n - 1 = n' by omega]
  exact H2
end
end Go.Proofs.Ytacglcpjbepfnaa

/- books: Cancel. -/
namespace Go.Proofs.Ytacglcpjbepfnaa
open Go.RowKit
set_option linter.unusedSimpArgs false
set_option linter.unusedVariables false
set_option maxRecDepth 100000
theorem setO_none {L : List Ofr} {s v : Int} (h : ∀ o ∈ L, o.sq ≠ s) (hp : ∀ o ∈ L, 0 < o.le) : setO L s v = L := by
  unfold setO
  have e : (L.map fun o => if o.sq = s then { o with le := v } else o) = L := by
    conv => rhs; rw [← List.map_id L]
    exact List.map_congr_left fun o ho => if_neg (h o ho)
  rw [e]
  exact List.filter_eq_self.2 fun o ho => by simpa using hp o ho
theorem setO_zero : ∀ {L : List Ofr} {s : Int} {o : Ofr}, L.Pairwise (fun x y => x.sq < y.sq) → (∀ o ∈ L, 0 < o.le) → L[iO L s]? = some o → setO L s 0 = L.eraseIdx (iO L s)
  | [], s, o, _, _, h => by simp at h
  | a :: L, s, o, hw, hp, h => by
    rw [List.pairwise_cons] at hw
    by_cases e : a.sq = s
    · have hi : iO (a :: L) s = 0 := by simp [iO, List.findIdx_cons, e]
      rw [hi, List.eraseIdx_zero, List.tail_cons]
      have h2 := setO_none (L := L) (s := s) (v := 0) (fun x hx => by have := hw.1 x hx; omega) (fun x hx => hp x (List.mem_cons_of_mem _ hx))
      unfold setO at h2 ⊢
      rw [List.map_cons, if_pos e, List.filter_cons_of_neg (by simp), h2]
    · have hi : iO (a :: L) s = iO L s + 1 := by simp [iO, List.findIdx_cons, beq_eq_false_iff_ne.2 e]
      rw [hi] at h ⊢
      rw [List.getElem?_cons_succ] at h
      rw [List.eraseIdx_cons_succ, ← setO_zero hw.2 (fun x hx => hp x (List.mem_cons_of_mem _ hx)) h]
      have := hp a List.mem_cons_self
      unfold setO
      rw [List.map_cons, if_neg e, List.filter_cons_of_pos (by simpa using this)]
theorem setO_pos : ∀ {L : List Ofr} {s v : Int} {o : Ofr}, 0 < v → L.Pairwise (fun x y => x.sq < y.sq) → (∀ o ∈ L, 0 < o.le) → L[iO L s]? = some o → setO L s v = L.set (iO L s) { o with le := v }
  | [], s, v, o, _, _, _, h => by simp at h
  | a :: L, s, v, o, hv, hw, hp, h => by
    rw [List.pairwise_cons] at hw
    by_cases e : a.sq = s
    · have hi : iO (a :: L) s = 0 := by simp [iO, List.findIdx_cons, e]
      rw [hi] at h ⊢
      rw [List.getElem?_cons_zero] at h
      cases h
      rw [List.set_cons_zero]
      have h2 := setO_none (L := L) (s := s) (v := v) (fun x hx => by have := hw.1 x hx; omega) (fun x hx => hp x (List.mem_cons_of_mem _ hx))
      unfold setO at h2 ⊢
      rw [List.map_cons, if_pos e, List.filter_cons_of_pos (by simpa using hv), h2]
    · have hi : iO (a :: L) s = iO L s + 1 := by simp [iO, List.findIdx_cons, beq_eq_false_iff_ne.2 e]
      rw [hi] at h ⊢
      rw [List.getElem?_cons_succ] at h
      rw [List.set_cons_succ, ← setO_pos hv hw.2 (fun x hx => hp x (List.mem_cons_of_mem _ hx)) h]
      have := hp a List.mem_cons_self
      unfold setO
      rw [List.map_cons, if_neg e, List.filter_cons_of_pos (by simpa using this)]
theorem Bok.Good.pos {B : Bok} (G : B.Good) : ∀ o ∈ B.L, 0 < o.le := fun o ho => by have := (mayO_iff.1 (G.ok o ho).1).2.2.2.2.1; omega
theorem rd_ofr {w : World} {g o k j : Nat} {L : List Ofr} {y : Ofr} {v : Value} (R : Rd w (some ⟨g, o, none⟩) (ofrL L)) (h : L[k]? = some y) (hj : (ofrV y)[j]? = some v) : w.cell? ⟨g, o + k * 7 + j, none⟩ = some v := by
  obtain ⟨hk, hx⟩ := List.getElem?_eq_some_iff.1 h
  have h7 : j < 7 := by
    have := (List.getElem?_eq_some_iff.1 hj).1
    simpa [ofrV] using this
  obtain ⟨b, o', he, hc⟩ := R (k * 7 + j) (by rw [ofrL_len]; omega)
  cases he
  rw [Nat.add_assoc, hc]
  have h2 := ofrL_at L k hk
  rw [hx] at h2
  rw [← h2, List.getElem?_take, if_pos h7, List.getElem?_drop] at hj
  rw [← hj, List.getElem?_eq_getElem (by rw [ofrL_len]; omega)]
section
variable {W w : World} {l : List Thing}
set_option maxHeartbeats 8000000
theorem cancel_H {p : Nat} {v : Value} {B : Bok} (ow s : Int) (G : B.Good) (H : Heap W (BkB p v B.nx :: OfT v B.L.length B.L :: l) w) :
    Calls Try.prog 59 #[.pointer (some ⟨p, 0, none⟩), .int .u8 ow, .int .u64 s] w fun e w' =>
      ∃ v', e = .returned (.tuple #[.int .i64 (cancelN B ow s), .int .i64 (cancelE B ow s)]) ∧ Heap W (BkB p v' (cancelS B ow s).nx :: OfT v' (cancelS B ow s).L.length (cancelS B ow s).L :: l) w' := by
  obtain ⟨va, c, rfl, hc1, hc2⟩ := RowT.form0 (H.ok _ (List.mem_cons_of_mem _ List.mem_cons_self))
  have hfew := G.few
  have hnx1 := G.nx.1
  have T := bthere_yes (W := W) (l := BkB p (.slice va B.L.length c) B.nx :: OfT (.slice va B.L.length c) B.L.length B.L :: l) List.mem_cons_self (show 0 < B.nx by omega)
  have A := at_H (W := W) (l := BkB p (.slice va B.L.length c) B.nx :: OfT (.slice va B.L.length c) B.L.length B.L :: l) s List.mem_cons_self (List.mem_cons_of_mem _ List.mem_cons_self) rfl (by omega)
  cases hf : findO B.L s with
  | none =>
    have e1 : cancelE B ow s = 7 := by unfold cancelE; rw [hf]
    have e2 : cancelN B ow s = 0 := by unfold cancelN; rw [hf]
    have e3 : cancelS B ow s = B := by unfold cancelS; rw [e1]; rfl
    rw [e1, e2, e3]
    rw [idxO_none hf] at A
    clear e1 e2 e3 hf
    generalize B.L.length = n at *
    go_enter Try.func59, Try.ntmps59
    go_wp2_with (first | go_skip | ((with_reducible refine AnsH.call (by assumption) H ?_); clear H; intro _ H))
    go_ret2
    exact ⟨_, rfl, H⟩
  | some o =>
    obtain ⟨hi, hg, hlt⟩ := idxO_some hf
    rw [hi] at A
    have Rw := H.rowRd (List.mem_cons_of_mem _ List.mem_cons_self)
    obtain ⟨ba, oa, rfl, _⟩ := Rw.lt (by rw [ofrL_len]; omega)
    by_cases ho : o.ow = ow
    · have d1 : (o.ow == ow) = true := by simpa using ho
      have d2 : (o.ow != ow) = false := by simp [ho]
      have e1 : cancelE B ow s = 0 := by unfold cancelE; rw [hf]; simp [ho]
      have e2 : cancelN B ow s = o.le := by unfold cancelN; rw [hf]; simp [ho]
      have e3 : cancelS B ow s = ⟨B.L.eraseIdx (iO B.L s), B.nx⟩ := by unfold cancelS; rw [if_pos e1, setO_zero G.ord G.pos hg]
      rw [e1, e2, e3]
      have HE := Lib.hid (show (B.L.eraseIdx (iO B.L s)).length = B.L.length - 1 by rw [List.length_eraseIdx, if_pos hlt])
      have HF := Lib.hid (⟨hf, hi, hg, e1, e2, e3⟩ : _ ∧ _ ∧ _ ∧ _ ∧ _ ∧ _)
      clear hf hi hg e1 e2 e3 ho Rw
      generalize iO B.L s = k at *
      generalize hn : B.L.length = n at *
      go_enter Try.func59, Try.ntmps59
      go_wp2_with (first
        | go_skip
        | ((with_reducible refine AnsH.call (by assumption) H ?_); clear H; intro _ H)
        | ((with_reducible show wpList _ _ _ (_ :: _) _ _); (with_reducible apply wpl_loadCH); (· exact cell_ofrs); (· rfl); (· rfl); (· exact H); (· exact List.mem_cons_self); (· exact bkb_g0 ..); (simp only [Act.put, List.setIfInBounds_toArray, List.set_cons_zero, List.set_cons_succ]))
        | ((with_reducible show wpList _ _ _ (_ :: _) _ _); (with_reducible apply wpl_loadCell cell_party); (· rfl); (· rfl); (· exact rd_ofr (H.rowRd (List.mem_cons_of_mem _ List.mem_cons_self)) HF.out.2.2.1 (j := 1) rfl); (simp only [Act.put, List.setIfInBounds_toArray, List.set_cons_zero, List.set_cons_succ]))
        | ((with_reducible show wpList _ _ _ (_ :: _) _ _); (with_reducible apply wpl_loadCell cell_i64); (· rfl); (· rfl); (· exact rd_ofr (H.rowRd (List.mem_cons_of_mem _ List.mem_cons_self)) HF.out.2.2.1 (j := 4) rfl); (simp only [Act.put, List.setIfInBounds_toArray, List.set_cons_zero, List.set_cons_succ])))
      refine (deleteO_H hn hlt (by omega) (H.perm (.swap _ _ _))).mono ?_
      clear H
      rintro e w2 ⟨v2, rfl, H⟩
      obtain ⟨a2, c2, rfl, hd1, hd2⟩ := RowT.form0 (H.ok _ List.mem_cons_self)
      go_wp2_with (first | go_skip | (first | ((with_reducible show wpList _ _ _ (_ :: _) _ _); (with_reducible apply wpl_storeIH); (· exact cell_ofrs); (· rfl); (· rfl); (· rfl); (· exact H); (· (repeat (first | (with_reducible exact List.mem_cons_self) | with_reducible apply List.mem_cons_of_mem))); (· (simp only [bkb_sz, Nat.reduceLT]; done)); (· (with_reducible first | exact bkb_s0 .. | exact bkb_s1 ..)); (· (repeat (first | (with_reducible exact Repl.here) | with_reducible apply Repl.there))); (clear H; intro _ H); (simp only [Act.put, List.setIfInBounds_toArray, List.set_cons_zero, List.set_cons_succ])) | ((with_reducible show wpList _ _ _ (_ :: _) _ _); (with_reducible apply wpl_storeBH); (· exact cell_ofrs); (· rfl); (· rfl); (· rfl); (· exact H); (· (repeat (first | (with_reducible exact List.mem_cons_self) | with_reducible apply List.mem_cons_of_mem))); (· (simp only [bkb_sz, Nat.reduceLT]; done)); (· (with_reducible first | exact bkb_s0 .. | exact bkb_s1 ..)); (· (repeat (first | (with_reducible exact Repl.here) | with_reducible apply Repl.there))); (clear H; intro _ H); (simp only [Act.put, List.setIfInBounds_toArray, List.set_cons_zero, List.set_cons_succ])) | ((with_reducible show wpList _ _ _ (_ :: _) _ _); (with_reducible apply wpl_storeSH); (· exact cell_ofrs); (· rfl); (· rfl); (· rfl); (· exact H); (· (repeat (first | (with_reducible exact List.mem_cons_self) | with_reducible apply List.mem_cons_of_mem))); (· (simp only [bkb_sz, Nat.reduceLT]; done)); (· (with_reducible first | exact bkb_s0 .. | exact bkb_s1 ..)); (· (repeat (first | (with_reducible exact Repl.here) | with_reducible apply Repl.there))); (clear H; intro _ H); (simp only [Act.put, List.setIfInBounds_toArray, List.set_cons_zero, List.set_cons_succ])) | ((with_reducible show wpList _ _ _ (_ :: _) _ _); (with_reducible apply wpl_storePH); (· exact cell_ofrs); (· rfl); (· rfl); (· rfl); (· exact H); (· (repeat (first | (with_reducible exact List.mem_cons_self) | with_reducible apply List.mem_cons_of_mem))); (· (simp only [bkb_sz, Nat.reduceLT]; done)); (· (with_reducible first | exact bkb_s0 .. | exact bkb_s1 ..)); (· (repeat (first | (with_reducible exact Repl.here) | with_reducible apply Repl.there))); (clear H; intro _ H); (simp only [Act.put, List.setIfInBounds_toArray, List.set_cons_zero, List.set_cons_succ]))))
      go_ret2
      refine ⟨.slice a2 (n - 1) c2, rfl, ?_⟩
      show Heap W (BkB p _ _ :: OfT _ (B.L.eraseIdx k).length _ :: l) _
      rw [HE.out]
      exact H.perm (.swap _ _ _)
    · have d1 : (o.ow == ow) = false := by simpa using ho
      have d2 : (o.ow != ow) = true := by simp [ho]
      have e1 : cancelE B ow s = 15 := by unfold cancelE; rw [hf]; simp [ho]
      have e2 : cancelN B ow s = 0 := by unfold cancelN; rw [hf]; simp [ho]
      have e3 : cancelS B ow s = B := by unfold cancelS; rw [e1]; rfl
      rw [e1, e2, e3]
      have HF := Lib.hid (⟨hf, hi, hg, e1, e2, e3⟩ : _ ∧ _ ∧ _ ∧ _ ∧ _ ∧ _)
      clear hf hi hg e1 e2 e3 ho Rw
      generalize iO B.L s = k at *
      generalize hn : B.L.length = n at *
      go_enter Try.func59, Try.ntmps59
      go_wp2_with (first
        | go_skip
        | ((with_reducible refine AnsH.call (by assumption) H ?_); clear H; intro _ H)
        | ((with_reducible show wpList _ _ _ (_ :: _) _ _); (with_reducible apply wpl_loadCH); (· exact cell_ofrs); (· rfl); (· rfl); (· exact H); (· exact List.mem_cons_self); (· exact bkb_g0 ..); (simp only [Act.put, List.setIfInBounds_toArray, List.set_cons_zero, List.set_cons_succ]))
        | ((with_reducible show wpList _ _ _ (_ :: _) _ _); (with_reducible apply wpl_loadCell cell_party); (· rfl); (· rfl); (· exact rd_ofr (H.rowRd (List.mem_cons_of_mem _ List.mem_cons_self)) HF.out.2.2.1 (j := 1) rfl); (simp only [Act.put, List.setIfInBounds_toArray, List.set_cons_zero, List.set_cons_succ]))
        | ((with_reducible show wpList _ _ _ (_ :: _) _ _); (with_reducible apply wpl_loadCell cell_i64); (· rfl); (· rfl); (· exact rd_ofr (H.rowRd (List.mem_cons_of_mem _ List.mem_cons_self)) HF.out.2.2.1 (j := 4) rfl); (simp only [Act.put, List.setIfInBounds_toArray, List.set_cons_zero, List.set_cons_succ])))
      go_ret2
      exact ⟨_, rfl, H⟩
end
end Go.Proofs.Ytacglcpjbepfnaa
