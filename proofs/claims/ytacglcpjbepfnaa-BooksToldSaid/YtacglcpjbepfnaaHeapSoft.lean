/- A region that draws its order, with loud operations of two kinds: soft ones (that leave what an early read reads) and hard ones (each stands behind each early read); in a round too. -/
import Derived.Test.YtacglcpjbepfnaaHeapEarly
import Derived.Test.YtacglcpjbepfnaaHeapOwn
import Derived.Test.YtacglcpjbepfnaaInRound
namespace Go.Proofs.Ytacglcpjbepfnaa
open Go.RowKit
set_option linter.unusedVariables false
section
variable {P : Program} {ops : Array Oper} {md : Region.Mode} {W : World} {G E : List Thing → Prop} {loud hard : List Nat}
def WholeF (P : Program) (md : Region.Mode) (ops : Array Oper) (W : World) (G E : List Thing → Prop) (loud hard : List Nat) (K : List Thing → Act → Prop) : Nat → List Thing → Array Bool → Act → Prop
  | 0, l, listed, a => Region.ready md ops listed = [] ∧ K l a
  | f + 1, l, listed, a => Region.ready md ops listed ≠ [] ∧ ∀ i ∈ Region.ready md ops listed, ∃ o, ops[i]? = some o ∧
      ((∃ v, YieldsG P ops W (fun l' => l' = l) o v a ∧ WholeF P md ops W G E loud hard K f l (listed.setIfInBounds i true) (a.put o.dst v)) ∨
       (loud.contains i = true ∧ LoudG P ops W o l a fun l' u => G l' ∧ (hard.contains i = false → E l → E l') ∧ WholeF P md ops W G E loud hard K f l' (listed.setIfInBounds i true) (a.put o.dst u)))
theorem WholeF.any {K : List Thing → Act → Prop} {Q : Exit → Act → World → Prop} (hK : ∀ l a w, Heap W l w → K l a → Q .normal a w) :
    ∀ (f : Nat) (l : List Thing) (listed : Array Bool) (a : Act) (w : World), Heap W l w → WholeF P md ops W G E loud hard K f l listed a → wpAny P md ops Q f listed a w := by
  intro f
  induction f with
  | zero => intro l listed a w H h; exact ⟨h.1, hK _ _ _ H h.2⟩
  | succ f ih =>
    intro l listed a w H h
    refine ⟨fun h0 => absurd h0 h.1, fun i hi => ?_⟩
    obtain ⟨o, ho, h⟩ := h.2 i hi
    rcases h with ⟨v, hy, h⟩ | ⟨_, h⟩
    · refine wpOp_of_qOp (C := fun w' => ∃ d, w' = H.any d) (H.any_of H) (fun a' w' hw' ha' => ?_) ((hy l rfl w H).qOp ho (K := fun a' => a' = a.put o.dst v) rfl)
      obtain ⟨d, rfl⟩ := hw'
      subst ha'
      exact ih _ _ _ _ (H.any_heap d) h
    · obtain ⟨l', u, w', hr, H', _, _, hk⟩ := h.2 w H
      unfold wpOp
      simp only [ho]
      rw [if_pos h.1]
      refine .inl ?_
      unfold Oper.wp
      rcases hr with hr | ⟨hr, rfl⟩ <;> rw [hr] <;> exact ih _ _ _ _ H' hk
/-- It yields v: whatever the things, or early, as they are. -/
def FirmF (P : Program) (md : Region.Mode) (ops : Array Oper) (W : World) (G E : List Thing → Prop) (loud hard : List Nat) (k : Nat) (l : List Thing) (o : Oper) (v : Value) (a : Act) : Prop :=
  (G l ∧ YieldsG P ops W G o v a) ∨ (Region.early md ops hard k = true ∧ E l ∧ YieldsG P ops W E o v a)
theorem FirmF.now {k : Nat} {l : List Thing} {o : Oper} {v : Value} {a : Act} (h : FirmF P md ops W G E loud hard k l o v a) : YieldsG P ops W (fun l' => l' = l) o v a := by
  rcases h with ⟨hg, h⟩ | ⟨_, hg, h⟩
  · intro l' e w H; subst e; exact h _ hg w H
  · intro l' e w H; subst e; exact h _ hg w H
theorem FirmF.of_same {k : Nat} {l : List Thing} {o : Oper} {v : Value} {a a' : Act} (h : FirmF P md ops W G E loud hard k l o v a) (he : execOp a'.eval o = execOp a.eval o)
    (hw : Region.wanted o (yielded ops a'.tmps) = Region.wanted o (yielded ops a.tmps)) : FirmF P md ops W G E loud hard k l o v a' := by
  rcases h with ⟨hg, h⟩ | ⟨h0, hg, h⟩
  · exact .inl ⟨hg, h.of_same he hw⟩
  · exact .inr ⟨h0, hg, h.of_same he hw⟩
theorem WholeF.first {i : Nat} {oi : Oper} {v : Value} {K : List Thing → Act → Prop} (hi : ops[i]? = some oi) (hsel : ∀ (j : Nat) (o : Oper) cs b, ops[j]? = some o → o.op ≠ .select cs b) :
    ∀ (f : Nat) (l : List Thing) (listed : Array Bool) (a : Act),
      (∀ j oj, ops[j]? = some oj → j ≠ i → listed.getD j true = false → (∀ e ∈ oj.after, Region.binds md e = true → e.on ≠ i) → oi.apart ops oj = true) →
      i ∈ Region.ready md ops listed → FirmF P md ops W G E loud hard i l oi v a → WholeF P md ops W G E loud hard K f l (listed.setIfInBounds i true) (a.put oi.dst v) → WholeF P md ops W G E loud hard K (f + 1) l listed a := by
  intro f
  induction f with
  | zero =>
    intro l listed a _ hr hy H
    refine ⟨fun h => by rw [h] at hr; simp at hr, fun j hj => ?_⟩
    by_cases e : j = i
    · subst e; exact ⟨oi, hi, .inl ⟨v, hy.now, H⟩⟩
    · have := ready_mono hj e
      rw [H.1] at this; cases this
  | succ f ih =>
    intro l listed a hfree hr hy H
    have hun := (mem_ready.1 hr).1
    refine ⟨fun h => by rw [h] at hr; simp at hr, fun j hj => ?_⟩
    by_cases e : j = i
    · subst e; exact ⟨oi, hi, .inl ⟨v, hy.now, H⟩⟩
    · obtain ⟨hjun, oj, hoj, hall⟩ := mem_ready.1 hj
      have hnot : ∀ e ∈ oj.after, Region.binds md e = true → e.on ≠ i := fun e he hb heq => by
        have := hall e he hb
        rw [heq, getD_both hun] at this
        cases this
      obtain ⟨h1, h2, h3⟩ := Oper.apart_spec (hfree j oj hoj e hjun hnot)
      have hsi := fun cs b => hsel i oi cs b hi
      have hsj := fun cs b => hsel j oj cs b hoj
      have hfree' : ∀ k ok, ops[k]? = some ok → k ≠ i → (listed.setIfInBounds j true).getD k true = false →
          (∀ e ∈ ok.after, Region.binds md e = true → e.on ≠ i) → oi.apart ops ok = true := fun k ok hk hki hun hno => by
        refine hfree k ok hk hki ?_ hno
        by_cases hjk : j = k
        · subst hjk; exact hjun
        · rw [getD_set_ne true hjk] at hun; exact hun
      obtain ⟨o', ho', h⟩ := H.2 j (ready_mono hj e)
      obtain rfl : o' = oj := Option.some.inj (ho'.symm.trans hoj)
      refine ⟨o', hoj, ?_⟩
      rcases h with ⟨u, hu, h⟩ | ⟨hl, h⟩
      · refine .inl ⟨u, hu.of_same (execOp_put o' hsj a oi.dst v h1).symm (wanted_put o' a oi.dst v h1).symm, ih _ _ _ hfree' (ready_mono hr (Ne.symm e)) (hy.of_same (execOp_put oi hsi a o'.dst u h3) (wanted_put oi a o'.dst u h3)) ?_⟩
        rw [Array.setIfInBounds_comm _ _ e, ← Act.put_comm a v _ h2]
        exact h
      · refine .inr ⟨hl, (h.of_same (execOp_put o' hsj a oi.dst v h1).symm (wanted_put o' a oi.dst v h1).symm).mono fun l' u ⟨hg', hs', h⟩ => ⟨hg', hs', ih _ _ _ hfree' (ready_mono hr (Ne.symm e)) ?_ ?_⟩⟩
        · rcases hy with ⟨hg, hy⟩ | ⟨he, hE, hy⟩
          · exact .inl ⟨hg', hy.of_same (execOp_put oi hsi a o'.dst u h3) (wanted_put oi a o'.dst u h3)⟩
          · by_cases hh : hard.contains j = true
            · obtain ⟨ed, hed, hb, hon⟩ := Region.early_spec he hh hoj
              exact absurd hon (hnot ed hed hb)
            · exact .inr ⟨he, hs' (by simpa using hh) hE, hy.of_same (execOp_put oi hsi a o'.dst u h3) (wanted_put oi a o'.dst u h3)⟩
        · rw [Array.setIfInBounds_comm _ _ e, ← Act.put_comm a v _ h2]
          exact h
/-- The walk in an order of one's own. -/
def wpF (P : Program) (ops : Array Oper) (W : World) (G E : List Thing → Prop) (loud hard : List Nat) (K : List Thing → Act → Prop) : List Nat → List Thing → Act → Prop
  | [], l, a => K l a
  | k :: ks, l, a => ∃ o, ops[k]? = some o ∧ if loud.contains k then LoudG P ops W o l a fun l' u => G l' ∧ (hard.contains k = false → E l → E l') ∧ wpF P ops W G E loud hard K ks l' (a.put o.dst u)
      else ∃ v, FirmF P .any ops W G E loud hard k l o v a ∧ wpF P ops W G E loud hard K ks l (a.put o.dst v)
theorem WholeF.lexO {K : List Thing → Act → Prop} (hsel : Region.noSelect ops = true) :
    ∀ (ks : List Nat) (l : List Thing) (listed : Array Bool) (a : Act), Region.lexO .any ops loud ks listed = true → wpF P ops W G E loud hard K ks l a → WholeF P .any ops W G E loud hard K ks.length l listed a := by
  intro ks
  induction ks with
  | nil => intro l listed a hB h; exact ⟨by simpa [Region.lexO] using hB, h⟩
  | cons k ks ih =>
    intro l listed a hB h
    obtain ⟨o, h0, h⟩ := h
    rw [Region.lexO] at hB
    simp only [Bool.and_eq_true] at hB
    obtain ⟨hB, hB'⟩ := hB
    by_cases hk : loud.contains k = true
    · rw [if_pos hk] at h hB
      have hr : Region.ready .any ops listed = [k] := by simpa using hB
      refine ⟨by rw [hr]; simp, fun i hi => ?_⟩
      rw [hr] at hi
      obtain rfl : i = k := by simpa using hi
      exact ⟨o, h0, .inr ⟨hk, h.mono fun l' u ⟨hg, hs, h⟩ => ⟨hg, hs, ih _ _ _ hB' h⟩⟩⟩
    · rw [if_neg hk] at h hB
      simp only [Bool.and_eq_true] at hB
      obtain ⟨v, hy, h⟩ := h
      exact WholeF.first h0 (Region.noSelect_spec hsel) ks.length l listed a (Region.free_spec h0 hB.2) (by simpa using hB.1) hy (ih _ _ _ hB' h)
theorem wp_region_F {id : Nat} {Q : Exit → Act → World → Prop} {a : Act} {w : World} {l : List Thing} {lo : List Oper} (loud hard ord : List Nat) (G E : List Thing → Prop) (H : Heap W l w) (hm : P.follows .mixedOrders = true) (hB : Region.lexOB lo.toArray loud ord = true)
    (h : wpF P lo.toArray W G E loud hard (fun l' a' => ∀ w', Heap W l' w' → Q .normal a' w') ord l a) : (Code.region id lo.toArray true).wp P Q a w := by
  simp only [Region.lexOB, Bool.and_eq_true, beq_iff_eq] at hB
  refine wp_region_any hm ?_
  have := WholeF.lexO hB.1.1 ord l _ a hB.1.2 h
  have h2 := WholeF.any (Q := Q) (fun l a w H h => h w H) ord.length l _ a _ H.drew this
  rw [hB.2] at h2
  exact h2
theorem wpF_nil {K : List Thing → Act → Prop} {l : List Thing} {a : Act} (h : K l a) : wpF P ops W G E loud hard K [] l a := h
theorem region_in_F {ro : Option Nat} {n : Nat} {id : Nat} {Q : Exit → Act → World → Prop} {a : Act} {w : World} {l : List Thing} {lo : List Oper} (loud hard ord : List Nat) (G E : List Thing → Prop) (H : Heap W l w) (hm : P.follows .mixedOrders = true) (hd : noDefer lo = true) (hQ : ¬ LetsOut Q) (hB : Region.lexOB lo.toArray loud ord = true)
    (h : wpF P lo.toArray W G E loud hard (fun l' a' => ∀ w', Heap W l' w' → Q .normal a' w') ord l a) : (Code.region id lo.toArray true).wpIn (WR ro) n P Q a w := by
  simp only [Region.lexOB, Bool.and_eq_true, beq_iff_eq] at hB
  refine region_in_any hm hd hQ ?_
  have := WholeF.lexO hB.1.1 ord l _ a hB.1.2 h
  have h2 := WholeF.any (Q := Q) (fun l a w H h => h w H) ord.length l _ a _ H.drew this
  rw [hB.2] at h2
  simpa using h2
/-- A quiet one, whatever the things that stay. -/
theorem wpF_step {lo : List Oper} {K : List Thing → Act → Prop} {o : Oper} {k : Nat} {ks : List Nat} {l : List Thing} {a : Act} {s : Nat} {v : Value} (ho : lo[k]? = some o) (hk : loud.contains k = false) (hd : o.dst = some s) (hlt : s < a.tmps.size) (hG : G l)
    (h1 : ∀ l0, G l0 → ∀ (w0 : World) (H0 : Heap W l0 w0), wpQuiet P lo.toArray (fun w' => ∃ d, w' = H0.any d) (fun a' => a'.tmps.getD s undef = v) [o] a) (h2 : wpF P lo.toArray W G E loud hard K ks l (a.put o.dst v)) : wpF P lo.toArray W G E loud hard K (k :: ks) l a := by
  refine ⟨o, by simpa using ho, ?_⟩
  rw [if_neg (by rw [hk]; exact Bool.false_ne_true)]
  exact ⟨v, .inl ⟨hG, yields_of hd hlt h1⟩, h2⟩
/-- A read of what a hard one changes: ahead of it. -/
theorem wpF_early {lo : List Oper} {K : List Thing → Act → Prop} {o : Oper} {k : Nat} {ks : List Nat} {l : List Thing} {a : Act} {s : Nat} {v : Value} (ho : lo[k]? = some o) (hk : loud.contains k = false) (he : Region.early .any lo.toArray hard k = true) (hd : o.dst = some s) (hlt : s < a.tmps.size) (hE : E l)
    (h1 : ∀ l0, E l0 → ∀ (w0 : World) (H0 : Heap W l0 w0), wpQuiet P lo.toArray (fun w' => ∃ d, w' = H0.any d) (fun a' => a'.tmps.getD s undef = v) [o] a) (h2 : wpF P lo.toArray W G E loud hard K ks l (a.put o.dst v)) : wpF P lo.toArray W G E loud hard K (k :: ks) l a := by
  refine ⟨o, by simpa using ho, ?_⟩
  rw [if_neg (by rw [hk]; exact Bool.false_ne_true)]
  exact ⟨v, .inr ⟨he, hE, yields_of hd hlt h1⟩, h2⟩
theorem wpF_loud {lo : List Oper} {K : List Thing → Act → Prop} {o : Oper} {k : Nat} {ks : List Nat} {l : List Thing} {a : Act} (ho : lo[k]? = some o) (hk : loud.contains k = true) (h : LoudG P lo.toArray W o l a fun l' u => G l' ∧ (hard.contains k = false → E l → E l') ∧ wpF P lo.toArray W G E loud hard K ks l' (a.put o.dst u)) : wpF P lo.toArray W G E loud hard K (k :: ks) l a := by
  refine ⟨o, by simpa using ho, ?_⟩
  rw [if_pos hk]
  exact h
end
section
variable {W : World} {G E : List Thing → Prop} {loud hard : List Nat} {K : List Thing → Act → Prop} {l r : List Thing} {a : Act} {lo : List Oper} {ks : List Nat} {k : Nat} {dst : Option Tmp} {ty : TypeId} {pos : String} {after : Array Edge}
theorem keeps1 {x : Thing} {l : List Thing} (m : x ∈ l) : Keeps [x] l := fun t ht => by rw [List.mem_singleton.1 ht]; exact m
theorem keeps2 {x y : Thing} {l : List Thing} (m : x ∈ l) (m2 : y ∈ l) : Keeps [x, y] l := fun t ht => by
  rcases List.mem_cons.1 ht with rfl | ht
  · exact m
  · rw [List.mem_singleton.1 ht]; exact m2
theorem Heap.push {W w : World} {l r : List Thing} {x : Thing} (H : Heap W (x :: r) w) (h : Pull l x r) : Heap W l w := H.perm h.perm.symm
theorem RowT.form1 {w : World} {e size n : Nat} {v : Value} {xs : List Value} (h : w.ownsRow 0 e size v n xs) : ∃ a c, v = .slice a n c ∧ n ≤ c ∧ c ≤ maxLen := by
  rcases h.2 with ⟨rfl, rfl⟩ | ⟨g, cap, cur, rfl, _, _, hnc, hcm, _⟩
  · exact ⟨none, 0, rfl, Nat.le_refl _, by unfold maxLen; omega⟩
  · exact ⟨_, _, rfl, hnc, hcm⟩
theorem wpF_bsR {x : Operand} {t e : TypeId} {c zs : Array Value} (ho : lo[k]? = some ⟨dst, .buildSlice t 1 #[(0, x)], ty, pos, after, none⟩) (hk : loud.contains k = true) (hx : a.eval x = .agg c)
    (hT : Try.prog.underlying t = some (.slice e) ∧ (Try.prog.info? e).map (fun i => (i.size, i.zero.map Value.cells)) = some (zs.size, some zs) ∧ 0 < zs.size ∧ zs.size ≤ 65536) (hv : c.size = zs.size)
    (hG : ∀ p, G (Cel p c e :: l)) (hE : ∀ p, E l → E (Cel p c e :: l)) (h : ∀ p, wpF Try.prog lo.toArray W G E loud hard K ks (Cel p c e :: l) (a.put dst (.slice (some ⟨p, 0, none⟩) 1 1))) : wpF Try.prog lo.toArray W G E loud hard K (k :: ks) l a := by
  refine wpF_loud ho hk ⟨rfl, fun w H => ⟨_, _, _, .inl ?_, H.alloc c e, hG _, fun _ => hE _, h _⟩⟩
  unfold execOp
  simp only [List.map_toArray, List.map_cons, List.map_nil, hx, Sem.run_bind, run_buildSlice1 hT.1 hT.2.1 hT.2.2.1 hT.2.2.2 (.agg c) hv, Result.andThen_ok, Sem.run_pure]
  rfl
theorem wpF_append {t e size bytes : Nat} {z : Value} (T : SlTy Try.prog t e size bytes z) {s x : Operand} (ho : lo[k]? = some ⟨dst, .call { callee := .builtin .append, args := #[s, x], argTypes := #[t, t] }, ty, pos, after, none⟩) (hk : loud.contains k = true)
    {v : Value} {b m c n : Nat} {xs news : List Value} {cc : Array Value} {te : TypeId} (hs : a.eval s = v) (hx : a.eval x = .slice (some ⟨b, 0, none⟩) m c) (pl : Pull l (RowT e size v n xs) r) (mb : Cel b cc te ∈ l) (hnews : cc.toList = news)
    (hl : news.length = m * size) (h1 : OneCells news) (h63 : n + m ≤ maxLen) (hbytes : (n + m) * bytes ≤ 140737488355328)
    (hh : hard.contains k = true) (hG : ∀ v', G (RowT e size v' (n + m) (xs ++ news) :: r)) (h : ∀ a' c', wpF Try.prog lo.toArray W G E loud hard K ks (RowT e size (.slice a' (n + m) c') (n + m) (xs ++ news) :: r) (a.put dst (.slice a' (n + m) c'))) : wpF Try.prog lo.toArray W G E loud hard K (k :: ks) l a := by
  refine wpF_loud ho hk ⟨rfl, fun w H => ?_⟩
  have H2 := H.pull pl
  have hown : w.ownsRow 0 e size v n xs := H2.ok _ List.mem_cons_self
  have hrd := H.celRd mb
  rw [hnews] at hrd
  obtain ⟨i, hi, hz, hsz, hb⟩ := T.inf
  have hnw := hrd.addr
  obtain ⟨v1, w1, hr1, hbl⟩ := run_append_block w T ty 0 v n xs hown ⟨b, 0, none⟩ m c news hl hnw h1 h63 hbytes
  obtain ⟨v', w', hr, h2, h3, h4⟩ := run_append_own (P := Try.prog) w 0 t ty e i z size bytes T.und hi hz hsz hb T.zc T.pos v n xs hown ⟨b, 0, none⟩ m c news hl hnw h1 h63 hbytes (Nat.zero_le _)
  rw [hr1] at hr
  simp only [Result.ok.injEq] at hr
  obtain ⟨rfl, rfl⟩ := hr
  obtain ⟨a', c', rfl, _, _⟩ := RowT.form1 h2
  refine ⟨_, _, w1, .inl ?_, H2.head h3 h2 ?_, hG _, fun e => absurd hh (by rw [e]; exact Bool.false_ne_true), h _ _⟩
  · unfold execOp
    simp only [resolve, invoke, builtin, Sem.run_bind, Sem.run_pure, Result.andThen_ok, List.map_toArray, List.map_cons, List.map_nil, hs, hx, hr1]
  · rcases hbl with hbl | hbl
    · exact .inl hbl
    · refine .inr fun j hj => ?_
      have h5 := ownsRow_fp h2 j hj
      have hj' : (Value.slice a' (n + m) c').ownBlock = some j := hj
      rw [hbl] at hj'
      cases hj'
      exact ⟨Nat.le_refl _, h5.2⟩
theorem wpF_storeS {T : TypeId} {guard : Option (Nat × Bool)} {x y : Operand} {b : Nat} {v v0 : Value} {t : TypeId} {l' : List Thing} (CT : CellTy T) (ho : lo[k]? = some ⟨dst, .store T x y, ty, pos, after, guard⟩) (hk : loud.contains k = true) (hw : Region.wanted ⟨dst, .store T x y, ty, pos, after, guard⟩ (yielded lo.toArray a.tmps) = true) (hx : a.eval x = .pointer (some ⟨b, 0, none⟩)) (hy : a.eval y = v) (hc : v.cells = #[v] ∧ v.oneCell' = true)
    (m : Cel b #[v0] t ∈ l) (r : Repl l (Cel b #[v0] t) (Cel b #[v] t) l') (hh : hard.contains k = true) (hG : G l')
    (h : wpF Try.prog lo.toArray W G E loud hard K ks l' (a.put dst undef)) : wpF Try.prog lo.toArray W G E loud hard K (k :: ks) l a := by
  refine wpF_loud ho hk ⟨hw, fun w H => ⟨l', undef, setBlk w b #[v], .inr ⟨?_, rfl⟩, H.set r, hG, fun e => absurd hh (by rw [e]; exact Bool.false_ne_true), h⟩⟩
  unfold execOp
  simp only [hx, hy, Sem.run_bind, run_storeC CT hc (H.blk m) (show 0 < (#[v0] : Array Value).size by simp), Result.andThen_ok]
  rfl
end
end Go.Proofs.Ytacglcpjbepfnaa
