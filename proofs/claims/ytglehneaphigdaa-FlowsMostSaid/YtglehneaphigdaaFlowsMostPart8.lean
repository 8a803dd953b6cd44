/- FlowsMost: part 8 of its proof: Left, Ref06s, Flow1, Flow2. -/
import Derived.Test.YtglehneaphigdaaFlowsMostPart7
/- PathsLeast's table against the distances: plain laws. -/
namespace Go.Proofs.Ytglehneaphigdaa
set_option linter.unusedVariables false
/-- One step of the table. -/
def relT (A : Nat → Nat → Bool) (T : Nat → Nat) (a b : Nat) : Nat → Nat := if A a b = true ∧ T b + 1 < T a then updN T a (T b + 1) else T
/-- What it never loses: it stands for ways, or there is none. -/
def Sound (d T : Nat → Nat) : Prop := ∀ p, T p = 99 ∨ (d p ≤ T p ∧ d p < 17 ∧ T p ≤ 98)
theorem relT_le (A : Nat → Nat → Bool) (T : Nat → Nat) (a b p : Nat) : relT A T a b p ≤ T p := by
  unfold relT
  split
  · rename_i h
    simp only [updN]
    split
    · rename_i e; subst e; omega
    · omega
  · omega
theorem relT_at (A : Nat → Nat → Bool) (T : Nat → Nat) (a b : Nat) (h : A a b = true) : relT A T a b a ≤ T b + 1 := by
  unfold relT
  split
  · simp [updN]
  · rename_i hn
    have : ¬ T b + 1 < T a := fun e => hn ⟨h, e⟩
    omega
theorem Sound.rel {A : Nat → Nat → Bool} {t : Nat} {d T : Nat → Nat} (hd : IsDist A t d) (h : Sound d T) (a b : Nat) (hA : A a b = true → a ≤ 16) : Sound d (relT A T a b) := by
  intro p
  unfold relT
  split
  · rename_i hc
    simp only [updN]
    split
    · rename_i e
      subst e
      have hb := h b
      have ha := h p
      have hs := hd.step p b hc.1
      have h17 := hd.le p
      right
      have hb2 : d b ≤ T b ∧ d b < 17 ∧ T b ≤ 98 := by
        rcases hb with hb | hb
        · rcases ha with ha | ha <;> omega
        · exact hb
      have hi := hd.ins b hb2.2.1
      refine ⟨by omega, by omega, ?_⟩
      rcases ha with ha | ha <;> omega
    · exact h p
  · exact h p
structure InvN (d : Nat → Nat) (n : Nat) (T : Nat → Nat) : Prop where
  snd : Sound d T
  low : ∀ p, d p ≤ n → d p < 17 → T p = d p
structure InvA (d : Nat → Nat) (n a : Nat) (T : Nat → Nat) : Prop where
  snd : Sound d T
  low : ∀ p, d p ≤ n → d p < 17 → T p = d p
  cur : ∀ p, p < a → d p = n + 1 → d p < 17 → T p = d p
structure InvB (A : Nat → Nat → Bool) (d : Nat → Nat) (n a b : Nat) (T : Nat → Nat) : Prop where
  inv : InvA d n a T
  row : ∀ q, q < b → A a q = true → d q = n → T a ≤ n + 1
theorem Sound.keep {d T T' : Nat → Nat} {p : Nat} (h : Sound d T') (hle : T' p ≤ T p) (e : T p = d p) (h17 : d p < 17) : T' p = d p := by
  rcases h p with h | h <;> omega
theorem InvA.start {d T : Nat → Nat} {A : Nat → Nat → Bool} {t n : Nat} (hd : IsDist A t d) (h : InvN d n T) : InvA d n 1 T :=
  ⟨h.snd, h.low, fun p hp e h17 => by have := (hd.ins p h17).1; omega⟩
theorem InvB.start {d T : Nat → Nat} {A : Nat → Nat → Bool} {n a : Nat} (h0 : A a 0 = false) (h : InvA d n a T) : InvB A d n a 1 T :=
  ⟨h, fun q hq hA _ => by
    obtain rfl : q = 0 := by omega
    rw [h0] at hA; cases hA⟩
theorem InvB.step {d T : Nat → Nat} {A : Nat → Nat → Bool} {t n a b : Nat} (hd : IsDist A t d) (hA : ∀ a b, A a b = true → a ≤ 16) (hn : n ≤ 15) (h : InvB A d n a b T) : InvB A d n a (b + 1) (relT A T a b) := by
  have hs := h.inv.snd.rel hd a b (hA a b)
  refine ⟨⟨hs, fun p hp h17 => hs.keep (relT_le A T a b p) (h.inv.low p hp h17) h17, fun p hp e h17 => hs.keep (relT_le A T a b p) (h.inv.cur p hp e h17) h17⟩, fun q hq hq2 hdq => ?_⟩
  by_cases e : q = b
  · subst e
    have h1 := relT_at A T a q hq2
    have h2 := h.inv.low q (by omega) (by omega)
    omega
  · exact Nat.le_trans (relT_le A T a b a) (h.row q (by omega) hq2 hdq)
theorem InvB.done {d T : Nat → Nat} {A : Nat → Nat → Bool} {t n a : Nat} (hd : IsDist A t d) (h : InvB A d n a 17 T) : InvA d n (a + 1) T :=
  ⟨h.inv.snd, h.inv.low, fun p hp e h17 => by
    by_cases hpa : p = a
    · subst hpa
      have hpt : p ≠ t := fun e2 => by subst e2; have := hd.top; omega
      obtain ⟨q, hA, hq⟩ := hd.par p h17 hpt
      have hi := hd.ins q (by omega)
      have := h.row q (by omega) hA (by omega)
      rcases h.inv.snd p with h2 | h2 <;> omega
    · exact h.inv.cur p (by omega) e h17⟩
theorem InvA.done {d T : Nat → Nat} {A : Nat → Nat → Bool} {t n : Nat} (hd : IsDist A t d) (h : InvA d n 17 T) : InvN d (n + 1) T :=
  ⟨h.snd, fun p hp h17 => by
    by_cases e : d p ≤ n
    · exact h.low p e h17
    · have := (hd.ins p h17).2.1
      exact h.cur p (by omega) (by omega) h17⟩
theorem InvN.start {d : Nat → Nat} {A : Nat → Nat → Bool} {t : Nat} (hd : IsDist A t d) : InvN d 0 (updN (fun _ => 99) t 0) :=
  ⟨fun p => by
    simp only [updN]
    split
    · rename_i e; subst e; right; have := hd.top; omega
    · exact .inl rfl, fun p hp h17 => by
    have e := hd.zero (show d p = 0 by omega)
    subst e
    simp [updN, hd.top]⟩
/-- Behind sixteen rounds the table is the distances'. -/
theorem InvN.end {d T : Nat → Nat} {A : Nat → Nat → Bool} {t : Nat} (hd : IsDist A t d) (h : InvN d 16 T) (p : Nat) : T p = if d p < 17 then d p else 99 := by
  by_cases e : d p < 17
  · rw [if_pos e, h.low p (by omega) e]
  · rw [if_neg e]
    rcases h.snd p with h2 | h2
    · exact h2
    · omega
/-- One round of the search by breadth, done. -/
theorem BfsIn.finish {A : Nat → Nat → Bool} {t a : Nat} (hA : ∀ p q, A p q = true → p ≤ 16) : ∀ (j k : Nat) (d : Nat → Nat) (Q : List Nat), k + j = 17 → 1 ≤ k → BfsIn A t d Q a k → ∃ d2 Q2, Bfs A t d2 Q2 ∧ 2 * und d2 + Q2.length ≤ 2 * und d + Q.length
  | 0, k, d, Q, hk, _, h => by
    obtain rfl : k = 17 := by omega
    exact ⟨d, Q, h.done hA, Nat.le_refl _⟩
  | j + 1, k, d, Q, hk, h1, h => by
    by_cases hc : d k = 17 ∧ A k a = true
    · obtain ⟨h2, h3⟩ := h.yes hc.1 hc.2 h1 (by omega)
      obtain ⟨d2, Q2, h4, h5⟩ := BfsIn.finish hA j (k + 1) _ _ (by omega) (by omega) h2
      refine ⟨d2, Q2, h4, ?_⟩
      rw [List.length_append, List.length_singleton] at h5
      omega
    · exact BfsIn.finish hA j (k + 1) _ _ (by omega) (by omega) (h.no hc)
theorem Bfs.finish {A : Nat → Nat → Bool} {t : Nat} (hA : ∀ p q, A p q = true → p ≤ 16) (h0 : ∀ a, A 0 a = false) : ∀ (m : Nat) (d : Nat → Nat) (Q : List Nat), 2 * und d + Q.length ≤ m → Bfs A t d Q → ∃ d2, IsDist A t d2
  | m, d, [], _, h => ⟨d, h.dist⟩
  | 0, d, a :: Q, hm, _ => by simp at hm
  | m + 1, d, a :: Q, hm, h => by
    obtain ⟨d2, Q2, h2, h3⟩ := BfsIn.finish hA 16 1 d Q rfl (Nat.le_refl _) (h.pop (h0 a))
    rw [List.length_cons] at hm
    exact Bfs.finish hA h0 m d2 Q2 (by omega) h2
/-- Distances there are. -/
theorem exists_dist {A : Nat → Nat → Bool} {t : Nat} (h1 : 1 ≤ t) (h2 : t ≤ 16) (hA : ∀ p q, A p q = true → p ≤ 16) (h0 : ∀ a, A 0 a = false) : ∃ d, IsDist A t d :=
  Bfs.finish hA h0 _ _ _ (Nat.le_refl _) (Bfs.start h1 h2)
end Go.Proofs.Ytglehneaphigdaa

/- countinghouseref06: reach, Short. -/
namespace Go.Proofs.Ytglehneaphigdaa
open Go.RowKit
set_option linter.unusedSimpArgs false
set_option linter.unusedVariables false
def boolT (f : Nat → Bool) : Array Value := tab 17 fun i => .bool (f i)
theorem boolT_sz (f : Nat → Bool) : (boolT f).size = 17 := tab_size ..
theorem boolT_get (f : Nat → Bool) {i : Nat} (h : i < 17) : (boolT f)[i]? = some (.bool (f i)) := tab_get _ h
theorem boolT_set (f : Nat → Bool) {i : Nat} (h : i < 17) (b : Bool) : (boolT f).setIfInBounds i (.bool b) = boolT (updN f i b) := by
  unfold boolT
  rw [tab_set _ _ h]
  apply tab_congr
  intro j hj
  unfold updN
  by_cases e : j = i
  · rw [if_pos e, if_pos e]
  · rw [if_neg e, if_neg e]
theorem boolT_ext {f g : Nat → Bool} (h : ∀ i, i < 17 → f i = g i) : boolT f = boolT g := tab_congr fun i hi => by rw [h i hi]
theorem boolT_all (f : Nat → Bool) : (boolT f).extract 0 (0 + 17) = boolT f := by
  have := boolT_sz f
  simp [← this]
theorem boolT_cells (f : Nat → Bool) : Cells 17 (boolT f) := tab_cells fun i _ => rfl
theorem boolT_splice (f g : Nat → Bool) : splice (boolT f) 0 (boolT g) = boolT g := splice_all (by rw [boolT_sz, boolT_sz])
theorem row_boolT : RowTy 87 17 (boolT fun _ => false) := ⟨⟨_, Try.underlying87, rfl⟩, by kernel_rfl, by kernel_rfl⟩
theorem part_bool (f : Nat → Bool) (i : Nat) (hi : i < 17) (w : World) : (part 4 (boolT f) i).run Try.prog w = .ok (.bool (f i)) w := by
  have hu := Try.underlying4
  have e := boolT_get f hi
  simp [part, isAgg, run_underlying hu, e]
section
variable {ops : Array Oper} {rest : List Oper} {a : Act} {w : World} {Q : Exit → Act → World → Prop} {dst : Option Tmp} {ty : TypeId} {pos : String} {after : Array Edge} {guard : Option (Nat × Bool)} {p q : Operand}
theorem wpl_indexBool {f : Nat → Bool} {k : IntKind} {i : Nat} (hw : Region.wanted ⟨dst, .index 87 p q, ty, pos, after, guard⟩ (yielded ops a.tmps) = true) (hp : a.eval p = .agg (boolT f)) (hq : a.eval q = .int k (i : Int)) (hi : i < 17)
    (h : wpList Try.prog ops Q rest (a.put dst (.bool (f i))) w) : wpList Try.prog ops Q (⟨dst, .index 87 p q, ty, pos, after, guard⟩ :: rest) a w := by
  refine wpl_pure hw _ (fun w => ?_) h
  have hu := Try.underlying87
  have hs : (sizeOf 4).run Try.prog w = .ok 1 w := by kernel_rfl
  have hp17 := part_bool f i hi w
  unfold execOp
  simp only [hp, hq]
  simp [Instr.index, asIntOf, run_underlying hu, Sem.run_bind, hs, hi, hp17]
end
structure ReA (W : World) (l : List Thing) (F : List Flw) (f n pi : Nat) (i : Value) (wr : World) : Prop where
  out : ∃ k : Nat, i = .int .i64 (k : Int) ∧ k ≤ n ∧ Heap W (Cel pi (boolT (reachF F f k)) 87 :: l) wr
structure ReB (W : World) (l : List Thing) (F : List Flw) (f k n pi : Nat) (i : Value) (wr : World) : Prop where
  out : ∃ j : Nat, i = .int .i64 (j : Int) ∧ j ≤ n ∧ Heap W (Cel pi (boolT fun p => reachF F f k p || (F.take j).any fun x => reachF F f k x.f && (x.t == p)) 87 :: l) wr
section
variable {W w : World} {l : List Thing} {p n : Nat} {a : Option Addr} {cc : Nat} {F : List Flw}
set_option maxRecDepth 100000
set_option maxHeartbeats 4000000
theorem reach_H (f s : Nat) (hf : f ≤ 16) (hs : s ≤ 16) (m1 : RgT p (.slice a n cc) ∈ l) (m2 : FlT (.slice a n cc) n F ∈ l) (hl : F.length = n) (hn : n ≤ 1000000) (hF : ∀ x ∈ F, x.f < 17 ∧ x.t < 17) :
    AnsH W l 65 #[.pointer (some ⟨p, 0, none⟩), .int .u8 (f : Int), .int .i64 (s : Int)] (.agg (boolT (reachF F f s))) := by
  intro w H
  have HL := Lib.hid hl
  have HF := Lib.hid hF
  have HR := Lib.hid (show ∀ l' w', (∀ x ∈ l, x ∈ l') → Heap W l' w' → Rd w' a (flwL F) from fun l' w' hs h => rowT_rd h (hs _ m2))
  have f17 : f < 17 := by omega
  clear hl hF
  go_enter Try.func65, Try.ntmps65
  have tok1 : True := trivial
  go_wp2_with (first
    | go_skip
    | (have _t := tok1; ((with_reducible show wpList _ _ _ (_ :: _) _ _); (with_reducible apply wpl_allocRH row_boolT); (· rfl); (· exact H); (clear H; intro pr _ H); (simp only [Act.put, List.setIfInBounds_toArray, List.set_cons_zero, List.set_cons_succ])); clear tok1 _t)
    | ((with_reducible show wpList _ _ _ (_ :: _) _ _); (with_reducible apply wpl_allocRH row_boolT); (· rfl); (· exact H); (clear H; intro pi _ H); (simp only [Act.put, List.setIfInBounds_toArray, List.set_cons_zero, List.set_cons_succ]))
    | ((with_reducible show wpList _ _ _ (_ :: _) _ _); (with_reducible apply wpl_storeBH); (· exact cell_bool); (· rfl); (· rfl); (· rfl); (· exact H); (· (repeat (first | (with_reducible exact List.mem_cons_self) | with_reducible apply List.mem_cons_of_mem))); (· (rw [boolT_sz]; omega)); (· exact boolT_set _ f17 _); (· (repeat (first | (with_reducible exact Repl.here) | with_reducible apply Repl.there))); (clear H; intro _ H); (simp only [Act.put, List.setIfInBounds_toArray, List.set_cons_zero, List.set_cons_succ])))
  have H0 := H
  clear H
  go_loopw [8] (fun i wr => ReA W (Cel pr (boolT fun _ => false) 87 :: l) F f s pi i wr) (fun i _ => s - (intOf i).toNat)
  case atStart => exact ⟨0, rfl, by omega, by rw [show boolT (reachF F f 0) = boolT (updN (fun _ => false) f true) from boolT_ext fun i _ => by by_cases e : i = f <;> simp [reachF, updN, e]]; exact H0⟩
  case round =>
    obtain ⟨k, rfl, hk, H'⟩ := hrel.out
    clear H0 hrel
    have H := H'
    clear H'
    by_cases hlt : k < s
    · go_wp2_with (first
        | go_skip
        | ((with_reducible show wpList _ _ _ (_ :: _) _ _); (with_reducible apply wpl_allocRH row_boolT); (· rfl); (· exact H); (clear H; intro pw _ H); (simp only [Act.put, List.setIfInBounds_toArray, List.set_cons_zero, List.set_cons_succ]))
        | ((with_reducible show wpList _ _ _ (_ :: _) _ _); (with_reducible apply wpl_loadRH row_boolT); (· rfl); (· rfl); (· exact H); (· (repeat (first | (with_reducible exact List.mem_cons_self) | with_reducible apply List.mem_cons_of_mem))); (· (simp only [boolT_sz, Nat.reduceAdd, Nat.reduceLeDiff, Nat.le_refl]; done)); (· with_reducible exact boolT_all ..); (simp only [Act.put, List.setIfInBounds_toArray, List.set_cons_zero, List.set_cons_succ]))
        | ((with_reducible show wpList _ _ _ (_ :: _) _ _); (with_reducible apply wpl_storeRH row_boolT); (· rfl); (· rfl); (· rfl); (· with_reducible exact boolT_cells ..); (· exact H); (· (repeat (first | (with_reducible exact List.mem_cons_self) | with_reducible apply List.mem_cons_of_mem))); (· (simp only [boolT_sz, Nat.reduceAdd, Nat.reduceLeDiff, Nat.le_refl]; done)); (· with_reducible exact boolT_splice ..); (· (repeat (first | (with_reducible exact Repl.here) | with_reducible apply Repl.there))); (clear H; intro _ H); (simp only [Act.put, List.setIfInBounds_toArray, List.set_cons_zero, List.set_cons_succ])))
      have H0 := H.perm (.swap _ _ _)
      clear H
      go_loopw [10] (fun i wr => ReB W (Cel pw (boolT (reachF F f k)) 87 :: Cel pr (boolT fun _ => false) 87 :: l) F f k n pi i wr) (fun i _ => n - (intOf i).toNat)
      case atStart => exact ⟨0, rfl, by omega, by rw [show boolT (fun p => reachF F f k p || (F.take 0).any fun x => reachF F f k x.f && (x.t == p)) = boolT (reachF F f k) from boolT_ext fun i _ => by simp]; exact H0⟩
      case round =>
        obtain ⟨j, rfl, hj, H'⟩ := hrel.out
        clear H0 hrel
        have H := H'
        clear H'
        by_cases hlt2 : j < n
        · have hjF : j < F.length := by rw [HL.out]; exact hlt2
          have hx : F[j]? = some F[j] := List.getElem?_eq_getElem hjF
          have hok := HF.out _ (List.getElem_mem hjF)
          have htk : F.take (j + 1) = F.take j ++ [F[j]] := by rw [List.take_add_one, hx]; rfl
          generalize F[j] = x at *
          obtain ⟨b, o, rfl, _⟩ := (HR.out _ _ (fun x hx => by (repeat (first | (with_reducible exact hx) | with_reducible apply List.mem_cons_of_mem))) H).lt (by rw [flwL_len]; omega)
          have HX := Lib.hid (show ∀ l' w', (∀ x ∈ l, x ∈ l') → Heap W l' w' → _ from fun l' w' hs h => flwL_rd (HR.out l' w' hs h) hx)
          have HTK := Lib.hid htk
          clear htk hx hjF
          obtain ⟨xf, xt, xn⟩ := x
          obtain ⟨o1, o2⟩ := hok
          simp only at o1 o2
          have HXH := HX.out _ _ (fun x hx => by (repeat (first | (with_reducible exact hx) | with_reducible apply List.mem_cons_of_mem))) H
          have HY := Lib.hid HXH
          clear HXH
          cases hb : reachF F f k xf
          · have HB := Lib.hid hb
            have hget := boolT_get (reachF F f k) o1
            rw [hb] at hget
            clear hb
            have HS := Lib.hid (show boolT (fun p => reachF F f k p || (F.take (j + 1)).any fun x => reachF F f k x.f && (x.t == p)) = boolT (fun p => reachF F f k p || (F.take j).any fun x => reachF F f k x.f && (x.t == p)) from boolT_ext fun i _ => by
              rw [HTK.out, List.any_append]
              simp [HB.out])
            go_wp2_with (first
              | go_skip
              | ((with_reducible show wpList _ _ _ (_ :: _) _ _); (with_reducible apply wpl_loadCH); (· exact cell_flows); (· rfl); (· rfl); (· exact H); (· exact List.mem_cons_of_mem _ (List.mem_cons_of_mem _ (List.mem_cons_of_mem _ m1))); (· exact rgC_g _); (simp only [Act.put, List.setIfInBounds_toArray, List.set_cons_zero, List.set_cons_succ]))
              | ((with_reducible show wpList _ _ _ (_ :: _) _ _); (with_reducible apply wpl_loadCell); (· first | exact cell_party | exact cell_i64); (· rfl); (· rfl); (· first | exact HY.out.1 | exact HY.out.2.1); (simp only [Act.put, List.setIfInBounds_toArray, List.set_cons_zero, List.set_cons_succ]))
              | ((with_reducible show wpList _ _ _ (_ :: _) _ _); (with_reducible apply wpl_loadCH); (· exact cell_bool); (· rfl); (· rfl); (· exact H); (· (repeat (first | (with_reducible exact List.mem_cons_self) | with_reducible apply List.mem_cons_of_mem))); (· exact hget); (simp only [Act.put, List.setIfInBounds_toArray, List.set_cons_zero, List.set_cons_succ])))
            refine ⟨?_, ?_⟩
            · exact ⟨⟨j + 1, by go_num, by omega, by rw [HS.out]; exact H⟩⟩
            · simp [intOf]; omega
          · have HB := Lib.hid hb
            have hget := boolT_get (reachF F f k) o1
            rw [hb] at hget
            clear hb
            have HS := Lib.hid (show boolT (fun p => reachF F f k p || (F.take (j + 1)).any fun x => reachF F f k x.f && (x.t == p)) = boolT (updN (fun p => reachF F f k p || (F.take j).any fun x => reachF F f k x.f && (x.t == p)) xt true) from boolT_ext fun i _ => by
              rw [HTK.out, List.any_append]
              unfold updN
              by_cases e : i = xt
              · subst e; simp [HB.out]
              · have : (xt == i) = false := by simp; omega
                simp [HB.out, e, this])
            go_wp2_with (first
              | go_skip
              | ((with_reducible show wpList _ _ _ (_ :: _) _ _); (with_reducible apply wpl_loadCH); (· exact cell_flows); (· rfl); (· rfl); (· exact H); (· exact List.mem_cons_of_mem _ (List.mem_cons_of_mem _ (List.mem_cons_of_mem _ m1))); (· exact rgC_g _); (simp only [Act.put, List.setIfInBounds_toArray, List.set_cons_zero, List.set_cons_succ]))
              | ((with_reducible show wpList _ _ _ (_ :: _) _ _); (with_reducible apply wpl_loadCell); (· first | exact cell_party | exact cell_i64); (· rfl); (· rfl); (· first | exact HY.out.1 | exact HY.out.2.1); (simp only [Act.put, List.setIfInBounds_toArray, List.set_cons_zero, List.set_cons_succ]))
              | ((with_reducible show wpList _ _ _ (_ :: _) _ _); (with_reducible apply wpl_loadCH); (· exact cell_bool); (· rfl); (· rfl); (· exact H); (· (repeat (first | (with_reducible exact List.mem_cons_self) | with_reducible apply List.mem_cons_of_mem))); (· exact hget); (simp only [Act.put, List.setIfInBounds_toArray, List.set_cons_zero, List.set_cons_succ]))
              | ((with_reducible show wpList _ _ _ (_ :: _) _ _); (with_reducible apply wpl_storeBH); (· exact cell_bool); (· rfl); (· rfl); (· rfl); (· exact H); (· (repeat (first | (with_reducible exact List.mem_cons_self) | with_reducible apply List.mem_cons_of_mem))); (· (rw [boolT_sz]; omega)); (· exact boolT_set _ o2 _); (· (repeat (first | (with_reducible exact Repl.here) | with_reducible apply Repl.there))); (clear H; intro _ H); (simp only [Act.put, List.setIfInBounds_toArray, List.set_cons_zero, List.set_cons_succ])))
            refine ⟨?_, ?_⟩
            · exact ⟨⟨j + 1, by go_num, by omega, by rw [HS.out]; exact H⟩⟩
            · simp [intOf]; omega
        · obtain rfl : n = j := by omega
          have HS := Lib.hid (show boolT (fun p => reachF F f k p || (F.take n).any fun x => reachF F f k x.f && (x.t == p)) = boolT (reachF F f (k + 1)) from by rw [List.take_of_length_le (by rw [HL.out]; exact Nat.le_refl _)]; rfl)
          go_wp2_with (first
            | go_skip
            | ((with_reducible show wpList _ _ _ (_ :: _) _ _); (with_reducible apply wpl_loadCH); (· exact cell_flows); (· rfl); (· rfl); (· exact H); (· exact List.mem_cons_of_mem _ (List.mem_cons_of_mem _ (List.mem_cons_of_mem _ m1))); (· exact rgC_g _); (simp only [Act.put, List.setIfInBounds_toArray, List.set_cons_zero, List.set_cons_succ])))
          refine ⟨?_, ?_⟩
          · exact ⟨⟨k + 1, by go_num, by omega, by rw [← HS.out]; exact H.drop (.there .here)⟩⟩
          · simp [intOf]; omega
    · obtain rfl : s = k := by omega
      go_wp2_with (first
        | go_skip
        | ((with_reducible show wpList _ _ _ (_ :: _) _ _); (with_reducible apply wpl_loadRH row_boolT); (· rfl); (· rfl); (· exact H); (· (repeat (first | (with_reducible exact List.mem_cons_self) | with_reducible apply List.mem_cons_of_mem))); (· (simp only [boolT_sz, Nat.reduceAdd, Nat.reduceLeDiff, Nat.le_refl]; done)); (· with_reducible exact boolT_all ..); (simp only [Act.put, List.setIfInBounds_toArray, List.set_cons_zero, List.set_cons_succ]))
        | ((with_reducible show wpList _ _ _ (_ :: _) _ _); (with_reducible apply wpl_storeRH row_boolT); (· rfl); (· rfl); (· rfl); (· with_reducible exact boolT_cells ..); (· exact H); (· (repeat (first | (with_reducible exact List.mem_cons_self) | with_reducible apply List.mem_cons_of_mem))); (· (simp only [boolT_sz, Nat.reduceAdd, Nat.reduceLeDiff, Nat.le_refl]; done)); (· with_reducible exact boolT_splice ..); (· (repeat (first | (with_reducible exact Repl.here) | with_reducible apply Repl.there))); (clear H; intro _ H); (simp only [Act.put, List.setIfInBounds_toArray, List.set_cons_zero, List.set_cons_succ])))
      exact ret_row1H row_boolT rfl rfl rfl H (by (repeat (first | (with_reducible exact List.mem_cons_self) | with_reducible apply List.mem_cons_of_mem))) (boolT_sz _) ⟨rfl, H.tail.tail⟩
structure RsA (W : World) (l : List Thing) (c : Caps) (f t : Nat) (d : Nat → Nat) (m : Nat) (i v : Value) (wr : World) : Prop where
  out : ∃ (a : Nat) (L : List Nat), i = .int .u8 (a : Int) ∧ d a < 17 ∧ d a ≤ m ∧ WayTo (edge c) d f a L ∧ Heap W (OwnT 33 1 v L.length (L.map pv) :: l) wr
structure RsB (W : World) (l : List Thing) (da : Nat) (i : Value) (wr : World) : Prop where
  out : ∃ k : Nat, i = .int .i64 (k : Int) ∧ k ≤ da ∧ Heap W l wr
structure RsC (W : World) (l : List Thing) (c : Caps) (a : Nat) (d : Nat → Nat) (i j : Value) (wr : World) : Prop where
  out : ∃ k : Nat, i = .int .u8 (a : Int) ∧ j = .int .u8 (k : Int) ∧ 1 ≤ k ∧ k ≤ 17 ∧ (∀ q, 1 ≤ q → q < k → ¬ GoodP (edge c) d a q) ∧ Heap W l wr
theorem rshort_not (c : Caps) (f t : Nat) (hf : f ≤ 255) (ht : t ≤ 255) (hc : GoodC c) (m1 : RgT p (.slice a (edgesOf c).length cc) ∈ l) (m2 : FlT (.slice a (edgesOf c).length cc) (edgesOf c).length (edgesOf c) ∈ l)
    (hn : mayP f = false ∨ mayP t = false ∨ f = t ∨ (mayP f = true ∧ mayP t = true ∧ reachF (edgesOf c) f 16 t = false)) : AnsH W l 41 #[.pointer (some ⟨p, 0, none⟩), .int .u8 (f : Int), .int .u8 (t : Int)] (.slice none 0 0) := by
  intro w H
  have hcase : (decide ((f : Int) < 1) = true) ∨ (decide ((f : Int) < 1) = false ∧ decide ((f : Int) > 16) = true) ∨ (decide ((f : Int) < 1) = false ∧ decide ((f : Int) > 16) = false ∧ decide ((t : Int) < 1) = true) ∨ (decide ((f : Int) < 1) = false ∧ decide ((f : Int) > 16) = false ∧ decide ((t : Int) < 1) = false ∧ decide ((t : Int) > 16) = true) ∨ (decide ((f : Int) < 1) = false ∧ decide ((f : Int) > 16) = false ∧ decide ((t : Int) < 1) = false ∧ decide ((t : Int) > 16) = false ∧ ((f : Int) == (t : Int)) = true) ∨
      (decide ((f : Int) < 1) = false ∧ decide ((f : Int) > 16) = false ∧ decide ((t : Int) < 1) = false ∧ decide ((t : Int) > 16) = false ∧ ((f : Int) == (t : Int)) = false ∧ f ≤ 16 ∧ t < 17 ∧ reachF (edgesOf c) f 16 t = false) := by
    by_cases e1 : f < 1
    · exact .inl (by simp; omega)
    · by_cases e2 : 16 < f
      · exact .inr (.inl ⟨by simp; omega, by simp; omega⟩)
      · by_cases e3 : t < 1
        · exact .inr (.inr (.inl ⟨by simp; omega, by simp; omega, by simp; omega⟩))
        · by_cases e4 : 16 < t
          · exact .inr (.inr (.inr (.inl ⟨by simp; omega, by simp; omega, by simp; omega, by simp; omega⟩)))
          · by_cases e5 : f = t
            · exact .inr (.inr (.inr (.inr (.inl ⟨by simp; omega, by simp; omega, by simp; omega, by simp; omega, by simp [e5]⟩))))
            · refine .inr (.inr (.inr (.inr (.inr ⟨by simp; omega, by simp; omega, by simp; omega, by simp; omega, by simp; omega, by omega, by omega, ?_⟩))))
              have hmf : mayP f = true := by unfold mayP; simp; omega
              have hmt : mayP t = true := by unfold mayP; simp; omega
              rcases hn with h | h | h | h
              · rw [hmf] at h; cases h
              · rw [hmt] at h; cases h
              · exact absurd h e5
              · exact h.2.2
  have hE : ∀ x ∈ edgesOf c, x.f < 17 ∧ x.t < 17 := fun x hx => by have := matE_mem 17 hx; omega
  have hlen := edges_len c
  have hre := fun h16 => reach_H (W := W) (l := l) (p := p) f 16 h16 (by omega) m1 m2 rfl (by omega) hE
  clear hn hE m1 m2
  rcases hcase with g1 | ⟨g1, g2⟩ | ⟨g1, g2, g3⟩ | ⟨g1, g2, g3, g4⟩ | ⟨g1, g2, g3, g4, g5⟩ | ⟨g1, g2, g3, g4, g5, g6, g7, g8⟩
  · clear hre
    go_enter Try.func41, Try.ntmps41
    go_wp2_with (go_skip)
    go_ret
    exact ⟨rfl, H⟩
  · clear hre
    go_enter Try.func41, Try.ntmps41
    go_wp2_with (go_skip)
    go_ret
    exact ⟨rfl, H⟩
  · clear hre
    go_enter Try.func41, Try.ntmps41
    go_wp2_with (go_skip)
    go_ret
    exact ⟨rfl, H⟩
  · clear hre
    go_enter Try.func41, Try.ntmps41
    go_wp2_with (go_skip)
    go_ret
    exact ⟨rfl, H⟩
  · clear hre
    go_enter Try.func41, Try.ntmps41
    go_wp2_with (go_skip)
    go_ret
    exact ⟨rfl, H⟩
  · have hr : AnsH W l 65 #[.pointer (some ⟨p, 0, none⟩), .int .u8 (f : Int), .int .i64 16] (.agg (boolT (reachF (edgesOf c) f 16))) := hre g6
    have HG := Lib.hid g8
    clear hre g8
    go_enter Try.func41, Try.ntmps41
    go_wp2_with (first | go_skip | ((with_reducible refine AnsH.call (by assumption) H ?_); clear H; intro _ H) | ((with_reducible show wpList _ _ _ (_ :: _) _ _); (with_reducible apply wpl_indexBool); (· rfl); (· rfl); (· rfl); (· exact g7); (rw [HG.out]); (simp only [Act.put, List.setIfInBounds_toArray, List.set_cons_zero, List.set_cons_succ])))
    go_ret
    exact ⟨rfl, H⟩
theorem rshort_H (c : Caps) (f t : Nat) (hf : f ≤ 255) (ht : t ≤ 255) (hc : GoodC c) (hb : BndC c) (m1 : RgT p (.slice a (edgesOf c).length cc) ∈ l) (m2 : FlT (.slice a (edgesOf c).length cc) (edgesOf c).length (edgesOf c) ∈ l) (H : Heap W l w) :
    Calls Try.prog 41 #[.pointer (some ⟨p, 0, none⟩), .int .u8 (f : Int), .int .u8 (t : Int)] w (ShortPost W l c f t) := by
  by_cases hn : mayP f = false ∨ mayP t = false ∨ f = t ∨ (mayP f = true ∧ mayP t = true ∧ reachF (edgesOf c) f 16 t = false)
  · refine (rshort_not c f t hf ht hc m1 m2 hn w H).mono ?_
    rintro e w1 ⟨rfl, H⟩
    refine ⟨_, [], rfl, .inl ⟨rfl, ?_⟩, (H.nilRow _ _).slide⟩
    rcases hn with h | h | h | ⟨h1, h2, h⟩
    · exact .inl h
    · exact .inr (.inl h)
    · exact .inr (.inr (.inl h))
    · have h2' := mayP_true h2
      obtain ⟨d, hd⟩ := exists_dist (A := edge c) h2'.1 h2'.2 (fun p q h => (edge_le h).1.2) (fun q => edge_no (by rw [capOf_zero]; omega))
      refine .inr (.inr (.inr ⟨d, hd, ?_⟩))
      rw [reach_iff hc hd (by omega)] at h
      have h3 : ¬ d f ≤ 16 := by simpa using h
      have := hd.le f
      omega
  · have hmf : mayP f = true := by
      cases e : mayP f
      · exact absurd (.inl e) hn
      · rfl
    have hmt : mayP t = true := by
      cases e : mayP t
      · exact absurd (.inr (.inl e)) hn
      · rfl
    have hne : f ≠ t := fun e => hn (.inr (.inr (.inl e)))
    have hre : reachF (edgesOf c) f 16 t = true := by
      cases e : reachF (edgesOf c) f 16 t
      · exact absurd (.inr (.inr (.inr ⟨hmf, hmt, e⟩))) hn
      · rfl
    have hf2 := mayP_true hmf
    have ht2 := mayP_true hmt
    obtain ⟨d, hd⟩ := exists_dist (A := edge c) ht2.1 ht2.2 (fun p q h => (edge_le h).1.2) (fun q => edge_no (by rw [capOf_zero]; omega))
    have hdf : d f < 17 := by
      rw [reach_iff hc hd (by omega)] at hre
      have : d f ≤ 16 := by simpa using hre
      omega
    have hE : ∀ x ∈ edgesOf c, x.f < 17 ∧ x.t < 17 := fun x hx => by have := matE_mem 17 hx; omega
    have hlen := edges_len c
    have hR := fun (l' : List Thing) (hs : ∀ x ∈ l, x ∈ l') (x s : Nat) (hx : x ≤ 16) (hs16 : s ≤ 16) => reach_H (W := W) (l := l') (p := p) x s hx hs16 (hs _ m1) (hs _ m2) rfl (by omega) hE
    have hC := fun (l' : List Thing) (hs : ∀ x ∈ l, x ∈ l') (x y : Nat) (hx : x ≤ 255) (hy : y ≤ 255) => rcap_H (W := W) (l := l') (p := p) x y hx hy (hs _ m1) (hs _ m2) rfl (by omega) (edges_ok hb)
    simp only [hc.cap] at hC
    have ht17 : t < 17 := by omega
    have g1 : decide ((f : Int) < 1) = false := by simp; omega
    have g2 : decide ((f : Int) > 16) = false := by simp; omega
    have g3 : decide ((t : Int) < 1) = false := by simp; omega
    have g4 : decide ((t : Int) > 16) = false := by simp; omega
    have g5 : ((f : Int) == (t : Int)) = false := by simp; omega
    have hr : AnsH W l 65 #[.pointer (some ⟨p, 0, none⟩), .int .u8 (f : Int), .int .i64 16] (.agg (boolT (reachF (edgesOf c) f 16))) := hR l (fun _ h => h) f 16 (by omega) (by omega)
    have HD := Lib.hid (And.intro hd (And.intro hne (And.intro hmf (And.intro hmt hc))))
    have HRE := Lib.hid hre
    have HR := Lib.hid hR
    have HC := Lib.hid hC
    clear hn hmf hmt hre hd hE hR hC m1 m2 hb hc hne
    go_enter Try.func41, Try.ntmps41
    go_wp2_with (first
      | go_skip
      | ((with_reducible refine AnsH.call (by assumption) H ?_); clear H; intro _ H)
      | ((with_reducible show wpList _ _ _ (_ :: _) _ _); (with_reducible apply wpl_indexBool); (· rfl); (· rfl); (· rfl); (· exact ht17); (rw [HRE.out]); (simp only [Act.put, List.setIfInBounds_toArray, List.set_cons_zero, List.set_cons_succ]))
      | ((with_reducible show wpList _ _ _ (_ :: _) _ _); (with_reducible apply wpl_bsOnes _ [.int .u8 (f : Int)]); (· rfl); (· rfl); (· rfl); (· decide); (· decide); (· exact pv_ones f); (· exact bs_party); (· rfl); (· exact H); (clear H; intro pq _ H); (simp only [Act.put, List.setIfInBounds_toArray, List.set_cons_zero, List.set_cons_succ])))
    clear hr
    have H0 := H.celOwn (n := 1) (size := 1) rfl (by unfold maxLen; omega)
    clear H
    go_loopg [1, 7] (d f) (fun m i v wr => RsA W l c f t d m i v wr)
    case atStart => exact ⟨f, [f], rfl, hdf, Nat.le_refl _, WayTo.start .., H0⟩
    case round =>
      obtain ⟨x, L, rfl, hdx, hdm, hway, H'⟩ := hrel.out
      clear H0 hrel
      have H := H'
      clear H'
      by_cases hxt : x = t
      · subst hxt
        have e1 : ((x : Int) != (x : Int)) = false := by simp
        go_wp2_with (go_skip)
        go_ret
        exact ⟨_, L, rfl, .inr ⟨HD.out.2.2.1, HD.out.2.2.2.1, HD.out.2.1, d, HD.out.1, hdf, hway.done HD.out.1.top⟩, H⟩
      · have hxi := HD.out.1.ins x hdx
        have e1 : ((x : Int) != (t : Int)) = true := by simp; omega
        have e2 : ((x : Int) == (t : Int)) = false := by simp; omega
        have hz : d x ≠ 0 := fun e => hxt (HD.out.1.zero e)
        have HW := Lib.hid hway
        have hLl := Lib.hid hway.len
        have hLb : L.length + 1 ≤ maxLen := by have := hway.len; unfold maxLen; omega
        have hLb2 : (L.length + 1) * 1 ≤ 140737488355328 := by have := hway.len; omega
        clear hway
        go_wp2_with (go_skip)
        have H0 := H
        clear H
        go_loopw [8] (fun i wr => RsB W (OwnT 33 1 u7 L.length (L.map pv) :: l) (d x) i wr) (fun i _ => 17 - (intOf i).toNat)
        case atStart => exact ⟨0, rfl, by omega, H0⟩
        case round =>
          obtain ⟨k, rfl, hk, H'⟩ := hrel.out
          clear H0 hrel
          have H := H'
          clear H'
          have hr := HR.out (OwnT 33 1 u7 L.length (L.map pv) :: l) (fun x hx => List.mem_cons_of_mem _ hx) x k (by omega) (by omega)
          by_cases hlt : k < d x
          · have HRX := Lib.hid (show reachF (edgesOf c) x k t = false by
              rw [reach_iff HD.out.2.2.2.2 HD.out.1 (by omega)]
              simp; omega)
            go_wp2_with (first
              | go_skip
              | ((with_reducible refine AnsH.call (by assumption) H ?_); clear H; intro _ H)
              | ((with_reducible show wpList _ _ _ (_ :: _) _ _); (with_reducible apply wpl_indexBool); (· rfl); (· rfl); (· rfl); (· exact ht17); (rw [HRX.out]); (simp only [Act.put, List.setIfInBounds_toArray, List.set_cons_zero, List.set_cons_succ])))
            refine ⟨?_, ?_⟩
            · exact ⟨⟨k + 1, by go_num, by omega, H⟩⟩
            · simp [intOf]; omega
          · obtain rfl : k = d x := by omega
            have HRX := Lib.hid (show reachF (edgesOf c) x (d x) t = true by
              rw [reach_iff HD.out.2.2.2.2 HD.out.1 (by omega)]
              simp)
            have hw1 : wrap64 ((d x : Int) - 1) = (d x : Int) - 1 := IntWalk.wrap64_in _ ⟨by omega, by omega⟩
            go_wp2_with (first
              | go_skip
              | ((with_reducible refine AnsH.call (by assumption) H ?_); clear H; intro _ H)
              | ((with_reducible show wpList _ _ _ (_ :: _) _ _); (with_reducible apply wpl_indexBool); (· rfl); (· rfl); (· rfl); (· exact ht17); (rw [HRX.out]); (simp only [Act.put, List.setIfInBounds_toArray, List.set_cons_zero, List.set_cons_succ])))
            clear hr
            have hnx := HD.out.1.next hdx hxt
            have H0 := H
            clear H
            go_loopw [1, 9] (fun i j wr => RsC W (OwnT 33 1 u7 L.length (L.map pv) :: l) c x d i j wr) (fun _ j _ => 17 - (intOf j).toNat)
            case atStart => exact ⟨1, rfl, rfl, by omega, by omega, (fun q h1 h2 => by omega), H0⟩
            case round =>
              obtain ⟨k, rfl, rfl, hk1, hk17, hno, H'⟩ := hrel.out
              clear H0 hrel
              have H := H'
              clear H'
              by_cases hlt : k < 17
              · have g16 : decide ((k : Int) ≤ 16) = true := by simp; omega
                have hcap := HC.out (OwnT 33 1 u7 L.length (L.map pv) :: l) (fun x hx => List.mem_cons_of_mem _ hx) x k (by omega) (by omega)
                by_cases hA : 0 < c x k
                · have c1 : decide (c x k > 0) = true := by simpa using hA
                  have hA2 : edge c x k = true := HD.out.2.2.2.2.edge.2 hA
                  have hstep := HD.out.1.step x k hA2
                  have hr2 : AnsH W (OwnT 33 1 u7 L.length (L.map pv) :: l) 65 #[.pointer (some ⟨p, 0, none⟩), .int .u8 (k : Int), .int .i64 ((d x : Int) - 1)] (.agg (boolT (reachF (edgesOf c) k (d x - 1)))) := by
                    have := HR.out (OwnT 33 1 u7 L.length (L.map pv) :: l) (fun x hx => List.mem_cons_of_mem _ hx) k (d x - 1) (by omega) (by omega)
                    rwa [show ((d x - 1 : Nat) : Int) = (d x : Int) - 1 by omega] at this
                  by_cases hg : d k + 1 = d x
                  · have HRK := Lib.hid (show reachF (edgesOf c) k (d x - 1) t = true by
                      rw [reach_iff HD.out.2.2.2.2 HD.out.1 (by omega)]
                      simp; omega)
                    have HN := Lib.hid (⟨hk1, by omega, ⟨hg, hA2⟩, hno⟩ : IsNext (edge c) d x k)
                    have HG := Lib.hid hg
                    clear hno hnx hg hA hA2
                    go_wp2_with (first
                      | go_skip
                      | ((with_reducible refine AnsH.call (by assumption) H ?_); clear H; intro _ H)
                      | ((with_reducible show wpList _ _ _ (_ :: _) _ _); (with_reducible apply wpl_indexBool); (· rfl); (· rfl); (· rfl); (· exact ht17); (rw [HRK.out]); (simp only [Act.put, List.setIfInBounds_toArray, List.set_cons_zero, List.set_cons_succ]))
                      | ((with_reducible show wpList _ _ _ (_ :: _) _ _); (with_reducible apply wpl_bsOnes _ [.int .u8 (k : Int)]); (· rfl); (· rfl); (· rfl); (· decide); (· decide); (· exact pv_ones k); (· exact bs_party); (· rfl); (· exact H); (clear H; intro pk _ H); (simp only [Act.put, List.setIfInBounds_toArray, List.set_cons_zero, List.set_cons_succ]))
                      | ((with_reducible show wpList _ _ _ (_ :: _) _ _); (with_reducible apply wpl_appendO slP); (· rfl); (· rfl); (· rfl); (· rfl); (· exact H.perm (.swap _ _ _)); (· exact H.celRd List.mem_cons_self); (· rfl); (· exact pv_one k); (· exact hLb); (· exact hLb2); (clear H; intro v2 _ H); (simp only [Act.put, List.setIfInBounds_toArray, List.set_cons_zero, List.set_cons_succ])))
                    go_roundg (d k)
                    case measure => have := HG.out; omega
                    case rel =>
                      refine ⟨⟨k, L ++ [k], rfl, by have := HG.out; omega, Nat.le_refl _, HW.out.snoc HN.out, ?_⟩⟩
                      rw [List.length_append, List.map_append]
                      exact H.drop (.there .here)
                  · have HRK := Lib.hid (show reachF (edgesOf c) k (d x - 1) t = false by
                      rw [reach_iff HD.out.2.2.2.2 HD.out.1 (by omega)]
                      simp; omega)
                    have HN := Lib.hid (show ∀ q, 1 ≤ q → q < k + 1 → ¬ GoodP (edge c) d x q from fun q h1 h2 => by
                      by_cases e : q = k
                      · subst e; intro hG; exact hg hG.1
                      · exact hno q h1 (by omega))
                    clear hno hnx hg hA hA2
                    go_wp2_with (first
                      | go_skip
                      | ((with_reducible refine AnsH.call (by assumption) H ?_); clear H; intro _ H)
                      | ((with_reducible show wpList _ _ _ (_ :: _) _ _); (with_reducible apply wpl_indexBool); (· rfl); (· rfl); (· rfl); (· exact ht17); (rw [HRK.out]); (simp only [Act.put, List.setIfInBounds_toArray, List.set_cons_zero, List.set_cons_succ])))
                    refine ⟨?_, ?_⟩
                    · exact ⟨⟨k + 1, rfl, by go_num, by omega, by omega, HN.out, H⟩⟩
                    · simp [intOf]; omega
                · have c1 : decide (c x k > 0) = false := by simpa using hA
                  have HN := Lib.hid (show ∀ q, 1 ≤ q → q < k + 1 → ¬ GoodP (edge c) d x q from fun q h1 h2 => by
                    by_cases e : q = k
                    · subst e; intro hG; exact hA (HD.out.2.2.2.2.edge.1 hG.2)
                    · exact hno q h1 (by omega))
                  clear hno hnx hA
                  go_wp2_with (first | go_skip | ((with_reducible refine AnsH.call (by assumption) H ?_); clear H; intro _ H))
                  refine ⟨?_, ?_⟩
                  · exact ⟨⟨k + 1, rfl, by go_num, by omega, by omega, HN.out, H⟩⟩
                  · simp [intOf]; omega
              · exact absurd (fun q h1 h2 => hno q h1 (by omega)) hnx
end
end Go.Proofs.Ytglehneaphigdaa

/- Flows: plain laws of the chapter's route, with no program in sight. -/
namespace Go.Proofs.Ytglehneaphigdaa
open Go.RowKit
set_option linter.unusedSimpArgs false
set_option linter.unusedVariables false
/-- Two parties one behind the other in a list. -/
def prB : List Nat → Nat → Nat → Bool
  | a :: b :: L, x, y => (decide (a = x) && decide (b = y)) || prB (b :: L) x y
  | _, _, _ => false
def mnW (c : Caps) : List Nat → Int → Int
  | a :: b :: L, n => mnW c (b :: L) (min n (c a b))
  | _, n => n
def psW : Caps → List Nat → Int → Caps
  | c, a :: b :: L, m => psW (pushT c a b m) (b :: L) m
  | c, _, _ => c
def flW : List Nat → Int → List Flw
  | a :: b :: L, m => ⟨a, b, m⟩ :: flW (b :: L) m
  | _, _ => []
theorem prB_cons {a b x y : Nat} {L : List Nat} : prB (a :: b :: L) x y = true ↔ (a = x ∧ b = y) ∨ prB (b :: L) x y = true := by
  rw [prB]
  simp
theorem prB_at : ∀ {L : List Nat} {x y : Nat}, prB L x y = true → ∃ i, L[i]? = some x ∧ L[i + 1]? = some y
  | [], _, _, h => by simp [prB] at h
  | [_], _, _, h => by simp [prB] at h
  | a :: b :: L, x, y, h => by
    rcases prB_cons.1 h with ⟨rfl, rfl⟩ | h
    · exact ⟨0, rfl, rfl⟩
    · obtain ⟨i, h1, h2⟩ := prB_at h
      exact ⟨i + 1, by simpa using h1, by simpa using h2⟩
theorem mnW_le (c : Caps) : ∀ (L : List Nat) (n : Int), mnW c L n ≤ n
  | [], n => by simp [mnW]
  | [_], n => by simp [mnW]
  | a :: b :: L, n => by
    rw [mnW]
    have := mnW_le c (b :: L) (min n (c a b))
    omega
theorem mnW_fit (c : Caps) : ∀ (L : List Nat) (n : Int) {x y : Nat}, prB L x y = true → mnW c L n ≤ c x y
  | [], _, _, _, h => by simp [prB] at h
  | [_], _, _, _, h => by simp [prB] at h
  | a :: b :: L, n, x, y, h => by
    rw [mnW]
    rcases prB_cons.1 h with ⟨rfl, rfl⟩ | h
    · have := mnW_le c (b :: L) (min n (c a b))
      omega
    · exact mnW_fit c (b :: L) _ h
theorem mnW_pos (c : Caps) : ∀ (L : List Nat) (n : Int), 0 < n → (∀ x y, prB L x y = true → 0 < c x y) → 0 < mnW c L n
  | [], n, h, _ => by simpa [mnW] using h
  | [_], n, h, _ => by simpa [mnW] using h
  | a :: b :: L, n, h, hp => by
    rw [mnW]
    have := hp a b (prB_cons.2 (.inl ⟨rfl, rfl⟩))
    exact mnW_pos c (b :: L) _ (by omega) fun x y h => hp x y (prB_cons.2 (.inr h))
theorem mnW_hit (c : Caps) : ∀ (L : List Nat) (n : Int), mnW c L n = n ∨ ∃ x y, prB L x y = true ∧ c x y = mnW c L n
  | [], n => .inl (by simp [mnW])
  | [_], n => .inl (by simp [mnW])
  | a :: b :: L, n => by
    rw [mnW]
    rcases mnW_hit c (b :: L) (min n (c a b)) with h | ⟨x, y, h1, h2⟩
    · by_cases e : n ≤ c a b
      · exact .inl (by rw [h]; omega)
      · exact .inr ⟨a, b, prB_cons.2 (.inl ⟨rfl, rfl⟩), by rw [h]; omega⟩
    · exact .inr ⟨x, y, prB_cons.2 (.inr h1), h2⟩
theorem flW_len : ∀ (L : List Nat) (m : Int), (flW L m).length = L.length - 1
  | [], m => rfl
  | [_], m => rfl
  | a :: b :: L, m => by rw [flW, List.length_cons, flW_len (b :: L) m]; simp
/-- Each one is one nearer. -/
def Drop1 (d : Nat → Nat) (L : List Nat) : Prop := ∀ x y, prB L x y = true → d y + 1 = d x
theorem Drop1.tail {d : Nat → Nat} {a b : Nat} {L : List Nat} (h : Drop1 d (a :: b :: L)) : d b + 1 = d a ∧ Drop1 d (b :: L) :=
  ⟨h a b (prB_cons.2 (.inl ⟨rfl, rfl⟩)), fun x y hp => h x y (prB_cons.2 (.inr hp))⟩
theorem Drop1.near {d : Nat → Nat} : ∀ {L : List Nat} {b x y : Nat}, Drop1 d (b :: L) → prB (b :: L) x y = true → d x ≤ d b
  | [], _, _, _, _, h => by simp [prB] at h
  | e :: L, b, x, y, hd, h => by
    rcases prB_cons.1 h with ⟨rfl, rfl⟩ | h
    · exact Nat.le_refl _
    · have := hd.tail
      have := Drop1.near this.2 h
      omega
theorem pushT_ok {c : Caps} {a b : Nat} {m : Int} (h1 : 1 ≤ m) (h2 : m ≤ c a b) (hne : a ≠ b) : pushT c a b m = upd2 (upd2 c a b (c a b - m)) b a (c b a + m) := by
  unfold pushT
  rw [if_neg (by omega), pushC_eq hne]
theorem pushT_at {c : Caps} {a b : Nat} {m : Int} (h1 : 1 ≤ m) (h2 : m ≤ c a b) (hne : a ≠ b) (x y : Nat) : pushT c a b m x y = c x y - (if a = x ∧ b = y then m else 0) + (if a = y ∧ b = x then m else 0) := by
  rw [pushT_ok h1 h2 hne]
  unfold upd2
  by_cases e1 : x = b ∧ y = a
  · obtain ⟨rfl, rfl⟩ := e1
    rw [if_pos ⟨rfl, rfl⟩, if_neg (fun e => hne e.1), if_pos ⟨rfl, rfl⟩]
    omega
  · rw [if_neg e1, if_neg (c := a = y ∧ b = x) (fun e => e1 ⟨e.2.symm, e.1.symm⟩)]
    by_cases e2 : x = a ∧ y = b
    · obtain ⟨rfl, rfl⟩ := e2
      rw [if_pos ⟨rfl, rfl⟩, if_pos ⟨rfl, rfl⟩]
      omega
    · rw [if_neg e2, if_neg (fun e => e2 ⟨e.1.symm, e.2.symm⟩)]
      omega
theorem psW_at {d : Nat → Nat} {m : Int} (h1 : 1 ≤ m) : ∀ (L : List Nat) (c : Caps), Drop1 d L → (∀ x y, prB L x y = true → m ≤ c x y) → ∀ x y, psW c L m x y = c x y - (if prB L x y = true then m else 0) + (if prB L y x = true then m else 0)
  | [], c, _, _, x, y => by simp [psW, prB]
  | [_], c, _, _, x, y => by simp [psW, prB]
  | a :: b :: L, c, hd, hf, x, y => by
    have ht := hd.tail
    have hab := hf a b (prB_cons.2 (.inl ⟨rfl, rfl⟩))
    have hne : a ≠ b := fun e => by rw [e] at ht; omega
    have hoff : ∀ u v, prB (b :: L) u v = true → ¬ (a = u ∧ b = v) ∧ ¬ (a = v ∧ b = u) := fun u v hp => by
      have h3 := Drop1.near ht.2 hp
      have h4 := ht.2 u v hp
      refine ⟨fun e => ?_, fun e => ?_⟩
      · rw [← e.1] at h3; omega
      · rw [← e.1, ← e.2] at h4; omega
    rw [psW, psW_at h1 (b :: L) _ ht.2 (fun u v hp => by
      rw [pushT_at h1 hab hne, if_neg (hoff u v hp).1, if_neg (hoff u v hp).2]
      have := hf u v (prB_cons.2 (.inr hp))
      omega), pushT_at h1 hab hne]
    have k1 : (if prB (a :: b :: L) x y = true then m else 0) = (if a = x ∧ b = y then m else 0) + (if prB (b :: L) x y = true then m else 0) := by
      by_cases e : prB (b :: L) x y = true
      · rw [if_pos (prB_cons.2 (.inr e)), if_neg (hoff x y e).1, if_pos e]; omega
      · by_cases e2 : a = x ∧ b = y
        · rw [if_pos (prB_cons.2 (.inl e2)), if_pos e2, if_neg e]; omega
        · rw [if_neg (fun h => (prB_cons.1 h).elim e2 e), if_neg e2, if_neg e]; omega
    have k2 : (if prB (a :: b :: L) y x = true then m else 0) = (if a = y ∧ b = x then m else 0) + (if prB (b :: L) y x = true then m else 0) := by
      by_cases e : prB (b :: L) y x = true
      · rw [if_pos (prB_cons.2 (.inr e)), if_neg (hoff y x e).1, if_pos e]; omega
      · by_cases e2 : a = y ∧ b = x
        · rw [if_pos (prB_cons.2 (.inl e2)), if_pos e2, if_neg e]; omega
        · rw [if_neg (fun h => (prB_cons.1 h).elim e2 e), if_neg e2, if_neg e]; omega
    rw [k1, k2]
    omega
theorem psW_play : ∀ (L : List Nat) (c : Caps) (m : Int), PlayC c → PlayC (psW c L m)
  | [], c, m, h => h
  | [_], c, m, h => h
  | a :: b :: L, c, m, h => psW_play (b :: L) _ m (h.push a b m)
/-- A shortest way that is found, in pairs. -/
structure WayP (c : Caps) (f t : Nat) (d : Nat → Nat) (L : List Nat) : Prop where
  dist : IsDist (edge c) t d
  fin : d f < 17
  drop : Drop1 d L
  cap : ∀ x y, prB L x y = true → 0 < c x y
  rng : ∀ x ∈ L, 1 ≤ x ∧ x ≤ 16
  len : L.length = d f + 1
  head : ∃ M, L = f :: M
  last : L[L.length - 1]? = some t
  ne : f ≠ t
theorem IsShort.way {c : Caps} {f t : Nat} {L : List Nat} (hg : GoodC c) (h : IsShort c f t L) (hL : L ≠ []) : ∃ d, WayP c f t d L := by
  rcases h with ⟨e, _⟩ | ⟨hf, ht, hne, d, hd, hlt, hw⟩
  · exact absurd e hL
  · refine ⟨d, hd, hlt, fun x y hp => ?_, fun x y hp => ?_, fun x hx => ?_, hw.len, ?_, hw.last, hne⟩
    · obtain ⟨i, h1, h2⟩ := prB_at hp
      exact (hw.steps i x y h1 h2).good.1
    · obtain ⟨i, h1, h2⟩ := prB_at hp
      have := (hw.steps i x y h1 h2).good.2
      unfold edge at this
      rw [hg.capOf] at this
      simpa using this
    · obtain ⟨i, hi⟩ := List.mem_iff_getElem?.1 hx
      rcases Nat.eq_zero_or_pos i with rfl | hpos
      · rw [hw.head] at hi
        cases hi
        have := mayP_true hf
        exact ⟨this.1, this.2⟩
      · have hlt2 : i < L.length := by
          apply Classical.byContradiction
          intro hn
          rw [List.getElem?_eq_none (by omega)] at hi
          cases hi
        have h1 : L[i - 1]? = some (L[i - 1]'(by omega)) := List.getElem?_eq_getElem _
        have hs := hw.steps (i - 1) _ x h1 (by rw [show i - 1 + 1 = i by omega]; exact hi)
        exact ⟨hs.ge, hs.le⟩
    · cases L with
      | nil => exact absurd rfl hL
      | cons x M =>
        have := hw.head
        simp at this
        exact ⟨M, by rw [this]⟩
/-- The rounds of a route: behind k of them these capacities, so much still wanted, these pushes. -/
inductive Tr (f t : Nat) (c0 : Caps) (n0 : Int) : Nat → Caps → Int → List Flw → Prop
  | nil : Tr f t c0 n0 0 c0 n0 []
  | snoc {k : Nat} {c : Caps} {n : Int} {P : List Flw} {L : List Nat} : Tr f t c0 n0 k c n P → 0 < n → IsShort c f t L → L ≠ [] → Tr f t c0 n0 (k + 1) (psW c L (mnW c L n)) (n - mnW c L n) (P ++ flW L (mnW c L n))
section
variable {f t : Nat} {c0 : Caps} {n0 : Int}
theorem Tr.det : ∀ (k : Nat) {c c' : Caps} {n n' : Int} {P P' : List Flw}, Tr f t c0 n0 k c n P → Tr f t c0 n0 k c' n' P' → c = c' ∧ n = n' ∧ P = P'
  | 0, _, _, _, _, _, _, .nil, .nil => ⟨rfl, rfl, rfl⟩
  | k + 1, _, _, _, _, _, _, .snoc h1 _ s1 _, .snoc h2 _ s2 _ => by
    obtain ⟨rfl, rfl, rfl⟩ := Tr.det k h1 h2
    obtain rfl := s1.eq s2
    exact ⟨rfl, rfl, rfl⟩
theorem Tr.pre {k' : Nat} {c' : Caps} {n' : Int} {P' : List Flw} (h : Tr f t c0 n0 k' c' n' P') : ∀ k, k < k' → ∃ c n P L, Tr f t c0 n0 k c n P ∧ 0 < n ∧ IsShort c f t L ∧ L ≠ [] := by
  induction h with
  | nil => intro k hk; omega
  | @snoc k0 c n P L h h1 h2 h3 ih =>
    intro k hk
    by_cases e : k = k0
    · subst e; exact ⟨c, n, P, L, h, h1, h2, h3⟩
    · exact ih k (by omega)
theorem Tr.fin {k k' : Nat} {c c' : Caps} {n n' : Int} {P P' : List Flw} (h : Tr f t c0 n0 k c n P) (e : n ≤ 0 ∨ IsShort c f t []) (h' : Tr f t c0 n0 k' c' n' P') (e' : n' ≤ 0 ∨ IsShort c' f t []) : c = c' ∧ n = n' ∧ P = P' := by
  have key : ∀ {k k' : Nat} {c c' : Caps} {n n' : Int} {P P' : List Flw}, Tr f t c0 n0 k c n P → (n ≤ 0 ∨ IsShort c f t []) → Tr f t c0 n0 k' c' n' P' → ¬ k < k' := by
    intro k k' c c' n n' P P' h e h' hlt
    obtain ⟨c2, n2, P2, L, h2, hp, hs, hL⟩ := h'.pre k hlt
    obtain ⟨rfl, rfl, rfl⟩ := Tr.det k h h2
    rcases e with e | e
    · omega
    · exact hL (hs.eq e)
  have h1 := key h e h'
  have h2 := key h' e' h
  obtain rfl : k = k' := by omega
  exact Tr.det k h h'
theorem Tr.play (h0 : PlayC c0) {k : Nat} {c : Caps} {n : Int} {P : List Flw} (h : Tr f t c0 n0 k c n P) : PlayC c := by
  induction h with
  | nil => exact h0
  | snoc _ _ _ _ ih => exact psW_play _ _ _ ih
theorem Tr.le (h0 : PlayC c0) (hn0 : 0 ≤ n0) {k : Nat} {c : Caps} {n : Int} {P : List Flw} (h : Tr f t c0 n0 k c n P) : 0 ≤ n ∧ n ≤ n0 := by
  induction h with
  | nil => exact ⟨hn0, Int.le_refl _⟩
  | @snoc k c n P L h h1 h2 h3 ih =>
    have hp := h.play h0
    obtain ⟨d, hw⟩ := h2.way hp.good h3
    have := mnW_pos c L n h1 hw.cap
    have := mnW_le c L n
    omega
theorem Tr.top {k : Nat} {c : Caps} {n : Int} {P : List Flw} (h0 : PlayC c0) (h : Tr f t c0 n0 k c n P) : n ≤ n0 := by
  induction h with
  | nil => exact Int.le_refl _
  | @snoc k c n P L h h1 h2 h3 ih =>
    have hp := h.play h0
    obtain ⟨d, hw⟩ := h2.way hp.good h3
    have := mnW_pos c L n h1 hw.cap
    omega
end
end Go.Proofs.Ytglehneaphigdaa

/- Flows: how many rounds there are at most. -/
namespace Go.Proofs.Ytglehneaphigdaa
open Go.RowKit
set_option linter.unusedSimpArgs false
set_option linter.unusedVariables false
/-- All pairs of parties. -/
def prs : List (Nat × Nat) := (List.range 17).flatMap fun a => (List.range 17).map fun b => (a, b)
theorem prs_mem {a b : Nat} (ha : a < 17) (hb : b < 17) : (a, b) ∈ prs := by
  unfold prs
  rw [List.mem_flatMap]
  exact ⟨a, by simpa using ha, by simp [hb]⟩
theorem prs_len : prs.length = 289 := by decide +kernel
def tightB (c : Caps) (d : Nat → Nat) (p : Nat × Nat) : Bool := decide (0 < c p.1 p.2) && decide (d p.1 = d p.2 + 1)
def tight (c : Caps) (d : Nat → Nat) : Nat := prs.countP (tightB c d)
theorem tight_le (c : Caps) (d : Nat → Nat) : tight c d ≤ 289 := by
  rw [← prs_len]; exact List.countP_le_length
theorem countP_lt {α : Type} {p q : α → Bool} : ∀ {l : List α}, (∀ x ∈ l, p x = true → q x = true) → (∃ x ∈ l, q x = true ∧ p x = false) → l.countP p < l.countP q
  | [], _, h => by obtain ⟨x, hx, _⟩ := h; cases hx
  | y :: l, hm, h => by
    rw [List.countP_cons, List.countP_cons]
    have hle : l.countP p ≤ l.countP q := List.countP_mono_left fun x hx => hm x (List.mem_cons_of_mem _ hx)
    obtain ⟨x, hx, hq, hp⟩ := h
    rcases List.mem_cons.1 hx with rfl | hx
    · rw [hq, hp]; simp; omega
    · have := countP_lt (fun z hz => hm z (List.mem_cons_of_mem _ hz)) ⟨x, hx, hq, hp⟩
      have h2 := hm y List.mem_cons_self
      by_cases e : p y = true
      · rw [if_pos e, if_pos (h2 e)]; omega
      · rw [if_neg e]; split <;> omega
/-- A label that each edge lets fall by one at most; so many rounds are left. -/
def Pot (f t : Nat) (c : Caps) (N : Nat) : Prop := ∃ (d : Nat → Nat) (u : Nat), d t = 0 ∧ d f + u = 17 ∧ (∀ a b, 0 < c a b → d a ≤ d b + 1) ∧ u * 300 + tight c d ≤ N
theorem Pot.start (f t : Nat) (c : Caps) : Pot f t c 5389 := ⟨fun _ => 0, 17, rfl, rfl, fun _ _ _ => Nat.zero_le _, by have := tight_le c fun _ => 0; omega⟩
theorem IsDist.low {c : Caps} {t : Nat} {d e : Nat → Nat} (hg : GoodC c) (h : IsDist (edge c) t e) (ht : d t = 0) (hv : ∀ a b, 0 < c a b → d a ≤ d b + 1) : ∀ n p, e p = n → n < 17 → d p ≤ n := by
  intro n
  induction n with
  | zero =>
    intro p hp _
    rw [h.zero hp, ht]
    omega
  | succ n ih =>
    intro p hp hn
    by_cases e1 : p = t
    · subst e1; omega
    · obtain ⟨q, hA, hq⟩ := h.par p (by omega) e1
      unfold edge at hA
      rw [hg.capOf] at hA
      have := hv p q (by simpa using hA)
      have := ih q (by omega) (by omega)
      omega
theorem tight_way {c : Caps} {d e : Nat → Nat} (hv : ∀ a b, 0 < c a b → d a ≤ d b + 1) (hlow : ∀ p, e p < 17 → d p ≤ e p) : ∀ (L : List Nat) (a : Nat), Drop1 e (a :: L) → (∀ x y, prB (a :: L) x y = true → 0 < c x y) → e a < 17 → d a = e a → ∀ x y, prB (a :: L) x y = true → d x = e x ∧ d y = e y
  | [], _, _, _, _, _, _, _, h => by simp [prB] at h
  | b :: L, a, hd, hc, hlt, ha, x, y, h => by
    have ht := hd.tail
    have h1 := hv a b (hc a b (prB_cons.2 (.inl ⟨rfl, rfl⟩)))
    have h2 := hlow b (by omega)
    have hb : d b = e b := by omega
    rcases prB_cons.1 h with ⟨rfl, rfl⟩ | h
    · exact ⟨ha, hb⟩
    · exact tight_way hv hlow L b ht.2 (fun x y hp => hc x y (prB_cons.2 (.inr hp))) (by omega) hb x y h
/-- A push along a way, tight in d, of all that goes: d stays a label; one tight pair goes. -/
theorem push_label {c : Caps} {d : Nat → Nat} {L : List Nat} {m : Int} (h1 : 1 ≤ m) (hv : ∀ a b, 0 < c a b → d a ≤ d b + 1) (hd : Drop1 d L) (hf : ∀ x y, prB L x y = true → m ≤ c x y) : ∀ a b, 0 < psW c L m a b → d a ≤ d b + 1 := by
  intro a b h
  rw [psW_at h1 L c hd hf] at h
  by_cases e : prB L b a = true
  · have := hd b a e
    omega
  · rw [if_neg e] at h
    have : 0 < c a b := by split at h <;> omega
    exact hv a b this
theorem push_tight {c : Caps} {d : Nat → Nat} {L : List Nat} {m : Int} (h1 : 1 ≤ m) (hd : Drop1 d L) (hf : ∀ x y, prB L x y = true → m ≤ c x y) {x0 y0 : Nat} (h0 : prB L x0 y0 = true) (he : c x0 y0 = m) (hx : x0 < 17) (hy : y0 < 17) : tight (psW c L m) d < tight c d := by
  refine countP_lt ?_ ⟨(x0, y0), prs_mem hx hy, ?_, ?_⟩
  · rintro ⟨a, b⟩ _ h
    unfold tightB at h ⊢
    simp only [Bool.and_eq_true, decide_eq_true_eq] at h ⊢
    refine ⟨?_, h.2⟩
    have h3 := h.1
    rw [psW_at h1 L c hd hf] at h3
    have e : ¬ prB L b a = true := fun e => by have := hd b a e; omega
    rw [if_neg e] at h3
    split at h3 <;> omega
  · unfold tightB
    have := hd x0 y0 h0
    simp only [Bool.and_eq_true, decide_eq_true_eq]
    exact ⟨by omega, by omega⟩
  · unfold tightB
    have e : ¬ prB L y0 x0 = true := fun e => by have := hd y0 x0 e; have := hd x0 y0 h0; omega
    have : ¬ 0 < psW c L m x0 y0 := by
      rw [psW_at h1 L c hd hf, if_pos h0, if_neg e, he]
      omega
    simp [this]
theorem prB_mem : ∀ {L : List Nat} {x y : Nat}, prB L x y = true → x ∈ L ∧ y ∈ L
  | [], _, _, h => by simp [prB] at h
  | [_], _, _, h => by simp [prB] at h
  | a :: b :: L, x, y, h => by
    rcases prB_cons.1 h with ⟨rfl, rfl⟩ | h
    · exact ⟨List.mem_cons_self, List.mem_cons_of_mem _ List.mem_cons_self⟩
    · have := prB_mem h
      exact ⟨List.mem_cons_of_mem _ this.1, List.mem_cons_of_mem _ this.2⟩
/-- A round that does not end the route takes one of the rounds that are left. -/
theorem Pot.round {f t : Nat} {c : Caps} {N : Nat} {L : List Nat} {n : Int} (h : Pot f t c N) (hp : PlayC c) (hn : 0 < n) (hs : IsShort c f t L) (hL : L ≠ []) (hm : mnW c L n < n) : ∃ M, M + 1 ≤ N ∧ Pot f t (psW c L (mnW c L n)) M := by
  obtain ⟨d, u, ht, hdf, hv, hN⟩ := h
  obtain ⟨e, hw⟩ := hs.way hp.good hL
  have hpos := mnW_pos c L n hn hw.cap
  have hfit := fun x y => mnW_fit c L n (x := x) (y := y)
  obtain ⟨x0, y0, h0, he⟩ : ∃ x y, prB L x y = true ∧ c x y = mnW c L n := by
    rcases mnW_hit c L n with h | h
    · omega
    · exact h
  have hlow := fun p hp2 => IsDist.low hp.good hw.dist ht hv (e p) p rfl hp2
  have hx0 := hw.rng x0 (prB_mem h0).1
  have hy0 := hw.rng y0 (prB_mem h0).2
  have hfin := hw.fin
  have hdf2 := hlow f hfin
  generalize mnW c L n = m at *
  by_cases heq : d f = e f
  · obtain ⟨Lt, rfl⟩ := hw.head
    have htw := tight_way hv hlow Lt f hw.drop hw.cap hfin heq
    have hd : Drop1 d (f :: Lt) := fun x y hp2 => by
      have h1 := htw x y hp2
      have h2 := hw.drop x y hp2
      omega
    have hlt := push_tight (show 1 ≤ m by omega) hd hfit h0 he (by omega) (by omega)
    refine ⟨N - 1, by omega, d, u, ht, hdf, push_label (show 1 ≤ m by omega) hv hd hfit, by omega⟩
  · have hv2 : ∀ a b, 0 < c a b → e a ≤ e b + 1 := fun a b h => hw.dist.step a b (by unfold edge; rw [hp.good.capOf]; simpa using h)
    have hle := tight_le (psW c L m) e
    obtain ⟨v, hv3⟩ : ∃ v, e f + v = 17 := ⟨17 - e f, by omega⟩
    generalize ht1 : tight (psW c L m) e = T1 at hle
    generalize tight c d = T2 at hN
    have h5 : v + 1 ≤ u := by omega
    have h8 : v * 300 + T1 ≤ N - 1 ∧ N - 1 + 1 ≤ N := by
      clear ht1 hv hv2 hfit he h0 hlow hx0 hy0 hs hw hpos hm hn hv3 hdf hdf2 hfin heq
      omega
    have h9 := push_label (show 1 ≤ m by omega) hv2 hw.drop hfit
    exact ⟨N - 1, h8.2, e, v, hw.dist.top, hv3, h9, by rw [ht1]; exact h8.1⟩
theorem Tr.pot {f t : Nat} {c0 : Caps} {n0 : Int} (h0 : PlayC c0) {k : Nat} {c : Caps} {n : Int} {P : List Flw} (h : Tr f t c0 n0 k c n P) : (0 < n → ∃ N, N + k ≤ 5389 ∧ Pot f t c N) ∧ k ≤ 5390 ∧ P.length ≤ 16 * k := by
  induction h with
  | nil => exact ⟨fun _ => ⟨5389, by omega, Pot.start f t c0⟩, by omega, by simp⟩
  | @snoc k c n P L h h1 h2 h3 ih =>
    obtain ⟨N, hN, hpot⟩ := ih.1 h1
    have hp := h.play h0
    have hle := h2.le
    obtain ⟨N, hN, hpot⟩ := ih.1 h1
    refine ⟨fun hpos => ?_, by omega, ?_⟩
    · obtain ⟨M, hM, hq⟩ := hpot.round hp h1 h2 h3 (by omega)
      exact ⟨M, by omega, hq⟩
    · rw [List.length_append, flW_len]
      omega
end Go.Proofs.Ytglehneaphigdaa
