/- Part 10 of what several laws stand on: LedOrd, SortH, Led7, Led8, Led9, Led10, Led11, Led3, Led4. -/
import Derived.Test.YtgobnamhdkbbeaaPayGPart9
import Derived.Test.YtgobnamhdkbbeaaShelfL
import Derived.Laws.Externs
/- ledgers.order. -/
namespace Go.Proofs.Ytgobnamhdkbbeaa
open Go.RowKit Go.Sort
set_option linter.unusedSimpArgs false
set_option linter.unusedVariables false
set_option maxRecDepth 100000
set_option maxHeartbeats 1000000
theorem nanC_ans (x : Int) (w : World) : Calls Try.prog 130 #[.int .u8 x] w fun e w' => e = .returned (.bool false) ∧ w' = w := by
  go_enter Try.func130, Try.ntmps130
  go_wp2_with (go_skip)
  go_ret
  exact ⟨by simp, rfl⟩
theorem nanP_ans (x : Int) (w : World) : Calls Try.prog 112 #[.int .u8 x] w fun e w' => e = .returned (.bool false) ∧ w' = w := by
  go_enter Try.func112, Try.ntmps112
  go_wp2_with (go_skip)
  go_ret
  exact ⟨by simp, rfl⟩
theorem cmpC_ans (x y : Int) (w : World) : Calls Try.prog 106 #[.int .u8 x, .int .u8 y] w fun e w' => e = .returned (.int .i64 (Lib.compareInt x y)) ∧ w' = w := by
  have c1 := nanC_ans x
  have c2 := nanC_ans y
  have key : (x < y ∧ Lib.compareInt x y = -1) ∨ (¬ x < y ∧ y < x ∧ Lib.compareInt x y = 1) ∨ (¬ x < y ∧ ¬ y < x ∧ Lib.compareInt x y = 0) := by
    unfold Lib.compareInt
    by_cases h : x < y
    · exact .inl ⟨h, by rw [if_pos h]⟩
    · by_cases h2 : y < x
      · exact .inr (.inl ⟨h, h2, by rw [if_neg h, if_pos h2]⟩)
      · exact .inr (.inr ⟨h, h2, by rw [if_neg h, if_neg h2]⟩)
  rcases key with ⟨h, e⟩ | ⟨h, h2, e⟩ | ⟨h, h2, e⟩
  all_goals
    rw [e]
    clear e
    go_enter Try.func106, Try.ntmps106
    go_wp2_with (first | go_skip | ((refine (c1 _).mono ?_); rintro e w' ⟨rfl, rfl⟩) | ((refine (c2 _).mono ?_); rintro e w' ⟨rfl, rfl⟩))
    go_ret
    exact ⟨rfl, rfl⟩
theorem cmpP_ans (x y : Int) (w : World) : Calls Try.prog 85 #[.int .u8 x, .int .u8 y] w fun e w' => e = .returned (.int .i64 (Lib.compareInt x y)) ∧ w' = w := by
  have c1 := nanP_ans x
  have c2 := nanP_ans y
  have key : (x < y ∧ Lib.compareInt x y = -1) ∨ (¬ x < y ∧ y < x ∧ Lib.compareInt x y = 1) ∨ (¬ x < y ∧ ¬ y < x ∧ Lib.compareInt x y = 0) := by
    unfold Lib.compareInt
    by_cases h : x < y
    · exact .inl ⟨h, by rw [if_pos h]⟩
    · by_cases h2 : y < x
      · exact .inr (.inl ⟨h, h2, by rw [if_neg h, if_pos h2]⟩)
      · exact .inr (.inr ⟨h, h2, by rw [if_neg h, if_neg h2]⟩)
  rcases key with ⟨h, e⟩ | ⟨h, h2, e⟩ | ⟨h, h2, e⟩
  all_goals
    rw [e]
    clear e
    go_enter Try.func85, Try.ntmps85
    go_wp2_with (first | go_skip | ((refine (c1 _).mono ?_); rintro e w' ⟨rfl, rfl⟩) | ((refine (c2 _).mono ?_); rintro e w' ⟨rfl, rfl⟩))
    go_ret
    exact ⟨rfl, rfl⟩
theorem AnsG.same {f : FuncId} {args : Array Value} {v : Value} (h : ∀ w, Calls Try.prog f args w fun e w' => e = .returned v ∧ w' = w) : AnsG f args v := fun w => (h w).mono fun _ _ ⟨he, hw⟩ => ⟨he, hw ▸ Grw.refl _⟩
theorem order_ans (x y : Lin) : AnsG 74 #[.agg (line x.cr x.db x.cu x.lim x.deb), .agg (line y.cr y.db y.cu y.lim y.deb)] (.int .i64 (cfL x y)) := by
  intro w
  have hcf : cfL x y = orL [Lib.compareInt x.cu y.cu, Lib.compareInt x.cr y.cr, Lib.compareInt x.db y.db] := by
    unfold cfL or3 orL orL orL orL
    split <;> first | rfl | (split <;> first | rfl | (split <;> first | rfl | (simp_all)))
  rw [hcf]
  clear hcf
  have c1 := AnsG.same (cmpC_ans x.cu y.cu)
  have c2 := AnsG.same (cmpP_ans x.cr y.cr)
  have c3 := AnsG.same (cmpP_ans x.db y.db)
  obtain ⟨xr, xd, xu, xl, xe⟩ := x
  obtain ⟨yr, yd, yu, yl, ye⟩ := y
  simp only at c1 c2 c3 ⊢
  have h1 : blk ((w.alloc (.cells (line xr xd xu xl xe) 84)).alloc (.cells (line yr yd yu yl ye) 84)) w.heap.size = some (.cells (line xr xd xu xl xe) 84 (0, 0)) := by
    unfold blk
    rw [Below.heap_alloc _ _ _ (by simp)]
    exact heap_alloc_new w _
  have h2 : blk ((w.alloc (.cells (line xr xd xu xl xe) 84)).alloc (.cells (line yr yd yu yl ye) 84)) (w.heap.size + 1) = some (.cells (line yr yd yu yl ye) 84 (0, 0)) := by
    have := heap_alloc_new (w.alloc (.cells (line xr xd xu xl xe) 84)) (.cells (line yr yd yu yl ye) 84)
    simpa [blk] using this
  have hg : Grw w ((w.alloc (.cells (line xr xd xu xl xe) 84)).alloc (.cells (line yr yd yu yl ye) 84)) := ((Grw.refl w).alloc _).alloc _
  generalize Lib.compareInt xu yu = a at *
  generalize Lib.compareInt xr yr = b at *
  generalize Lib.compareInt xd yd = c at *
  generalize hw0 : ((w.alloc (.cells (line xr xd xu xl xe) 84)).alloc (.cells (line yr yd yu yl ye) 84)) = w0 at *
  have HW := Lib.hid hw0
  clear hw0
  go_enter Try.func74, Try.ntmps74
  go_wp2_with (go_skip)
  rw [HW.out]
  refine wp_region_G_tail 15 (by kernel_rfl) (by kernel_rfl) ?_
  simp only [List.take_succ_cons, List.take_zero, List.drop_succ_cons, List.drop_zero]
  repeat (first
    | go_big_quiet_skip
    | ((with_reducible apply wpQ_loadCG); (· first | exact cell_party | exact cell_cur); (· rfl); (· rfl); (· first | exact h1 | exact h2); (· with_reducible first | exact line_g0 .. | exact line_g1 .. | exact line_g2 ..); (simp only [Act.put, List.setIfInBounds_toArray, List.set_cons_zero, List.set_cons_succ]))
    | go_big_quiet_step (with_reducible exact AnsG.quiet (by assumption)))
  refine wpQuiet_nil ?_
  clear h1 h2
  intro w1 g1
  have g2 := hg.trans g1
  go_wp2_with (go_skip)
  have hb : Rd (w1.alloc (.cells #[.int .i64 a, .int .i64 b, .int .i64 c] 3)) (some ⟨w1.heap.size, 0, none⟩) ([a, b, c].map (Value.int .i64)) := by
    intro i hi
    refine ⟨_, _, rfl, ?_⟩
    rw [cell_of_row _ _ (0 + i) _ _ _ (heap_alloc_new w1 _)]
    simp at hi
    simp [hi]
  refine (or_C _ 3 3 [a, b, c] rfl (by omega) _ hb).mono ?_
  clear hb
  rintro e w' ⟨rfl, rfl⟩
  go_wp2_with (go_skip)
  go_ret
  exact ⟨rfl, g2.alloc _⟩
end Go.Proofs.Ytgobnamhdkbbeaa

/- A row of structs put in order, as a thing. -/
namespace Go.Proofs.Ytgobnamhdkbbeaa
open Go.RowKit Go.Sort
set_option linter.unusedVariables false
set_option linter.unusedSimpArgs false
section
variable {W w : World} {l : List Thing} {g n c : Nat} {e : TypeId} {cur F : Array Value}
theorem putRow_at (h : w.heap[g]? = some (.cells cur e (0, 0))) (F : Array Value) : (putRow id w g 0 F).heap[g]? = some (.cells (putCells id 0 F cur) e (0, 0)) := by
  simp [putRow, mapBlock, Array.getElem?_modify, h, onCells]
theorem putRow_else {k : Nat} (h : k ≠ g) (F : Array Value) : (putRow id w g 0 F).heap[k]? = w.heap[k]? := by
  simp [putRow, mapBlock, Array.getElem?_modify, Ne.symm h]
theorem putCells_take (hF : F.size ≤ cur.size) : (putCells id 0 F cur).toList.take F.size = F.toList := by
  apply List.ext_getElem?
  intro i
  rw [List.getElem?_take]
  by_cases hi : i < F.size
  · rw [if_pos hi]
    have h1 : i < cur.size := by omega
    simp [putCells, h1, hi]
  · rw [if_neg hi]
    simp [hi]
theorem sort_grown {α : Type} [Inhabited α] (enc : α → List Value) (k m : Nat) (d' : Array α) (os : Array Obj) : w.grownBy (sortWorldK enc k w g 0 m d' os) (some g) := by
  refine ⟨rfl, rfl, rfl, size_sortWorldK_c enc k w g 0 m d' os, fun j hj hne => ?_⟩
  have hne : j ≠ g := fun h => hne (by rw [h])
  unfold sortWorldK
  rw [heap_grow_old _ _ (by simpa [putRowK, putRow, mapBlock, Sort.ahead] using hj)]
  unfold putRowK
  rw [putRow_else hne]
  rfl
theorem sort_holds {L : List Lin} (h : (Sl g e 5 n c (linL L)).ok w) (hn : L.length = n) : HoldsK linV 5 w g 0 L.toArray := by
  obtain ⟨_, ⟨h1, _⟩ | ⟨g', cap, cur, h1, _, hh, _, _, _, ht⟩⟩ := h
  · cases h1
  · cases h1
    unfold HoldsK
    rw [flatK_lin]
    intro j hj
    have hj' : j < (linL L).length := by simpa using hj
    have hj2 : j < cur.size := by
      have := congrArg List.length ht
      simp at this; omega
    have hc : cur[j]? = (linL L)[j]? := by
      rw [← ht, List.getElem?_take, if_pos (by have := linL_len L; omega)]
      simp
    refine ⟨?_, ?_⟩
    · simp only [World.cell?, Nat.zero_add, hh, if_true, hc]
      simp [hj', List.getElem?_eq_getElem]
    · simp [World.frozen?, hh]
theorem sort_after {L : List Lin} (h : (Sl g e 5 n c (linL L)).ok w) (hn : L.length = n) (m : Nat) (d' : Array Lin) (os : Array Obj) (hd : d'.size = n) : (Sl g e 5 n c (linL d'.toList)).ok (sortWorldK linV 5 w g 0 m d' os) := by
  obtain ⟨_, ⟨h1, _⟩ | ⟨g', cap, cur, h1, hg, hh, h2, h3, h4, ht⟩⟩ := h
  · cases h1
  · cases h1
    have hF : (flatK linV 5 d').size ≤ cur.size := by rw [size_flatK, h4, hd]; exact Nat.mul_le_mul_right 5 h2
    refine ⟨by rw [linL_len]; simp [hd], .inr ⟨g, c, putCells id 0 (flatK linV 5 d') cur, rfl, hg, ?_, h2, h3, ?_, ?_⟩⟩
    · unfold sortWorldK
      have hlt : g < w.heap.size := (Array.getElem?_eq_some_iff.1 hh).1
      rw [heap_grow_old _ _ (by simpa [putRowK, putRow, mapBlock, Sort.ahead] using hlt)]
      exact putRow_at hh _
    · simp [putCells, h4]
    · have := putCells_take hF
      rw [size_flatK, hd] at this
      rw [this, flatK_lin]
theorem sort_heap {L : List Lin} {S : Lgr} (H : Heap W (Sl g e 5 n c (linL L) :: l) w) (hn : L.length = n) (hp : L.Perm S.L) (G : S.Good) {m : Nat} {d' : Array Lin} {os : Array Obj} (h1 : PermIn 0 L.toArray.size L.toArray d') (h2 : SortedIn (ltOf cfL) 0 L.toArray.size d') :
    Heap W (Sl g e 5 n c (linL S.L) :: l) (sortWorldK linV 5 w g 0 m d' os) := by
  have hs := sorted_lines (d := L.toArray) G (by simpa using hp) h1 h2
  have hd : d'.size = n := by rw [h1.1]; simpa using hn
  have := sort_after (H.ok _ (List.mem_cons_self ..)) hn m d' os hd
  rw [hs] at this
  exact H.head (sort_grown linV 5 m d' os) this (.inl rfl)
theorem sl_lt {L : List Lin} (H : Heap W (Sl g e 5 n c (linL L) :: l) w) : g < w.heap.size := (H.fp _ (List.mem_cons_self ..) g rfl).2
end
end Go.Proofs.Ytgobnamhdkbbeaa

/- ledgers.Ledger: Lines. -/
namespace Go.Proofs.Ytgobnamhdkbbeaa
open Go.RowKit Go.Sort
set_option linter.unusedSimpArgs false
set_option linter.unusedVariables false
theorem slLin : SlTy Try.prog 65 84 5 24 (.agg (line 0 0 0 0 0)) := slTy_mk Try.underlying65 (by kernel_rfl) rfl (by decide)
theorem bs_line : Try.prog.underlying 65 = some (.slice 84) ∧ (Try.prog.info? 84).map (fun i => (i.size, i.zero.map Value.cells)) = some ((line 0 0 0 0 0).size, some (line 0 0 0 0 0)) ∧ 0 < (line 0 0 0 0 0).size ∧ (line 0 0 0 0 0).size ≤ 65536 := ⟨Try.underlying65, by kernel_rfl, by decide, by decide⟩
theorem line_one (a b c d e : Int) : OneCells (line a b c d e).toList := by
  intro u hu
  simp at hu
  rcases hu with rfl | rfl | rfl | rfl | rfl <;> rfl
section
variable {W w : World} {l : List Thing} {p q g n c : Nat} {L : List Lin} {S : Lgr}
theorem cmpLays_order (blk off size : Nat) (w : World) : CmpLays Try.prog 74 #[] linV 5 cfL blk off size w := fun m os dk hs x y => order_ans x y _
theorem lsort_H (H : Heap W (Sl g 84 5 n c (linL L) :: l) w) (hn : L.length = n) (hb : n ≤ 1000000) (hp : L.Perm S.L) (G : S.Good) :
    Calls Try.prog 73 #[.slice (some ⟨g, 0, none⟩) n c, .func (.func 74) #[] #[]] w fun e w' => e = .returned (.tuple #[]) ∧ Heap W (Sl g 84 5 n c (linL S.L) :: l) w' := by
  have hsz : L.toArray.size = n := by simpa using hn
  have eg : ∀ args w, (callFunc 74 args).run Try.prog w = .ok (.enter 74 args) w := enters_of Try.func74 (by kernel_rfl) rfl
  have hcon := AnyQ.slices_SortFunc Try.sortLine 5 Try.isAgg84 Try.sizeOf84 linV (fun _ => rfl) (fun x v hv => by simp [linV] at hv; rcases hv with rfl | rfl | rfl | rfl | rfl <;> rfl) cfL swoL 74 #[] g 0 c L.toArray w eg (cmpLays_order g 0 _ w) (sort_holds (H.ok _ List.mem_cons_self) hn) (sl_lt H) (by omega)
  change Calls Try.prog 73 _ _ _ at hcon
  rw [hsz] at hcon
  refine hcon.mono fun e w' ⟨he, d', k, os, h1, h2, hw⟩ => ⟨he, ?_⟩
  subst hw
  exact sort_heap H hn hp G (by rw [hsz]; exact h1) (by rw [hsz]; exact h2)
end
end Go.Proofs.Ytgobnamhdkbbeaa

/- ledgers.Ledger: Lines. -/
namespace Go.Proofs.Ytgobnamhdkbbeaa
open Go.RowKit
set_option linter.unusedSimpArgs false
set_option linter.unusedVariables false
theorem kvL_inj {x y : Lin} (h : kvL x = kvL y) : x = y := by
  obtain ⟨a, b, c, d, e⟩ := x
  obtain ⟨a', b', c', d', e'⟩ := y
  simp [kvL, keyL, valL] at h
  obtain ⟨⟨rfl, rfl, rfl⟩, rfl, rfl⟩ := h
  rfl
theorem perm_of_kv : ∀ {A B : List Lin}, (A.map kvL).Perm (B.map kvL) → A.Perm B := by
  intro A
  induction A with
  | nil => intro B h; have := h.length_eq; simp at this; rw [List.eq_nil_of_length_eq_zero this.symm]
  | cons x A ih =>
    intro B h
    have hx : kvL x ∈ B.map kvL := h.mem_iff.1 (List.mem_cons_self ..)
    obtain ⟨y, hy, e⟩ := List.mem_map.1 hx
    obtain rfl := kvL_inj e
    obtain ⟨s, t, rfl⟩ := List.append_of_mem hy
    have h2 : (kvL y :: A.map kvL).Perm (kvL y :: (s ++ t).map kvL) := by
      refine h.trans ?_
      rw [List.map_append, List.map_cons, List.map_append]
      exact List.perm_middle
    exact ((ih h2.cons_inv).cons y).trans List.perm_middle.symm
/-- A list that is told, in a row of its own. -/
def RowPost (W : World) (l : List Thing) (e size : Nat) (xs : List Value) (n : Nat) (r : Ending) (w' : World) : Prop :=
  ∃ g c, r = .returned (.slice (some ⟨g, 0, none⟩) n c) ∧ n ≤ c ∧ c ≤ maxLen ∧ Heap W (Sl g e size n c xs :: l) w'
structure LinesR (W : World) (l : List Thing) (P : List Int) (p q r : Nat) (es : Array MapEntry) (clock : Nat) (v : Value) (wr : World) : Prop where
  out : ∃ (done : List MapEntry) (D : List Lin) (g c c0 : Nat), done.Nodup ∧ (∀ y ∈ done, y ∈ es.toList) ∧ done.map kvOf = D.map kvL ∧ clock ≤ c0 ∧ v = .slice (some ⟨g, 0, none⟩) D.length c ∧
    Heap W (RowT 84 5 (.slice (some ⟨g, 0, none⟩) D.length c) D.length (linL D) :: IterX r q clock (done.map (fun e : MapEntry => e.born)).toArray c0 :: LdC p P (some q) :: MapX q es clock :: l) wr
def lenV : Value → Nat
  | .slice _ n _ => n
  | _ => 0
section
variable {W w : World} {l : List Thing} {p q : Nat} {S : Lgr}
theorem nodup_le {α : Type} : ∀ {A B : List α}, A.Nodup → (∀ x ∈ A, x ∈ B) → A.length ≤ B.length
  | [], _, _, _ => by simp
  | x :: A, B, h, hs => by
    obtain ⟨s, t, rfl⟩ := List.append_of_mem (hs x (List.mem_cons_self ..))
    have h1 := List.nodup_cons.1 h
    have := nodup_le (A := A) (B := s ++ t) h1.2 (fun y hy => by
      have := hs y (List.mem_cons_of_mem _ hy)
      simp only [List.mem_append, List.mem_cons] at this ⊢
      rcases this with h' | rfl | h'
      · exact .inl h'
      · exact absurd hy h1.1
      · exact .inr h')
    simp only [List.length_append, List.length_cons] at this ⊢
    omega
set_option maxRecDepth 100000
set_option maxHeartbeats 2000000
theorem llines_H (G : S.Good) (H : Heap W (LdC p S.P (some q) :: LdM q S.L :: l) w) : Calls Try.prog 32 #[.pointer (some ⟨p, 0, none⟩)] w fun e w' => RowPost W (LdC p S.P (some q) :: LdM q S.L :: l) 84 5 (linL S.L) S.L.length e w' := by
  have hlen := prs_len S.L
  have hfew := G.few
  have h1 : (prs S.L).length ≤ 65536 := by omega
  have h2 : 24 * (prs S.L).length ≤ 281474976710656 := by omega
  have h3 : (prs S.L).length ≤ maxLen := by unfold maxLen; omega
  have HG := Lib.hid G
  have HLEN := Lib.hid hlen
  have HFEW := Lib.hid hfew
  clear G hlen hfew
  go_enter Try.func32, Try.ntmps32
  go_wp2_with (first
    | go_skip
    | ((with_reducible apply lthere_call H); (· (repeat (first | (with_reducible exact List.mem_cons_self) | with_reducible apply List.mem_cons_of_mem))); (clear H; intro _ H))
    | ((with_reducible show wpList _ _ _ (_ :: _) _ _); (with_reducible apply wpl_loadCH); (· exact cell_map); (· rfl); (· rfl); (· exact H); (· (repeat (first | (with_reducible exact List.mem_cons_self) | with_reducible apply List.mem_cons_of_mem))); (· exact ledA_map _ _); (simp only [Act.put, List.setIfInBounds_toArray, List.set_cons_zero, List.set_cons_succ]))
    | ((with_reducible show wpList _ _ _ (_ :: _) _ _); (with_reducible apply wpl_lenM map_ty.und); (· rfl); (· rfl); (· exact H); (· (repeat (first | (with_reducible exact List.mem_cons_self) | with_reducible apply List.mem_cons_of_mem))); (simp only [Act.put, List.setIfInBounds_toArray, List.set_cons_zero, List.set_cons_succ]))
    | ((with_reducible show wpList _ _ _ (_ :: _) _ _); (with_reducible apply wpl_makeC slLin (n := 0) (m := (prs S.L).length)); (· rfl); (· rfl); (· rfl); (· rfl); (· exact Nat.zero_le _); (· exact h1); (· exact h2); (· exact H); (clear H; intro pm _ H); (simp only [Act.put, List.setIfInBounds_toArray, List.set_cons_zero, List.set_cons_succ]); (replace H := ((H.perm (.cons _ (.swap _ _ _))).pull (.there .here)).openM; obtain ⟨es, clock, hes, H⟩ := H))
    | ((with_reducible show wpList _ _ _ (_ :: _) _ _); (with_reducible apply wpl_rangeM map_ty.und); (· rfl); (· rfl); (· exact H); (· (repeat (first | (with_reducible exact List.mem_cons_self) | with_reducible apply List.mem_cons_of_mem))); (clear H; intro pr _ H); (simp only [Act.put, List.setIfInBounds_toArray, List.set_cons_zero, List.set_cons_succ]))
    | ((with_reducible show wpList _ _ _ (_ :: _) _ _); (with_reducible apply wpl_loadCH); (· exact cell_map); (· rfl); (· rfl); (· exact H); (· (repeat (first | (with_reducible exact List.mem_cons_self) | with_reducible apply List.mem_cons_of_mem))); (· exact ledA_map _ _); (simp only [Act.put, List.setIfInBounds_toArray, List.set_cons_zero, List.set_cons_succ])))
  replace H := ((H.pull (.there (.there .here))).celRowA (n := 0) (m := (prs S.L).length) (size := 5) (by rw [size_madeCells]) (Nat.zero_le _) h3)
  simp only [Nat.zero_mul, List.take_zero] at H
  replace H := H.perm (.cons _ (.cons _ (.swap _ _ _)))
  have hsz : es.size = S.L.length := hes.size.trans HLEN.out
  have H0 := H
  clear H
  go_loopw [3] (fun v wr => LinesR W l S.P p q pr es clock v wr) (fun v _ => es.size - lenV v)
  case atStart => exact ⟨[], [], pm, _, clock, .nil, (fun _ h => by cases h), rfl, Nat.le_refl _, rfl, H0⟩
  case round =>
    obtain ⟨done, D, g, c, c0, hnd, hin, hkv, hc0, rfl, H⟩ := hrel.out
    clear H0 hrel
    have hDl : D.length = done.length := by have := congrArg List.length hkv; simpa using this.symm
    have hle : done.length ≤ S.L.length := by
      have := nodup_le hnd hin
      have e : es.toList.length = es.size := by simp
      omega
    have hD1 : D.length + 1 ≤ maxLen := by have := HFEW.out; unfold maxLen; omega
    have hD2 : (D.length + 1) * 24 ≤ 140737488355328 := by have := HFEW.out; omega
    have HKV := Lib.hid hkv
    have HND := Lib.hid hnd
    have HIN := Lib.hid hin
    have HES := Lib.hid hes
    have HDL := Lib.hid hDl
    have HSZ := Lib.hid hsz
    clear hkv hnd hin hDl hsz hes
    go_wp2_with (first
      | go_skip
      | ((with_reducible show wpList _ _ _ (_ :: _) _ _); (with_reducible apply wpl_nextP); (· rfl); (· rfl); (· exact HES.out.st); (· exact hc0); (· exact HIN.out); (· exact HND.out); (· exact H); (· (repeat (first | (with_reducible exact List.mem_cons_self) | with_reducible apply List.mem_cons_of_mem))); (· (repeat (first | (with_reducible exact List.mem_cons_self) | with_reducible apply List.mem_cons_of_mem))); (· intro en; (repeat (first | (with_reducible exact Repl.here) | with_reducible apply Repl.there)))))
    refine ⟨fun hperm => ?_, fun en hen hnin w1 H1 hent => ?_⟩
    · have hp : D.Perm S.L := perm_of_kv (by rw [← HKV.out]; exact (hperm.map kvOf).trans HES.out.perm)
      have hDn : D.length = S.L.length := hp.length_eq
      have hb : D.length ≤ 1000000 := by have := HFEW.out; omega
      have HP := Lib.hid hp
      have HN := Lib.hid hDn
      clear hperm hp hDn
      (simp only [Act.put, List.setIfInBounds_toArray, List.set_cons_zero, List.set_cons_succ])
      go_wp2_with (go_skip)
      refine (lsort_H (g := g) (n := D.length) (c := c) (L := D) H rfl hb HP.out HG.out).mono ?_
      clear H
      rintro e w2 ⟨rfl, H⟩
      go_wp2_with (go_skip)
      go_ret
      replace H := (H.drop (.there .here)).pull (.there (.there .here))
      replace H := (H.shutM HES.out).perm (.swap _ _ _)
      replace H := H.perm (.cons _ (.swap _ _ _))
      obtain ⟨g', c', e', hn', hm'⟩ : ∃ g' c', Value.slice (some ⟨g, 0, none⟩) D.length c = .slice (some ⟨g', 0, none⟩) D.length c' ∧ D.length ≤ c' ∧ c' ≤ maxLen := by
        obtain ⟨_, ⟨h, _⟩ | ⟨g', cap, cur, h, _, _, h4, h5, _⟩⟩ := H.ok _ List.mem_cons_self
        · cases h
        · exact ⟨g', cap, h, h4, h5⟩
      simp only [Value.slice.injEq, Option.some.injEq, Addr.mk.injEq, true_and, and_true] at e'
      obtain ⟨rfl, rfl⟩ := e'
      rw [HN.out] at H hn' ⊢
      exact ⟨g, c, rfl, hn', hm', H⟩
    · have hm := HES.out.mem hen
      obtain ⟨x, hx, hkx⟩ := List.mem_map.1 hm
      have hk : en.key = keyL x.cr x.db x.cu := (congrArg Prod.fst hkx).symm
      have hv : en.val = valL x.lim x.deb := (congrArg Prod.snd hkx).symm
      rw [hk, hv] at hent
      rw [hk, hv]
      have HE := Lib.hid hent
      have HD2 := Lib.hid (show (done ++ [en]).map kvOf = (D ++ [x]).map kvL by rw [List.map_append, List.map_append, HKV.out]; congr 1; simp [kvOf, hkx])
      have HND2 := Lib.hid (show (done ++ [en]).Nodup by
        rw [List.nodup_append]
        refine ⟨HND.out, by simp, fun a ha b hb e => hnin ?_⟩
        obtain rfl : b = en := by simpa using hb
        exact e ▸ ha)
      have HIN2 := Lib.hid (show ∀ y ∈ done ++ [en], y ∈ es.toList from fun y hy => by
        rcases List.mem_append.1 hy with hy | hy
        · exact HIN.out y hy
        · obtain rfl : y = en := by simpa using hy
          exact hen)
      have HLT := Lib.hid (show D.length < es.size by
        have h1 := nodup_le HND2.out HIN2.out
        have e : es.toList.length = es.size := by simp
        rw [List.length_append] at h1
        have := HDL.out
        simp at h1; omega)
      clear hent hk hv hm hkx hx hnin H
      have H := H1
      clear H1
      (simp only [Act.put, List.setIfInBounds_toArray, List.set_cons_zero, List.set_cons_succ])
      go_wp2_with (first
        | ((with_reducible show wpList _ _ _ (_ :: _) _ _); (with_reducible apply wpl_appendH slLin); (· rfl); (· rfl); (· rfl); (· rfl); (· exact H.pull (.there (.there (.there .here)))); (· exact H.celRd List.mem_cons_self); (· rfl); (· exact line_one _ _ _ _ _); (· exact hD1); (· exact hD2); (clear H; intro v2 _ H); (simp only [Act.put, List.setIfInBounds_toArray, List.set_cons_zero, List.set_cons_succ]))
        | ((with_reducible show wpList _ _ _ (_ :: _) _ _); (with_reducible apply wpl_bsRH); (· rfl); (· rfl); (· exact bs_line); (· exact rfl); (· exact H); (clear H; intro pl _ H); (simp only [Act.put, List.setIfInBounds_toArray, List.set_cons_zero, List.set_cons_succ]))
        | go_skip
        | ((with_reducible show wpList _ _ _ (_ :: _) _ _); (with_reducible apply wpl_entryM); (· rfl); (· rfl); (· exact HE.out _ _ H (List.mem_cons_of_mem _ (List.mem_cons_of_mem _ (List.mem_cons_of_mem _ List.mem_cons_self))) (List.mem_cons_of_mem _ List.mem_cons_self)); (simp only [Act.put, List.setIfInBounds_toArray, List.set_cons_zero, List.set_cons_succ]))
        | ((with_reducible show wpList _ _ _ (_ :: _) _ _); (with_reducible apply wpl_allocRH row_ends); (· rfl); (· exact H); (clear H; intro pe _ H); (simp only [Act.put, List.setIfInBounds_toArray, List.set_cons_zero, List.set_cons_succ]))
        | ((with_reducible show wpList _ _ _ (_ :: _) _ _); (with_reducible apply wpl_allocRH row_owe); (· rfl); (· exact H); (clear H; intro po _ H); (simp only [Act.put, List.setIfInBounds_toArray, List.set_cons_zero, List.set_cons_succ]))
        | ((with_reducible show wpList _ _ _ (_ :: _) _ _); (with_reducible apply wpl_storeRH row_ends); (· rfl); (· rfl); (· rfl); (· with_reducible exact ends_cells ..); (· exact H); (· (repeat (first | (with_reducible exact List.mem_cons_self) | with_reducible apply List.mem_cons_of_mem))); (· (simp only [ends_sz, Nat.reduceAdd, Nat.reduceLeDiff, Nat.le_refl]; done)); (· with_reducible exact ends_splice ..); (· (repeat (first | (with_reducible exact Repl.here) | with_reducible apply Repl.there))); (clear H; intro _ H); (simp only [Act.put, List.setIfInBounds_toArray, List.set_cons_zero, List.set_cons_succ]))
        | ((with_reducible show wpList _ _ _ (_ :: _) _ _); (with_reducible apply wpl_storeRH row_owe); (· rfl); (· rfl); (· rfl); (· with_reducible exact owe_cells ..); (· exact H); (· (repeat (first | (with_reducible exact List.mem_cons_self) | with_reducible apply List.mem_cons_of_mem))); (· (simp only [owe_sz, Nat.reduceAdd, Nat.reduceLeDiff, Nat.le_refl]; done)); (· with_reducible exact owe_splice ..); (· (repeat (first | (with_reducible exact Repl.here) | with_reducible apply Repl.there))); (clear H; intro _ H); (simp only [Act.put, List.setIfInBounds_toArray, List.set_cons_zero, List.set_cons_succ]))
        | ((with_reducible show wpList _ _ _ (_ :: _) _ _); (with_reducible apply wpl_loadCH); (· first | exact cell_party | exact cell_cur | exact cell_i64); (· rfl); (· rfl); (· exact H); (· (repeat (first | (with_reducible exact List.mem_cons_self) | with_reducible apply List.mem_cons_of_mem))); (· (with_reducible first | exact ends_g0 .. | exact ends_g1 .. | exact ends_g2 .. | exact owe_g0 .. | exact owe_g1 ..)); (simp only [Act.put, List.setIfInBounds_toArray, List.set_cons_zero, List.set_cons_succ]))
        | ((with_reducible show wpList _ _ _ (_ :: _) _ _); (with_reducible apply wpl_bsRH); (· rfl); (· rfl); (· exact bs_line); (· exact rfl); (· exact H); (clear H; intro pl _ H); (simp only [Act.put, List.setIfInBounds_toArray, List.set_cons_zero, List.set_cons_succ])))
      replace H := ((H.drop (.there .here)).drop (.there .here)).drop (.there .here)
      obtain ⟨g2, c2, rfl, _, _⟩ := RowT.sl (H.ok _ List.mem_cons_self) (Nat.succ_pos _)
      have hapx : linL D ++ (line x.cr x.db x.cu x.lim x.deb).toList = linL (D ++ [x]) := by rw [linL_app]; simp [linL, linV]
      rw [hapx] at H
      have hlx : D.length + 1 = (D ++ [x]).length := by simp
      have HLX := Lib.hid hlx
      go_roundw
      case rel =>
        rw [HLX.out] at H ⊢
        exact ⟨⟨done ++ [en], D ++ [x], g2, c2, clock, HND2.out, HIN2.out, HD2.out, Nat.le_refl _, rfl, H⟩⟩
      case measure =>
        have := HLT.out
        simp only [lenV]
        omega
end
end Go.Proofs.Ytgobnamhdkbbeaa

/- ledgers.Ledger: Position, Total. -/
namespace Go.Proofs.Ytgobnamhdkbbeaa
open Go.RowKit
set_option linter.unusedSimpArgs false
set_option linter.unusedVariables false
theorem linL_get (L : List Lin) (k : Nat) (h : k < L.length) : (((linL L).drop (k * 5)).take 5).toArray = line L[k].cr L[k].db L[k].cu L[k].lim L[k].deb := linL_row L k h
theorem take_snoc {α : Type} (L : List α) (k : Nat) (h : k < L.length) : L.take (k + 1) = L.take k ++ [L[k]] := by simp
theorem Heap.untop2 {W w : World} {l r s : List Thing} {x y : Thing} (H : Heap W (x :: y :: s) w) (h1 : Pull l x r) (h2 : Pull r y s) : Heap W l w := H.perm ((h1.perm.trans (h2.perm.cons _)).symm)
structure SumR (W : World) (l : List Thing) (n : Nat) (f : Nat → Int) (v i : Value) (wr : World) : Prop where
  out : ∃ k : Nat, k ≤ n ∧ i = .int .i64 (k : Int) ∧ v = .int .i64 (f k) ∧ Heap W l wr
section
variable {W w : World} {l r s : List Thing} {p q : Nat} {S : Lgr}
set_option maxRecDepth 100000
set_option maxHeartbeats 2000000
theorem lpos_H (a c : Nat) (G : S.Good) (h1 : Pull l (LdC p S.P (some q)) r) (h2 : Pull r (LdM q S.L) s) : AnsH W l 76 #[.pointer (some ⟨p, 0, none⟩), .int .u8 (a : Int), .int .u8 (c : Int)] (.int .i64 (posL S.L a c)) := by
  intro w H
  have H := H.top2 h1 h2
  have HU := Lib.hid (And.intro h1 h2)
  have HG := Lib.hid G
  have HF := Lib.hid G.few
  clear G h1 h2
  go_enter Try.func76, Try.ntmps76
  go_wp2_with (go_skip)
  refine (llines_H HG.out H).mono ?_
  clear H
  rintro e w1 ⟨g, cc, rfl, hn, hm, H⟩
  clear hn hm
  generalize hL : S.L = L at *
  generalize hn : L.length = n at *
  have HN := Lib.hid hn
  have HLL := Lib.hid hL
  clear hn hL
  have H0 := H
  clear H
  go_wp2_with (go_skip)
  go_loopw [6, 12] (fun v i wr => SumR W (Sl g 84 5 n cc (linL L) :: LdC p S.P (some q) :: LdM q L :: s) n (fun k => posL (L.take k) a c) v i wr) (fun _ i _ => n - (intOf i).toNat)
  case atStart => exact ⟨0, Nat.zero_le _, rfl, rfl, H0⟩
  case round =>
    obtain ⟨k, hk, rfl, rfl, H⟩ := hrel.out
    clear H0 hrel
    by_cases hlt : k < n
    · have hkL : k < L.length := by rw [HN.out]; exact hlt
      have hlen : k * 5 + 5 ≤ (linL L).length := by rw [linL_len]; omega
      have hrow := linL_get L k hkL
      have htk := take_snoc L k hkL
      have hmem : L[k] ∈ S.L := by rw [HLL.out]; exact List.getElem_mem hkL
      have hdeb := HG.out.debs _ hmem
      have hok := HG.out.ok _ hmem
      have hbnd := posL_bound (L := L.take k) (fun x hx => HG.out.debs x (by rw [HLL.out]; exact List.mem_of_mem_take hx)) (a : Int) (c : Int)
      have hfew := HF.out
      have hlk : (L.take k).length = k := by simp; omega
      rw [hlk] at hbnd
      have hk64 : k ≤ 64 := by omega
      have HR := Lib.hid (H.slRd List.mem_cons_self)
      generalize L[k] = x at *
      obtain ⟨xr, xd, xu, xl, xe⟩ := x
      have hne := hok.ne
      simp only at hrow hdeb hne
      have hsn : posL (L.take (k + 1)) a c = posL (L.take k) a c + posX ⟨xr, xd, xu, xl, xe⟩ a c := by rw [htk, posL_snoc]
      have HSN := Lib.hid hsn
      generalize posL (L.take k) a c = s0 at *
      have hw1 : wrap64 (s0 + xe) = s0 + xe := IntWalk.wrap64_in _ ⟨by omega, by omega⟩
      have hw2 : wrap64 (s0 - xe) = s0 - xe := IntWalk.wrap64_in _ ⟨by omega, by omega⟩
      clear hsn htk hmem hok hbnd hfew hlk hdeb
      by_cases e1 : xu = c
      · by_cases e2 : xr = a
        · have b1 : (xu != (c : Int)) = false := by simpa using e1
          have b2 : (xr == (a : Int)) = true := by simpa using e2
          have HE := Lib.hid (show posL (L.take (k + 1)) a c = s0 + xe by rw [HSN.out]; unfold posX; simp only; rw [if_pos ⟨e1, e2⟩, if_neg (fun h => hne (e2.trans h.2.symm))]; omega)
          clear e1 e2 hne
          go_wp2_with (first
            | go_skip
            | ((with_reducible show wpList _ _ _ (_ :: _) _ _); (with_reducible apply wpl_loadRdR row_line); (· rfl); (· rfl); (· exact HR.out); (· exact (Nat.zero_add _).symm); (· exact hlen); (· decide); (· exact hrow); (simp only [Act.put, List.setIfInBounds_toArray, List.set_cons_zero, List.set_cons_succ]))
            | ((with_reducible show wpList _ _ _ (_ :: _) _ _); (with_reducible apply wpl_allocRH row_line); (· rfl); (· exact H); (clear H; intro px _ H); (simp only [Act.put, List.setIfInBounds_toArray, List.set_cons_zero, List.set_cons_succ]))
            | ((with_reducible show wpList _ _ _ (_ :: _) _ _); (with_reducible apply wpl_storeRH row_line); (· rfl); (· rfl); (· rfl); (· with_reducible exact line_cells ..); (· exact H); (· (repeat (first | (with_reducible exact List.mem_cons_self) | with_reducible apply List.mem_cons_of_mem))); (· (simp only [line_sz, Nat.reduceAdd, Nat.reduceLeDiff, Nat.le_refl]; done)); (· with_reducible exact line_splice ..); (· (repeat (first | (with_reducible exact Repl.here) | with_reducible apply Repl.there))); (clear H; intro _ H); (simp only [Act.put, List.setIfInBounds_toArray, List.set_cons_zero, List.set_cons_succ]))
            | ((with_reducible show wpList _ _ _ (_ :: _) _ _); (with_reducible apply wpl_loadCH); (· first | exact cell_party | exact cell_cur | exact cell_i64); (· rfl); (· rfl); (· exact H); (· (repeat (first | (with_reducible exact List.mem_cons_self) | with_reducible apply List.mem_cons_of_mem))); (· with_reducible first | exact line_g0 .. | exact line_g1 .. | exact line_g2 .. | exact line_g4 ..); (simp only [Act.put, List.setIfInBounds_toArray, List.set_cons_zero, List.set_cons_succ])))
          refine ⟨⟨k + 1, by omega, by go_num, by rw [HE.out]; first | rw [hw1] | rfl, H.tail⟩, ?measure⟩
          case measure => simp [intOf]; omega
        · by_cases e3 : xd = a
          · have b1 : (xu != (c : Int)) = false := by simpa using e1
            have b2 : (xr == (a : Int)) = false := by simpa using e2
            have b3 : (xd == (a : Int)) = true := by simpa using e3
            have HE := Lib.hid (show posL (L.take (k + 1)) a c = s0 - xe by rw [HSN.out]; unfold posX; simp only; rw [if_neg (fun h => e2 h.2), if_pos ⟨e1, e3⟩]; omega)
            clear e1 e2 e3 hne
            go_wp2_with (first
              | go_skip
              | ((with_reducible show wpList _ _ _ (_ :: _) _ _); (with_reducible apply wpl_loadRdR row_line); (· rfl); (· rfl); (· exact HR.out); (· exact (Nat.zero_add _).symm); (· exact hlen); (· decide); (· exact hrow); (simp only [Act.put, List.setIfInBounds_toArray, List.set_cons_zero, List.set_cons_succ]))
              | ((with_reducible show wpList _ _ _ (_ :: _) _ _); (with_reducible apply wpl_allocRH row_line); (· rfl); (· exact H); (clear H; intro px _ H); (simp only [Act.put, List.setIfInBounds_toArray, List.set_cons_zero, List.set_cons_succ]))
              | ((with_reducible show wpList _ _ _ (_ :: _) _ _); (with_reducible apply wpl_storeRH row_line); (· rfl); (· rfl); (· rfl); (· with_reducible exact line_cells ..); (· exact H); (· (repeat (first | (with_reducible exact List.mem_cons_self) | with_reducible apply List.mem_cons_of_mem))); (· (simp only [line_sz, Nat.reduceAdd, Nat.reduceLeDiff, Nat.le_refl]; done)); (· with_reducible exact line_splice ..); (· (repeat (first | (with_reducible exact Repl.here) | with_reducible apply Repl.there))); (clear H; intro _ H); (simp only [Act.put, List.setIfInBounds_toArray, List.set_cons_zero, List.set_cons_succ]))
              | ((with_reducible show wpList _ _ _ (_ :: _) _ _); (with_reducible apply wpl_loadCH); (· first | exact cell_party | exact cell_cur | exact cell_i64); (· rfl); (· rfl); (· exact H); (· (repeat (first | (with_reducible exact List.mem_cons_self) | with_reducible apply List.mem_cons_of_mem))); (· with_reducible first | exact line_g0 .. | exact line_g1 .. | exact line_g2 .. | exact line_g4 ..); (simp only [Act.put, List.setIfInBounds_toArray, List.set_cons_zero, List.set_cons_succ])))
            refine ⟨⟨k + 1, by omega, by go_num, by rw [HE.out]; first | rw [hw2] | rfl, H.tail⟩, ?measure2⟩
            case measure2 => simp [intOf]; omega
          · have b1 : (xu != (c : Int)) = false := by simpa using e1
            have b2 : (xr == (a : Int)) = false := by simpa using e2
            have b3 : (xd == (a : Int)) = false := by simpa using e3
            have HE := Lib.hid (show posL (L.take (k + 1)) a c = s0 by rw [HSN.out]; unfold posX; simp only; rw [if_neg (fun h => e2 h.2), if_neg (fun h => e3 h.2)]; omega)
            clear e1 e2 e3 hne
            go_wp2_with (first
              | go_skip
              | ((with_reducible show wpList _ _ _ (_ :: _) _ _); (with_reducible apply wpl_loadRdR row_line); (· rfl); (· rfl); (· exact HR.out); (· exact (Nat.zero_add _).symm); (· exact hlen); (· decide); (· exact hrow); (simp only [Act.put, List.setIfInBounds_toArray, List.set_cons_zero, List.set_cons_succ]))
              | ((with_reducible show wpList _ _ _ (_ :: _) _ _); (with_reducible apply wpl_allocRH row_line); (· rfl); (· exact H); (clear H; intro px _ H); (simp only [Act.put, List.setIfInBounds_toArray, List.set_cons_zero, List.set_cons_succ]))
              | ((with_reducible show wpList _ _ _ (_ :: _) _ _); (with_reducible apply wpl_storeRH row_line); (· rfl); (· rfl); (· rfl); (· with_reducible exact line_cells ..); (· exact H); (· (repeat (first | (with_reducible exact List.mem_cons_self) | with_reducible apply List.mem_cons_of_mem))); (· (simp only [line_sz, Nat.reduceAdd, Nat.reduceLeDiff, Nat.le_refl]; done)); (· with_reducible exact line_splice ..); (· (repeat (first | (with_reducible exact Repl.here) | with_reducible apply Repl.there))); (clear H; intro _ H); (simp only [Act.put, List.setIfInBounds_toArray, List.set_cons_zero, List.set_cons_succ]))
              | ((with_reducible show wpList _ _ _ (_ :: _) _ _); (with_reducible apply wpl_loadCH); (· first | exact cell_party | exact cell_cur | exact cell_i64); (· rfl); (· rfl); (· exact H); (· (repeat (first | (with_reducible exact List.mem_cons_self) | with_reducible apply List.mem_cons_of_mem))); (· with_reducible first | exact line_g0 .. | exact line_g1 .. | exact line_g2 .. | exact line_g4 ..); (simp only [Act.put, List.setIfInBounds_toArray, List.set_cons_zero, List.set_cons_succ])))
            refine ⟨⟨k + 1, by omega, by go_num, by rw [HE.out], H.tail⟩, ?measure3⟩
            case measure3 => simp [intOf]; omega
      · have b1 : (xu != (c : Int)) = true := by simpa using e1
        have HE := Lib.hid (show posL (L.take (k + 1)) a c = s0 by rw [HSN.out]; unfold posX; simp only; rw [if_neg (fun h => e1 h.1), if_neg (fun h => e1 h.1)]; omega)
        clear e1 hne
        go_wp2_with (first
          | go_skip
          | ((with_reducible show wpList _ _ _ (_ :: _) _ _); (with_reducible apply wpl_loadRdR row_line); (· rfl); (· rfl); (· exact HR.out); (· exact (Nat.zero_add _).symm); (· exact hlen); (· decide); (· exact hrow); (simp only [Act.put, List.setIfInBounds_toArray, List.set_cons_zero, List.set_cons_succ]))
          | ((with_reducible show wpList _ _ _ (_ :: _) _ _); (with_reducible apply wpl_allocRH row_line); (· rfl); (· exact H); (clear H; intro px _ H); (simp only [Act.put, List.setIfInBounds_toArray, List.set_cons_zero, List.set_cons_succ]))
          | ((with_reducible show wpList _ _ _ (_ :: _) _ _); (with_reducible apply wpl_storeRH row_line); (· rfl); (· rfl); (· rfl); (· with_reducible exact line_cells ..); (· exact H); (· (repeat (first | (with_reducible exact List.mem_cons_self) | with_reducible apply List.mem_cons_of_mem))); (· (simp only [line_sz, Nat.reduceAdd, Nat.reduceLeDiff, Nat.le_refl]; done)); (· with_reducible exact line_splice ..); (· (repeat (first | (with_reducible exact Repl.here) | with_reducible apply Repl.there))); (clear H; intro _ H); (simp only [Act.put, List.setIfInBounds_toArray, List.set_cons_zero, List.set_cons_succ]))
          | ((with_reducible show wpList _ _ _ (_ :: _) _ _); (with_reducible apply wpl_loadCH); (· first | exact cell_party | exact cell_cur | exact cell_i64); (· rfl); (· rfl); (· exact H); (· (repeat (first | (with_reducible exact List.mem_cons_self) | with_reducible apply List.mem_cons_of_mem))); (· with_reducible first | exact line_g0 .. | exact line_g1 .. | exact line_g2 .. | exact line_g4 ..); (simp only [Act.put, List.setIfInBounds_toArray, List.set_cons_zero, List.set_cons_succ])))
        refine ⟨⟨k + 1, by omega, by go_num, by rw [HE.out], H.tail⟩, ?measure4⟩
        case measure4 => simp [intOf]; omega
    · obtain rfl : k = n := by omega
      have HE := Lib.hid (show posL (L.take k) a c = posL L a c by rw [List.take_of_length_le (by rw [HN.out]; exact Nat.le_refl _)])
      go_wp2_with (go_skip)
      go_ret
      exact ⟨by rw [HLL.out, ← HE.out]; rfl, H.tail.untop2 HU.out.1 HU.out.2⟩
theorem ltot_H (c : Nat) (G : S.Good) (h1 : Pull l (LdC p S.P (some q)) r) (h2 : Pull r (LdM q S.L) s) : AnsH W l 45 #[.pointer (some ⟨p, 0, none⟩), .int .u8 (c : Int)] (.int .i64 (totL S.L c)) := by
  intro w H
  have H := H.top2 h1 h2
  have HU := Lib.hid (And.intro h1 h2)
  have HG := Lib.hid G
  have HF := Lib.hid G.few
  clear G h1 h2
  go_enter Try.func45, Try.ntmps45
  go_wp2_with (go_skip)
  refine (llines_H HG.out H).mono ?_
  clear H
  rintro e w1 ⟨g, cc, rfl, hn, hm, H⟩
  clear hn hm
  generalize hL : S.L = L at *
  generalize hn : L.length = n at *
  have HN := Lib.hid hn
  have HLL := Lib.hid hL
  clear hn hL
  have H0 := H
  clear H
  go_wp2_with (go_skip)
  go_loopw [4, 10] (fun v i wr => SumR W (Sl g 84 5 n cc (linL L) :: LdC p S.P (some q) :: LdM q L :: s) n (fun k => totL (L.take k) c) v i wr) (fun _ i _ => n - (intOf i).toNat)
  case atStart => exact ⟨0, Nat.zero_le _, rfl, rfl, H0⟩
  case round =>
    obtain ⟨k, hk, rfl, rfl, H⟩ := hrel.out
    clear H0 hrel
    by_cases hlt : k < n
    · have hkL : k < L.length := by rw [HN.out]; exact hlt
      have hlen : k * 5 + 5 ≤ (linL L).length := by rw [linL_len]; omega
      have hrow := linL_get L k hkL
      have htk := take_snoc L k hkL
      have hmem : L[k] ∈ S.L := by rw [HLL.out]; exact List.getElem_mem hkL
      have hdeb := HG.out.debs _ hmem
      have hbnd := totL_bound (L := L.take k) (fun x hx => HG.out.debs x (by rw [HLL.out]; exact List.mem_of_mem_take hx)) (c : Int)
      have hfew := HF.out
      have hlk : (L.take k).length = k := by simp; omega
      rw [hlk] at hbnd
      have hk64 : k ≤ 64 := by omega
      have HR := Lib.hid (H.slRd List.mem_cons_self)
      generalize L[k] = x at *
      obtain ⟨xr, xd, xu, xl, xe⟩ := x
      simp only at hrow hdeb
      have hsn : totL (L.take (k + 1)) c = totL (L.take k) c + (if xu = c then xe else 0) := by rw [htk, totL_snoc]
      have HSN := Lib.hid hsn
      generalize totL (L.take k) c = s0 at *
      have hw1 : wrap64 (s0 + xe) = s0 + xe := IntWalk.wrap64_in _ ⟨by omega, by omega⟩
      clear hsn htk hmem hbnd hfew hlk hdeb
      by_cases e1 : xu = c
      · have b1 : (xu == (c : Int)) = true := by simpa using e1
        have HE := Lib.hid (show totL (L.take (k + 1)) c = s0 + xe by rw [HSN.out, if_pos e1])
        clear e1
        go_wp2_with (first
          | go_skip
          | ((with_reducible show wpList _ _ _ (_ :: _) _ _); (with_reducible apply wpl_loadRdR row_line); (· rfl); (· rfl); (· exact HR.out); (· exact (Nat.zero_add _).symm); (· exact hlen); (· decide); (· exact hrow); (simp only [Act.put, List.setIfInBounds_toArray, List.set_cons_zero, List.set_cons_succ]))
          | ((with_reducible show wpList _ _ _ (_ :: _) _ _); (with_reducible apply wpl_allocRH row_line); (· rfl); (· exact H); (clear H; intro px _ H); (simp only [Act.put, List.setIfInBounds_toArray, List.set_cons_zero, List.set_cons_succ]))
          | ((with_reducible show wpList _ _ _ (_ :: _) _ _); (with_reducible apply wpl_storeRH row_line); (· rfl); (· rfl); (· rfl); (· with_reducible exact line_cells ..); (· exact H); (· (repeat (first | (with_reducible exact List.mem_cons_self) | with_reducible apply List.mem_cons_of_mem))); (· (simp only [line_sz, Nat.reduceAdd, Nat.reduceLeDiff, Nat.le_refl]; done)); (· with_reducible exact line_splice ..); (· (repeat (first | (with_reducible exact Repl.here) | with_reducible apply Repl.there))); (clear H; intro _ H); (simp only [Act.put, List.setIfInBounds_toArray, List.set_cons_zero, List.set_cons_succ]))
          | ((with_reducible show wpList _ _ _ (_ :: _) _ _); (with_reducible apply wpl_loadCH); (· first | exact cell_party | exact cell_cur | exact cell_i64); (· rfl); (· rfl); (· exact H); (· (repeat (first | (with_reducible exact List.mem_cons_self) | with_reducible apply List.mem_cons_of_mem))); (· with_reducible first | exact line_g0 .. | exact line_g1 .. | exact line_g2 .. | exact line_g4 ..); (simp only [Act.put, List.setIfInBounds_toArray, List.set_cons_zero, List.set_cons_succ])))
        refine ⟨⟨k + 1, by omega, by go_num, by rw [HE.out]; first | rw [hw1] | rfl, H.tail⟩, ?measure⟩
        case measure => simp [intOf]; omega
      · have b1 : (xu == (c : Int)) = false := by simpa using e1
        have HE := Lib.hid (show totL (L.take (k + 1)) c = s0 by rw [HSN.out, if_neg e1]; omega)
        clear e1
        go_wp2_with (first
          | go_skip
          | ((with_reducible show wpList _ _ _ (_ :: _) _ _); (with_reducible apply wpl_loadRdR row_line); (· rfl); (· rfl); (· exact HR.out); (· exact (Nat.zero_add _).symm); (· exact hlen); (· decide); (· exact hrow); (simp only [Act.put, List.setIfInBounds_toArray, List.set_cons_zero, List.set_cons_succ]))
          | ((with_reducible show wpList _ _ _ (_ :: _) _ _); (with_reducible apply wpl_allocRH row_line); (· rfl); (· exact H); (clear H; intro px _ H); (simp only [Act.put, List.setIfInBounds_toArray, List.set_cons_zero, List.set_cons_succ]))
          | ((with_reducible show wpList _ _ _ (_ :: _) _ _); (with_reducible apply wpl_storeRH row_line); (· rfl); (· rfl); (· rfl); (· with_reducible exact line_cells ..); (· exact H); (· (repeat (first | (with_reducible exact List.mem_cons_self) | with_reducible apply List.mem_cons_of_mem))); (· (simp only [line_sz, Nat.reduceAdd, Nat.reduceLeDiff, Nat.le_refl]; done)); (· with_reducible exact line_splice ..); (· (repeat (first | (with_reducible exact Repl.here) | with_reducible apply Repl.there))); (clear H; intro _ H); (simp only [Act.put, List.setIfInBounds_toArray, List.set_cons_zero, List.set_cons_succ]))
          | ((with_reducible show wpList _ _ _ (_ :: _) _ _); (with_reducible apply wpl_loadCH); (· first | exact cell_party | exact cell_cur | exact cell_i64); (· rfl); (· rfl); (· exact H); (· (repeat (first | (with_reducible exact List.mem_cons_self) | with_reducible apply List.mem_cons_of_mem))); (· with_reducible first | exact line_g0 .. | exact line_g1 .. | exact line_g2 .. | exact line_g4 ..); (simp only [Act.put, List.setIfInBounds_toArray, List.set_cons_zero, List.set_cons_succ])))
        refine ⟨⟨k + 1, by omega, by go_num, by rw [HE.out], H.tail⟩, ?measure2⟩
        case measure2 => simp [intOf]; omega
    · obtain rfl : k = n := by omega
      have HE := Lib.hid (show totL (L.take k) c = totL L c by rw [List.take_of_length_le (by rw [HN.out]; exact Nat.le_refl _)])
      go_wp2_with (go_skip)
      go_ret
      exact ⟨by rw [HLL.out, ← HE.out]; rfl, H.tail.untop2 HU.out.1 HU.out.2⟩
end
end Go.Proofs.Ytgobnamhdkbbeaa

/- ledgers.Ledger: Parties, Copy. -/
namespace Go.Proofs.Ytgobnamhdkbbeaa
open Go.RowKit
set_option linter.unusedSimpArgs false
set_option linter.unusedVariables false
def parTo (P : List Int) : Nat → List Int
  | 0 => []
  | k + 1 => parTo P k ++ (if hasP P (k : Int) = true then [(k : Int)] else [])
theorem parTo_mem (P : List Int) (q : Int) : ∀ k, q ∈ parTo P k ↔ (0 ≤ q ∧ q < k) ∧ q ∈ P
  | 0 => by simp [parTo]; omega
  | k + 1 => by
    rw [parTo, List.mem_append, parTo_mem P q k]
    constructor
    · rintro (⟨h, h'⟩ | h)
      · exact ⟨by omega, h'⟩
      · split at h
        · rename_i h'
          obtain rfl : q = (k : Int) := by simpa using h
          exact ⟨by omega, by simpa [hasP] using h'⟩
        · cases h
    · rintro ⟨h, h'⟩
      by_cases e : q = (k : Int)
      · subst e
        rw [if_pos (by simpa [hasP] using h')]
        exact .inr (by simp)
      · exact .inl ⟨by omega, h'⟩
theorem parTo_sorted (P : List Int) : ∀ k, (parTo P k).Pairwise (· < ·)
  | 0 => .nil
  | k + 1 => by
    rw [parTo, List.pairwise_append]
    refine ⟨parTo_sorted P k, by split <;> simp, fun a ha b hb => ?_⟩
    have := (parTo_mem P a k).1 ha
    split at hb
    · obtain rfl : b = (k : Int) := by simpa using hb
      omega
    · cases hb
theorem parTo_len (P : List Int) : ∀ k, (parTo P k).length ≤ k
  | 0 => by simp [parTo]
  | k + 1 => by
    have := parTo_len P k
    rw [parTo, List.length_append]
    split <;> simp <;> omega
theorem parTo_all {P : List Int} (h : P.Pairwise (· < ·)) (h1 : ∀ p ∈ P, 1 ≤ p ∧ p ≤ 16) : parTo P 17 = P :=
  sortedI_ext (parTo_sorted _ _) h fun q => by
    rw [parTo_mem]
    exact ⟨fun h => h.2, fun hq => ⟨by have := h1 q hq; omega, hq⟩⟩
def pI (L : List Int) : List Value := L.map (Value.int .u8)
theorem pI_len (L : List Int) : (pI L).length = L.length := by simp [pI]
theorem pI_app (L M : List Int) : pI (L ++ M) = pI L ++ pI M := by simp [pI]
theorem pI_one (L : List Int) : OneCells (pI L) := fun u hu => by
  obtain ⟨x, _, rfl⟩ := List.mem_map.1 hu
  rfl
theorem slPa : SlTy Try.prog 100 30 1 1 (.int .u8 0) := slTy_mk Try.underlying100 (by kernel_rfl) rfl (by decide)
theorem bs_pa : Try.prog.underlying 100 = some (.slice 30) ∧ (Try.prog.info? 30).map (fun i => (i.size, i.zero)) = some (1, some (.int .u8 0)) := ⟨Try.underlying100, by kernel_rfl⟩
section
variable {ops : Array Oper} {rest : List Oper} {a : Act} {w W : World} {l r s : List Thing} {Q : Exit → Act → World → Prop} {p q : Nat} {S : Lgr} {P : List Int}
theorem wpl_indexPar {dst : Option Tmp} {ty : TypeId} {pos : String} {after : Array Edge} {guard : Option (Nat × Bool)} {x y : Operand} {i : Nat} {b : Bool} (hw : Region.wanted ⟨dst, .index 44 x y, ty, pos, after, guard⟩ (yielded ops a.tmps) = true) (hx : a.eval x = .agg (parA P)) (hy : a.eval y = .int .i64 (i : Int)) (hi : i < 17) (hb : hasP P (i : Int) = b)
    (h : wpList Try.prog ops Q rest (a.put dst (.bool b)) w) : wpList Try.prog ops Q (⟨dst, .index 44 x y, ty, pos, after, guard⟩ :: rest) a w := by
  subst hb
  refine wpl_pure hw _ (fun w => ?_) h
  have hu := Try.underlying44
  have hu2 := Try.underlying4
  have hs : (sizeOf 4).run Try.prog w = .ok 1 w := by kernel_rfl
  have hp : (part 4 (parA P) i).run Try.prog w = .ok (.bool (hasP P (i : Int))) w := by
    have e := parA_get P hi
    simp [part, isAgg, run_underlying hu2, e]
  unfold execOp
  simp only [hx, hy]
  simp [Instr.index, asIntOf, run_underlying hu, Sem.run_bind, hs, hi, hp]
theorem clipPa_nil : Ans 90 #[.slice none 0 0] (.slice none 0 0) := by
  intro w
  go_enter Try.func90, Try.ntmps90
  go_wp2
  go_ret
  exact ⟨rfl, (by repeat (first | exact Ext.refl _ | refine Ext.alloc ?_ _ | refine Ext.ext ?_ _ | refine Ext.drew ?_))⟩
theorem clipPa (a : Addr) (n c : Nat) (hn : n ≤ c) (hc : c ≤ maxLen) : Ans 90 #[.slice (some a) n c] (.slice (some a) n n) := by
  intro w
  unfold maxLen at hc
  have ha : a.add 0 = a := by simp [Addr.add]
  go_enter Try.func90, Try.ntmps90
  go_wp2
  go_ret
  exact ⟨rfl, (by repeat (first | exact Ext.refl _ | refine Ext.alloc ?_ _ | refine Ext.ext ?_ _ | refine Ext.drew ?_))⟩
structure ParR (W : World) (l : List Thing) (P : List Int) (v i : Value) (wr : World) : Prop where
  out : ∃ k : Nat, k ≤ 17 ∧ i = .int .i64 (k : Int) ∧ ((parTo P k).length = 0 → v = .slice none 0 0) ∧ Heap W (RowT 30 1 v (parTo P k).length (pI (parTo P k)) :: l) wr
set_option maxRecDepth 100000
set_option maxHeartbeats 2000000
theorem lparties_H (hs : P.Pairwise (· < ·)) (hP : ∀ p ∈ P, 1 ≤ p ∧ p ≤ 16) (H : Heap W l w) (hm : LdC p P (some q) ∈ l) : Calls Try.prog 52 #[.pointer (some ⟨p, 0, none⟩)] w fun e w' => ListPost W l 30 1 (pI P) P.length e w' := by
  have HALL := Lib.hid (parTo_all hs hP)
  clear hs hP
  go_enter Try.func52, Try.ntmps52
  go_wp2_with (first
    | go_skip
    | ((with_reducible apply lthere_call H); (· exact hm); (clear H; intro _ H))
    | ((with_reducible show wpList _ _ _ (_ :: _) _ _); (with_reducible apply wpl_loadRH row_par); (· rfl); (· rfl); (· exact H); (· exact hm); (· (simp only [ledA_sz, Nat.reduceAdd, Nat.reduceLeDiff]; done)); (· exact ledA_par _ _); (simp only [Act.put, List.setIfInBounds_toArray, List.set_cons_zero, List.set_cons_succ])))
  have H0 := H.nilRow 30 1
  clear H
  go_loopw [3, 13] (fun v i wr => ParR W l P v i wr) (fun _ i _ => 17 - (intOf i).toNat)
  case atStart => exact ⟨0, by omega, rfl, fun _ => rfl, H0⟩
  case round =>
    obtain ⟨k, hk, rfl, hz, H⟩ := hrel.out
    clear H0 hrel
    have HZ := Lib.hid hz
    clear hz
    by_cases hlt : k < 17
    · have hb := parTo_len P k
      have h1 : (parTo P k).length + 1 ≤ maxLen := by unfold maxLen; omega
      have h2 : ((parTo P k).length + 1) * 1 ≤ 140737488355328 := by omega
      have hu : IntKind.u8.wrap (k : Int) = k := IntWalk.u8_in _ (by omega)
      cases e1 : hasP P (k : Int)
      · have HE := Lib.hid (show parTo P (k + 1) = parTo P k by rw [parTo, e1, if_neg Bool.false_ne_true, List.append_nil])
        have E1 := Lib.hid e1
        clear e1
        go_wp2_with (first
          | go_skip
          | ((with_reducible show wpList _ _ _ (_ :: _) _ _); (with_reducible apply wpl_indexPar); (· rfl); (· rfl); (· rfl); (· exact hlt); (· exact E1.out); (simp only [Act.put, List.setIfInBounds_toArray, List.set_cons_zero, List.set_cons_succ])))
        refine ⟨⟨k + 1, by omega, by go_num, by rw [HE.out]; exact ⟨HZ.out, H⟩⟩, ?measure⟩
        case measure => simp [intOf]; omega
      · have HE := Lib.hid (show parTo P (k + 1) = parTo P k ++ [(k : Int)] by rw [parTo, e1, if_pos rfl])
        have E1 := Lib.hid e1
        clear e1
        go_wp2_with (first
          | ((with_reducible show wpList _ _ _ (_ :: _) _ _); (with_reducible apply wpl_bsOnes _ [.int .u8 (k : Int)]); (· rfl); (· rfl); (· rfl); (· decide); (· decide); (· (intro v hv; simp at hv; subst hv; rfl)); (· exact bs_pa); (· rfl); (· exact H); (clear H; intro pl _ H); (simp only [Act.put, List.setIfInBounds_toArray, List.set_cons_zero, List.set_cons_succ]))
          | ((with_reducible show wpList _ _ _ (_ :: _) _ _); (with_reducible apply wpl_appendH slPa); (· rfl); (· rfl); (· rfl); (· rfl); (· exact H.perm (.swap _ _ _)); (· exact H.celRd List.mem_cons_self); (· rfl); (· exact pI_one [(k : Int)]); (· exact h1); (· exact h2); (clear H; intro v2 _ H); (simp only [Act.put, List.setIfInBounds_toArray, List.set_cons_zero, List.set_cons_succ]))
          | go_skip
          | ((with_reducible show wpList _ _ _ (_ :: _) _ _); (with_reducible apply wpl_indexPar); (· rfl); (· rfl); (· rfl); (· exact hlt); (· exact E1.out); (simp only [Act.put, List.setIfInBounds_toArray, List.set_cons_zero, List.set_cons_succ])))
        have H2 := H.drop (.there .here)
        clear H
        refine ⟨⟨k + 1, by omega, by go_num, ?_⟩, ?measure2⟩
        case measure2 => simp [intOf]; omega
        rw [HE.out, pI_app, List.length_append]
        exact ⟨fun h => by simp at h, H2⟩
    · obtain rfl : k = 17 := by omega
      have HZ2 := Lib.hid HZ.out
      clear HZ
      rw [HALL.out] at H HZ2
      by_cases h0 : P.length = 0
      · obtain rfl := HZ2.out h0
        have hcl := clipPa_nil
        have H0 := Lib.hid h0
        clear h0
        go_wp2_with (first | go_skip | ((with_reducible refine Ans.callH (by assumption) H ?_); clear H; intro _ H))
        go_ret
        exact ListPost.nil H0.out H.tail
      · obtain ⟨g, cc, rfl, hc, hm⟩ := RowT.sl (H.ok _ List.mem_cons_self) (by omega)
        have hcl := clipPa ⟨g, 0, none⟩ P.length cc hc hm
        have hp : 0 < P.length := by omega
        have HP := Lib.hid hp
        clear hp h0
        generalize hn : P.length = n at *
        have HN := Lib.hid hn
        clear hn
        go_wp2_with (first | go_skip | ((with_reducible refine Ans.callH (by assumption) H ?_); clear H; intro _ H))
        go_ret
        rw [HN.out]
        exact ListPost.some HP.out g cc hc H
end
end Go.Proofs.Ytgobnamhdkbbeaa

/- ledgers.Ledger: Copy; what nobody made. -/
namespace Go.Proofs.Ytgobnamhdkbbeaa
open Go.RowKit
set_option linter.unusedSimpArgs false
set_option linter.unusedVariables false
theorem run_eql_mapL (p : Option Nat) (w : World) : (binOp .eql 45 (.map p) (.map none)).run Try.prog w = .ok (.bool p.isNone) w := run_eql_map_nil_sl w _ _ _ p Try.underlying45
section
variable {ops : Array Oper} {rest : List Oper} {a : Act} {w W : World} {l r s : List Thing} {Q : Exit → Act → World → Prop} {p q : Nat} {S : Lgr} {P : List Int} {m : Option Nat}
set_option maxRecDepth 100000
set_option maxHeartbeats 2000000
theorem lclone_C (b : Nat) (es : Array MapEntry) (clock : Nat) (w : World) (hb : w.heap[b]? = some (.map es clock)) :
    Calls Try.prog 71 #[.map (some b)] w fun e w' => e = .returned (.map (some w.heap.size)) ∧ w' = w.alloc (.map es clock) := by
  have hq := run_eql_mapL (some b)
  go_enter Try.func71, Try.ntmps71
  go_wp2_with (go_skip)
  rw [run_callFunc_extern Try.func103 (by kernel_rfl) (by kernel_rfl) (by kernel_rfl) (e := Extern.MapsClone.clone) (by kernel_rfl), run_maps_clone_sl w 45 hb]
  simp only [Result.andThen]
  rw [Oper.upon_value]
  go_wp2_with (go_skip)
  rw [run_typeAssert_map_sl _ 45 _ _ _ _ Try.underlying45]
  simp only [Result.andThen]
  rw [Oper.upon_value]
  go_wp2_with (go_skip)
  go_ret
  exact ⟨rfl, rfl⟩
theorem lclone_H {L : List Lin} (H : Heap W l w) (hm : LdM q L ∈ l) : Calls Try.prog 71 #[.map (some q)] w fun e w' => ∃ q', e = .returned (.map (some q')) ∧ Heap W (LdM q' L :: l) w' := by
  obtain ⟨es, clock, hb, hh⟩ := H.ok _ hm
  refine (lclone_C q es clock w hb).mono fun e w' ⟨he, hw⟩ => ?_
  subst hw
  exact ⟨_, he, H.add ⟨rfl, rfl, rfl, by simp, fun k hk _ => Below.heap_alloc _ _ _ hk⟩ ⟨es, clock, heap_alloc_new w _, hh⟩ (fun k hk => by cases hk; exact ⟨Nat.le_refl _, by simp⟩)⟩
theorem run_buildLed (P : List Int) (m : Option Nat) (w : World) : (Instr.build 47 #[(0, .agg (parA P)), (1, .map m)]).run Try.prog w = .ok (.agg (ledA P m)) w := by kernel_rfl
theorem wpQ_buildLed {K : Act → Prop} {H : Heap W l w} {dst : Option Tmp} {ty : TypeId} {pos : String} {after : Array Edge} {guard : Option (Nat × Bool)} {x y : Operand} (hw : Region.wanted ⟨dst, .build 47 #[(0, x), (1, y)], ty, pos, after, guard⟩ (yielded ops a.tmps) = true) (hx : a.eval x = .agg (parA P)) (hy : a.eval y = .map m)
    (h : wpQuiet Try.prog ops (fun w' => ∃ d, w' = H.any d) K rest (a.put dst (.agg (ledA P m)))) : wpQuiet Try.prog ops (fun w' => ∃ d, w' = H.any d) K (⟨dst, .build 47 #[(0, x), (1, y)], ty, pos, after, guard⟩ :: rest) a := by
  refine BigFrame.wpQuiet_want hw fun K hK => ⟨_, ?_, hK _ h⟩
  rintro _ ⟨d, rfl⟩
  unfold Oper.quietAt execOp
  simp only [List.map_toArray, List.map_cons, List.map_nil, hx, hy, Sem.run_bind, run_buildLed]
  exact ⟨rfl, rfl⟩
theorem lcopy_H (H : Heap W l w) (h1 : LdC p P (some q) ∈ l) (h2 : LdM q S.L ∈ l) : Calls Try.prog 30 #[.pointer (some ⟨p, 0, none⟩)] w fun e w' => ∃ p' q', e = .returned (.pointer (some ⟨p', 0, none⟩)) ∧ Heap W (LdC p' P (some q') :: LdM q' S.L :: l) w' := by
  go_enter Try.func30, Try.ntmps30
  go_wp2_with (first
    | go_skip
    | ((with_reducible apply lthere_call H); (· exact h1); (clear H; intro _ H)))
  refine wp_region_K0 [8, 10] [0, 1, 2, 3, 4, 5, 6, 7, 8, 9, 10, 11] H (by kernel_rfl) (by kernel_rfl) ?_
  iterate 8 (apply wpK_step; (· rfl); (· rfl); (· rfl); (· exact Nat.le_of_ble_eq_true rfl); (· intro l0 hs0 w0 H0; (first | go_big_quiet_skip | (first | ((with_reducible apply wpQ_loadRH row_par); (· rfl); (· rfl); (· exact hs0 _ h1); (· (simp only [ledA_sz, Nat.reduceAdd, Nat.reduceLeDiff]; done)); (· exact ledA_par _ _); (simp only [Act.put, List.setIfInBounds_toArray, List.set_cons_zero, List.set_cons_succ])) | ((with_reducible apply wpQ_loadCH); (· exact cell_map); (· rfl); (· rfl); (· exact hs0 _ h1); (· exact ledA_map _ _); (simp only [Act.put, List.setIfInBounds_toArray, List.set_cons_zero, List.set_cons_succ]))) | go_big_quiet_step (fail)); (refine wpQuiet_nil ?_); (simp only [Array.getD_eq_getD_getElem?, List.getElem?_toArray, List.getElem?_cons_succ, List.getElem?_cons_zero, Option.getD_some]; rfl)); (simp only [Act.put, List.setIfInBounds_toArray, List.set_cons_zero, List.set_cons_succ]))
  refine wpK_call (f := 71) (argl := [.map (some q)]) rfl rfl rfl Try.call71 rfl ?_
  intro w0 H0
  refine (lclone_H H0 h2).mono ?_
  clear H0
  rintro e w1 ⟨q', rfl, H1⟩
  refine ⟨_, _, rfl, H1, _, Keeps.refl _, fun t ht => List.mem_cons_of_mem _ ht, ?_⟩
  clear H1
  (simp only [Act.put, List.setIfInBounds_toArray, List.set_cons_zero, List.set_cons_succ])
  (apply wpK_step; (· rfl); (· rfl); (· rfl); (· exact Nat.le_of_ble_eq_true rfl); (· intro l0 hs0 w0 H0; (first | go_big_quiet_skip | ((with_reducible apply wpQ_buildLed); (· rfl); (· rfl); (· rfl); (simp only [Act.put, List.setIfInBounds_toArray, List.set_cons_zero, List.set_cons_succ])) | go_big_quiet_step (fail)); (refine wpQuiet_nil ?_); (simp only [Array.getD_eq_getD_getElem?, List.getElem?_toArray, List.getElem?_cons_succ, List.getElem?_cons_zero, Option.getD_some]; rfl)); (simp only [Act.put, List.setIfInBounds_toArray, List.set_cons_zero, List.set_cons_succ]))
  ((with_reducible apply wpK_boxR); (· rfl); (· rfl); (· rfl); (· rfl); (· exact fun t ht => List.mem_cons_of_mem _ ht); (intro p'); (simp only [Act.put, List.setIfInBounds_toArray, List.set_cons_zero, List.set_cons_succ]))
  (apply wpK_step; (· rfl); (· rfl); (· rfl); (· exact Nat.le_of_ble_eq_true rfl); (· intro l0 hs0 w0 H0; (first | go_big_quiet_skip | fail | go_big_quiet_step (fail)); (refine wpQuiet_nil ?_); (simp only [Array.getD_eq_getD_getElem?, List.getElem?_toArray, List.getElem?_cons_succ, List.getElem?_cons_zero, Option.getD_some]; rfl)); (simp only [Act.put, List.setIfInBounds_toArray, List.set_cons_zero, List.set_cons_succ]))
  (refine wpK_nil ?_; clear H; intro _ H)
  go_wp2_with (go_skip)
  go_ret
  exact ⟨p', q', rfl, H⟩
end
end Go.Proofs.Ytgobnamhdkbbeaa

/- ledgers.Ledger: Room. -/
namespace Go.Proofs.Ytgobnamhdkbbeaa
open Go.RowKit
set_option linter.unusedSimpArgs false
set_option linter.unusedVariables false
section
variable {W w : World} {l : List Thing} {p q : Nat} {m : Option Nat} {P : List Int} {S : Lgr} {R : Ending → World → Prop}
set_option maxRecDepth 100000
set_option maxHeartbeats 1000000
theorem lroom_H (f t c : Nat) (hf : f ≤ 255) (ht : t ≤ 255) (hc : c ≤ 255) (G : S.Good) (h : LdC p S.P (some q) ∈ l) (hm : LdM q S.L ∈ l) : AnsH W l 16 #[.pointer (some ⟨p, 0, none⟩), .int .u8 (f : Int), .int .u8 (t : Int), .int .u8 (c : Int)] (.int .i64 (roomOf S f t c)) := by
  intro w H
  have k1 := Lib.hid (key_nat f t c hf ht hc)
  have k2 := Lib.hid (key_nat t f c ht hf hc)
  have L1 := look_line G f t c
  have L2 := look_line G t f c
  have n1 := G.nums f t c
  have n2 := G.nums t f c
  have hr : roomOf S f t c = debOf S.L f t c + limOf S.L t f c - debOf S.L t f c := rfl
  rw [hr]
  clear hr
  generalize debOf S.L f t c = x at *
  generalize limOf S.L f t c = x' at *
  generalize debOf S.L t f c = y at *
  generalize limOf S.L t f c = y' at *
  have hs1 : wrap64 (x + y') = x + y' := IntWalk.wrap64_in _ ⟨by omega, by omega⟩
  have hs2 : wrap64 (x + y' - y) = x + y' - y := IntWalk.wrap64_in _ ⟨by omega, by omega⟩
  clear n1 n2
  replace L1 := Lib.hid L1
  replace L2 := Lib.hid L2
  go_enter Try.func16, Try.ntmps16
  go_wp2_with (first | go_skip | ((with_reducible apply lthere_call H); (· exact h); (clear H; intro _ H)))
  refine wp_region_M [18, 19, 20, 21] [(0, none), (1, none), (2, none), (3, none), (4, none), (5, none), (6, none), (7, none), (8, none), (9, none), (10, none), (11, none), (12, none), (13, none), (14, none), (15, none), (16, none), (17, none), (18, some 19), (20, none), (21, none)] (fun l0 => ∃ pre, l0 = pre ++ l) H ⟨[], rfl⟩ (by kernel_rfl) (by kernel_rfl) ?_
  iterate 18 (apply wpM_step; (· rfl); (· rfl); (· rfl); (· exact Nat.le_of_ble_eq_true rfl); (· rintro l0 ⟨pre, rfl⟩ w0 H0; (first | go_big_quiet_skip | (first | ((with_reducible apply wpQ_loadCH); (· exact cell_map); (· rfl); (· rfl); (· (refine List.mem_append_right _ ?_; exact h)); (· exact ledA_map _ _); (simp only [Act.put, List.setIfInBounds_toArray, List.set_cons_zero, List.set_cons_succ])) | ((with_reducible first | apply wpQ_look0 map_ty | apply wpQ_look1 map_ty); (· rfl); (· rfl); (· rfl); (· exact k1.out); (· (refine List.mem_append_right _ ?_; exact hm)); (· exact L1.out); (simp only [Act.put, List.setIfInBounds_toArray, List.set_cons_zero, List.set_cons_succ])) | ((with_reducible first | apply wpQ_look0 map_ty | apply wpQ_look1 map_ty); (· rfl); (· rfl); (· rfl); (· exact k2.out); (· (refine List.mem_append_right _ ?_; exact hm)); (· exact L2.out); (simp only [Act.put, List.setIfInBounds_toArray, List.set_cons_zero, List.set_cons_succ]))) | go_big_quiet_step (fail)); (refine wpQuiet_nil ?_); (simp only [Array.getD_eq_getD_getElem?, List.getElem?_toArray, List.getElem?_cons_succ, List.getElem?_cons_zero, Option.getD_some]; rfl)); (simp only [Act.put, List.setIfInBounds_toArray, List.set_cons_zero, List.set_cons_succ]))
  go_loud ((with_reducible apply wpM_alloc2 row_owe row_owe); (· rfl); (· rfl); (· rfl); (· rfl); (· decide); (· intro p; exact ⟨[_], rfl⟩); (· intro p; exact ⟨[_], rfl⟩); (· intro p q; exact ⟨[_, _], rfl⟩); (intro p1 p2); (simp only [Act.put, List.setIfInBounds_toArray, List.set_cons_zero, List.set_cons_succ]))
  go_loud ((with_reducible apply wpM_storeR row_owe); (· rfl); (· rfl); (· rfl); (· rfl); (· rfl); (· with_reducible exact owe_cells ..); (· (repeat (first | (with_reducible exact List.mem_cons_self) | with_reducible apply List.mem_cons_of_mem))); (· (simp only [owe_sz, Nat.reduceAdd, Nat.reduceLeDiff, Nat.le_refl]; done)); (· with_reducible exact owe_splice ..); (· (repeat (first | (with_reducible exact Repl.here) | with_reducible apply Repl.there))); (· exact ⟨[_, _], rfl⟩); (simp only [Act.put, List.setIfInBounds_toArray, List.set_cons_zero, List.set_cons_succ]))
  go_loud ((with_reducible apply wpM_storeR row_owe); (· rfl); (· rfl); (· rfl); (· rfl); (· rfl); (· with_reducible exact owe_cells ..); (· (repeat (first | (with_reducible exact List.mem_cons_self) | with_reducible apply List.mem_cons_of_mem))); (· (simp only [owe_sz, Nat.reduceAdd, Nat.reduceLeDiff, Nat.le_refl]; done)); (· with_reducible exact owe_splice ..); (· (repeat (first | (with_reducible exact Repl.here) | with_reducible apply Repl.there))); (· exact ⟨[_, _], rfl⟩); (simp only [Act.put, List.setIfInBounds_toArray, List.set_cons_zero, List.set_cons_succ]))
  (refine wpM_nil ?_; clear H; intro _ H)
  go_wp2_with (first | go_skip | ((with_reducible show wpList _ _ _ (_ :: _) _ _); (with_reducible apply wpl_loadCH); (· exact cell_i64); (· rfl); (· rfl); (· exact H); (· (repeat (first | (with_reducible exact List.mem_cons_self) | with_reducible apply List.mem_cons_of_mem))); (· (with_reducible first | exact owe_g0 .. | exact owe_g1 ..)); (simp only [Act.put, List.setIfInBounds_toArray, List.set_cons_zero, List.set_cons_succ])))
  go_ret
  exact ⟨congrArg (fun z => Ending.returned (.int .i64 z)) hs2, H.tail.tail⟩
end
end Go.Proofs.Ytgobnamhdkbbeaa

/- ledgers.Ledger: Line, add, Push, Forgive. -/
namespace Go.Proofs.Ytgobnamhdkbbeaa
open Go.RowKit
set_option linter.unusedSimpArgs false
set_option linter.unusedVariables false
/-- A line as it is told: of zeros, if there is none. -/
def lineC (L : List Lin) (cr db cu : Int) : Array Value := if isLine L cr db cu = true then line cr db cu (limOf L cr db cu) (debOf L cr db cu) else line 0 0 0 0 0
section
variable {W w : World} {l : List Thing} {p q : Nat} {m : Option Nat} {P : List Int} {S : Lgr} {R : Ending → World → Prop}
set_option maxRecDepth 100000
set_option maxHeartbeats 1000000
theorem lline_H (f t c : Nat) (hf : f ≤ 255) (ht : t ≤ 255) (hc : c ≤ 255) (G : S.Good) (h : LdC p S.P (some q) ∈ l) (hm : LdM q S.L ∈ l) : AnsH W l 43 #[.pointer (some ⟨p, 0, none⟩), .int .u8 (f : Int), .int .u8 (t : Int), .int .u8 (c : Int)] (.tuple #[.agg (lineC S.L f t c), .bool (isLine S.L f t c)]) := by
  intro w H
  have k1 := Lib.hid (key_nat f t c hf ht hc)
  have L1 := look_line G f t c
  unfold lineC
  cases hb : isLine S.L f t c
  · rw [hb] at L1
    rw [if_neg Bool.false_ne_true]
    replace L1 := Lib.hid L1
    clear hb
    go_enter Try.func43, Try.ntmps43
    go_wp2_with (first
      | go_skip
      | ((with_reducible apply lthere_call H); (· exact List.mem_cons_of_mem _ h); (clear H; intro _ H))
      | ((with_reducible show wpList _ _ _ (_ :: _) _ _); (with_reducible apply wpl_allocRH row_line); (· rfl); (· exact H); (clear H; intro pr _ H); (simp only [Act.put, List.setIfInBounds_toArray, List.set_cons_zero, List.set_cons_succ]))
      | ((with_reducible show wpList _ _ _ (_ :: _) _ _); (with_reducible apply wpl_loadCH); (· exact cell_map); (· rfl); (· rfl); (· exact H); (· exact List.mem_cons_of_mem _ h); (· exact ledA_map _ _); (simp only [Act.put, List.setIfInBounds_toArray, List.set_cons_zero, List.set_cons_succ]))
      | ((with_reducible show wpList _ _ _ (_ :: _) _ _); (with_reducible first | apply wpl_look0 map_ty | apply wpl_look1 map_ty); (· rfl); (· rfl); (· rfl); (· exact k1.out); (· exact H); (· exact List.mem_cons_of_mem _ hm); (· exact L1.out); (simp only [Act.put, List.setIfInBounds_toArray, List.set_cons_zero, List.set_cons_succ]))
      | ((with_reducible show wpList _ _ _ (_ :: _) _ _); (with_reducible apply wpl_allocRH row_owe); (· rfl); (· exact H); (clear H; intro po _ H); (simp only [Act.put, List.setIfInBounds_toArray, List.set_cons_zero, List.set_cons_succ]))
      | ((with_reducible show wpList _ _ _ (_ :: _) _ _); (with_reducible apply wpl_storeRH row_owe); (· rfl); (· rfl); (· rfl); (· with_reducible exact owe_cells ..); (· exact H); (· (repeat (first | (with_reducible exact List.mem_cons_self) | with_reducible apply List.mem_cons_of_mem))); (· (simp only [owe_sz, Nat.reduceAdd, Nat.reduceLeDiff, Nat.le_refl]; done)); (· with_reducible exact owe_splice ..); (· (repeat (first | (with_reducible exact Repl.here) | with_reducible apply Repl.there))); (clear H; intro _ H); (simp only [Act.put, List.setIfInBounds_toArray, List.set_cons_zero, List.set_cons_succ]))
      | ((with_reducible show wpList _ _ _ (_ :: _) _ _); (with_reducible apply wpl_storeRH row_line); (· rfl); (· rfl); (· rfl); (· with_reducible exact line_cells ..); (· exact H); (· (repeat (first | (with_reducible exact List.mem_cons_self) | with_reducible apply List.mem_cons_of_mem))); (· (simp only [line_sz, Nat.reduceAdd, Nat.reduceLeDiff, Nat.le_refl]; done)); (· with_reducible exact line_splice ..); (· (repeat (first | (with_reducible exact Repl.here) | with_reducible apply Repl.there))); (clear H; intro _ H); (simp only [Act.put, List.setIfInBounds_toArray, List.set_cons_zero, List.set_cons_succ])))
    exact ret_row2H row_line rfl rfl rfl H (by (repeat (first | (with_reducible exact List.mem_cons_self) | with_reducible apply List.mem_cons_of_mem))) rfl rfl ⟨rfl, H.tail.tail⟩
  · rw [hb] at L1
    rw [if_pos rfl]
    replace L1 := Lib.hid L1
    clear hb
    go_enter Try.func43, Try.ntmps43
    go_wp2_with (first
      | go_skip
      | ((with_reducible apply lthere_call H); (· exact List.mem_cons_of_mem _ h); (clear H; intro _ H))
      | ((with_reducible show wpList _ _ _ (_ :: _) _ _); (with_reducible apply wpl_allocRH row_line); (· rfl); (· exact H); (clear H; intro pr _ H); (simp only [Act.put, List.setIfInBounds_toArray, List.set_cons_zero, List.set_cons_succ]))
      | ((with_reducible show wpList _ _ _ (_ :: _) _ _); (with_reducible apply wpl_loadCH); (· exact cell_map); (· rfl); (· rfl); (· exact H); (· exact List.mem_cons_of_mem _ h); (· exact ledA_map _ _); (simp only [Act.put, List.setIfInBounds_toArray, List.set_cons_zero, List.set_cons_succ]))
      | ((with_reducible show wpList _ _ _ (_ :: _) _ _); (with_reducible first | apply wpl_look0 map_ty | apply wpl_look1 map_ty); (· rfl); (· rfl); (· rfl); (· exact k1.out); (· exact H); (· exact List.mem_cons_of_mem _ hm); (· exact L1.out); (simp only [Act.put, List.setIfInBounds_toArray, List.set_cons_zero, List.set_cons_succ]))
      | ((with_reducible show wpList _ _ _ (_ :: _) _ _); (with_reducible apply wpl_allocRH row_owe); (· rfl); (· exact H); (clear H; intro po _ H); (simp only [Act.put, List.setIfInBounds_toArray, List.set_cons_zero, List.set_cons_succ]))
      | ((with_reducible show wpList _ _ _ (_ :: _) _ _); (with_reducible apply wpl_storeRH row_owe); (· rfl); (· rfl); (· rfl); (· with_reducible exact owe_cells ..); (· exact H); (· (repeat (first | (with_reducible exact List.mem_cons_self) | with_reducible apply List.mem_cons_of_mem))); (· (simp only [owe_sz, Nat.reduceAdd, Nat.reduceLeDiff, Nat.le_refl]; done)); (· with_reducible exact owe_splice ..); (· (repeat (first | (with_reducible exact Repl.here) | with_reducible apply Repl.there))); (clear H; intro _ H); (simp only [Act.put, List.setIfInBounds_toArray, List.set_cons_zero, List.set_cons_succ]))
      | ((with_reducible show wpList _ _ _ (_ :: _) _ _); (with_reducible apply wpl_loadCH); (· exact cell_i64); (· rfl); (· rfl); (· exact H); (· (repeat (first | (with_reducible exact List.mem_cons_self) | with_reducible apply List.mem_cons_of_mem))); (· (with_reducible first | exact owe_g0 .. | exact owe_g1 ..)); (simp only [Act.put, List.setIfInBounds_toArray, List.set_cons_zero, List.set_cons_succ]))
      | ((with_reducible show wpList _ _ _ (_ :: _) _ _); (with_reducible apply wpl_storeRH row_line); (· rfl); (· rfl); (· rfl); (· with_reducible exact line_cells ..); (· exact H); (· (repeat (first | (with_reducible exact List.mem_cons_self) | with_reducible apply List.mem_cons_of_mem))); (· (simp only [line_sz, Nat.reduceAdd, Nat.reduceLeDiff, Nat.le_refl]; done)); (· with_reducible exact line_splice ..); (· (repeat (first | (with_reducible exact Repl.here) | with_reducible apply Repl.there))); (clear H; intro _ H); (simp only [Act.put, List.setIfInBounds_toArray, List.set_cons_zero, List.set_cons_succ])))
    exact ret_row2H row_line rfl rfl rfl H (by (repeat (first | (with_reducible exact List.mem_cons_self) | with_reducible apply List.mem_cons_of_mem))) rfl rfl ⟨rfl, H.tail.tail⟩
theorem ladd_H (f t c : Nat) (n : Int) (hf : f ≤ 255) (ht : t ≤ 255) (hc : c ≤ 255) (G : S.Good) (hz : n = 0 ∨ isLine S.L f t c = true) (hn : -1099511627776 ≤ n ∧ n ≤ 1099511627776) (H : Heap W (LdC p S.P (some q) :: LdM q S.L :: l) w) :
    Calls Try.prog 56 #[.pointer (some ⟨p, 0, none⟩), .agg (ends (f : Int) (t : Int) (c : Int)), .int .i64 n] w fun e w' => e = .returned (.tuple #[]) ∧ Heap W (LdC p S.P (some q) :: LdM q (addL S.L f t c n) :: l) w' := by
  by_cases h0 : n = 0
  · subst h0
    rw [addL_zero]
    clear hz hn G
    go_enter Try.func56, Try.ntmps56
    go_wp2_with (first | go_skip | ((with_reducible show wpList _ _ _ (_ :: _) _ _); (with_reducible apply wpl_boxRH); (· rfl); (· rfl); (· exact H); (clear H; intro px _ H); (simp only [Act.put, List.setIfInBounds_toArray, List.set_cons_zero, List.set_cons_succ])))
    go_end0
    exact ⟨rfl, H.tail⟩
  · have hl : isLine S.L f t c = true := hz.resolve_left h0
    have e0 : (n != 0) = true := by simpa using h0
    have k1 := Lib.hid (key_nat f t c hf ht hc)
    have L1 := look_line G f t c
    have hp := put_set (x := ⟨f, t, c, limOf S.L f t c, debOf S.L f t c + n⟩) G.ord G.smalls (by unfold Small; simp only; omega) (by
      obtain ⟨x, hx, ha⟩ := isLine_iff.1 hl
      obtain ⟨h1, h2, h3⟩ := Lin.at_iff.1 ha
      have := (G.vals hx).2.1
      rw [h1, h2, h3] at this
      have := (G.ok x hx).lim
      simp only; omega)
    rw [← G.add_set hl n] at hp
    simp only at hp
    have nn := G.nums f t c
    have hs : wrap64 (debOf S.L f t c + n) = debOf S.L f t c + n := IntWalk.wrap64_in _ ⟨by omega, by omega⟩
    clear hz hn nn hl h0
    replace L1 := Lib.hid L1
    replace hp := Lib.hid hp
    generalize debOf S.L f t c = x at *
    generalize limOf S.L f t c = x' at *
    generalize S.P = P at *
    go_enter Try.func56, Try.ntmps56
    go_wp2_with (first | go_skip | ((with_reducible show wpList _ _ _ (_ :: _) _ _); (with_reducible apply wpl_boxRH); (· rfl); (· rfl); (· exact H); (clear H; intro px _ H); (simp only [Act.put, List.setIfInBounds_toArray, List.set_cons_zero, List.set_cons_succ])))
    refine wp_region_M [6, 7] [(0, none), (1, none), (2, none), (3, none), (4, none), (5, none), (6, none), (7, none)] (fun l0 => ∃ pre, l0 = pre ++ (Cel px (ends (f : Int) (t : Int) (c : Int)) 105 :: LdC p P (some q) :: LdM q S.L :: l)) H ⟨[], rfl⟩ (by kernel_rfl) (by kernel_rfl) ?_
    iterate 6 (apply wpM_step; (· rfl); (· rfl); (· rfl); (· exact Nat.le_of_ble_eq_true rfl); (· rintro l0 ⟨pre, rfl⟩ w0 H0; (first | go_big_quiet_skip | (first | ((with_reducible apply wpQ_loadCH); (· exact cell_map); (· rfl); (· rfl); (· ((refine List.mem_append_right _ ?_); (repeat (first | (with_reducible exact List.mem_cons_self) | with_reducible apply List.mem_cons_of_mem)))); (· exact ledA_map _ _); (simp only [Act.put, List.setIfInBounds_toArray, List.set_cons_zero, List.set_cons_succ])) | ((with_reducible apply wpQ_loadRH row_ends); (· rfl); (· rfl); (· ((refine List.mem_append_right _ ?_); (repeat (first | (with_reducible exact List.mem_cons_self) | with_reducible apply List.mem_cons_of_mem)))); (· (simp only [ends_sz, Nat.reduceAdd, Nat.reduceLeDiff, Nat.le_refl]; done)); (· exact ends_all ..); (simp only [Act.put, List.setIfInBounds_toArray, List.set_cons_zero, List.set_cons_succ])) | ((with_reducible first | apply wpQ_look0 map_ty | apply wpQ_look1 map_ty); (· rfl); (· rfl); (· rfl); (· exact k1.out); (· ((refine List.mem_append_right _ ?_); (repeat (first | (with_reducible exact List.mem_cons_self) | with_reducible apply List.mem_cons_of_mem)))); (· exact L1.out); (simp only [Act.put, List.setIfInBounds_toArray, List.set_cons_zero, List.set_cons_succ]))) | go_big_quiet_step (fail)); (refine wpQuiet_nil ?_); (simp only [Array.getD_eq_getD_getElem?, List.getElem?_toArray, List.getElem?_cons_succ, List.getElem?_cons_zero, Option.getD_some]; rfl)); (simp only [Act.put, List.setIfInBounds_toArray, List.set_cons_zero, List.set_cons_succ]))
    ((with_reducible apply wpM_allocR row_owe); (· rfl); (· rfl); (· rfl); (· intro p; exact ⟨[_], rfl⟩); (intro po); (simp only [Act.put, List.setIfInBounds_toArray, List.set_cons_zero, List.set_cons_succ]))
    ((with_reducible apply wpM_storeR row_owe); (· rfl); (· rfl); (· rfl); (· rfl); (· rfl); (· with_reducible exact owe_cells ..); (· (repeat (first | (with_reducible exact List.mem_cons_self) | with_reducible apply List.mem_cons_of_mem))); (· (simp only [owe_sz, Nat.reduceAdd, Nat.reduceLeDiff, Nat.le_refl]; done)); (· with_reducible exact owe_splice ..); (· (repeat (first | (with_reducible exact Repl.here) | with_reducible apply Repl.there))); (· exact ⟨[_], rfl⟩); (simp only [Act.put, List.setIfInBounds_toArray, List.set_cons_zero, List.set_cons_succ]))
    (refine wpM_nil ?_; clear H; intro _ H)
    go_wp2_with (first | go_skip | ((with_reducible show wpList _ _ _ (_ :: _) _ _); (with_reducible apply wpl_loadCH); (· exact cell_i64); (· rfl); (· rfl); (· exact H); (· (repeat (first | (with_reducible exact List.mem_cons_self) | with_reducible apply List.mem_cons_of_mem))); (· (with_reducible first | exact owe_g0 .. | exact owe_g1 ..)); (simp only [Act.put, List.setIfInBounds_toArray, List.set_cons_zero, List.set_cons_succ])) | (first | ((with_reducible show wpList _ _ _ (_ :: _) _ _); (with_reducible apply wpl_storeIH); (· exact cell_i64); (· rfl); (· rfl); (· rfl); (· exact H); (· (repeat (first | (with_reducible exact List.mem_cons_self) | with_reducible apply List.mem_cons_of_mem))); (· (simp only [owe_sz, Nat.reduceLT]; done)); (· (with_reducible first | exact owe_s0 .. | exact owe_s1 ..)); (· (repeat (first | (with_reducible exact Repl.here) | with_reducible apply Repl.there))); (clear H; intro _ H); (simp only [Act.put, List.setIfInBounds_toArray, List.set_cons_zero, List.set_cons_succ])) | ((with_reducible show wpList _ _ _ (_ :: _) _ _); (with_reducible apply wpl_storeBH); (· exact cell_i64); (· rfl); (· rfl); (· rfl); (· exact H); (· (repeat (first | (with_reducible exact List.mem_cons_self) | with_reducible apply List.mem_cons_of_mem))); (· (simp only [owe_sz, Nat.reduceLT]; done)); (· (with_reducible first | exact owe_s0 .. | exact owe_s1 ..)); (· (repeat (first | (with_reducible exact Repl.here) | with_reducible apply Repl.there))); (clear H; intro _ H); (simp only [Act.put, List.setIfInBounds_toArray, List.set_cons_zero, List.set_cons_succ])) | ((with_reducible show wpList _ _ _ (_ :: _) _ _); (with_reducible apply wpl_storeSH); (· exact cell_i64); (· rfl); (· rfl); (· rfl); (· exact H); (· (repeat (first | (with_reducible exact List.mem_cons_self) | with_reducible apply List.mem_cons_of_mem))); (· (simp only [owe_sz, Nat.reduceLT]; done)); (· (with_reducible first | exact owe_s0 .. | exact owe_s1 ..)); (· (repeat (first | (with_reducible exact Repl.here) | with_reducible apply Repl.there))); (clear H; intro _ H); (simp only [Act.put, List.setIfInBounds_toArray, List.set_cons_zero, List.set_cons_succ])) | ((with_reducible show wpList _ _ _ (_ :: _) _ _); (with_reducible apply wpl_storePH); (· exact cell_i64); (· rfl); (· rfl); (· rfl); (· exact H); (· (repeat (first | (with_reducible exact List.mem_cons_self) | with_reducible apply List.mem_cons_of_mem))); (· (simp only [owe_sz, Nat.reduceLT]; done)); (· (with_reducible first | exact owe_s0 .. | exact owe_s1 ..)); (· (repeat (first | (with_reducible exact Repl.here) | with_reducible apply Repl.there))); (clear H; intro _ H); (simp only [Act.put, List.setIfInBounds_toArray, List.set_cons_zero, List.set_cons_succ]))))
    rw [hs] at H
    refine wp_region_H_tail 6 H (by kernel_rfl) (by kernel_rfl) ?_
    simp only [List.take_succ_cons, List.take_zero, List.drop_succ_cons, List.drop_zero]
    repeat (first | go_big_quiet_skip | (first | ((with_reducible apply wpQ_loadCH); (· exact cell_map); (· rfl); (· rfl); (· (repeat (first | (with_reducible exact List.mem_cons_self) | with_reducible apply List.mem_cons_of_mem))); (· exact ledA_map _ _); (simp only [Act.put, List.setIfInBounds_toArray, List.set_cons_zero, List.set_cons_succ])) | ((with_reducible apply wpQ_loadRH row_ends); (· rfl); (· rfl); (· (repeat (first | (with_reducible exact List.mem_cons_self) | with_reducible apply List.mem_cons_of_mem))); (· (simp only [ends_sz, Nat.reduceAdd, Nat.reduceLeDiff, Nat.le_refl]; done)); (· with_reducible exact ends_all ..); (simp only [Act.put, List.setIfInBounds_toArray, List.set_cons_zero, List.set_cons_succ])) | ((with_reducible apply wpQ_loadRH row_owe); (· rfl); (· rfl); (· (repeat (first | (with_reducible exact List.mem_cons_self) | with_reducible apply List.mem_cons_of_mem))); (· (simp only [owe_sz, Nat.reduceAdd, Nat.reduceLeDiff, Nat.le_refl]; done)); (· with_reducible exact owe_all ..); (simp only [Act.put, List.setIfInBounds_toArray, List.set_cons_zero, List.set_cons_succ]))) | go_big_quiet_step (fail))
    refine wpQuiet_nil ?_
    clear H
    intro _ H
    go_wp2_with (first | go_skip | ((with_reducible show wpList _ _ _ (_ :: _) _ _); (with_reducible apply wpl_putM map_ty); (· rfl); (· rfl); (· rfl); (· rfl); (· exact k1.out); (· exact H); (· exact hp.out); (· (repeat (first | (with_reducible exact Repl.here) | with_reducible apply Repl.there))); (clear H; intro _ H); (simp only [Act.put, List.setIfInBounds_toArray, List.set_cons_zero, List.set_cons_succ])))
    go_end0
    exact ⟨rfl, H.tail.tail⟩
end
end Go.Proofs.Ytgobnamhdkbbeaa
