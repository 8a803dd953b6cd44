/- Part 8 of what several laws stand on: NetK, SortG, NetS, LedSort, LedOrd, SortH, Append, Led7, Led8, NoDeb, Led9, SameL. -/
import Derived.Test.YtgobnamhdkbbeaaNetGPart7
import Derived.Shelf.SlSortCmp.WholeK
import Derived.Test.YtgobnamhdkbbeaaShelfL
import Derived.Laws.StructEq
/- nettings: kept, and what it is asked with. -/
namespace Go.Proofs.Ytgobnamhdkbbeaa
open Go.RowKit
set_option linter.unusedSimpArgs false
set_option linter.unusedVariables false
set_option maxRecDepth 100000
theorem flow_cellsK (f t n : Int) : Cells 3 #[.int .u8 f, .int .u8 t, .int .i64 n] := flow_cells f t n
theorem flow_spliceK (a b c f t n : Int) : splice (flow a b c) 0 #[.int .u8 f, .int .u8 t, .int .i64 n] = flow f t n := flow_splice a b c f t n
structure KeptR (W : World) (l : List Thing) (L : List Lin) (c n : Nat) (v i : Value) (wr : World) : Prop where
  out : ∃ k m : Nat, k ≤ n ∧ i = .int .i64 (k : Int) ∧ m = (keptD (L.take k) c).length ∧ (m = 0 → v = .slice none 0 0) ∧ Heap W (RowT 32 3 v m (flwL (keptD (L.take k) c)) :: l) wr
section
variable {W w : World} {l : List Thing}
set_option maxHeartbeats 4000000
theorem debt1_H (x : Lin) (pc c : Nat) (hx : 0 ≤ x.cu ∧ x.cu ≤ 255) (m : Cel pc #[.int .u8 (c : Int)] 23 ∈ l) (H : Heap W l w) :
    Calls Try.prog 81 #[.agg (line x.cr x.db x.cu x.lim x.deb), .pointer (some ⟨pc, 0, none⟩)] w fun e w' => e = .returned (.tuple #[.agg (flow x.db x.cr x.deb), .bool (owes c x)]) ∧ Heap W l w' := by
  obtain ⟨cr, db, cu, lim, deb⟩ := x
  simp only at hx ⊢
  unfold owes
  simp only
  have hg : (#[Value.int .u8 (c : Int)] : Array Value)[0]? = some (.int .u8 (c : Int)) := rfl
  by_cases h1 : cu = (c : Int)
  · have e1 : (cu == (c : Int)) = true := by simpa using h1
    rw [e1]
    by_cases h2 : 0 < deb
    all_goals
      go_enter Try.func81, Try.ntmps81
      go_wp2_with (first | go_skip | ((with_reducible show wpList _ _ _ (_ :: _) _ _); (with_reducible apply wpl_boxRH); (· rfl); (· rfl); (· exact H); (clear H; intro px _ H); (simp only [Act.put, List.setIfInBounds_toArray, List.set_cons_zero, List.set_cons_succ])) | ((with_reducible show wpList _ _ _ (_ :: _) _ _); (with_reducible apply wpl_allocRH row_flow); (· rfl); (· exact H); (clear H; intro py _ H); (simp only [Act.put, List.setIfInBounds_toArray, List.set_cons_zero, List.set_cons_succ])))
      refine wp_region_W [16] (fun l0 => ∃ pre, l0 = pre ++ _) H ⟨[_], rfl⟩ (by kernel_rfl) (by kernel_rfl) ?_
      iterate 16 (apply wpW_step; (· rfl); (· rfl); (· exact Nat.le_of_ble_eq_true rfl); (· rintro l0 ⟨pre, rfl⟩ w0 H0; (first | go_big_quiet_skip | (first | ((with_reducible apply wpQ_loadCH); (· first | exact cell_party | exact cell_cur | exact cell_i64); (· rfl); (· rfl); (· ((refine List.mem_append_right _ ?_); (repeat (first | (with_reducible exact List.mem_cons_self) | with_reducible apply List.mem_cons_of_mem)))); (· with_reducible first | exact line_g0 .. | exact line_g1 .. | exact line_g2 .. | exact line_g3 .. | exact line_g4 ..); (simp only [Act.put, List.setIfInBounds_toArray, List.set_cons_zero, List.set_cons_succ])) | ((with_reducible apply wpQ_loadCH); (· exact cell_cur); (· rfl); (· rfl); (· exact List.mem_append_right _ (List.mem_cons_of_mem _ m)); (· exact hg); (simp only [Act.put, List.setIfInBounds_toArray, List.set_cons_zero, List.set_cons_succ]))) | go_big_quiet_step (fail)); (refine wpQuiet_nil ?_); (simp only [Array.getD_eq_getD_getElem?, List.getElem?_toArray, List.getElem?_cons_succ, List.getElem?_cons_zero, Option.getD_some]; rfl)); (simp only [Act.put, List.setIfInBounds_toArray, List.set_cons_zero, List.set_cons_succ]))
      ((with_reducible apply wpW_storeR row_flow); (· rfl); (· rfl); (· rfl); (· rfl); (· with_reducible exact flow_cellsK ..); (· (repeat (first | (with_reducible exact List.mem_cons_self) | with_reducible apply List.mem_cons_of_mem))); (· (simp only [flow_sz, Nat.reduceAdd, Nat.reduceLeDiff, Nat.le_refl]; done)); (· with_reducible exact flow_spliceK ..); (· (repeat (first | (with_reducible exact Repl.here) | with_reducible apply Repl.there))); (· exact ⟨[_], rfl⟩); (simp only [Act.put, List.setIfInBounds_toArray, List.set_cons_zero, List.set_cons_succ]))
      (apply wpW_step; (· rfl); (· rfl); (· exact Nat.le_of_ble_eq_true rfl); (· rintro l0 ⟨pre, rfl⟩ w0 H0; (first | go_big_quiet_skip | fail | go_big_quiet_step (fail)); (refine wpQuiet_nil ?_); (simp only [Array.getD_eq_getD_getElem?, List.getElem?_toArray, List.getElem?_cons_succ, List.getElem?_cons_zero, Option.getD_some]; rfl)); (simp only [Act.put, List.setIfInBounds_toArray, List.set_cons_zero, List.set_cons_succ]))
      (refine wpW_nil ?_; clear H; intro _ H)
      go_wp2_with (go_skip)
      exact ret_row2H row_flow rfl rfl rfl H List.mem_cons_self rfl rfl ⟨by simp [h2], H.tail.tail⟩
  · have e1 : (cu == (c : Int)) = false := by simpa using h1
    rw [e1]
    go_enter Try.func81, Try.ntmps81
    go_wp2_with (first | go_skip | ((with_reducible show wpList _ _ _ (_ :: _) _ _); (with_reducible apply wpl_boxRH); (· rfl); (· rfl); (· exact H); (clear H; intro px _ H); (simp only [Act.put, List.setIfInBounds_toArray, List.set_cons_zero, List.set_cons_succ])) | ((with_reducible show wpList _ _ _ (_ :: _) _ _); (with_reducible apply wpl_allocRH row_flow); (· rfl); (· exact H); (clear H; intro py _ H); (simp only [Act.put, List.setIfInBounds_toArray, List.set_cons_zero, List.set_cons_succ])))
    refine wp_region_W [16] (fun l0 => ∃ pre, l0 = pre ++ _) H ⟨[_], rfl⟩ (by kernel_rfl) (by kernel_rfl) ?_
    iterate 16 (apply wpW_step; (· rfl); (· rfl); (· exact Nat.le_of_ble_eq_true rfl); (· rintro l0 ⟨pre, rfl⟩ w0 H0; (first | go_big_quiet_skip | (first | ((with_reducible apply wpQ_loadCH); (· first | exact cell_party | exact cell_cur | exact cell_i64); (· rfl); (· rfl); (· ((refine List.mem_append_right _ ?_); (repeat (first | (with_reducible exact List.mem_cons_self) | with_reducible apply List.mem_cons_of_mem)))); (· with_reducible first | exact line_g0 .. | exact line_g1 .. | exact line_g2 .. | exact line_g3 .. | exact line_g4 ..); (simp only [Act.put, List.setIfInBounds_toArray, List.set_cons_zero, List.set_cons_succ])) | ((with_reducible apply wpQ_loadCH); (· exact cell_cur); (· rfl); (· rfl); (· exact List.mem_append_right _ (List.mem_cons_of_mem _ m)); (· exact hg); (simp only [Act.put, List.setIfInBounds_toArray, List.set_cons_zero, List.set_cons_succ]))) | go_big_quiet_step (fail)); (refine wpQuiet_nil ?_); (simp only [Array.getD_eq_getD_getElem?, List.getElem?_toArray, List.getElem?_cons_succ, List.getElem?_cons_zero, Option.getD_some]; rfl)); (simp only [Act.put, List.setIfInBounds_toArray, List.set_cons_zero, List.set_cons_succ]))
    ((with_reducible apply wpW_storeR row_flow); (· rfl); (· rfl); (· rfl); (· rfl); (· with_reducible exact flow_cellsK ..); (· (repeat (first | (with_reducible exact List.mem_cons_self) | with_reducible apply List.mem_cons_of_mem))); (· (simp only [flow_sz, Nat.reduceAdd, Nat.reduceLeDiff, Nat.le_refl]; done)); (· with_reducible exact flow_spliceK ..); (· (repeat (first | (with_reducible exact Repl.here) | with_reducible apply Repl.there))); (· exact ⟨[_], rfl⟩); (simp only [Act.put, List.setIfInBounds_toArray, List.set_cons_zero, List.set_cons_succ]))
    (apply wpW_step; (· rfl); (· rfl); (· exact Nat.le_of_ble_eq_true rfl); (· rintro l0 ⟨pre, rfl⟩ w0 H0; (first | go_big_quiet_skip | fail | go_big_quiet_step (fail)); (refine wpQuiet_nil ?_); (simp only [Array.getD_eq_getD_getElem?, List.getElem?_toArray, List.getElem?_cons_succ, List.getElem?_cons_zero, Option.getD_some]; rfl)); (simp only [Act.put, List.setIfInBounds_toArray, List.set_cons_zero, List.set_cons_succ]))
    (refine wpW_nil ?_; clear H; intro _ H)
    go_wp2_with (go_skip)
    exact ret_row2H row_flow rfl rfl rfl H List.mem_cons_self rfl rfl ⟨by simp, H.tail.tail⟩
end
end Go.Proofs.Ytgobnamhdkbbeaa

/- A row of structs put in order, as a thing: of whatever type. -/
namespace Go.Proofs.Ytgobnamhdkbbeaa
open Go.RowKit Go.Sort
set_option linter.unusedVariables false
set_option linter.unusedSimpArgs false
section
variable {W w : World} {l : List Thing} {g n c : Nat} {e : TypeId} {cur F : Array Value}
theorem putRow_at (h : w.heap[g]? = some (.cells cur e (0, 0))) (F : Array Value) : (putRow id w g 0 F).heap[g]? = some (.cells (putCells id 0 F cur) e (0, 0)) := by
  simp [putRow, mapBlock, Array.getElem?_modify, h, onCells]
theorem putRow_else {k : Nat} {off : Nat} (h : k ≠ g) (F : Array Value) : (putRow id w g off F).heap[k]? = w.heap[k]? := by
  simp [putRow, mapBlock, Array.getElem?_modify, Ne.symm h]
theorem putCells_take (hF : F.size ≤ cur.size) : (putCells id 0 F cur).toList.take F.size = F.toList := by
  apply List.ext_getElem?
  intro i
  rw [List.getElem?_take]
  by_cases hi : i < F.size
  · rw [if_pos hi]
    have h1 : i < cur.size := by omega
    simp [putCells, h1, hi]
  · rw [if_neg hi]
    simp [hi]
theorem sort_grown {α : Type} [Inhabited α] (enc : α → List Value) (k m : Nat) {off : Nat} (d' : Array α) (os : Array Obj) : w.grownBy (sortWorldK enc k w g off m d' os) (some g) := by
  refine ⟨rfl, rfl, rfl, size_sortWorldK_c enc k w g off m d' os, fun j hj hne => ?_⟩
  have hne : j ≠ g := fun h => hne (by rw [h])
  unfold sortWorldK
  rw [heap_grow_old _ _ (by simpa [putRowK, putRow, mapBlock, Sort.ahead] using hj)]
  unfold putRowK
  rw [putRow_else hne]
  rfl
end
section
variable {α : Type} {enc : α → List Value} {k : Nat}
theorem encL_len (he : ∀ x, (enc x).length = k) : ∀ L : List α, (L.flatMap enc).length = L.length * k
  | [] => by simp
  | x :: L => by rw [List.flatMap_cons, List.length_append, encL_len he L, he, List.length_cons, Nat.add_mul]; omega
theorem encL_at (he : ∀ x, (enc x).length = k) : ∀ (L : List α) (i : Nat) (h : i < L.length), ((L.flatMap enc).drop (i * k)).take k = enc L[i]
  | [], i, h => by simp at h
  | x :: L, 0, _ => by
    rw [List.flatMap_cons, Nat.zero_mul, List.drop_zero, List.take_append_of_le_length (by rw [he]; exact Nat.le_refl _), List.take_of_length_le (by rw [he]; exact Nat.le_refl _)]
    rfl
  | x :: L, i + 1, h => by
    have ih := encL_at he L i (by simpa using h)
    rw [List.getElem_cons_succ, ← ih, List.flatMap_cons, show (i + 1) * k = (enc x).length + i * k by rw [he, Nat.add_mul]; omega, List.drop_length_add_append]
variable [Inhabited α]
theorem flatG (he : ∀ x, (enc x).length = k) (hk : 0 < k) (d : Array α) : flatK enc k d = (d.toList.flatMap enc).toArray := by
  refine Go.Sort.ext_get! (by simp [encL_len he]) fun t ht => ?_
  have ht' : t < d.size * k := by simpa using ht
  rw [get_flatK _ _ _ _ ht']
  have hq : t / k < d.toList.length := by rw [Array.length_toList]; exact (Nat.div_lt_iff_lt_mul hk).2 ht'
  have h1 := encL_at he d.toList (t / k) hq
  have hr : t % k < k := Nat.mod_lt _ hk
  have h2 : (d.toList.flatMap enc)[t]? = (enc d.toList[t / k])[t % k]? := by
    rw [← h1, List.getElem?_take, if_pos hr, List.getElem?_drop]
    congr 1
    have := Nat.div_add_mod t k
    rw [Nat.mul_comm] at this
    omega
  have h3 : d[t / k]! = d.toList[t / k] := by
    rw [getElem!_pos d (t / k) (by simpa using hq)]; simp
  rw [h3]
  have h4 : ((d.toList.flatMap enc).toArray)[t]! = ((d.toList.flatMap enc)[t]?).getD default := by simp [Array.getElem!_eq_getD, Array.getD_eq_getD_getElem?]
  rw [h4, h2]
  simp [List.getElem!_eq_getElem?_getD]
section
variable {W w : World} {l : List Thing} {g n c : Nat} {e : TypeId} {cur F : Array Value}
theorem putRow_atO (h : w.heap[g]? = some (.cells cur e (0, 0))) (off : Nat) (F : Array Value) : (putRow id w g off F).heap[g]? = some (.cells (putCells id off F cur) e (0, 0)) := by
  simp [putRow, mapBlock, Array.getElem?_modify, h, onCells]
theorem putCells_takeO {off : Nat} (hF : off + F.size ≤ cur.size) : ((putCells id off F cur).toList.drop off).take F.size = F.toList := by
  apply List.ext_getElem?
  intro i
  rw [List.getElem?_take]
  by_cases hi : i < F.size
  · rw [if_pos hi, List.getElem?_drop]
    have h1 : off + i < cur.size := by omega
    simp [putCells, h1, hi]
  · rw [if_neg hi]
    simp [hi]
theorem sortG_holds (he : ∀ x, (enc x).length = k) (hk : 0 < k) {off : Nat} {L : List α} (h : (OwnT e k (.slice (some ⟨g, off, none⟩) n c) n (L.flatMap enc)).ok w) (hn : L.length = n) : HoldsK enc k w g off L.toArray := by
  obtain ⟨_, ⟨h1, _⟩ | ⟨g', off', cap, cur, h1, _, hh, h3, _, h5, ht⟩⟩ := h
  · cases h1
  · cases h1
    unfold HoldsK
    rw [flatG he hk]
    intro j hj
    have hj' : j < (L.flatMap enc).length := by simpa using hj
    have hj3 : j < n * k := by rw [encL_len he, hn] at hj'; exact hj'
    have hj2 : off + j < cur.size := by
      have := Nat.mul_le_mul_right k h3
      omega
    have hc : cur[off + j]? = (L.flatMap enc)[j]? := by
      rw [← ht, List.getElem?_take, if_pos hj3, List.getElem?_drop]
      simp
    rw [List.getElem?_eq_getElem hj'] at hc
    refine ⟨?_, ?_⟩
    · simp only [World.cell?, hh, if_true, hc]
      simp [hj']
      rw [List.getElem?_eq_getElem hj']
      rfl
    · simp [World.frozen?, hh]
theorem sortG_after (he : ∀ x, (enc x).length = k) (hk : 0 < k) {off : Nat} {L : List α} (h : (OwnT e k (.slice (some ⟨g, off, none⟩) n c) n (L.flatMap enc)).ok w) (m : Nat) (d' : Array α) (os : Array Obj) (hd : d'.size = n) : (OwnT e k (.slice (some ⟨g, off, none⟩) n c) n (d'.toList.flatMap enc)).ok (sortWorldK enc k w g off m d' os) := by
  obtain ⟨_, ⟨h1, _⟩ | ⟨g', off', cap, cur, h1, hg, hh, h2, h3, h4, ht⟩⟩ := h
  · cases h1
  · cases h1
    have hm := Nat.mul_le_mul_right k h2
    have hF : off + (flatK enc k d').size ≤ cur.size := by rw [size_flatK, hd]; omega
    refine ⟨by rw [encL_len he]; simp [hd], .inr ⟨g, off, c, putCells id off (flatK enc k d') cur, rfl, hg, ?_, h2, h3, ?_, ?_⟩⟩
    · unfold sortWorldK
      have hlt : g < w.heap.size := (Array.getElem?_eq_some_iff.1 hh).1
      rw [heap_grow_old _ _ (by simpa [putRowK, putRow, mapBlock, Sort.ahead] using hlt)]
      exact putRow_atO hh _ _
    · simpa [putCells] using h4
    · have := putCells_takeO hF
      rw [size_flatK, hd] at this
      rw [this, flatG he hk]
theorem sortG_heap (he : ∀ x, (enc x).length = k) (hk : 0 < k) {off : Nat} {L M : List α} (H : Heap W (OwnT e k (.slice (some ⟨g, off, none⟩) n c) n (L.flatMap enc) :: l) w) (hn : L.length = n) {m : Nat} {d' : Array α} {os : Array Obj} (h1 : PermIn 0 L.toArray.size L.toArray d') (hM : d'.toList = M) :
    Heap W (OwnT e k (.slice (some ⟨g, off, none⟩) n c) n (M.flatMap enc) :: l) (sortWorldK enc k w g off m d' os) := by
  have hd : d'.size = n := by rw [h1.1]; simpa using hn
  have := sortG_after he hk (H.ok _ (List.mem_cons_self ..)) m d' os hd
  rw [hM] at this
  exact H.head (sort_grown enc k m d' os) this (.inl rfl)
theorem slG_lt {xs : List Value} {z off : Nat} (H : Heap W (OwnT e z (.slice (some ⟨g, off, none⟩) n c) n xs :: l) w) : g < w.heap.size := (H.fp _ (List.mem_cons_self ..) g rfl).2
end
/-- What is sorted is the one list in this order. -/
theorem sortedG {cf : α → α → Int} {r : α → α → Prop} (ra : ∀ x y, r x y → ¬ r y x) {M : List α} (hM : M.Pairwise r) (hr : ∀ x ∈ M, ∀ y ∈ M, r x y → ltOf cf x y = true) {d d' : Array α} (hd : d.toList.Perm M) (hp : PermIn 0 d.size d d') (hs : SortedIn (ltOf cf) 0 d.size d') : d'.toList = M := by
  obtain ⟨hsz, _, hperm⟩ := hp
  have e1 : d'.extract 0 d.size = d' := by rw [← hsz]; simp
  have e2 : d.extract 0 d.size = d := by simp
  rw [e1, e2] at hperm
  have hP : d'.toList.Perm M := hperm.trans hd
  have hndM : M.Nodup := pw_nodup (fun x h => ra x x h h) hM
  have hnd : d'.toList.Nodup := hP.nodup_iff.2 hndM
  refine pw_ext ra ?_ hM (fun z => hP.mem_iff)
  rw [List.pairwise_iff_getElem]
  intro i j hi hj hij
  have hi' : i < d'.size := by simpa using hi
  have hj' : j < d'.size := by simpa using hj
  have h := hs i j (Nat.zero_le _) hij (by omega)
  rw [getElem!_pos d' i hi', getElem!_pos d' j hj'] at h
  have mi : d'[i] ∈ M := hP.mem_iff.1 (by simp)
  have mj : d'[j] ∈ M := hP.mem_iff.1 (by simp)
  have hne := List.pairwise_iff_getElem.1 hnd i j hi hj hij
  simp only [Array.getElem_toList] at hne ⊢
  obtain ⟨a, ha, ea⟩ := List.mem_iff_getElem.1 mi
  obtain ⟨b, hb, eb⟩ := List.mem_iff_getElem.1 mj
  rw [← ea, ← eb] at hne ⊢
  rcases Nat.lt_trichotomy a b with h2 | h2 | h2
  · exact List.pairwise_iff_getElem.1 hM a b ha hb h2
  · subst h2; exact absurd rfl hne
  · have h3 := List.pairwise_iff_getElem.1 hM b a hb ha h2
    rw [ea, eb] at h3
    rw [hr _ mj _ mi h3] at h
    cases h
end
end Go.Proofs.Ytgobnamhdkbbeaa

/- nettings: the debts in their order. -/
namespace Go.Proofs.Ytgobnamhdkbbeaa
open Go.RowKit Go.Sort
set_option linter.unusedSimpArgs false
set_option linter.unusedVariables false
set_option maxRecDepth 100000
set_option maxHeartbeats 2000000
instance : Inhabited Flw := ⟨⟨0, 0, 0⟩⟩
theorem lt_cfF (x y : Flw) : ltOf cfF x y = decide (cfF x y < 0) := rfl
theorem swoF : SWO (ltOf cfF) where
  irrefl x := by rw [lt_cfF, decide_eq_false_iff_not, cfF_lt]; omega
  trans x y z h1 h2 := by rw [lt_cfF, decide_eq_true_eq, cfF_lt] at *; omega
  ntrans x y z h1 h2 := by rw [lt_cfF, decide_eq_false_iff_not, cfF_lt] at *; omega
theorem order13 (x y : Flw) : AnsG 83 #[.agg (flow (x.f : Int) (x.t : Int) x.n), .agg (flow (y.f : Int) (y.t : Int) y.n)] (.int .i64 (cfF x y)) := by
  intro w
  unfold cfF
  have c2 := AnsG.same (cmpP_ans x.f y.f)
  have c3 := AnsG.same (cmpP_ans x.t y.t)
  obtain ⟨xr, xd, xn⟩ := x
  obtain ⟨yr, yd, yn⟩ := y
  simp only at c2 c3 ⊢
  have h1 : blk ((w.alloc (.cells (flow (xr : Int) (xd : Int) xn) 32)).alloc (.cells (flow (yr : Int) (yd : Int) yn) 32)) w.heap.size = some (.cells (flow (xr : Int) (xd : Int) xn) 32 (0, 0)) := by
    unfold blk
    rw [Below.heap_alloc _ _ _ (by simp)]
    exact heap_alloc_new w _
  have h2 : blk ((w.alloc (.cells (flow (xr : Int) (xd : Int) xn) 32)).alloc (.cells (flow (yr : Int) (yd : Int) yn) 32)) (w.heap.size + 1) = some (.cells (flow (yr : Int) (yd : Int) yn) 32 (0, 0)) := by
    have := heap_alloc_new (w.alloc (.cells (flow (xr : Int) (xd : Int) xn) 32)) (.cells (flow (yr : Int) (yd : Int) yn) 32)
    simpa [blk] using this
  have hg : Grw w ((w.alloc (.cells (flow (xr : Int) (xd : Int) xn) 32)).alloc (.cells (flow (yr : Int) (yd : Int) yn) 32)) := ((Grw.refl w).alloc _).alloc _
  generalize Lib.compareInt (xr : Int) (yr : Int) = b at *
  generalize Lib.compareInt (xd : Int) (yd : Int) = c at *
  generalize hw0 : ((w.alloc (.cells (flow (xr : Int) (xd : Int) xn) 32)).alloc (.cells (flow (yr : Int) (yd : Int) yn) 32)) = w0 at *
  have HW := Lib.hid hw0
  clear hw0
  go_enter Try.func83, Try.ntmps83
  go_wp2_with (go_skip)
  rw [HW.out]
  refine wp_region_G_tail 10 (by kernel_rfl) (by kernel_rfl) ?_
  simp only [List.take_succ_cons, List.take_zero, List.drop_succ_cons, List.drop_zero]
  repeat (first
    | go_big_quiet_skip
    | ((with_reducible apply wpQ_loadCG); (· exact cell_party); (· rfl); (· rfl); (· first | exact h1 | exact h2); (· with_reducible first | exact flow_g0 .. | exact flow_g1 ..); (simp only [Act.put, List.setIfInBounds_toArray, List.set_cons_zero, List.set_cons_succ]))
    | go_big_quiet_step (with_reducible exact AnsG.quiet (by assumption)))
  refine wpQuiet_nil ?_
  clear h1 h2
  intro w1 g1
  have g2 := hg.trans g1
  go_wp2_with (go_skip)
  have hb : Rd (w1.alloc (.cells #[.int .i64 b, .int .i64 c] 3)) (some ⟨w1.heap.size, 0, none⟩) ([b, c].map (Value.int .i64)) := by
    intro i hi
    refine ⟨_, _, rfl, ?_⟩
    rw [cell_of_row _ _ (0 + i) _ _ _ (heap_alloc_new w1 _)]
    simp at hi
    simp [hi]
  refine (or_C _ 2 2 [b, c] rfl (by omega) _ hb).mono ?_
  clear hb
  rintro e w' ⟨rfl, rfl⟩
  go_wp2_with (go_skip)
  go_ret
  exact ⟨rfl, g2.alloc _⟩
theorem insF_none (p : Option Addr) (cap : Nat) (fv : Value) (w : World) :
    Calls Try.prog 145 #[.slice p 0 cap, .int .i64 0, .int .i64 0, fv] w fun e w' => e = .returned (.tuple #[]) ∧ w' = w := by
  go_enter Try.func145, Try.ntmps145
  go_wp2
  refine wp_loop_rounds 1 ?_
  rw [rounds_succ]
  go_wp2
  go_end0
  exact ⟨rfl, rfl⟩
theorem pdqF_none (p : Option Addr) (cap : Nat) (lim : Int) (fv : Value) (w : World) :
    Calls Try.prog 111 #[.slice p 0 cap, .int .i64 0, .int .i64 0, .int .i64 lim, fv] w fun e w' => e = .returned (.tuple #[]) ∧ w' = w := by
  have hi := fun W => insF_none p cap fv W
  go_enter Try.func111, Try.ntmps111
  go_wp2
  refine wp_loop_rounds 1 ?_
  rw [rounds_succ]
  go_wp2_with (first | go_skip | ((refine (hi _).mono ?_); rintro e w' ⟨rfl, rfl⟩))
  (try simp only [Exit.inBlock, Exit.then])
  refine bodyPost_ret (results_none rfl _ _ _) rfl ?_
  exact ⟨rfl, rfl⟩
theorem sortF_none (p : Option Addr) (cap : Nat) (fv : Value) (w : World) :
    Calls Try.prog 82 #[.slice p 0 cap, fv] w fun e w' => e = .returned (.tuple #[]) ∧ w' = w := by
  have hp := fun lim W => pdqF_none p cap lim fv W
  have hl : ∀ W, Calls Try.prog 105 #[.int .u64 0] W fun e w' => e = .returned (.int .i64 (Lib.bitLen 0 : Nat)) ∧ w' = W := fun W => by
    have h := Go.Proofs.Any.bits_Len (SlLaysF0.n15.bits (P := Try.prog) (ρ := Try.sortFlow_ren) { Try.sortFlow with }) 0 W (by omega) (by omega)
    exact h
  go_enter Try.func82, Try.ntmps82
  go_wp2_with (first | go_skip | ((refine (hl _).mono ?_); rintro e w' ⟨rfl, rfl⟩) | ((refine (hp _ _).mono ?_); rintro e w' ⟨rfl, rfl⟩))
  go_end0
  exact ⟨rfl, rfl⟩
theorem flwV_len (x : Flw) : (flwV x).length = 3 := rfl
section
variable {W w : World} {l : List Thing} {g off n c : Nat}
theorem cmpLays_dbt (blk off size : Nat) (w : World) : CmpLays Try.prog 83 #[] flwV 3 cfF blk off size w := fun m os dk hs x y => order13 x y _
theorem fsort_H {L M : List Flw} (H : Heap W (OwnT 32 3 (.slice (some ⟨g, off, none⟩) n c) n (flwL L) :: l) w) (hn : L.length = n) (hb : n ≤ 1000000) (hp : L.Perm M) (hM : M.Pairwise fun y x => cfF y x < 0) :
    Calls Try.prog 82 #[.slice (some ⟨g, off, none⟩) n c, .func (.func 83) #[] #[]] w fun e w' => e = .returned (.tuple #[]) ∧ Heap W (OwnT 32 3 (.slice (some ⟨g, off, none⟩) n c) n (flwL M) :: l) w' := by
  have hsz : L.toArray.size = n := by simpa using hn
  have eg : ∀ args w, (callFunc 83 args).run Try.prog w = .ok (.enter 83 args) w := enters_of Try.func83 (by kernel_rfl) rfl
  have hcon := AnyQ.slices_SortFunc Try.sortFlow 3 Try.isAgg32 Try.sizeOf32 flwV (fun _ => rfl) (fun x v hv => by simp [flwV] at hv; rcases hv with rfl | rfl | rfl <;> rfl) cfF swoF 83 #[] g off c L.toArray w eg (cmpLays_dbt g off _ w) (sortG_holds flwV_len (by omega) (H.ok _ List.mem_cons_self) hn) (slG_lt H) (by omega)
  change Calls Try.prog 82 _ _ _ at hcon
  rw [hsz] at hcon
  refine hcon.mono fun e w' ⟨he, d', k, os, h1, h2, hw⟩ => ⟨he, ?_⟩
  subst hw
  exact sortG_heap flwV_len (by omega) H hn (by rw [hsz]; exact h1) (sortedG cfF_asym hM (fun x _ y _ h => by rw [lt_cfF]; exact decide_eq_true h) (by simpa using hp) (by rw [hsz]; exact h1) (by rw [hsz]; exact h2))
end
end Go.Proofs.Ytgobnamhdkbbeaa

/- The lines of a ledger in order. -/
namespace Go.Proofs.Ytgobnamhdkbbeaa
open Go.RowKit Go.Sort
instance : Inhabited Lin := ⟨⟨0, 0, 0, 0, 0⟩⟩
def linV (x : Lin) : List Value := [.int .u8 x.cr, .int .u8 x.db, .int .u8 x.cu, .int .i64 x.lim, .int .i64 x.deb]
def linL (L : List Lin) : List Value := L.flatMap linV
theorem linL_len (L : List Lin) : (linL L).length = L.length * 5 := by
  induction L with
  | nil => rfl
  | cons x F ih => simp only [linL, List.flatMap_cons, List.length_append] at *; rw [ih]; simp [linV, Nat.add_mul]; omega
theorem linL_app (F G : List Lin) : linL (F ++ G) = linL F ++ linL G := by simp [linL]
theorem linL_at : ∀ (L : List Lin) (k : Nat) (h : k < L.length), ((linL L).drop (k * 5)).take 5 = linV L[k]
  | [], k, h => by simp at h
  | x :: L, 0, _ => by simp [linL, linV]
  | x :: L, k + 1, h => by
    have := linL_at L k (by simpa using h)
    rw [List.getElem_cons_succ, ← this]
    rw [show linL (x :: L) = linV x ++ linL L by simp [linL]]
    rw [show (k + 1) * 5 = (linV x).length + k * 5 by simp [linV]; omega, List.drop_length_add_append]
theorem linL_row (L : List Lin) (k : Nat) (h : k < L.length) : (((linL L).drop (k * 5)).take 5).toArray = line L[k].cr L[k].db L[k].cu L[k].lim L[k].deb := by
  rw [linL_at L k h]; rfl
theorem linL_ones (L : List Lin) : OneCells (linL L) := fun u hu => by
  unfold linL at hu
  rw [List.mem_flatMap] at hu
  obtain ⟨x, _, hx⟩ := hu
  simp only [linV, List.mem_cons, List.not_mem_nil, or_false] at hx
  rcases hx with rfl | rfl | rfl | rfl | rfl <;> rfl
theorem flatK_lin (d : Array Lin) : flatK linV 5 d = (linL d.toList).toArray := by
  refine Go.Sort.ext_get! (by simp [linL_len]) fun t ht => ?_
  have ht' : t < d.size * 5 := by simpa using ht
  rw [get_flatK _ _ _ _ ht']
  have hq : t / 5 < d.toList.length := by simp; omega
  have h1 := linL_at d.toList (t / 5) hq
  have hr : t % 5 < 5 := Nat.mod_lt _ (by omega)
  have h2 : (linL d.toList)[t]? = (linV d.toList[t / 5])[t % 5]? := by
    rw [← h1, List.getElem?_take, if_pos hr, List.getElem?_drop]
    congr 1; omega
  have h3 : d[t / 5]! = d.toList[t / 5] := by
    rw [getElem!_pos d (t / 5) (by simpa using hq)]; simp
  rw [h3]
  have h4 : ((linL d.toList).toArray)[t]! = ((linL d.toList)[t]?).getD default := by simp [Array.getElem!_eq_getD, Array.getD_eq_getD_getElem?]
  rw [h4, h2]
  simp [List.getElem!_eq_getElem?_getD]
def or3 (a b c : Int) : Int := if a ≠ 0 then a else if b ≠ 0 then b else c
def cfL (x y : Lin) : Int := or3 (Lib.compareInt x.cu y.cu) (Lib.compareInt x.cr y.cr) (Lib.compareInt x.db y.db)
theorem lt_cfL (x y : Lin) : ltOf cfL x y = decide (x.cu < y.cu ∨ x.cu = y.cu ∧ (x.cr < y.cr ∨ x.cr = y.cr ∧ x.db < y.db)) := by
  have key : ∀ a b : Int, (a < b ∧ Lib.compareInt a b = -1) ∨ (a = b ∧ Lib.compareInt a b = 0) ∨ (b < a ∧ Lib.compareInt a b = 1) := fun a b => by
    unfold Lib.compareInt
    rcases Int.lt_trichotomy a b with h | h | h
    · exact .inl ⟨h, by simp [h]⟩
    · exact .inr (.inl ⟨h, by simp [h]⟩)
    · refine .inr (.inr ⟨h, ?_⟩)
      rw [if_neg (by omega)]
      simp [h]
  unfold ltOf cfL or3
  congr 1
  rcases key x.cu y.cu with ⟨h, e⟩ | ⟨h, e⟩ | ⟨h, e⟩ <;> rw [e]
  · simp [h]
  · rcases key x.cr y.cr with ⟨h2, e2⟩ | ⟨h2, e2⟩ | ⟨h2, e2⟩ <;> rw [e2]
    · simp [h, h2]
    · rcases key x.db y.db with ⟨h3, e3⟩ | ⟨h3, e3⟩ | ⟨h3, e3⟩ <;> rw [e3]
      · simp [h, h2, h3]
      · simp [h, h2, h3]
      · simp [h, h2]; omega
    · simp [h]; omega
  · simp; omega
theorem swoL : SWO (ltOf cfL) where
  irrefl x := by rw [lt_cfL]; simp
  trans x y z h1 h2 := by rw [lt_cfL] at *; simp only [decide_eq_true_eq] at *; omega
  ntrans x y z h1 h2 := by rw [lt_cfL] at *; simp only [decide_eq_false_iff_not] at *; omega
theorem lt_rank {x y : Lin} (hx : Small x) (hy : Small y) : ltOf cfL x y = decide (x.rank < y.rank) := by
  rw [lt_cfL]
  unfold Small at hx hy
  unfold Lin.rank
  congr 1
  refine propext ⟨?_, ?_⟩ <;> intro h <;> omega
theorem sorted_lines {S : Lgr} {d d' : Array Lin} (G : S.Good) (hd : d.toList.Perm S.L) (hp : PermIn 0 d.size d d') (hs : SortedIn (ltOf cfL) 0 d.size d') : d'.toList = S.L := by
  obtain ⟨hsz, _, hperm⟩ := hp
  have e1 : d'.extract 0 d.size = d' := by rw [← hsz]; simp
  have e2 : d.extract 0 d.size = d := by simp
  rw [e1, e2] at hperm
  have hP : d'.toList.Perm S.L := hperm.trans hd
  have hnd : d'.toList.Nodup := hP.nodup_iff.2 (sorted_nodup G.ord)
  refine sorted_ext ?_ G.ord (fun z => hP.mem_iff)
  rw [List.pairwise_iff_getElem]
  intro i j hi hj hij
  have hi' : i < d'.size := by simpa using hi
  have hj' : j < d'.size := by simpa using hj
  have h := hs i j (Nat.zero_le _) hij (by omega)
  rw [getElem!_pos d' i hi', getElem!_pos d' j hj'] at h
  have mi : d'[i] ∈ S.L := hP.mem_iff.1 (by simp)
  have mj : d'[j] ∈ S.L := hP.mem_iff.1 (by simp)
  rw [lt_rank (G.smalls _ mj) (G.smalls _ mi)] at h
  simp only [decide_eq_false_iff_not] at h
  simp only [Array.getElem_toList]
  rcases Int.lt_or_le d'[i].rank d'[j].rank with h' | h'
  · exact h'
  · exfalso
    have e : d'[i] = d'[j] := G.uniq mi mj (by omega)
    have hne := List.pairwise_iff_getElem.1 hnd i j hi hj hij
    exact hne (by simpa using e)
end Go.Proofs.Ytgobnamhdkbbeaa

/- ledgers.order. -/
namespace Go.Proofs.Ytgobnamhdkbbeaa
open Go.RowKit Go.Sort
set_option linter.unusedSimpArgs false
set_option linter.unusedVariables false
set_option maxRecDepth 100000
set_option maxHeartbeats 1000000
theorem nanC_ans (x : Int) (w : World) : Calls Try.prog 130 #[.int .u8 x] w fun e w' => e = .returned (.bool false) ∧ w' = w := by
  go_enter Try.func130, Try.ntmps130
  go_wp2_with (go_skip)
  go_ret
  exact ⟨by simp, rfl⟩
theorem cmpC_ans (x y : Int) (w : World) : Calls Try.prog 106 #[.int .u8 x, .int .u8 y] w fun e w' => e = .returned (.int .i64 (Lib.compareInt x y)) ∧ w' = w := by
  have c1 := nanC_ans x
  have c2 := nanC_ans y
  have key : (x < y ∧ Lib.compareInt x y = -1) ∨ (¬ x < y ∧ y < x ∧ Lib.compareInt x y = 1) ∨ (¬ x < y ∧ ¬ y < x ∧ Lib.compareInt x y = 0) := by
    unfold Lib.compareInt
    by_cases h : x < y
    · exact .inl ⟨h, by rw [if_pos h]⟩
    · by_cases h2 : y < x
      · exact .inr (.inl ⟨h, h2, by rw [if_neg h, if_pos h2]⟩)
      · exact .inr (.inr ⟨h, h2, by rw [if_neg h, if_neg h2]⟩)
  rcases key with ⟨h, e⟩ | ⟨h, h2, e⟩ | ⟨h, h2, e⟩
  all_goals
    rw [e]
    clear e
    go_enter Try.func106, Try.ntmps106
    go_wp2_with (first | go_skip | ((refine (c1 _).mono ?_); rintro e w' ⟨rfl, rfl⟩) | ((refine (c2 _).mono ?_); rintro e w' ⟨rfl, rfl⟩))
    go_ret
    exact ⟨rfl, rfl⟩
theorem order_ans (x y : Lin) : AnsG 74 #[.agg (line x.cr x.db x.cu x.lim x.deb), .agg (line y.cr y.db y.cu y.lim y.deb)] (.int .i64 (cfL x y)) := by
  intro w
  have hcf : cfL x y = orL [Lib.compareInt x.cu y.cu, Lib.compareInt x.cr y.cr, Lib.compareInt x.db y.db] := by
    unfold cfL or3 orL orL orL orL
    split <;> first | rfl | (split <;> first | rfl | (split <;> first | rfl | (simp_all)))
  rw [hcf]
  clear hcf
  have c1 := AnsG.same (cmpC_ans x.cu y.cu)
  have c2 := AnsG.same (cmpP_ans x.cr y.cr)
  have c3 := AnsG.same (cmpP_ans x.db y.db)
  obtain ⟨xr, xd, xu, xl, xe⟩ := x
  obtain ⟨yr, yd, yu, yl, ye⟩ := y
  simp only at c1 c2 c3 ⊢
  have h1 : blk ((w.alloc (.cells (line xr xd xu xl xe) 84)).alloc (.cells (line yr yd yu yl ye) 84)) w.heap.size = some (.cells (line xr xd xu xl xe) 84 (0, 0)) := by
    unfold blk
    rw [Below.heap_alloc _ _ _ (by simp)]
    exact heap_alloc_new w _
  have h2 : blk ((w.alloc (.cells (line xr xd xu xl xe) 84)).alloc (.cells (line yr yd yu yl ye) 84)) (w.heap.size + 1) = some (.cells (line yr yd yu yl ye) 84 (0, 0)) := by
    have := heap_alloc_new (w.alloc (.cells (line xr xd xu xl xe) 84)) (.cells (line yr yd yu yl ye) 84)
    simpa [blk] using this
  have hg : Grw w ((w.alloc (.cells (line xr xd xu xl xe) 84)).alloc (.cells (line yr yd yu yl ye) 84)) := ((Grw.refl w).alloc _).alloc _
  generalize Lib.compareInt xu yu = a at *
  generalize Lib.compareInt xr yr = b at *
  generalize Lib.compareInt xd yd = c at *
  generalize hw0 : ((w.alloc (.cells (line xr xd xu xl xe) 84)).alloc (.cells (line yr yd yu yl ye) 84)) = w0 at *
  have HW := Lib.hid hw0
  clear hw0
  go_enter Try.func74, Try.ntmps74
  go_wp2_with (go_skip)
  rw [HW.out]
  refine wp_region_G_tail 15 (by kernel_rfl) (by kernel_rfl) ?_
  simp only [List.take_succ_cons, List.take_zero, List.drop_succ_cons, List.drop_zero]
  repeat (first
    | go_big_quiet_skip
    | ((with_reducible apply wpQ_loadCG); (· first | exact cell_party | exact cell_cur); (· rfl); (· rfl); (· first | exact h1 | exact h2); (· with_reducible first | exact line_g0 .. | exact line_g1 .. | exact line_g2 ..); (simp only [Act.put, List.setIfInBounds_toArray, List.set_cons_zero, List.set_cons_succ]))
    | go_big_quiet_step (with_reducible exact AnsG.quiet (by assumption)))
  refine wpQuiet_nil ?_
  clear h1 h2
  intro w1 g1
  have g2 := hg.trans g1
  go_wp2_with (go_skip)
  have hb : Rd (w1.alloc (.cells #[.int .i64 a, .int .i64 b, .int .i64 c] 3)) (some ⟨w1.heap.size, 0, none⟩) ([a, b, c].map (Value.int .i64)) := by
    intro i hi
    refine ⟨_, _, rfl, ?_⟩
    rw [cell_of_row _ _ (0 + i) _ _ _ (heap_alloc_new w1 _)]
    simp at hi
    simp [hi]
  refine (or_C _ 3 3 [a, b, c] rfl (by omega) _ hb).mono ?_
  clear hb
  rintro e w' ⟨rfl, rfl⟩
  go_wp2_with (go_skip)
  go_ret
  exact ⟨rfl, g2.alloc _⟩
end Go.Proofs.Ytgobnamhdkbbeaa

/- A row of structs put in order, as a thing. -/
namespace Go.Proofs.Ytgobnamhdkbbeaa
open Go.RowKit Go.Sort
set_option linter.unusedVariables false
set_option linter.unusedSimpArgs false
section
variable {W w : World} {l : List Thing} {g n c : Nat} {e : TypeId} {cur F : Array Value}
theorem sort_holds {L : List Lin} (h : (Sl g e 5 n c (linL L)).ok w) (hn : L.length = n) : HoldsK linV 5 w g 0 L.toArray := by
  obtain ⟨_, ⟨h1, _⟩ | ⟨g', cap, cur, h1, _, hh, _, _, _, ht⟩⟩ := h
  · cases h1
  · cases h1
    unfold HoldsK
    rw [flatK_lin]
    intro j hj
    have hj' : j < (linL L).length := by simpa using hj
    have hj2 : j < cur.size := by
      have := congrArg List.length ht
      simp at this; omega
    have hc : cur[j]? = (linL L)[j]? := by
      rw [← ht, List.getElem?_take, if_pos (by have := linL_len L; omega)]
      simp
    refine ⟨?_, ?_⟩
    · simp only [World.cell?, Nat.zero_add, hh, if_true, hc]
      simp [hj', List.getElem?_eq_getElem]
    · simp [World.frozen?, hh]
theorem sort_after {L : List Lin} (h : (Sl g e 5 n c (linL L)).ok w) (hn : L.length = n) (m : Nat) (d' : Array Lin) (os : Array Obj) (hd : d'.size = n) : (Sl g e 5 n c (linL d'.toList)).ok (sortWorldK linV 5 w g 0 m d' os) := by
  obtain ⟨_, ⟨h1, _⟩ | ⟨g', cap, cur, h1, hg, hh, h2, h3, h4, ht⟩⟩ := h
  · cases h1
  · cases h1
    have hF : (flatK linV 5 d').size ≤ cur.size := by rw [size_flatK, h4, hd]; exact Nat.mul_le_mul_right 5 h2
    refine ⟨by rw [linL_len]; simp [hd], .inr ⟨g, c, putCells id 0 (flatK linV 5 d') cur, rfl, hg, ?_, h2, h3, ?_, ?_⟩⟩
    · unfold sortWorldK
      have hlt : g < w.heap.size := (Array.getElem?_eq_some_iff.1 hh).1
      rw [heap_grow_old _ _ (by simpa [putRowK, putRow, mapBlock, Sort.ahead] using hlt)]
      exact putRow_at hh _
    · simp [putCells, h4]
    · have := putCells_take hF
      rw [size_flatK, hd] at this
      rw [this, flatK_lin]
theorem sort_heap {L : List Lin} {S : Lgr} (H : Heap W (Sl g e 5 n c (linL L) :: l) w) (hn : L.length = n) (hp : L.Perm S.L) (G : S.Good) {m : Nat} {d' : Array Lin} {os : Array Obj} (h1 : PermIn 0 L.toArray.size L.toArray d') (h2 : SortedIn (ltOf cfL) 0 L.toArray.size d') :
    Heap W (Sl g e 5 n c (linL S.L) :: l) (sortWorldK linV 5 w g 0 m d' os) := by
  have hs := sorted_lines (d := L.toArray) G (by simpa using hp) h1 h2
  have hd : d'.size = n := by rw [h1.1]; simpa using hn
  have := sort_after (H.ok _ (List.mem_cons_self ..)) hn m d' os hd
  rw [hs] at this
  exact H.head (sort_grown linV 5 m d' os) this (.inl rfl)
theorem sl_lt {L : List Lin} (H : Heap W (Sl g e 5 n c (linL L) :: l) w) : g < w.heap.size := (H.fp _ (List.mem_cons_self ..) g rfl).2
end
end Go.Proofs.Ytgobnamhdkbbeaa

/- Append from whatever can be read (nil too); a block's head as a row. -/
namespace Go.Proofs.Ytgobnamhdkbbeaa
open Go.RowKit
set_option linter.unusedSimpArgs false
set_option linter.unusedVariables false
theorem Heap.celRowA {W w : World} {l : List Thing} {g e size n m : Nat} {c : Array Value} (H : Heap W (Cel g c e :: l) w) (hc : c.size = m * size) (hn : n ≤ m) (hm : m ≤ maxLen) : Heap W (RowT e size (.slice (some ⟨g, 0, none⟩) n m) n (c.toList.take (n * size)) :: l) w := by
  have h2 : n * size ≤ m * size := Nat.mul_le_mul_right _ hn
  exact H.head (World.grownBy.refl _ _) ⟨by simp; omega, .inr ⟨g, m, c, rfl, Nat.zero_le _, H.blk List.mem_cons_self, hn, hm, by omega, rfl⟩⟩ (.inl rfl)
section
variable {ops : Array Oper} {rest : List Oper} {o : Oper} {a : Act} {w W : World} {l : List Thing} {Q : Exit → Act → World → Prop}
/-- append(s, x...), x whatever can be read. -/
theorem wpl_appendA {t e size bytes : Nat} {z : Value} (T : SlTy Try.prog t e size bytes z) (hgd : o.guard = none) {s x : Operand}
    (ho : o.op = .call { callee := .builtin .append, args := #[s, x], argTypes := #[t, t] }) {v : Value} (hs : a.eval s = v) {ao : Option Addr} {m c : Nat} (hx : a.eval x = .slice ao m c)
    {n : Nat} {xs news : List Value} (H : Heap W (RowT e size v n xs :: l) w) (hrd : Rd w ao news) (hl : news.length = m * size) (h1 : OneCells news)
    (h63 : n + m ≤ maxLen) (hbytes : (n + m) * bytes ≤ 140737488355328)
    (h : ∀ v' w', (v' = .slice none 0 0 ↔ v = .slice none 0 0 ∧ m = 0) → Heap W (RowT e size v' (n + m) (xs ++ news) :: l) w' → wpList Try.prog ops Q rest (a.put o.dst v') w') : wpList Try.prog ops Q (o :: rest) a w := by
  by_cases hm : m = 0
  · subst hm
    have hn0 : news = [] := List.eq_nil_of_length_eq_zero (by simpa using hl)
    subst hn0
    obtain ⟨i, hi, hz, hsi, hbi⟩ := T.inf
    have hr : (Builtin.append_ #[t, t] o.type #[v, .slice ao 0 c]).run Try.prog w = .ok v w := by
      rcases (H.ok _ List.mem_cons_self).2 with ⟨rfl, rfl⟩ | ⟨g, cap, cur, rfl, _, _, hnc, _⟩
      · cases ao <;> simp [Builtin.append_, run_underlying T.und, sizeOf, typeInfo, hi, Builtin.lenOf, Builtin.firstCells, loadCells, loadCellsFrom]
      · cases ao <;> simp [Builtin.append_, run_underlying T.und, sizeOf, typeInfo, hi, Builtin.lenOf, Builtin.firstCells, hnc, storeCells, loadCells, loadCellsFrom]
    refine wpList_plain hgd fun K hK => ?_
    unfold Oper.wp execOp
    simp only [ho, resolve, invoke, builtin, Sem.run_bind, Sem.run_pure, Result.andThen_ok, List.map_toArray, List.map_cons, List.map_nil, hs, hx, hr]
    exact hK _ _ (h v w ⟨fun e => ⟨e, rfl⟩, fun e => e.1⟩ (by rw [List.append_nil]; exact H))
  · obtain ⟨b, off, rfl, _⟩ := hrd.lt (by rw [hl]; have := T.pos; exact Nat.mul_pos (by omega) this)
    refine wpl_appendH T hgd ho hs hx H hrd hl h1 h63 hbytes fun v' w' H' => h v' w' ⟨fun e => ?_, fun e => absurd e.2 hm⟩ H'
    subst e
    obtain ⟨_, ⟨_, h0⟩ | ⟨g, cap, cur, hv, _⟩⟩ := H'.ok _ List.mem_cons_self
    · omega
    · cases hv
/-- s[:hi]. -/
theorem wpl_cutTo {t e size bytes : Nat} {z : Value} (T : SlTy Try.prog t e size bytes z) {dst : Option Tmp} {ty : TypeId} {pos : String} {after : Array Edge} {guard : Option (Nat × Bool)} {x y : Operand} (hw : Region.wanted ⟨dst, .slice t x none (some y) none, ty, pos, after, guard⟩ (yielded ops a.tmps) = true)
    {ao : Option Addr} {n c hi : Nat} {k : IntKind} (hx : a.eval x = .slice ao n c) (hy : a.eval y = .int k (hi : Int)) (hh : hi ≤ c) (h : wpList Try.prog ops Q rest (a.put dst (.slice ao hi c)) w) : wpList Try.prog ops Q (⟨dst, .slice t x none (some y) none, ty, pos, after, guard⟩ :: rest) a w := by
  refine wpl_pure hw _ (fun w => ?_) h
  have hr := run_cutTo (P := Try.prog) T ao n c hi k hh w
  have hs : (Instr.sliceAt t (.slice ao n c) none (some (.int k (hi : Int))) none).run Try.prog w = .ok (.slice ao hi c) w := by
    unfold Instr.sliceAt
    rw [Sem.run_bind, run_underlying T.und]
    simp only [Result.andThen_ok]
    exact hr
  unfold execOp
  simp only [hx, Option.map_some, hy, Option.map_none, Sem.run_bind, hs, Result.andThen_ok, Sem.run_pure]
/-- s[lo:hi]. -/
theorem wpl_cutBoth {t e size bytes : Nat} {z : Value} (T : SlTy Try.prog t e size bytes z) {dst : Option Tmp} {ty : TypeId} {pos : String} {after : Array Edge} {guard : Option (Nat × Bool)} {x y u : Operand} (hw : Region.wanted ⟨dst, .slice t x (some u) (some y) none, ty, pos, after, guard⟩ (yielded ops a.tmps) = true)
    {ao : Option Addr} {n c lo hi : Nat} {k k2 : IntKind} (hx : a.eval x = .slice ao n c) (hu : a.eval u = .int k (lo : Int)) (hy : a.eval y = .int k2 (hi : Int)) (hl : lo ≤ hi) (hh : hi ≤ c) {ao2 : Option Addr} {m c2 : Nat} (he : cutA ao c lo size = ao2) (hm : hi - lo = m) (hc2 : c - lo = c2) (h : wpList Try.prog ops Q rest (a.put dst (.slice ao2 m c2)) w) : wpList Try.prog ops Q (⟨dst, .slice t x (some u) (some y) none, ty, pos, after, guard⟩ :: rest) a w := by
  subst he hm hc2
  refine wpl_pure hw _ (fun w => ?_) h
  have hr := run_cut (P := Try.prog) T ao n c lo hi k k2 hl hh w
  have hs : (Instr.sliceAt t (.slice ao n c) (some (.int k (lo : Int))) (some (.int k2 (hi : Int))) none).run Try.prog w = .ok (.slice (cutA ao c lo size) (hi - lo) (c - lo)) w := by
    unfold Instr.sliceAt
    rw [Sem.run_bind, run_underlying T.und]
    simp only [Result.andThen_ok]
    exact hr
  unfold execOp
  simp only [hx, Option.map_some, hu, hy, Option.map_none, Sem.run_bind, hs, Result.andThen_ok, Sem.run_pure]
theorem wpQ_loadRdR0 {T n : Nat} {z : Array Value} {dst : Option Tmp} {ty : TypeId} {pos : String} {after : Array Edge} {guard : Option (Nat × Bool)} {x : Operand} {b k : Nat} {K : Act → Prop} {H : Heap W l w} (RT : RowTy T n z) (hw : Region.wanted ⟨dst, .load T x, ty, pos, after, guard⟩ (yielded ops a.tmps) = true) (hx : a.eval x = .pointer (some ⟨b, k, none⟩))
    {xs : List Value} {c1 : Array Value} (R : ∀ w', Heap W l w' → Rd w' (some ⟨b, 0, none⟩) xs) (hn : k + n ≤ xs.length) (h0 : 0 < n) (hv : ((xs.drop k).take n).toArray = c1)
    (h : wpQuiet Try.prog ops (fun w' => ∃ d, w' = H.any d) K rest (a.put dst (.agg c1))) : wpQuiet Try.prog ops (fun w' => ∃ d, w' = H.any d) K (⟨dst, .load T x, ty, pos, after, guard⟩ :: rest) a :=
  wpQ_loadRdR RT hw hx R (Nat.zero_add k).symm hn h0 hv h
end
end Go.Proofs.Ytgobnamhdkbbeaa

/- ledgers.Ledger: Lines. -/
namespace Go.Proofs.Ytgobnamhdkbbeaa
open Go.RowKit Go.Sort
set_option linter.unusedSimpArgs false
set_option linter.unusedVariables false
theorem slLin : SlTy Try.prog 65 84 5 24 (.agg (line 0 0 0 0 0)) := slTy_mk Try.underlying65 (by kernel_rfl) rfl (by decide)
theorem bs_line : Try.prog.underlying 65 = some (.slice 84) ∧ (Try.prog.info? 84).map (fun i => (i.size, i.zero.map Value.cells)) = some ((line 0 0 0 0 0).size, some (line 0 0 0 0 0)) ∧ 0 < (line 0 0 0 0 0).size ∧ (line 0 0 0 0 0).size ≤ 65536 := ⟨Try.underlying65, by kernel_rfl, by decide, by decide⟩
theorem line_one (a b c d e : Int) : OneCells (line a b c d e).toList := by
  intro u hu
  simp at hu
  rcases hu with rfl | rfl | rfl | rfl | rfl <;> rfl
section
variable {W w : World} {l : List Thing} {p q g n c : Nat} {L : List Lin} {S : Lgr}
theorem cmpLays_order (blk off size : Nat) (w : World) : CmpLays Try.prog 74 #[] linV 5 cfL blk off size w := fun m os dk hs x y => order_ans x y _
theorem lsort_H (H : Heap W (Sl g 84 5 n c (linL L) :: l) w) (hn : L.length = n) (hb : n ≤ 1000000) (hp : L.Perm S.L) (G : S.Good) :
    Calls Try.prog 73 #[.slice (some ⟨g, 0, none⟩) n c, .func (.func 74) #[] #[]] w fun e w' => e = .returned (.tuple #[]) ∧ Heap W (Sl g 84 5 n c (linL S.L) :: l) w' := by
  have hsz : L.toArray.size = n := by simpa using hn
  have eg : ∀ args w, (callFunc 74 args).run Try.prog w = .ok (.enter 74 args) w := enters_of Try.func74 (by kernel_rfl) rfl
  have hcon := AnyQ.slices_SortFunc Try.sortLine 5 Try.isAgg84 Try.sizeOf84 linV (fun _ => rfl) (fun x v hv => by simp [linV] at hv; rcases hv with rfl | rfl | rfl | rfl | rfl <;> rfl) cfL swoL 74 #[] g 0 c L.toArray w eg (cmpLays_order g 0 _ w) (sort_holds (H.ok _ List.mem_cons_self) hn) (sl_lt H) (by omega)
  change Calls Try.prog 73 _ _ _ at hcon
  rw [hsz] at hcon
  refine hcon.mono fun e w' ⟨he, d', k, os, h1, h2, hw⟩ => ⟨he, ?_⟩
  subst hw
  exact sort_heap H hn hp G (by rw [hsz]; exact h1) (by rw [hsz]; exact h2)
end
end Go.Proofs.Ytgobnamhdkbbeaa

/- ledgers.Ledger: Lines. -/
namespace Go.Proofs.Ytgobnamhdkbbeaa
open Go.RowKit
set_option linter.unusedSimpArgs false
set_option linter.unusedVariables false
theorem kvL_inj {x y : Lin} (h : kvL x = kvL y) : x = y := by
  obtain ⟨a, b, c, d, e⟩ := x
  obtain ⟨a', b', c', d', e'⟩ := y
  simp [kvL, keyL, valL] at h
  obtain ⟨⟨rfl, rfl, rfl⟩, rfl, rfl⟩ := h
  rfl
theorem perm_of_kv : ∀ {A B : List Lin}, (A.map kvL).Perm (B.map kvL) → A.Perm B := by
  intro A
  induction A with
  | nil => intro B h; have := h.length_eq; simp at this; rw [List.eq_nil_of_length_eq_zero this.symm]
  | cons x A ih =>
    intro B h
    have hx : kvL x ∈ B.map kvL := h.mem_iff.1 (List.mem_cons_self ..)
    obtain ⟨y, hy, e⟩ := List.mem_map.1 hx
    obtain rfl := kvL_inj e
    obtain ⟨s, t, rfl⟩ := List.append_of_mem hy
    have h2 : (kvL y :: A.map kvL).Perm (kvL y :: (s ++ t).map kvL) := by
      refine h.trans ?_
      rw [List.map_append, List.map_cons, List.map_append]
      exact List.perm_middle
    exact ((ih h2.cons_inv).cons y).trans List.perm_middle.symm
/-- A list that is told, in a row of its own. -/
def RowPost (W : World) (l : List Thing) (e size : Nat) (xs : List Value) (n : Nat) (r : Ending) (w' : World) : Prop :=
  ∃ g c, r = .returned (.slice (some ⟨g, 0, none⟩) n c) ∧ n ≤ c ∧ c ≤ maxLen ∧ Heap W (Sl g e size n c xs :: l) w'
structure LinesR (W : World) (l : List Thing) (P : List Int) (p q r : Nat) (es : Array MapEntry) (clock : Nat) (v : Value) (wr : World) : Prop where
  out : ∃ (done : List MapEntry) (D : List Lin) (g c c0 : Nat), done.Nodup ∧ (∀ y ∈ done, y ∈ es.toList) ∧ done.map kvOf = D.map kvL ∧ clock ≤ c0 ∧ v = .slice (some ⟨g, 0, none⟩) D.length c ∧
    Heap W (RowT 84 5 (.slice (some ⟨g, 0, none⟩) D.length c) D.length (linL D) :: IterX r q clock (done.map (fun e : MapEntry => e.born)).toArray c0 :: LdC p P (some q) :: MapX q es clock :: l) wr
def lenV : Value → Nat
  | .slice _ n _ => n
  | _ => 0
section
variable {W w : World} {l : List Thing} {p q : Nat} {S : Lgr}
theorem nodup_leL {α : Type} : ∀ {A B : List α}, A.Nodup → (∀ x ∈ A, x ∈ B) → A.length ≤ B.length
  | [], _, _, _ => by simp
  | x :: A, B, h, hs => by
    obtain ⟨s, t, rfl⟩ := List.append_of_mem (hs x (List.mem_cons_self ..))
    have h1 := List.nodup_cons.1 h
    have := nodup_leL (A := A) (B := s ++ t) h1.2 (fun y hy => by
      have := hs y (List.mem_cons_of_mem _ hy)
      simp only [List.mem_append, List.mem_cons] at this ⊢
      rcases this with h' | rfl | h'
      · exact .inl h'
      · exact absurd hy h1.1
      · exact .inr h')
    simp only [List.length_append, List.length_cons] at this ⊢
    omega
set_option maxRecDepth 100000
set_option maxHeartbeats 2000000
theorem llines_H (G : S.Good) (H : Heap W (LdC p S.P (some q) :: LdM q S.L :: l) w) : Calls Try.prog 32 #[.pointer (some ⟨p, 0, none⟩)] w fun e w' => RowPost W (LdC p S.P (some q) :: LdM q S.L :: l) 84 5 (linL S.L) S.L.length e w' := by
  have hlen := prs_len S.L
  have hfew := G.few
  have h1 : (prs S.L).length ≤ 65536 := by omega
  have h2 : 24 * (prs S.L).length ≤ 281474976710656 := by omega
  have h3 : (prs S.L).length ≤ maxLen := by unfold maxLen; omega
  have HG := Lib.hid G
  have HLEN := Lib.hid hlen
  have HFEW := Lib.hid hfew
  clear G hlen hfew
  go_enter Try.func32, Try.ntmps32
  go_wp2_with (first
    | go_skip
    | ((with_reducible apply lthere_call H); (· (repeat (first | (with_reducible exact List.mem_cons_self) | with_reducible apply List.mem_cons_of_mem))); (clear H; intro _ H))
    | ((with_reducible show wpList _ _ _ (_ :: _) _ _); (with_reducible apply wpl_loadCH); (· exact cell_map); (· rfl); (· rfl); (· exact H); (· (repeat (first | (with_reducible exact List.mem_cons_self) | with_reducible apply List.mem_cons_of_mem))); (· exact ledA_map _ _); (simp only [Act.put, List.setIfInBounds_toArray, List.set_cons_zero, List.set_cons_succ]))
    | ((with_reducible show wpList _ _ _ (_ :: _) _ _); (with_reducible apply wpl_lenM map_ty.und); (· rfl); (· rfl); (· exact H); (· (repeat (first | (with_reducible exact List.mem_cons_self) | with_reducible apply List.mem_cons_of_mem))); (simp only [Act.put, List.setIfInBounds_toArray, List.set_cons_zero, List.set_cons_succ]))
    | ((with_reducible show wpList _ _ _ (_ :: _) _ _); (with_reducible apply wpl_makeC slLin (n := 0) (m := (prs S.L).length)); (· rfl); (· rfl); (· rfl); (· rfl); (· exact Nat.zero_le _); (· exact h1); (· exact h2); (· exact H); (clear H; intro pm _ H); (simp only [Act.put, List.setIfInBounds_toArray, List.set_cons_zero, List.set_cons_succ]); (replace H := ((H.perm (.cons _ (.swap _ _ _))).pull (.there .here)).openM; obtain ⟨es, clock, hes, H⟩ := H))
    | ((with_reducible show wpList _ _ _ (_ :: _) _ _); (with_reducible apply wpl_rangeM map_ty.und); (· rfl); (· rfl); (· exact H); (· (repeat (first | (with_reducible exact List.mem_cons_self) | with_reducible apply List.mem_cons_of_mem))); (clear H; intro pr _ H); (simp only [Act.put, List.setIfInBounds_toArray, List.set_cons_zero, List.set_cons_succ]))
    | ((with_reducible show wpList _ _ _ (_ :: _) _ _); (with_reducible apply wpl_loadCH); (· exact cell_map); (· rfl); (· rfl); (· exact H); (· (repeat (first | (with_reducible exact List.mem_cons_self) | with_reducible apply List.mem_cons_of_mem))); (· exact ledA_map _ _); (simp only [Act.put, List.setIfInBounds_toArray, List.set_cons_zero, List.set_cons_succ])))
  replace H := ((H.pull (.there (.there .here))).celRowA (n := 0) (m := (prs S.L).length) (size := 5) (by rw [size_madeCells]) (Nat.zero_le _) h3)
  simp only [Nat.zero_mul, List.take_zero] at H
  replace H := H.perm (.cons _ (.cons _ (.swap _ _ _)))
  have hsz : es.size = S.L.length := hes.size.trans HLEN.out
  have H0 := H
  clear H
  go_loopw [3] (fun v wr => LinesR W l S.P p q pr es clock v wr) (fun v _ => es.size - lenV v)
  case atStart => exact ⟨[], [], pm, _, clock, .nil, (fun _ h => by cases h), rfl, Nat.le_refl _, rfl, H0⟩
  case round =>
    obtain ⟨done, D, g, c, c0, hnd, hin, hkv, hc0, rfl, H⟩ := hrel.out
    clear H0 hrel
    have hDl : D.length = done.length := by have := congrArg List.length hkv; simpa using this.symm
    have hle : done.length ≤ S.L.length := by
      have := nodup_leL hnd hin
      have e : es.toList.length = es.size := by simp
      omega
    have hD1 : D.length + 1 ≤ maxLen := by have := HFEW.out; unfold maxLen; omega
    have hD2 : (D.length + 1) * 24 ≤ 140737488355328 := by have := HFEW.out; omega
    have HKV := Lib.hid hkv
    have HND := Lib.hid hnd
    have HIN := Lib.hid hin
    have HES := Lib.hid hes
    have HDL := Lib.hid hDl
    have HSZ := Lib.hid hsz
    clear hkv hnd hin hDl hsz hes
    go_wp2_with (first
      | go_skip
      | ((with_reducible show wpList _ _ _ (_ :: _) _ _); (with_reducible apply wpl_nextP); (· rfl); (· rfl); (· exact HES.out.st); (· exact hc0); (· exact HIN.out); (· exact HND.out); (· exact H); (· (repeat (first | (with_reducible exact List.mem_cons_self) | with_reducible apply List.mem_cons_of_mem))); (· (repeat (first | (with_reducible exact List.mem_cons_self) | with_reducible apply List.mem_cons_of_mem))); (· intro en; (repeat (first | (with_reducible exact Repl.here) | with_reducible apply Repl.there)))))
    refine ⟨fun hperm => ?_, fun en hen hnin w1 H1 hent => ?_⟩
    · have hp : D.Perm S.L := perm_of_kv (by rw [← HKV.out]; exact (hperm.map kvOf).trans HES.out.perm)
      have hDn : D.length = S.L.length := hp.length_eq
      have hb : D.length ≤ 1000000 := by have := HFEW.out; omega
      have HP := Lib.hid hp
      have HN := Lib.hid hDn
      clear hperm hp hDn
      (simp only [Act.put, List.setIfInBounds_toArray, List.set_cons_zero, List.set_cons_succ])
      go_wp2_with (go_skip)
      refine (lsort_H (g := g) (n := D.length) (c := c) (L := D) H rfl hb HP.out HG.out).mono ?_
      clear H
      rintro e w2 ⟨rfl, H⟩
      go_wp2_with (go_skip)
      go_ret
      replace H := (H.drop (.there .here)).pull (.there (.there .here))
      replace H := (H.shutM HES.out).perm (.swap _ _ _)
      replace H := H.perm (.cons _ (.swap _ _ _))
      obtain ⟨g', c', e', hn', hm'⟩ : ∃ g' c', Value.slice (some ⟨g, 0, none⟩) D.length c = .slice (some ⟨g', 0, none⟩) D.length c' ∧ D.length ≤ c' ∧ c' ≤ maxLen := by
        obtain ⟨_, ⟨h, _⟩ | ⟨g', cap, cur, h, _, _, h4, h5, _⟩⟩ := H.ok _ List.mem_cons_self
        · cases h
        · exact ⟨g', cap, h, h4, h5⟩
      simp only [Value.slice.injEq, Option.some.injEq, Addr.mk.injEq, true_and, and_true] at e'
      obtain ⟨rfl, rfl⟩ := e'
      rw [HN.out] at H hn' ⊢
      exact ⟨g, c, rfl, hn', hm', H⟩
    · have hm := HES.out.mem hen
      obtain ⟨x, hx, hkx⟩ := List.mem_map.1 hm
      have hk : en.key = keyL x.cr x.db x.cu := (congrArg Prod.fst hkx).symm
      have hv : en.val = valL x.lim x.deb := (congrArg Prod.snd hkx).symm
      rw [hk, hv] at hent
      rw [hk, hv]
      have HE := Lib.hid hent
      have HD2 := Lib.hid (show (done ++ [en]).map kvOf = (D ++ [x]).map kvL by rw [List.map_append, List.map_append, HKV.out]; congr 1; simp [kvOf, hkx])
      have HND2 := Lib.hid (show (done ++ [en]).Nodup by
        rw [List.nodup_append]
        refine ⟨HND.out, by simp, fun a ha b hb e => hnin ?_⟩
        obtain rfl : b = en := by simpa using hb
        exact e ▸ ha)
      have HIN2 := Lib.hid (show ∀ y ∈ done ++ [en], y ∈ es.toList from fun y hy => by
        rcases List.mem_append.1 hy with hy | hy
        · exact HIN.out y hy
        · obtain rfl : y = en := by simpa using hy
          exact hen)
      have HLT := Lib.hid (show D.length < es.size by
        have h1 := nodup_leL HND2.out HIN2.out
        have e : es.toList.length = es.size := by simp
        rw [List.length_append] at h1
        have := HDL.out
        simp at h1; omega)
      clear hent hk hv hm hkx hx hnin H
      have H := H1
      clear H1
      (simp only [Act.put, List.setIfInBounds_toArray, List.set_cons_zero, List.set_cons_succ])
      go_wp2_with (first
        | ((with_reducible show wpList _ _ _ (_ :: _) _ _); (with_reducible apply wpl_appendH slLin); (· rfl); (· rfl); (· rfl); (· rfl); (· exact H.pull (.there (.there (.there .here)))); (· exact H.celRd List.mem_cons_self); (· rfl); (· exact line_one _ _ _ _ _); (· exact hD1); (· exact hD2); (clear H; intro v2 _ H); (simp only [Act.put, List.setIfInBounds_toArray, List.set_cons_zero, List.set_cons_succ]))
        | ((with_reducible show wpList _ _ _ (_ :: _) _ _); (with_reducible apply wpl_bsRH); (· rfl); (· rfl); (· exact bs_line); (· exact rfl); (· exact H); (clear H; intro pl _ H); (simp only [Act.put, List.setIfInBounds_toArray, List.set_cons_zero, List.set_cons_succ]))
        | go_skip
        | ((with_reducible show wpList _ _ _ (_ :: _) _ _); (with_reducible apply wpl_entryM); (· rfl); (· rfl); (· exact HE.out _ _ H (List.mem_cons_of_mem _ (List.mem_cons_of_mem _ (List.mem_cons_of_mem _ List.mem_cons_self))) (List.mem_cons_of_mem _ List.mem_cons_self)); (simp only [Act.put, List.setIfInBounds_toArray, List.set_cons_zero, List.set_cons_succ]))
        | ((with_reducible show wpList _ _ _ (_ :: _) _ _); (with_reducible apply wpl_allocRH row_ends); (· rfl); (· exact H); (clear H; intro pe _ H); (simp only [Act.put, List.setIfInBounds_toArray, List.set_cons_zero, List.set_cons_succ]))
        | ((with_reducible show wpList _ _ _ (_ :: _) _ _); (with_reducible apply wpl_allocRH row_owe); (· rfl); (· exact H); (clear H; intro po _ H); (simp only [Act.put, List.setIfInBounds_toArray, List.set_cons_zero, List.set_cons_succ]))
        | ((with_reducible show wpList _ _ _ (_ :: _) _ _); (with_reducible apply wpl_storeRH row_ends); (· rfl); (· rfl); (· rfl); (· with_reducible exact ends_cells ..); (· exact H); (· (repeat (first | (with_reducible exact List.mem_cons_self) | with_reducible apply List.mem_cons_of_mem))); (· (simp only [ends_sz, Nat.reduceAdd, Nat.reduceLeDiff, Nat.le_refl]; done)); (· with_reducible exact ends_splice ..); (· (repeat (first | (with_reducible exact Repl.here) | with_reducible apply Repl.there))); (clear H; intro _ H); (simp only [Act.put, List.setIfInBounds_toArray, List.set_cons_zero, List.set_cons_succ]))
        | ((with_reducible show wpList _ _ _ (_ :: _) _ _); (with_reducible apply wpl_storeRH row_owe); (· rfl); (· rfl); (· rfl); (· with_reducible exact owe_cells ..); (· exact H); (· (repeat (first | (with_reducible exact List.mem_cons_self) | with_reducible apply List.mem_cons_of_mem))); (· (simp only [owe_sz, Nat.reduceAdd, Nat.reduceLeDiff, Nat.le_refl]; done)); (· with_reducible exact owe_splice ..); (· (repeat (first | (with_reducible exact Repl.here) | with_reducible apply Repl.there))); (clear H; intro _ H); (simp only [Act.put, List.setIfInBounds_toArray, List.set_cons_zero, List.set_cons_succ]))
        | ((with_reducible show wpList _ _ _ (_ :: _) _ _); (with_reducible apply wpl_loadCH); (· first | exact cell_party | exact cell_cur | exact cell_i64); (· rfl); (· rfl); (· exact H); (· (repeat (first | (with_reducible exact List.mem_cons_self) | with_reducible apply List.mem_cons_of_mem))); (· (with_reducible first | exact ends_g0 .. | exact ends_g1 .. | exact ends_g2 .. | exact owe_g0 .. | exact owe_g1 ..)); (simp only [Act.put, List.setIfInBounds_toArray, List.set_cons_zero, List.set_cons_succ]))
        | ((with_reducible show wpList _ _ _ (_ :: _) _ _); (with_reducible apply wpl_bsRH); (· rfl); (· rfl); (· exact bs_line); (· exact rfl); (· exact H); (clear H; intro pl _ H); (simp only [Act.put, List.setIfInBounds_toArray, List.set_cons_zero, List.set_cons_succ])))
      replace H := ((H.drop (.there .here)).drop (.there .here)).drop (.there .here)
      obtain ⟨g2, c2, rfl, _, _⟩ := RowT.sl (H.ok _ List.mem_cons_self) (Nat.succ_pos _)
      have hapx : linL D ++ (line x.cr x.db x.cu x.lim x.deb).toList = linL (D ++ [x]) := by rw [linL_app]; simp [linL, linV]
      rw [hapx] at H
      have hlx : D.length + 1 = (D ++ [x]).length := by simp
      have HLX := Lib.hid hlx
      go_roundw
      case rel =>
        rw [HLX.out] at H ⊢
        exact ⟨⟨done ++ [en], D ++ [x], g2, c2, clock, HND2.out, HIN2.out, HD2.out, Nat.le_refl _, rfl, H⟩⟩
      case measure =>
        have := HLT.out
        simp only [lenV]
        omega
end
end Go.Proofs.Ytgobnamhdkbbeaa

/- Lines without their debts. (Plain.) -/
namespace Go.Proofs.Ytgobnamhdkbbeaa
def noDeb (L : List Lin) : List Lin := L.map fun x => { x with deb := 0 }
theorem noDeb_add (L : List Lin) (a b c n : Int) : noDeb (addL L a b c n) = noDeb L := by
  unfold noDeb addL
  rw [List.map_map]
  refine List.map_congr_left fun x _ => ?_
  simp only [Function.comp]
  split <;> rfl
theorem noDeb_push (S : Lgr) (a b c n : Int) : noDeb (pushS S a b c n).L = noDeb S.L := by
  unfold pushS
  split
  · simp only [noDeb_add]
  · rfl
end Go.Proofs.Ytgobnamhdkbbeaa

/- ledgers.Ledger: Position, Total. -/
namespace Go.Proofs.Ytgobnamhdkbbeaa
open Go.RowKit
set_option linter.unusedSimpArgs false
set_option linter.unusedVariables false
theorem linL_get (L : List Lin) (k : Nat) (h : k < L.length) : (((linL L).drop (k * 5)).take 5).toArray = line L[k].cr L[k].db L[k].cu L[k].lim L[k].deb := linL_row L k h
theorem take_snoc {α : Type} (L : List α) (k : Nat) (h : k < L.length) : L.take (k + 1) = L.take k ++ [L[k]] := by simp
theorem Heap.untop2 {W w : World} {l r s : List Thing} {x y : Thing} (H : Heap W (x :: y :: s) w) (h1 : Pull l x r) (h2 : Pull r y s) : Heap W l w := H.perm ((h1.perm.trans (h2.perm.cons _)).symm)
structure SumR (W : World) (l : List Thing) (n : Nat) (f : Nat → Int) (v i : Value) (wr : World) : Prop where
  out : ∃ k : Nat, k ≤ n ∧ i = .int .i64 (k : Int) ∧ v = .int .i64 (f k) ∧ Heap W l wr
section
variable {W w : World} {l r s : List Thing} {p q : Nat} {S : Lgr}
set_option maxRecDepth 100000
set_option maxHeartbeats 2000000
theorem lpos_H (a c : Nat) (G : S.Good) (h1 : Pull l (LdC p S.P (some q)) r) (h2 : Pull r (LdM q S.L) s) : AnsH W l 76 #[.pointer (some ⟨p, 0, none⟩), .int .u8 (a : Int), .int .u8 (c : Int)] (.int .i64 (posL S.L a c)) := by
  intro w H
  have H := H.top2 h1 h2
  have HU := Lib.hid (And.intro h1 h2)
  have HG := Lib.hid G
  have HF := Lib.hid G.few
  clear G h1 h2
  go_enter Try.func76, Try.ntmps76
  go_wp2_with (go_skip)
  refine (llines_H HG.out H).mono ?_
  clear H
  rintro e w1 ⟨g, cc, rfl, hn, hm, H⟩
  clear hn hm
  generalize hL : S.L = L at *
  generalize hn : L.length = n at *
  have HN := Lib.hid hn
  have HLL := Lib.hid hL
  clear hn hL
  have H0 := H
  clear H
  go_wp2_with (go_skip)
  go_loopw [6, 12] (fun v i wr => SumR W (Sl g 84 5 n cc (linL L) :: LdC p S.P (some q) :: LdM q L :: s) n (fun k => posL (L.take k) a c) v i wr) (fun _ i _ => n - (intOf i).toNat)
  case atStart => exact ⟨0, Nat.zero_le _, rfl, rfl, H0⟩
  case round =>
    obtain ⟨k, hk, rfl, rfl, H⟩ := hrel.out
    clear H0 hrel
    by_cases hlt : k < n
    · have hkL : k < L.length := by rw [HN.out]; exact hlt
      have hlen : k * 5 + 5 ≤ (linL L).length := by rw [linL_len]; omega
      have hrow := linL_get L k hkL
      have htk := take_snoc L k hkL
      have hmem : L[k] ∈ S.L := by rw [HLL.out]; exact List.getElem_mem hkL
      have hdeb := HG.out.debs _ hmem
      have hok := HG.out.ok _ hmem
      have hbnd := posL_bound (L := L.take k) (fun x hx => HG.out.debs x (by rw [HLL.out]; exact List.mem_of_mem_take hx)) (a : Int) (c : Int)
      have hfew := HF.out
      have hlk : (L.take k).length = k := by simp; omega
      rw [hlk] at hbnd
      have hk64 : k ≤ 64 := by omega
      have HR := Lib.hid (H.slRd List.mem_cons_self)
      generalize L[k] = x at *
      obtain ⟨xr, xd, xu, xl, xe⟩ := x
      have hne := hok.ne
      simp only at hrow hdeb hne
      have hsn : posL (L.take (k + 1)) a c = posL (L.take k) a c + posX ⟨xr, xd, xu, xl, xe⟩ a c := by rw [htk, posL_snoc]
      have HSN := Lib.hid hsn
      generalize posL (L.take k) a c = s0 at *
      have hw1 : wrap64 (s0 + xe) = s0 + xe := IntWalk.wrap64_in _ ⟨by omega, by omega⟩
      have hw2 : wrap64 (s0 - xe) = s0 - xe := IntWalk.wrap64_in _ ⟨by omega, by omega⟩
      clear hsn htk hmem hok hbnd hfew hlk hdeb
      by_cases e1 : xu = c
      · by_cases e2 : xr = a
        · have b1 : (xu != (c : Int)) = false := by simpa using e1
          have b2 : (xr == (a : Int)) = true := by simpa using e2
          have HE := Lib.hid (show posL (L.take (k + 1)) a c = s0 + xe by rw [HSN.out]; unfold posX; simp only; rw [if_pos ⟨e1, e2⟩, if_neg (fun h => hne (e2.trans h.2.symm))]; omega)
          clear e1 e2 hne
          go_wp2_with (first
            | go_skip
            | ((with_reducible show wpList _ _ _ (_ :: _) _ _); (with_reducible apply wpl_loadRdR row_line); (· rfl); (· rfl); (· exact HR.out); (· exact (Nat.zero_add _).symm); (· exact hlen); (· decide); (· exact hrow); (simp only [Act.put, List.setIfInBounds_toArray, List.set_cons_zero, List.set_cons_succ]))
            | ((with_reducible show wpList _ _ _ (_ :: _) _ _); (with_reducible apply wpl_allocRH row_line); (· rfl); (· exact H); (clear H; intro px _ H); (simp only [Act.put, List.setIfInBounds_toArray, List.set_cons_zero, List.set_cons_succ]))
            | ((with_reducible show wpList _ _ _ (_ :: _) _ _); (with_reducible apply wpl_storeRH row_line); (· rfl); (· rfl); (· rfl); (· with_reducible exact line_cells ..); (· exact H); (· (repeat (first | (with_reducible exact List.mem_cons_self) | with_reducible apply List.mem_cons_of_mem))); (· (simp only [line_sz, Nat.reduceAdd, Nat.reduceLeDiff, Nat.le_refl]; done)); (· with_reducible exact line_splice ..); (· (repeat (first | (with_reducible exact Repl.here) | with_reducible apply Repl.there))); (clear H; intro _ H); (simp only [Act.put, List.setIfInBounds_toArray, List.set_cons_zero, List.set_cons_succ]))
            | ((with_reducible show wpList _ _ _ (_ :: _) _ _); (with_reducible apply wpl_loadCH); (· first | exact cell_party | exact cell_cur | exact cell_i64); (· rfl); (· rfl); (· exact H); (· (repeat (first | (with_reducible exact List.mem_cons_self) | with_reducible apply List.mem_cons_of_mem))); (· with_reducible first | exact line_g0 .. | exact line_g1 .. | exact line_g2 .. | exact line_g4 ..); (simp only [Act.put, List.setIfInBounds_toArray, List.set_cons_zero, List.set_cons_succ])))
          refine ⟨⟨k + 1, by omega, by go_num, by rw [HE.out]; first | rw [hw1] | rfl, H.tail⟩, ?measure⟩
          case measure => simp [intOf]; omega
        · by_cases e3 : xd = a
          · have b1 : (xu != (c : Int)) = false := by simpa using e1
            have b2 : (xr == (a : Int)) = false := by simpa using e2
            have b3 : (xd == (a : Int)) = true := by simpa using e3
            have HE := Lib.hid (show posL (L.take (k + 1)) a c = s0 - xe by rw [HSN.out]; unfold posX; simp only; rw [if_neg (fun h => e2 h.2), if_pos ⟨e1, e3⟩]; omega)
            clear e1 e2 e3 hne
            go_wp2_with (first
              | go_skip
              | ((with_reducible show wpList _ _ _ (_ :: _) _ _); (with_reducible apply wpl_loadRdR row_line); (· rfl); (· rfl); (· exact HR.out); (· exact (Nat.zero_add _).symm); (· exact hlen); (· decide); (· exact hrow); (simp only [Act.put, List.setIfInBounds_toArray, List.set_cons_zero, List.set_cons_succ]))
              | ((with_reducible show wpList _ _ _ (_ :: _) _ _); (with_reducible apply wpl_allocRH row_line); (· rfl); (· exact H); (clear H; intro px _ H); (simp only [Act.put, List.setIfInBounds_toArray, List.set_cons_zero, List.set_cons_succ]))
              | ((with_reducible show wpList _ _ _ (_ :: _) _ _); (with_reducible apply wpl_storeRH row_line); (· rfl); (· rfl); (· rfl); (· with_reducible exact line_cells ..); (· exact H); (· (repeat (first | (with_reducible exact List.mem_cons_self) | with_reducible apply List.mem_cons_of_mem))); (· (simp only [line_sz, Nat.reduceAdd, Nat.reduceLeDiff, Nat.le_refl]; done)); (· with_reducible exact line_splice ..); (· (repeat (first | (with_reducible exact Repl.here) | with_reducible apply Repl.there))); (clear H; intro _ H); (simp only [Act.put, List.setIfInBounds_toArray, List.set_cons_zero, List.set_cons_succ]))
              | ((with_reducible show wpList _ _ _ (_ :: _) _ _); (with_reducible apply wpl_loadCH); (· first | exact cell_party | exact cell_cur | exact cell_i64); (· rfl); (· rfl); (· exact H); (· (repeat (first | (with_reducible exact List.mem_cons_self) | with_reducible apply List.mem_cons_of_mem))); (· with_reducible first | exact line_g0 .. | exact line_g1 .. | exact line_g2 .. | exact line_g4 ..); (simp only [Act.put, List.setIfInBounds_toArray, List.set_cons_zero, List.set_cons_succ])))
            refine ⟨⟨k + 1, by omega, by go_num, by rw [HE.out]; first | rw [hw2] | rfl, H.tail⟩, ?measure2⟩
            case measure2 => simp [intOf]; omega
          · have b1 : (xu != (c : Int)) = false := by simpa using e1
            have b2 : (xr == (a : Int)) = false := by simpa using e2
            have b3 : (xd == (a : Int)) = false := by simpa using e3
            have HE := Lib.hid (show posL (L.take (k + 1)) a c = s0 by rw [HSN.out]; unfold posX; simp only; rw [if_neg (fun h => e2 h.2), if_neg (fun h => e3 h.2)]; omega)
            clear e1 e2 e3 hne
            go_wp2_with (first
              | go_skip
              | ((with_reducible show wpList _ _ _ (_ :: _) _ _); (with_reducible apply wpl_loadRdR row_line); (· rfl); (· rfl); (· exact HR.out); (· exact (Nat.zero_add _).symm); (· exact hlen); (· decide); (· exact hrow); (simp only [Act.put, List.setIfInBounds_toArray, List.set_cons_zero, List.set_cons_succ]))
              | ((with_reducible show wpList _ _ _ (_ :: _) _ _); (with_reducible apply wpl_allocRH row_line); (· rfl); (· exact H); (clear H; intro px _ H); (simp only [Act.put, List.setIfInBounds_toArray, List.set_cons_zero, List.set_cons_succ]))
              | ((with_reducible show wpList _ _ _ (_ :: _) _ _); (with_reducible apply wpl_storeRH row_line); (· rfl); (· rfl); (· rfl); (· with_reducible exact line_cells ..); (· exact H); (· (repeat (first | (with_reducible exact List.mem_cons_self) | with_reducible apply List.mem_cons_of_mem))); (· (simp only [line_sz, Nat.reduceAdd, Nat.reduceLeDiff, Nat.le_refl]; done)); (· with_reducible exact line_splice ..); (· (repeat (first | (with_reducible exact Repl.here) | with_reducible apply Repl.there))); (clear H; intro _ H); (simp only [Act.put, List.setIfInBounds_toArray, List.set_cons_zero, List.set_cons_succ]))
              | ((with_reducible show wpList _ _ _ (_ :: _) _ _); (with_reducible apply wpl_loadCH); (· first | exact cell_party | exact cell_cur | exact cell_i64); (· rfl); (· rfl); (· exact H); (· (repeat (first | (with_reducible exact List.mem_cons_self) | with_reducible apply List.mem_cons_of_mem))); (· with_reducible first | exact line_g0 .. | exact line_g1 .. | exact line_g2 .. | exact line_g4 ..); (simp only [Act.put, List.setIfInBounds_toArray, List.set_cons_zero, List.set_cons_succ])))
            refine ⟨⟨k + 1, by omega, by go_num, by rw [HE.out], H.tail⟩, ?measure3⟩
            case measure3 => simp [intOf]; omega
      · have b1 : (xu != (c : Int)) = true := by simpa using e1
        have HE := Lib.hid (show posL (L.take (k + 1)) a c = s0 by rw [HSN.out]; unfold posX; simp only; rw [if_neg (fun h => e1 h.1), if_neg (fun h => e1 h.1)]; omega)
        clear e1 hne
        go_wp2_with (first
          | go_skip
          | ((with_reducible show wpList _ _ _ (_ :: _) _ _); (with_reducible apply wpl_loadRdR row_line); (· rfl); (· rfl); (· exact HR.out); (· exact (Nat.zero_add _).symm); (· exact hlen); (· decide); (· exact hrow); (simp only [Act.put, List.setIfInBounds_toArray, List.set_cons_zero, List.set_cons_succ]))
          | ((with_reducible show wpList _ _ _ (_ :: _) _ _); (with_reducible apply wpl_allocRH row_line); (· rfl); (· exact H); (clear H; intro px _ H); (simp only [Act.put, List.setIfInBounds_toArray, List.set_cons_zero, List.set_cons_succ]))
          | ((with_reducible show wpList _ _ _ (_ :: _) _ _); (with_reducible apply wpl_storeRH row_line); (· rfl); (· rfl); (· rfl); (· with_reducible exact line_cells ..); (· exact H); (· (repeat (first | (with_reducible exact List.mem_cons_self) | with_reducible apply List.mem_cons_of_mem))); (· (simp only [line_sz, Nat.reduceAdd, Nat.reduceLeDiff, Nat.le_refl]; done)); (· with_reducible exact line_splice ..); (· (repeat (first | (with_reducible exact Repl.here) | with_reducible apply Repl.there))); (clear H; intro _ H); (simp only [Act.put, List.setIfInBounds_toArray, List.set_cons_zero, List.set_cons_succ]))
          | ((with_reducible show wpList _ _ _ (_ :: _) _ _); (with_reducible apply wpl_loadCH); (· first | exact cell_party | exact cell_cur | exact cell_i64); (· rfl); (· rfl); (· exact H); (· (repeat (first | (with_reducible exact List.mem_cons_self) | with_reducible apply List.mem_cons_of_mem))); (· with_reducible first | exact line_g0 .. | exact line_g1 .. | exact line_g2 .. | exact line_g4 ..); (simp only [Act.put, List.setIfInBounds_toArray, List.set_cons_zero, List.set_cons_succ])))
        refine ⟨⟨k + 1, by omega, by go_num, by rw [HE.out], H.tail⟩, ?measure4⟩
        case measure4 => simp [intOf]; omega
    · obtain rfl : k = n := by omega
      have HE := Lib.hid (show posL (L.take k) a c = posL L a c by rw [List.take_of_length_le (by rw [HN.out]; exact Nat.le_refl _)])
      go_wp2_with (go_skip)
      go_ret
      exact ⟨by rw [HLL.out, ← HE.out]; rfl, H.tail.untop2 HU.out.1 HU.out.2⟩
theorem ltot_H (c : Nat) (G : S.Good) (h1 : Pull l (LdC p S.P (some q)) r) (h2 : Pull r (LdM q S.L) s) : AnsH W l 45 #[.pointer (some ⟨p, 0, none⟩), .int .u8 (c : Int)] (.int .i64 (totL S.L c)) := by
  intro w H
  have H := H.top2 h1 h2
  have HU := Lib.hid (And.intro h1 h2)
  have HG := Lib.hid G
  have HF := Lib.hid G.few
  clear G h1 h2
  go_enter Try.func45, Try.ntmps45
  go_wp2_with (go_skip)
  refine (llines_H HG.out H).mono ?_
  clear H
  rintro e w1 ⟨g, cc, rfl, hn, hm, H⟩
  clear hn hm
  generalize hL : S.L = L at *
  generalize hn : L.length = n at *
  have HN := Lib.hid hn
  have HLL := Lib.hid hL
  clear hn hL
  have H0 := H
  clear H
  go_wp2_with (go_skip)
  go_loopw [4, 10] (fun v i wr => SumR W (Sl g 84 5 n cc (linL L) :: LdC p S.P (some q) :: LdM q L :: s) n (fun k => totL (L.take k) c) v i wr) (fun _ i _ => n - (intOf i).toNat)
  case atStart => exact ⟨0, Nat.zero_le _, rfl, rfl, H0⟩
  case round =>
    obtain ⟨k, hk, rfl, rfl, H⟩ := hrel.out
    clear H0 hrel
    by_cases hlt : k < n
    · have hkL : k < L.length := by rw [HN.out]; exact hlt
      have hlen : k * 5 + 5 ≤ (linL L).length := by rw [linL_len]; omega
      have hrow := linL_get L k hkL
      have htk := take_snoc L k hkL
      have hmem : L[k] ∈ S.L := by rw [HLL.out]; exact List.getElem_mem hkL
      have hdeb := HG.out.debs _ hmem
      have hbnd := totL_bound (L := L.take k) (fun x hx => HG.out.debs x (by rw [HLL.out]; exact List.mem_of_mem_take hx)) (c : Int)
      have hfew := HF.out
      have hlk : (L.take k).length = k := by simp; omega
      rw [hlk] at hbnd
      have hk64 : k ≤ 64 := by omega
      have HR := Lib.hid (H.slRd List.mem_cons_self)
      generalize L[k] = x at *
      obtain ⟨xr, xd, xu, xl, xe⟩ := x
      simp only at hrow hdeb
      have hsn : totL (L.take (k + 1)) c = totL (L.take k) c + (if xu = c then xe else 0) := by rw [htk, totL_snoc]
      have HSN := Lib.hid hsn
      generalize totL (L.take k) c = s0 at *
      have hw1 : wrap64 (s0 + xe) = s0 + xe := IntWalk.wrap64_in _ ⟨by omega, by omega⟩
      clear hsn htk hmem hbnd hfew hlk hdeb
      by_cases e1 : xu = c
      · have b1 : (xu == (c : Int)) = true := by simpa using e1
        have HE := Lib.hid (show totL (L.take (k + 1)) c = s0 + xe by rw [HSN.out, if_pos e1])
        clear e1
        go_wp2_with (first
          | go_skip
          | ((with_reducible show wpList _ _ _ (_ :: _) _ _); (with_reducible apply wpl_loadRdR row_line); (· rfl); (· rfl); (· exact HR.out); (· exact (Nat.zero_add _).symm); (· exact hlen); (· decide); (· exact hrow); (simp only [Act.put, List.setIfInBounds_toArray, List.set_cons_zero, List.set_cons_succ]))
          | ((with_reducible show wpList _ _ _ (_ :: _) _ _); (with_reducible apply wpl_allocRH row_line); (· rfl); (· exact H); (clear H; intro px _ H); (simp only [Act.put, List.setIfInBounds_toArray, List.set_cons_zero, List.set_cons_succ]))
          | ((with_reducible show wpList _ _ _ (_ :: _) _ _); (with_reducible apply wpl_storeRH row_line); (· rfl); (· rfl); (· rfl); (· with_reducible exact line_cells ..); (· exact H); (· (repeat (first | (with_reducible exact List.mem_cons_self) | with_reducible apply List.mem_cons_of_mem))); (· (simp only [line_sz, Nat.reduceAdd, Nat.reduceLeDiff, Nat.le_refl]; done)); (· with_reducible exact line_splice ..); (· (repeat (first | (with_reducible exact Repl.here) | with_reducible apply Repl.there))); (clear H; intro _ H); (simp only [Act.put, List.setIfInBounds_toArray, List.set_cons_zero, List.set_cons_succ]))
          | ((with_reducible show wpList _ _ _ (_ :: _) _ _); (with_reducible apply wpl_loadCH); (· first | exact cell_party | exact cell_cur | exact cell_i64); (· rfl); (· rfl); (· exact H); (· (repeat (first | (with_reducible exact List.mem_cons_self) | with_reducible apply List.mem_cons_of_mem))); (· with_reducible first | exact line_g0 .. | exact line_g1 .. | exact line_g2 .. | exact line_g4 ..); (simp only [Act.put, List.setIfInBounds_toArray, List.set_cons_zero, List.set_cons_succ])))
        refine ⟨⟨k + 1, by omega, by go_num, by rw [HE.out]; first | rw [hw1] | rfl, H.tail⟩, ?measure⟩
        case measure => simp [intOf]; omega
      · have b1 : (xu == (c : Int)) = false := by simpa using e1
        have HE := Lib.hid (show totL (L.take (k + 1)) c = s0 by rw [HSN.out, if_neg e1]; omega)
        clear e1
        go_wp2_with (first
          | go_skip
          | ((with_reducible show wpList _ _ _ (_ :: _) _ _); (with_reducible apply wpl_loadRdR row_line); (· rfl); (· rfl); (· exact HR.out); (· exact (Nat.zero_add _).symm); (· exact hlen); (· decide); (· exact hrow); (simp only [Act.put, List.setIfInBounds_toArray, List.set_cons_zero, List.set_cons_succ]))
          | ((with_reducible show wpList _ _ _ (_ :: _) _ _); (with_reducible apply wpl_allocRH row_line); (· rfl); (· exact H); (clear H; intro px _ H); (simp only [Act.put, List.setIfInBounds_toArray, List.set_cons_zero, List.set_cons_succ]))
          | ((with_reducible show wpList _ _ _ (_ :: _) _ _); (with_reducible apply wpl_storeRH row_line); (· rfl); (· rfl); (· rfl); (· with_reducible exact line_cells ..); (· exact H); (· (repeat (first | (with_reducible exact List.mem_cons_self) | with_reducible apply List.mem_cons_of_mem))); (· (simp only [line_sz, Nat.reduceAdd, Nat.reduceLeDiff, Nat.le_refl]; done)); (· with_reducible exact line_splice ..); (· (repeat (first | (with_reducible exact Repl.here) | with_reducible apply Repl.there))); (clear H; intro _ H); (simp only [Act.put, List.setIfInBounds_toArray, List.set_cons_zero, List.set_cons_succ]))
          | ((with_reducible show wpList _ _ _ (_ :: _) _ _); (with_reducible apply wpl_loadCH); (· first | exact cell_party | exact cell_cur | exact cell_i64); (· rfl); (· rfl); (· exact H); (· (repeat (first | (with_reducible exact List.mem_cons_self) | with_reducible apply List.mem_cons_of_mem))); (· with_reducible first | exact line_g0 .. | exact line_g1 .. | exact line_g2 .. | exact line_g4 ..); (simp only [Act.put, List.setIfInBounds_toArray, List.set_cons_zero, List.set_cons_succ])))
        refine ⟨⟨k + 1, by omega, by go_num, by rw [HE.out], H.tail⟩, ?measure2⟩
        case measure2 => simp [intOf]; omega
    · obtain rfl : k = n := by omega
      have HE := Lib.hid (show totL (L.take k) c = totL L c by rw [List.take_of_length_le (by rw [HN.out]; exact Nat.le_refl _)])
      go_wp2_with (go_skip)
      go_ret
      exact ⟨by rw [HLL.out, ← HE.out]; rfl, H.tail.untop2 HU.out.1 HU.out.2⟩
end
end Go.Proofs.Ytgobnamhdkbbeaa

/- countinghouselaw01's SameLines. -/
namespace Go.Proofs.Ytgobnamhdkbbeaa
open Go.RowKit
set_option linter.unusedSimpArgs false
set_option linter.unusedVariables false
def lineSame (a b c d e a' b' c' d' e' : Int) : Bool := decide (a = a' ∧ b = b' ∧ c = c' ∧ d = d' ∧ e = e')
theorem eqL_run (k : Nat) (a b c d e a' b' c' d' e' : Int) (w : World) : (Op.equalIn (k + 2) 84 (.agg (line a b c d e)) (.agg (line a' b' c' d' e'))).run Try.prog w = .ok (lineSame a b c d e a' b' c' d' e') w := by
  rw [run_equalIn_struct w (k + 1) 84 _ _ (by kernel_rfl) (by kernel_rfl)]
  have hu := Try.underlying30
  have hu2 := Try.underlying23
  have hv := Try.underlying2
  by_cases h1 : a = a' <;> by_cases h2 : b = b' <;> by_cases h3 : c = c' <;> by_cases h4 : d = d' <;> by_cases h5 : e = e'
  all_goals simp [lineSame, go_sem, Try.underlying84, hu, hu2, hv, h1, h2, h3, h4, h5]
theorem neqL_run (a b c d e a' b' c' d' e' : Int) (w : World) : (binOp .neq 84 (.agg (line a b c d e)) (.agg (line a' b' c' d' e'))).run Try.prog w = .ok (.bool (!lineSame a b c d e a' b' c' d' e')) w := by
  have h : (Op.equal 84 (.agg (line a b c d e)) (.agg (line a' b' c' d' e'))).run Try.prog w = .ok (lineSame a b c d e a' b' c' d' e') w := eqL_run 9998 a b c d e a' b' c' d' e' w
  simp only [binOp]
  simp [Sem.run_bind, h]
section
variable {W w : World} {l : List Thing} {ops : Array Oper} {rest : List Oper} {a : Act}
theorem wpQ_neqL {dst : Option Tmp} {ty : TypeId} {pos : String} {after : Array Edge} {guard : Option (Nat × Bool)} {p q : Operand} {a0 b0 c0 d0 e0 a1 b1 c1 d1 e1 : Int} {K : Act → Prop} {H : Heap W l w} (hw : Region.wanted ⟨dst, .binOp .neq 84 p q 84, ty, pos, after, guard⟩ (yielded ops a.tmps) = true) (hp : a.eval p = .agg (line a0 b0 c0 d0 e0)) (hq : a.eval q = .agg (line a1 b1 c1 d1 e1))
    (h : wpQuiet Try.prog ops (fun w' => ∃ d, w' = H.any d) K rest (a.put dst (.bool (!lineSame a0 b0 c0 d0 e0 a1 b1 c1 d1 e1)))) : wpQuiet Try.prog ops (fun w' => ∃ d, w' = H.any d) K (⟨dst, .binOp .neq 84 p q 84, ty, pos, after, guard⟩ :: rest) a := by
  have hg : (Try.prog.eqGuardType Try.prog.depth 84) = false := by kernel_rfl
  refine BigFrame.wpQuiet_want hw fun K hK => ⟨_, ?_, hK _ h⟩
  rintro _ ⟨d, rfl⟩
  unfold Oper.quietAt execOp
  simp only [hp, hq, Sem.run_bind, neqL_run]
  simp [eqGuard, hg, neqL_run]
  exact ⟨rfl, rfl⟩
end
structure SameLL (W : World) (l : List Thing) (A B : List Lin) (n : Nat) (vi : Value) (wr : World) : Prop where
  out : ∃ k : Nat, k ≤ n ∧ vi = .int .i64 (k : Int) ∧ A.take k = B.take k ∧ Heap W l wr
section
variable {W w : World} {l : List Thing}
set_option maxRecDepth 100000
set_option maxHeartbeats 2000000
theorem sameL_no {A B : List Lin} (a b : Option Addr) (n m c d : Nat) (hA : A.length = n) (hB : B.length = m) (hn : n ≤ 1000000) (hm : m ≤ 1000000) (hne : n ≠ m) : AnsH W l 72 #[.slice a n c, .slice b m d] (.bool false) := by
  intro w H
  have e1 : ((n : Int) != (m : Int)) = true := by simp; omega
  have e2 : ((n : Int) == (m : Int)) = false := by simp; omega
  go_enter Try.func72, Try.ntmps72
  go_wp2_with (go_skip)
  go_ret
  exact ⟨rfl, H⟩
theorem sameL_P {A B : List Lin} (a b : Option Addr) (n c d : Nat) (hA : A.length = n) (hB : B.length = n) (hn : n ≤ 1000000) (RA : ∀ w', Heap W l w' → Rd w' a (linL A)) (RB : ∀ w', Heap W l w' → Rd w' b (linL B)) :
    AnsH W l 72 #[.slice a n c, .slice b n d] (.bool (decide (A = B))) := by
  intro w H
  have HA := Lib.hid hA
  have HB := Lib.hid hB
  have HRA := Lib.hid RA
  have HRB := Lib.hid RB
  clear hA hB RA RB
  generalize hres : decide (A = B) = res
  have HRES := Lib.hid hres
  clear hres
  go_enter Try.func72, Try.ntmps72
  go_wp2_with (go_skip)
  have H0 := H
  clear H
  go_loopw [5] (fun vi wr => SameLL W l A B n vi wr) (fun vi _ => n - (intOf vi).toNat)
  case atStart => exact ⟨0, Nat.zero_le _, rfl, rfl, H0⟩
  case round =>
    obtain ⟨k, hk, rfl, ht, H'⟩ := hrel.out
    clear H0 hrel
    have H := H'
    clear H'
    by_cases hlt : k < n
    · have hkA : k < A.length := by rw [HA.out]; exact hlt
      have hkB : k < B.length := by rw [HB.out]; exact hlt
      have hx : A[k]? = some A[k] := List.getElem?_eq_getElem hkA
      have hy : B[k]? = some B[k] := List.getElem?_eq_getElem hkB
      have ra := linL_at A k hkA
      have rb := linL_at B k hkB
      have hlA : k * 5 + 5 ≤ (linL A).length := by rw [linL_len]; omega
      have hlB : k * 5 + 5 ≤ (linL B).length := by rw [linL_len]; omega
      have HT := Lib.hid ht
      clear ht
      generalize A[k] = x at *
      generalize B[k] = y at *
      obtain ⟨ba, oa, rfl, _⟩ := (HRA.out _ H).lt (by omega)
      obtain ⟨bb, ob, rfl, _⟩ := (HRB.out _ H).lt (by omega)
      obtain ⟨xa, xb, xc, xd, xe⟩ := x
      obtain ⟨ya, yb, yc, yd, ye⟩ := y
      have hrA : (((linL A).drop (k * 5)).take 5).toArray = line xa xb xc xd xe := by rw [ra]; rfl
      have hrB : (((linL B).drop (k * 5)).take 5).toArray = line ya yb yc yd ye := by rw [rb]; rfl
      clear ra rb
      cases he : lineSame xa xb xc xd xe ya yb yc yd ye
      · have HN := Lib.hid (show A ≠ B from fun e => by
          subst e
          rw [hx] at hy
          obtain ⟨rfl, rfl, rfl, rfl, rfl⟩ := by simpa using hy
          simp [lineSame] at he)
        clear hx hy
        go_wp2_with (go_skip)
        refine wp_region_H H (by kernel_rfl) (by kernel_rfl) ?_
        repeat (first | go_big_quiet_skip | (first | ((with_reducible apply wpQ_loadRdR row_line); (· rfl); (· rfl); (· exact HRA.out); (· rfl); (· exact hlA); (· decide); (· exact hrA); (simp only [Act.put, List.setIfInBounds_toArray, List.set_cons_zero, List.set_cons_succ])) | ((with_reducible apply wpQ_loadRdR row_line); (· rfl); (· rfl); (· exact HRB.out); (· rfl); (· exact hlB); (· decide); (· exact hrB); (simp only [Act.put, List.setIfInBounds_toArray, List.set_cons_zero, List.set_cons_succ])) | ((with_reducible apply wpQ_neqL); (· rfl); (· rfl); (· rfl); (rw [he]); (simp only [Act.put, List.setIfInBounds_toArray, List.set_cons_zero, List.set_cons_succ]))) | go_big_quiet_step (fail))
        refine wpQuiet_nil ?_
        clear H
        intro _ H
        go_wp2_with (go_skip)
        go_ret
        rw [← HRES.out, decide_eq_false HN.out]
        exact ⟨rfl, H⟩
      · have HS := Lib.hid (show A.take (k + 1) = B.take (k + 1) by
          rw [List.take_add_one, List.take_add_one, hx, hy, HT.out]
          have h2 := he
          simp [lineSame] at h2
          obtain ⟨rfl, rfl, rfl, rfl, rfl⟩ := h2
          rfl)
        clear hx hy
        go_wp2_with (go_skip)
        refine wp_region_H H (by kernel_rfl) (by kernel_rfl) ?_
        repeat (first | go_big_quiet_skip | (first | ((with_reducible apply wpQ_loadRdR row_line); (· rfl); (· rfl); (· exact HRA.out); (· rfl); (· exact hlA); (· decide); (· exact hrA); (simp only [Act.put, List.setIfInBounds_toArray, List.set_cons_zero, List.set_cons_succ])) | ((with_reducible apply wpQ_loadRdR row_line); (· rfl); (· rfl); (· exact HRB.out); (· rfl); (· exact hlB); (· decide); (· exact hrB); (simp only [Act.put, List.setIfInBounds_toArray, List.set_cons_zero, List.set_cons_succ])) | ((with_reducible apply wpQ_neqL); (· rfl); (· rfl); (· rfl); (rw [he]); (simp only [Act.put, List.setIfInBounds_toArray, List.set_cons_zero, List.set_cons_succ]))) | go_big_quiet_step (fail))
        refine wpQuiet_nil ?_
        clear H
        intro _ H
        go_wp2_with (go_skip)
        refine ⟨⟨k + 1, by omega, by go_num, HS.out, H⟩, ?measure⟩
        case measure => simp [intOf]; omega
    · obtain rfl : k = n := by omega
      have HE := Lib.hid (show A = B by
        have h := ht
        rw [List.take_of_length_le (by rw [HA.out]; exact Nat.le_refl _), List.take_of_length_le (by rw [HB.out]; exact Nat.le_refl _)] at h
        exact h)
      clear ht
      go_wp2_with (go_skip)
      go_ret
      rw [← HRES.out, decide_eq_true HE.out]
      exact ⟨rfl, H⟩
theorem sameLines_P {A B : List Lin} (a b : Option Addr) (n m c d : Nat) (hA : A.length = n) (hB : B.length = m) (hn : n ≤ 1000000) (hm : m ≤ 1000000) (RA : ∀ w', Heap W l w' → Rd w' a (linL A)) (RB : ∀ w', Heap W l w' → Rd w' b (linL B)) :
    AnsH W l 31 #[.slice a n c, .slice b m d] (.bool (decide (A = B))) := by
  intro w H
  have S : AnsH W l 72 #[.slice a n c, .slice b m d] (.bool (decide (A = B))) := by
    by_cases e : n = m
    · subst e
      exact sameL_P a b n c d hA hB hn RA RB
    · rw [decide_eq_false (fun h => e (by rw [← hA, ← hB, h]))]
      exact sameL_no a b n m c d hA hB hn hm e
  clear RA RB hA hB
  generalize decide (A = B) = res at *
  go_enter Try.func31, Try.ntmps31
  go_wp2_with (first | go_skip | ((with_reducible refine AnsH.call (by assumption) H ?_); clear H; intro _ H))
  go_ret
  exact ⟨rfl, H⟩
end
end Go.Proofs.Ytgobnamhdkbbeaa
