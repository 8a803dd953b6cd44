/- Part 5 of what ProofBooksPlay stands on: Bok8, Grw, PwExt, SortG, Bok9, Bok10, Bok11, Bok12. -/
import Derived.Test.YtacglcpjbepfnaaBksPPart4
import Derived.Sort.Grow
import Derived.Lib.Small
import Derived.RowKit
import Derived.Shelf.SlSortCmp.WholeK
import Derived.Test.YtacglcpjbepfnaaShelfL
/- books: Take. -/
namespace Go.Proofs.Ytacglcpjbepfnaa
open Go.RowKit
set_option linter.unusedSimpArgs false
set_option linter.unusedVariables false
set_option maxRecDepth 100000
theorem ofrL_set : ∀ {L : List Ofr} {k : Nat} {o : Ofr} (x : Int), L[k]? = some o → (ofrL L).set (k * 7 + 4) (.int .i64 x) = ofrL (L.set k { o with le := x })
  | [], k, o, x, h => by simp at h
  | a :: L, 0, o, x, h => by
    rw [List.getElem?_cons_zero] at h
    cases h
    simp [ofrL, ofrV]
  | a :: L, k + 1, o, x, h => by
    rw [List.getElem?_cons_succ] at h
    have ih := ofrL_set x h
    unfold ofrL at ih ⊢
    rw [List.set_cons_succ, List.flatMap_cons, List.flatMap_cons, ← ih, List.set_append_right _ _ (by simp [ofrV]; omega)]
    congr 2
    simp [ofrV]
    omega
theorem cur_set {cur : Array Value} {L : List Ofr} {n k : Nat} {o : Ofr} (x : Int) (h : cur.toList.take (n * 7) = ofrL L) (hg : L[k]? = some o) : (cur.setIfInBounds (k * 7 + 4) (.int .i64 x)).toList.take (n * 7) = ofrL (L.set k { o with le := x }) := by
  rw [Array.toList_setIfInBounds, List.take_set, h, ofrL_set x hg]
theorem OfT.of {W w : World} {l : List Thing} {g n m : Nat} {c : Array Value} {L : List Ofr} (H : Heap W (Cel g c 83 :: l) w) (hc : c.size = m * 7) (hn : n ≤ m) (hm : m ≤ maxLen) (h : c.toList.take (n * 7) = ofrL L) : Heap W (OfT (.slice (some ⟨g, 0, none⟩) n m) n L :: l) w := by
  have := H.celRowA (size := 7) hc hn hm
  rw [h] at this
  exact this
theorem rd_ofr0 {w : World} {g k j : Nat} {L : List Ofr} {y : Ofr} {v : Value} (R : Rd w (some ⟨g, 0, none⟩) (ofrL L)) (h : L[k]? = some y) (hj : (ofrV y)[j]? = some v) : w.cell? ⟨g, k * 7 + j, none⟩ = some v := by
  have := rd_ofr R h hj
  rwa [Nat.zero_add] at this
section
variable {W w : World} {l : List Thing}
set_option maxHeartbeats 8000000
theorem take_zero {p : Nat} {v : Value} (s n : Int) (m : BkB p v 0 ∈ l) : AnsH W l 60 #[.pointer (some ⟨p, 0, none⟩), .int .u64 s, .int .i64 n] (.int .i64 2) := by
  intro w H
  have T := bthere_zero (W := W) m
  go_enter Try.func60, Try.ntmps60
  go_wp2_with (first | go_skip | ((with_reducible refine AnsH.call (by assumption) H ?_); clear H; intro _ H))
  go_ret
  exact ⟨rfl, H⟩
theorem take_H {p : Nat} {v : Value} {B : Bok} (s x : Int) (hx : -9223372036854775808 ≤ x ∧ x ≤ 9223372036854775807) (G : B.Good) (H : Heap W (BkB p v B.nx :: OfT v B.L.length B.L :: l) w) :
    Calls Try.prog 60 #[.pointer (some ⟨p, 0, none⟩), .int .u64 s, .int .i64 x] w fun e w' =>
      ∃ v', e = .returned (.int .i64 (takeE B s x)) ∧ Heap W (BkB p v' (takeS B s x).nx :: OfT v' (takeS B s x).L.length (takeS B s x).L :: l) w' := by
  obtain ⟨va, c, rfl, hc1, hc2⟩ := RowT.form0 (H.ok _ (List.mem_cons_of_mem _ List.mem_cons_self))
  have hfew := G.few
  have hnx1 := G.nx.1
  have T := bthere_yes (W := W) (l := BkB p (.slice va B.L.length c) B.nx :: OfT (.slice va B.L.length c) B.L.length B.L :: l) List.mem_cons_self (show 0 < B.nx by omega)
  have A := at_H (W := W) (l := BkB p (.slice va B.L.length c) B.nx :: OfT (.slice va B.L.length c) B.L.length B.L :: l) s List.mem_cons_self (List.mem_cons_of_mem _ List.mem_cons_self) rfl (by omega)
  cases hf : findO B.L s with
  | none =>
    have e1 : takeE B s x = 7 := by unfold takeE; rw [hf]
    have e3 : takeS B s x = B := by unfold takeS; rw [hf]
    rw [e1, e3]
    rw [idxO_none hf] at A
    clear e1 e3 hf
    generalize B.L.length = n at *
    go_enter Try.func60, Try.ntmps60
    go_wp2_with (first | go_skip | ((with_reducible refine AnsH.call (by assumption) H ?_); clear H; intro _ H))
    go_ret
    exact ⟨_, rfl, H⟩
  | some o =>
    obtain ⟨hi, hg, hlt⟩ := idxO_some hf
    rw [hi] at A
    have hmem := (findO_some hf).1
    have hle := (mayO_iff.1 (G.ok o hmem).1).2.2.2.2.1
    have Rw := H.rowRd (List.mem_cons_of_mem _ List.mem_cons_self)
    obtain ⟨ba, oa, rfl, _⟩ := Rw.lt (by rw [ofrL_len]; omega)
    by_cases h1 : x < 1
    · have d1 : decide (x < 1) = true := decide_eq_true h1
      have e1 : takeE B s x = 1 := by unfold takeE; rw [hf]; simp [h1]
      have e3 : takeS B s x = B := by unfold takeS; rw [hf]; simp [h1]
      rw [e1, e3]
      clear e1 e3 hf hg hi h1
      generalize iO B.L s = k at *
      generalize B.L.length = n at *
      go_enter Try.func60, Try.ntmps60
      go_wp2_with (first | go_skip | ((with_reducible refine AnsH.call (by assumption) H ?_); clear H; intro _ H))
      go_ret
      exact ⟨_, rfl, H⟩
    · have d1 : decide (x < 1) = false := decide_eq_false h1
      by_cases h2 : o.le < x
      · have d2 : decide (x > o.le) = true := decide_eq_true h2
        have d3 : decide (o.le < x) = true := decide_eq_true h2
        have e1 : takeE B s x = 1 := by unfold takeE; rw [hf]; simp [h2]
        have e3 : takeS B s x = B := by unfold takeS; rw [hf]; simp [h2]
        rw [e1, e3]
        have HF := Lib.hid (⟨hf, hi, hg⟩ : _ ∧ _ ∧ _)
        clear e1 e3 hf hg hi h1 h2 Rw
        generalize iO B.L s = k at *
        generalize hn : B.L.length = n at *
        go_enter Try.func60, Try.ntmps60
        go_wp2_with (first
          | go_skip
          | ((with_reducible refine AnsH.call (by assumption) H ?_); clear H; intro _ H)
          | ((with_reducible show wpList _ _ _ (_ :: _) _ _); (with_reducible apply wpl_loadCH); (· exact cell_ofrs); (· rfl); (· rfl); (· exact H); (· exact List.mem_cons_self); (· exact bkb_g0 ..); (simp only [Act.put, List.setIfInBounds_toArray, List.set_cons_zero, List.set_cons_succ]))
          | ((with_reducible show wpList _ _ _ (_ :: _) _ _); (with_reducible apply wpl_loadCell cell_i64); (· rfl); (· rfl); (· exact rd_ofr (H.rowRd (List.mem_cons_of_mem _ List.mem_cons_self)) HF.out.2.2 (j := 4) rfl); (simp only [Act.put, List.setIfInBounds_toArray, List.set_cons_zero, List.set_cons_succ])))
        go_ret
        exact ⟨_, rfl, H⟩
      · have d2 : decide (x > o.le) = false := decide_eq_false h2
        have d3 : decide (o.le < x) = false := decide_eq_false h2
        have e1 : takeE B s x = 0 := by unfold takeE; rw [hf]; simp [h1, h2]
        have e3 : takeS B s x = ⟨setO B.L s (o.le - x), B.nx⟩ := by unfold takeS; rw [hf]; simp [h1, h2]
        rw [e1, e3]
        clear Rw
        obtain ⟨g, c', cur, hv, -, -, -, -, -⟩ := (H.perm (.swap _ _ _)).rowCelO (by omega)
        cases hv
        clear cur
        have HK := Lib.hid (show ∀ V, Heap W (BkB p (.slice (some ⟨ba, 0, none⟩) B.L.length c) B.nx :: OfT (.slice (some ⟨ba, 0, none⟩) B.L.length c) B.L.length B.L :: l) V → ∃ cur : Array Value, cur.size = c * 7 ∧ cur.toList.take (B.L.length * 7) = ofrL B.L ∧ Heap W (Cel ba cur 83 :: BkB p (.slice (some ⟨ba, 0, none⟩) B.L.length c) B.nx :: l) V from fun V HV => by
          obtain ⟨g', c', cur, hv, _, _, hs1, hs2, H'⟩ := (HV.perm (.swap _ _ _)).rowCelO (by omega)
          cases hv
          exact ⟨cur, hs1, hs2, H'⟩)
        have hpos := setO_pos (v := o.le - x) (s := s) (L := B.L) (o := o)
        have hzero := setO_zero (s := s) (L := B.L) (o := o)
        have HF := Lib.hid (⟨hf, hi, hg, (fun h : 0 < o.le - x => hpos h G.ord G.pos hg), hzero G.ord G.pos hg⟩ : _ ∧ _ ∧ _ ∧ _ ∧ _)
        clear e1 e3 hf hg hi hpos hzero hmem
        have HG := Lib.hid (show (B.L.set (iO B.L s) { o with le := o.le - x })[iO B.L s]? = some { o with le := o.le - x } by rw [List.getElem?_set_self hlt])
        have HS := Lib.hid (show (B.L.set (iO B.L s) { o with le := o.le - x }).length = B.L.length by rw [List.length_set])
        have HE := Lib.hid (show (B.L.eraseIdx (iO B.L s)).length = B.L.length - 1 by rw [List.length_eraseIdx, if_pos hlt])
        generalize iO B.L s = k at *
        generalize hn : B.L.length = n at *
        by_cases h3 : o.le - x = 0
        · have d4 : (o.le - x == 0) = true := by simpa using h3
          rw [h3, HF.out.2.2.2.2]
          have H3 := Lib.hid h3
          clear h3
          go_enter Try.func60, Try.ntmps60
          go_wp2_with (first
            | ((obtain ⟨cur, hs1, hs2, H2⟩ := HK.out _ H); (with_reducible show wpList _ _ _ (_ :: _) _ _); (with_reducible apply wpl_storeIH); (· exact cell_i64); (· rfl); (· rfl); (· rfl); (· exact H2); (· exact List.mem_cons_self); (· omega); (· rfl); (· exact Repl.here); (clear H H2; intro _ H; replace H := (OfT.of H (by simpa using hs1) hc1 hc2 (cur_set (o.le - x) hs2 HF.out.2.2.1)).perm (.swap _ _ _); clear hs1 hs2; clear cur); (simp only [Act.put, List.setIfInBounds_toArray, List.set_cons_zero, List.set_cons_succ]))
            | go_skip
            | ((with_reducible refine AnsH.call (by assumption) H ?_); clear H; intro _ H)
            | ((with_reducible show wpList _ _ _ (_ :: _) _ _); (with_reducible apply wpl_loadCH); (· exact cell_ofrs); (· rfl); (· rfl); (· exact H); (· exact List.mem_cons_self); (· exact bkb_g0 ..); (simp only [Act.put, List.setIfInBounds_toArray, List.set_cons_zero, List.set_cons_succ]))
            | ((with_reducible show wpList _ _ _ (_ :: _) _ _); (with_reducible apply wpl_loadCell cell_i64); (· rfl); (· rfl); (· first | exact rd_ofr0 (H.rowRd (List.mem_cons_of_mem _ List.mem_cons_self)) HF.out.2.2.1 (j := 4) rfl | exact rd_ofr0 (H.rowRd (List.mem_cons_of_mem _ List.mem_cons_self)) HG.out (j := 4) rfl); (simp only [Act.put, List.setIfInBounds_toArray, List.set_cons_zero, List.set_cons_succ])))
          refine (deleteO_H HS.out hlt (by omega) (H.perm (.swap _ _ _))).mono ?_
          clear H
          rintro e w2 ⟨v2, rfl, H⟩
          rw [List.eraseIdx_set_eq] at H
          obtain ⟨a2, c2, rfl, hd1, hd2⟩ := RowT.form0 (H.ok _ List.mem_cons_self)
          go_wp2_with (first | go_skip | (first | ((with_reducible show wpList _ _ _ (_ :: _) _ _); (with_reducible apply wpl_storeIH); (· exact cell_ofrs); (· rfl); (· rfl); (· rfl); (· exact H); (· (repeat (first | (with_reducible exact List.mem_cons_self) | with_reducible apply List.mem_cons_of_mem))); (· (simp only [bkb_sz, Nat.reduceLT]; done)); (· (with_reducible first | exact bkb_s0 .. | exact bkb_s1 ..)); (· (repeat (first | (with_reducible exact Repl.here) | with_reducible apply Repl.there))); (clear H; intro _ H); (simp only [Act.put, List.setIfInBounds_toArray, List.set_cons_zero, List.set_cons_succ])) | ((with_reducible show wpList _ _ _ (_ :: _) _ _); (with_reducible apply wpl_storeBH); (· exact cell_ofrs); (· rfl); (· rfl); (· rfl); (· exact H); (· (repeat (first | (with_reducible exact List.mem_cons_self) | with_reducible apply List.mem_cons_of_mem))); (· (simp only [bkb_sz, Nat.reduceLT]; done)); (· (with_reducible first | exact bkb_s0 .. | exact bkb_s1 ..)); (· (repeat (first | (with_reducible exact Repl.here) | with_reducible apply Repl.there))); (clear H; intro _ H); (simp only [Act.put, List.setIfInBounds_toArray, List.set_cons_zero, List.set_cons_succ])) | ((with_reducible show wpList _ _ _ (_ :: _) _ _); (with_reducible apply wpl_storeSH); (· exact cell_ofrs); (· rfl); (· rfl); (· rfl); (· exact H); (· (repeat (first | (with_reducible exact List.mem_cons_self) | with_reducible apply List.mem_cons_of_mem))); (· (simp only [bkb_sz, Nat.reduceLT]; done)); (· (with_reducible first | exact bkb_s0 .. | exact bkb_s1 ..)); (· (repeat (first | (with_reducible exact Repl.here) | with_reducible apply Repl.there))); (clear H; intro _ H); (simp only [Act.put, List.setIfInBounds_toArray, List.set_cons_zero, List.set_cons_succ])) | ((with_reducible show wpList _ _ _ (_ :: _) _ _); (with_reducible apply wpl_storePH); (· exact cell_ofrs); (· rfl); (· rfl); (· rfl); (· exact H); (· (repeat (first | (with_reducible exact List.mem_cons_self) | with_reducible apply List.mem_cons_of_mem))); (· (simp only [bkb_sz, Nat.reduceLT]; done)); (· (with_reducible first | exact bkb_s0 .. | exact bkb_s1 ..)); (· (repeat (first | (with_reducible exact Repl.here) | with_reducible apply Repl.there))); (clear H; intro _ H); (simp only [Act.put, List.setIfInBounds_toArray, List.set_cons_zero, List.set_cons_succ]))))
          go_ret
          refine ⟨.slice a2 (n - 1) c2, rfl, ?_⟩
          show Heap W (BkB p _ _ :: OfT _ (B.L.eraseIdx k).length _ :: l) _
          rw [HE.out]
          exact H.perm (.swap _ _ _)
        · have d4 : (o.le - x == 0) = false := by simpa using h3
          rw [HF.out.2.2.2.1 (by omega)]
          clear h3
          go_enter Try.func60, Try.ntmps60
          go_wp2_with (first
            | ((obtain ⟨cur, hs1, hs2, H2⟩ := HK.out _ H); (with_reducible show wpList _ _ _ (_ :: _) _ _); (with_reducible apply wpl_storeIH); (· exact cell_i64); (· rfl); (· rfl); (· rfl); (· exact H2); (· exact List.mem_cons_self); (· omega); (· rfl); (· exact Repl.here); (clear H H2; intro _ H; replace H := (OfT.of H (by simpa using hs1) hc1 hc2 (cur_set (o.le - x) hs2 HF.out.2.2.1)).perm (.swap _ _ _); clear hs1 hs2; clear cur); (simp only [Act.put, List.setIfInBounds_toArray, List.set_cons_zero, List.set_cons_succ]))
            | go_skip
            | ((with_reducible refine AnsH.call (by assumption) H ?_); clear H; intro _ H)
            | ((with_reducible show wpList _ _ _ (_ :: _) _ _); (with_reducible apply wpl_loadCH); (· exact cell_ofrs); (· rfl); (· rfl); (· exact H); (· exact List.mem_cons_self); (· exact bkb_g0 ..); (simp only [Act.put, List.setIfInBounds_toArray, List.set_cons_zero, List.set_cons_succ]))
            | ((with_reducible show wpList _ _ _ (_ :: _) _ _); (with_reducible apply wpl_loadCell cell_i64); (· rfl); (· rfl); (· first | exact rd_ofr0 (H.rowRd (List.mem_cons_of_mem _ List.mem_cons_self)) HF.out.2.2.1 (j := 4) rfl | exact rd_ofr0 (H.rowRd (List.mem_cons_of_mem _ List.mem_cons_self)) HG.out (j := 4) rfl); (simp only [Act.put, List.setIfInBounds_toArray, List.set_cons_zero, List.set_cons_succ])))
          go_ret
          refine ⟨.slice (some ⟨ba, 0, none⟩) n c, rfl, ?_⟩
          show Heap W (BkB p _ _ :: OfT _ (B.L.set k _).length _ :: l) _
          rw [HS.out]
          exact H
end
end Go.Proofs.Ytacglcpjbepfnaa

/- Worlds that are others grown: some draws on, some blocks behind. cmp.Compare, cmp.Or. -/
namespace Go.Proofs.Ytacglcpjbepfnaa
open Go.RowKit Go.Sort
set_option linter.unusedSimpArgs false
set_option linter.unusedVariables false
def Grw (w w' : World) : Prop := ∃ q os, w' = grow (w.drewN q) os
theorem Grw.refl (w : World) : Grw w w := ⟨0, #[], by rw [grow_empty]; rfl⟩
theorem Grw.trans {a b c : World} (h : Grw a b) (k : Grw b c) : Grw a c := by
  obtain ⟨q, os, rfl⟩ := h
  obtain ⟨q', os', rfl⟩ := k
  exact ⟨q + q', os ++ os', by rw [show (grow (a.drewN q) os).drewN q' = grow ((a.drewN q).drewN q') os from rfl, grow_grow]; simp [World.drewN, grow, Nat.add_assoc]⟩
theorem Grw.alloc {a b : World} (h : Grw a b) (o : Obj) : Grw a (b.alloc o) := h.trans ⟨0, #[o], by rw [alloc_eq_grow]; rfl⟩
theorem Grw.drew {a b : World} (h : Grw a b) : Grw a b.drew := h.trans ⟨1, #[], by rw [grow_empty]; rfl⟩
theorem Grw.old {a b : World} (h : Grw a b) {k : Nat} (hk : k < a.heap.size) : b.heap[k]? = a.heap[k]? := by
  obtain ⟨q, os, rfl⟩ := h
  exact heap_grow_old _ _ hk
theorem Grw.size {a b : World} (h : Grw a b) : a.heap.size ≤ b.heap.size := by
  obtain ⟨q, os, rfl⟩ := h
  simp [grow, World.drewN]
theorem Grw.blk {a b : World} (h : Grw a b) {p : Nat} {o : Obj} (hb : blk a p = some o) : blk b p = some o := (h.old (Array.getElem?_eq_some_iff.1 hb).1).trans hb
theorem Grw.below {a b : World} (h : Grw a b) : Below a.heap.size a b := by
  obtain ⟨q, os, rfl⟩ := h
  exact ⟨rfl, rfl, rfl, by simp [grow, World.drewN], fun k hk => heap_grow_old _ _ hk⟩
open Classical in
noncomputable def World.gr (w d : World) : World := if Grw w d then d else w
theorem gr_grw (w d : World) : Grw w (World.gr w d) := by
  unfold World.gr
  split
  · assumption
  · exact .refl _
theorem gr_of {w w' : World} (h : Grw w w') : ∃ d, w' = World.gr w d := ⟨w', by unfold World.gr; rw [if_pos h]⟩
/-- Called so it answers v, in whatever world, which is then some draws on, with blocks behind. -/
def AnsG (f : FuncId) (args : Array Value) (v : Value) : Prop := ∀ w, Calls Try.prog f args w fun e w' => e = .returned v ∧ Grw w w'
theorem AnsG.quiet {f : FuncId} {args : Array Value} {v : Value} {W d : World} (h : AnsG f args v) : Calls Try.prog f args (World.gr W d) fun e w'' => e = .returned v ∧ ∃ m, w'' = World.gr W m :=
  (h _).mono fun _ _ ⟨he, hg⟩ => ⟨he, gr_of ((gr_grw W d).trans hg)⟩
section
variable {ops : Array Oper} {rest : List Oper} {a : Act} {w W : World} {Q : Exit → Act → World → Prop}
theorem wp_region_G_tail {id : Nat} {lo : List Oper} (n : Nat) (hm : Try.prog.follows .mixedOrders = true) (hB : Region.lexTailB .any lo.toArray n = true)
    (h : wpQuiet Try.prog lo.toArray (fun w' => ∃ d, w' = World.gr W d) (fun a' => ∀ w', Grw W w' → wpList Try.prog lo.toArray Q (lo.drop n) a' w') (lo.take n) a) : (Code.region id lo.toArray true).wp Try.prog Q a W :=
  wp_region_tail (C := fun w' => ∃ d, w' = World.gr W d) n hm hB (gr_of (Grw.refl W).drew) (wpQuiet_mono (fun _ h w' hw' => by obtain ⟨d, rfl⟩ := hw'; exact h _ (gr_grw _ _)) _ _ h)
theorem wpQ_loadCG {T : TypeId} {dst : Option Tmp} {ty : TypeId} {pos : String} {after : Array Edge} {guard : Option (Nat × Bool)} {x : Operand} {b off : Nat} {K : Act → Prop} (CT : CellTy T) (hw : Region.wanted ⟨dst, .load T x, ty, pos, after, guard⟩ (yielded ops a.tmps) = true) (hx : a.eval x = .pointer (some ⟨b, off, none⟩))
    {c : Array Value} {v : Value} {t : TypeId} (hb : blk W b = some (.cells c t (0, 0))) (hv : c[off]? = some v)
    (h : wpQuiet Try.prog ops (fun w' => ∃ d, w' = World.gr W d) K rest (a.put dst v)) : wpQuiet Try.prog ops (fun w' => ∃ d, w' = World.gr W d) K (⟨dst, .load T x, ty, pos, after, guard⟩ :: rest) a := by
  refine BigFrame.wpQuiet_want hw fun K hK => ⟨_, ?_, hK _ h⟩
  rintro _ ⟨d, rfl⟩
  unfold Oper.quietAt execOp
  simp only [hx, Sem.run_bind, run_loadC CT ((gr_grw W d).blk hb) hv]
  exact ⟨rfl, rfl⟩
theorem wpQ_loadRG {T n : Nat} {z : Array Value} {dst : Option Tmp} {ty : TypeId} {pos : String} {after : Array Edge} {guard : Option (Nat × Bool)} {x : Operand} {b off : Nat} {K : Act → Prop} (RT : RowTy T n z) (hw : Region.wanted ⟨dst, .load T x, ty, pos, after, guard⟩ (yielded ops a.tmps) = true) (hx : a.eval x = .pointer (some ⟨b, off, none⟩))
    {c c1 : Array Value} {t : TypeId} (hb : blk W b = some (.cells c t (0, 0))) (hn : off + n ≤ c.size) (he : c.extract off (off + n) = c1)
    (h : wpQuiet Try.prog ops (fun w' => ∃ d, w' = World.gr W d) K rest (a.put dst (.agg c1))) : wpQuiet Try.prog ops (fun w' => ∃ d, w' = World.gr W d) K (⟨dst, .load T x, ty, pos, after, guard⟩ :: rest) a := by
  subst he
  refine BigFrame.wpQuiet_want hw fun K hK => ⟨_, ?_, hK _ h⟩
  rintro _ ⟨d, rfl⟩
  unfold Oper.quietAt execOp
  simp only [hx, Sem.run_bind, run_loadR RT ((gr_grw W d).blk hb) hn]
  exact ⟨rfl, rfl⟩
end
set_option maxRecDepth 100000
set_option maxHeartbeats 1000000
end Go.Proofs.Ytacglcpjbepfnaa

/- Lists in a strict order. (Plain.) -/
namespace Go.Proofs.Ytacglcpjbepfnaa
theorem pw_ext {α : Type} {r : α → α → Prop} (ha : ∀ x y, r x y → ¬ r y x) : ∀ {L M : List α}, L.Pairwise r → M.Pairwise r → (∀ z, z ∈ L ↔ z ∈ M) → L = M
  | [], [], _, _, _ => rfl
  | [], b :: M, _, _, h => by have := (h b).2 (List.mem_cons_self ..); cases this
  | a :: L, [], _, _, h => by have := (h a).1 (List.mem_cons_self ..); cases this
  | a :: L, b :: M, hL, hM, h => by
    have h1 := List.pairwise_cons.1 hL
    have h2 := List.pairwise_cons.1 hM
    have e : a = b := by
      rcases List.mem_cons.1 ((h a).1 (List.mem_cons_self ..)) with e | ha'
      · exact e
      · rcases List.mem_cons.1 ((h b).2 (List.mem_cons_self ..)) with e | hb
        · exact e.symm
        · exact absurd (h2.1 _ ha') (ha _ _ (h1.1 _ hb))
    subst e
    congr 1
    refine pw_ext ha h1.2 h2.2 fun z => ⟨fun hz => ?_, fun hz => ?_⟩
    · rcases List.mem_cons.1 ((h z).1 (List.mem_cons_of_mem _ hz)) with e | hz'
      · subst e; exact absurd (h1.1 _ hz) (ha _ _ (h1.1 _ hz))
      · exact hz'
    · rcases List.mem_cons.1 ((h z).2 (List.mem_cons_of_mem _ hz)) with e | hz'
      · subst e; exact absurd (h2.1 _ hz) (ha _ _ (h2.1 _ hz))
      · exact hz'
theorem pw_nodup {α : Type} {r : α → α → Prop} (hr : ∀ x, ¬ r x x) {L : List α} (h : L.Pairwise r) : L.Nodup := by
  unfold List.Nodup
  exact h.imp fun {a b} hab e => by subst e; exact hr _ hab
end Go.Proofs.Ytacglcpjbepfnaa

/- A row of structs put in order, as a thing: of whatever type. -/
namespace Go.Proofs.Ytacglcpjbepfnaa
open Go.RowKit Go.Sort
set_option linter.unusedVariables false
set_option linter.unusedSimpArgs false
section
variable {W w : World} {l : List Thing} {g n c : Nat} {e : TypeId} {cur F : Array Value}
theorem putRow_else {k : Nat} {off : Nat} (h : k ≠ g) (F : Array Value) : (putRow id w g off F).heap[k]? = w.heap[k]? := by
  simp [putRow, mapBlock, Array.getElem?_modify, Ne.symm h]
theorem sort_grown {α : Type} [Inhabited α] (enc : α → List Value) (k m : Nat) {off : Nat} (d' : Array α) (os : Array Obj) : w.grownBy (sortWorldK enc k w g off m d' os) (some g) := by
  refine ⟨rfl, rfl, rfl, size_sortWorldK_c enc k w g off m d' os, fun j hj hne => ?_⟩
  have hne : j ≠ g := fun h => hne (by rw [h])
  unfold sortWorldK
  rw [heap_grow_old _ _ (by simpa [putRowK, putRow, mapBlock, Sort.ahead] using hj)]
  unfold putRowK
  rw [putRow_else hne]
  rfl
end
section
variable {α : Type} {enc : α → List Value} {k : Nat}
theorem encL_len (he : ∀ x, (enc x).length = k) : ∀ L : List α, (L.flatMap enc).length = L.length * k
  | [] => by simp
  | x :: L => by rw [List.flatMap_cons, List.length_append, encL_len he L, he, List.length_cons, Nat.add_mul]; omega
theorem encL_at (he : ∀ x, (enc x).length = k) : ∀ (L : List α) (i : Nat) (h : i < L.length), ((L.flatMap enc).drop (i * k)).take k = enc L[i]
  | [], i, h => by simp at h
  | x :: L, 0, _ => by
    rw [List.flatMap_cons, Nat.zero_mul, List.drop_zero, List.take_append_of_le_length (by rw [he]; exact Nat.le_refl _), List.take_of_length_le (by rw [he]; exact Nat.le_refl _)]
    rfl
  | x :: L, i + 1, h => by
    have ih := encL_at he L i (by simpa using h)
    rw [List.getElem_cons_succ, ← ih, List.flatMap_cons, show (i + 1) * k = (enc x).length + i * k by rw [he, Nat.add_mul]; omega, List.drop_length_add_append]
variable [Inhabited α]
theorem flatG (he : ∀ x, (enc x).length = k) (hk : 0 < k) (d : Array α) : flatK enc k d = (d.toList.flatMap enc).toArray := by
  refine Go.Sort.ext_get! (by simp [encL_len he]) fun t ht => ?_
  have ht' : t < d.size * k := by simpa using ht
  rw [get_flatK _ _ _ _ ht']
  have hq : t / k < d.toList.length := by rw [Array.length_toList]; exact (Nat.div_lt_iff_lt_mul hk).2 ht'
  have h1 := encL_at he d.toList (t / k) hq
  have hr : t % k < k := Nat.mod_lt _ hk
  have h2 : (d.toList.flatMap enc)[t]? = (enc d.toList[t / k])[t % k]? := by
    rw [← h1, List.getElem?_take, if_pos hr, List.getElem?_drop]
    congr 1
    have := Nat.div_add_mod t k
    rw [Nat.mul_comm] at this
    omega
  have h3 : d[t / k]! = d.toList[t / k] := by
    rw [getElem!_pos d (t / k) (by simpa using hq)]; simp
  rw [h3]
  have h4 : ((d.toList.flatMap enc).toArray)[t]! = ((d.toList.flatMap enc)[t]?).getD default := by simp [Array.getElem!_eq_getD, Array.getD_eq_getD_getElem?]
  rw [h4, h2]
  simp [List.getElem!_eq_getElem?_getD]
section
variable {W w : World} {l : List Thing} {g n c : Nat} {e : TypeId} {cur F : Array Value}
theorem putRow_atO (h : w.heap[g]? = some (.cells cur e (0, 0))) (off : Nat) (F : Array Value) : (putRow id w g off F).heap[g]? = some (.cells (putCells id off F cur) e (0, 0)) := by
  simp [putRow, mapBlock, Array.getElem?_modify, h, onCells]
theorem putCells_takeO {off : Nat} (hF : off + F.size ≤ cur.size) : ((putCells id off F cur).toList.drop off).take F.size = F.toList := by
  apply List.ext_getElem?
  intro i
  rw [List.getElem?_take]
  by_cases hi : i < F.size
  · rw [if_pos hi, List.getElem?_drop]
    have h1 : off + i < cur.size := by omega
    simp [putCells, h1, hi]
  · rw [if_neg hi]
    simp [hi]
theorem sortG_holds (he : ∀ x, (enc x).length = k) (hk : 0 < k) {off : Nat} {L : List α} (h : (OwnT e k (.slice (some ⟨g, off, none⟩) n c) n (L.flatMap enc)).ok w) (hn : L.length = n) : HoldsK enc k w g off L.toArray := by
  obtain ⟨_, ⟨h1, _⟩ | ⟨g', off', cap, cur, h1, _, hh, h3, _, h5, ht⟩⟩ := h
  · cases h1
  · cases h1
    unfold HoldsK
    rw [flatG he hk]
    intro j hj
    have hj' : j < (L.flatMap enc).length := by simpa using hj
    have hj3 : j < n * k := by rw [encL_len he, hn] at hj'; exact hj'
    have hj2 : off + j < cur.size := by
      have := Nat.mul_le_mul_right k h3
      omega
    have hc : cur[off + j]? = (L.flatMap enc)[j]? := by
      rw [← ht, List.getElem?_take, if_pos hj3, List.getElem?_drop]
      simp
    rw [List.getElem?_eq_getElem hj'] at hc
    refine ⟨?_, ?_⟩
    · simp only [World.cell?, hh, if_true, hc]
      simp [hj']
      rw [List.getElem?_eq_getElem hj']
      rfl
    · simp [World.frozen?, hh]
theorem sortG_after (he : ∀ x, (enc x).length = k) (hk : 0 < k) {off : Nat} {L : List α} (h : (OwnT e k (.slice (some ⟨g, off, none⟩) n c) n (L.flatMap enc)).ok w) (m : Nat) (d' : Array α) (os : Array Obj) (hd : d'.size = n) : (OwnT e k (.slice (some ⟨g, off, none⟩) n c) n (d'.toList.flatMap enc)).ok (sortWorldK enc k w g off m d' os) := by
  obtain ⟨_, ⟨h1, _⟩ | ⟨g', off', cap, cur, h1, hg, hh, h2, h3, h4, ht⟩⟩ := h
  · cases h1
  · cases h1
    have hm := Nat.mul_le_mul_right k h2
    have hF : off + (flatK enc k d').size ≤ cur.size := by rw [size_flatK, hd]; omega
    refine ⟨by rw [encL_len he]; simp [hd], .inr ⟨g, off, c, putCells id off (flatK enc k d') cur, rfl, hg, ?_, h2, h3, ?_, ?_⟩⟩
    · unfold sortWorldK
      have hlt : g < w.heap.size := (Array.getElem?_eq_some_iff.1 hh).1
      rw [heap_grow_old _ _ (by simpa [putRowK, putRow, mapBlock, Sort.ahead] using hlt)]
      exact putRow_atO hh _ _
    · simpa [putCells] using h4
    · have := putCells_takeO hF
      rw [size_flatK, hd] at this
      rw [this, flatG he hk]
theorem sortG_heap (he : ∀ x, (enc x).length = k) (hk : 0 < k) {off : Nat} {L M : List α} (H : Heap W (OwnT e k (.slice (some ⟨g, off, none⟩) n c) n (L.flatMap enc) :: l) w) (hn : L.length = n) {m : Nat} {d' : Array α} {os : Array Obj} (h1 : PermIn 0 L.toArray.size L.toArray d') (hM : d'.toList = M) :
    Heap W (OwnT e k (.slice (some ⟨g, off, none⟩) n c) n (M.flatMap enc) :: l) (sortWorldK enc k w g off m d' os) := by
  have hd : d'.size = n := by rw [h1.1]; simpa using hn
  have := sortG_after he hk (H.ok _ (List.mem_cons_self ..)) m d' os hd
  rw [hM] at this
  exact H.head (sort_grown enc k m d' os) this (.inl rfl)
theorem slG_lt {xs : List Value} {z off : Nat} (H : Heap W (OwnT e z (.slice (some ⟨g, off, none⟩) n c) n xs :: l) w) : g < w.heap.size := (H.fp _ (List.mem_cons_self ..) g rfl).2
end
/-- What is sorted is the one list in this order. -/
theorem sortedG {cf : α → α → Int} {r : α → α → Prop} (ra : ∀ x y, r x y → ¬ r y x) {M : List α} (hM : M.Pairwise r) (hr : ∀ x ∈ M, ∀ y ∈ M, r x y → ltOf cf x y = true) {d d' : Array α} (hd : d.toList.Perm M) (hp : PermIn 0 d.size d d') (hs : SortedIn (ltOf cf) 0 d.size d') : d'.toList = M := by
  obtain ⟨hsz, _, hperm⟩ := hp
  have e1 : d'.extract 0 d.size = d' := by rw [← hsz]; simp
  have e2 : d.extract 0 d.size = d := by simp
  rw [e1, e2] at hperm
  have hP : d'.toList.Perm M := hperm.trans hd
  have hndM : M.Nodup := pw_nodup (fun x h => ra x x h h) hM
  have hnd : d'.toList.Nodup := hP.nodup_iff.2 hndM
  refine pw_ext ra ?_ hM (fun z => hP.mem_iff)
  rw [List.pairwise_iff_getElem]
  intro i j hi hj hij
  have hi' : i < d'.size := by simpa using hi
  have hj' : j < d'.size := by simpa using hj
  have h := hs i j (Nat.zero_le _) hij (by omega)
  rw [getElem!_pos d' i hi', getElem!_pos d' j hj'] at h
  have mi : d'[i] ∈ M := hP.mem_iff.1 (by simp)
  have mj : d'[j] ∈ M := hP.mem_iff.1 (by simp)
  have hne := List.pairwise_iff_getElem.1 hnd i j hi hj hij
  simp only [Array.getElem_toList] at hne ⊢
  obtain ⟨a, ha, ea⟩ := List.mem_iff_getElem.1 mi
  obtain ⟨b, hb, eb⟩ := List.mem_iff_getElem.1 mj
  rw [← ea, ← eb] at hne ⊢
  rcases Nat.lt_trichotomy a b with h2 | h2 | h2
  · exact List.pairwise_iff_getElem.1 hM a b ha hb h2
  · subst h2; exact absurd rfl hne
  · have h3 := List.pairwise_iff_getElem.1 hM b a hb ha h2
    rw [ea, eb] at h3
    rw [hr _ mj _ mi h3] at h
    cases h
end
end Go.Proofs.Ytacglcpjbepfnaa

/- books: the order of the best ones; they are sorted. -/
namespace Go.Proofs.Ytacglcpjbepfnaa
open Go.RowKit Go.Sort
set_option linter.unusedSimpArgs false
set_option linter.unusedVariables false
set_option maxRecDepth 100000
theorem Blw.grw {w w' : World} (h : Blw w.heap.size w w') : Grw w w' := by
  refine ⟨w'.drawn - w.drawn, w'.heap.extract w.heap.size w'.heap.size, ?_⟩
  have h1 := h.os
  have h2 := h.tape
  have h3 := h.output
  have h4 := h.size
  have h5 := h.block
  have h6 := h.dr
  have hh : w'.heap = w.heap ++ w'.heap.extract w.heap.size w'.heap.size := by
    apply Array.ext_getElem?
    intro i
    by_cases hi : i < w.heap.size
    · rw [h5 i hi, Array.getElem?_append_left hi]
    · rw [Array.getElem?_append_right (by omega), Array.getElem?_extract]
      by_cases h7 : i < w'.heap.size
      · rw [if_pos (by simp; omega)]
        congr 1
        omega
      · rw [if_neg (by simp; omega), Array.getElem?_eq_none (by omega)]
  have hd : w'.drawn = w.drawn + (w'.drawn - w.drawn) := by omega
  cases w'
  cases w
  simp only [grow, World.drewN] at *
  subst h1 h2 h3
  rw [← hh, ← hd]
/-- By rate, then by number. -/
def cfO (x y : Ofr) : Int := orI (cmpO x y) (cmpI x.sq y.sq)
theorem cfO_lt {x y : Ofr} : cfO x y < 0 ↔ ltO x y := by
  unfold cfO orI ltO
  rcases Int.lt_trichotomy x.sq y.sq with h | h | h
  · rw [cmpI_lt h]; split <;> omega
  · rw [h, cmpI_eq]; split <;> omega
  · rw [cmpI_gt h]; split <;> omega
/-- An offer whose rate may be. -/
abbrev GOf : Type := { o : Ofr // mayB o.nu o.de = true }
instance : Inhabited GOf := ⟨⟨⟨0, 0, 0, 0, 0, 1, 1⟩, by decide⟩⟩
def encG (x : GOf) : List Value := ofrV x.1
def cfG (x y : GOf) : Int := cfO x.1 y.1
theorem lt_cfG (x y : GOf) : ltOf cfG x y = decide (cfG x y < 0) := rfl
theorem cfG_lt {x y : GOf} : cfG x y < 0 ↔ ltO x.1 y.1 := cfO_lt
theorem cmpG_trans (x y z : GOf) (h1 : cmpO x.1 y.1 ≤ 0) (h2 : cmpO y.1 z.1 ≤ 0) : cmpO x.1 z.1 ≤ 0 := cmpR_trans x.2 y.2 z.2 h1 h2
theorem swoG : SWO (ltOf cfG) where
  irrefl x := by
    rw [lt_cfG, decide_eq_false_iff_not, cfG_lt]
    have := cmpO_swap x.1 x.1
    unfold ltO
    omega
  trans x y z h1 h2 := by
    rw [lt_cfG, decide_eq_true_eq, cfG_lt] at *
    unfold ltO at *
    have a1 := cmpG_trans x y z
    have a2 := cmpG_trans y z x
    have a3 := cmpG_trans z x y
    have s1 := cmpO_swap x.1 y.1
    have s2 := cmpO_swap y.1 z.1
    have s3 := cmpO_swap x.1 z.1
    omega
  ntrans x y z h1 h2 := by
    rw [lt_cfG, decide_eq_false_iff_not, cfG_lt] at *
    unfold ltO at *
    have a1 := cmpG_trans z y x
    have a2 := cmpG_trans y x z
    have a3 := cmpG_trans x z y
    have s1 := cmpO_swap x.1 y.1
    have s2 := cmpO_swap y.1 z.1
    have s3 := cmpO_swap x.1 z.1
    omega
theorem rk_g0 (r : Ofr) : (ofrA r)[0]? = some (.int .u64 r.sq) := rfl
theorem against_G (x y : GOf) : AnsG 103 #[.agg (ofrA x.1), .agg (ofrA y.1)] (.int .i64 (cfG x y)) := by
  intro w
  obtain ⟨x, hx⟩ := x
  obtain ⟨y, hy⟩ := y
  have fx := may_facts hx
  have fy := may_facts hy
  have c1 : AnsG 57 #[.agg #[.int .i64 x.nu, .int .i64 x.de], .agg #[.int .i64 y.nu, .int .i64 y.de]] (.int .i64 (cmpO x y)) := fun w => (rcompare_any x.nu x.de y.nu y.de w ⟨by omega, by omega, by omega, by omega⟩ ⟨by omega, by omega, by omega, by omega⟩).mono fun _ _ ⟨he, hb⟩ => ⟨he, hb.grw⟩
  have c2 : AnsG 109 #[.int .u64 x.sq, .int .u64 y.sq] (.int .i64 (cmpI x.sq y.sq)) := fun w => (compare_any x.sq y.sq w).mono fun _ _ ⟨he, hb⟩ => ⟨he, hb ▸ Grw.refl _⟩
  have hres : cfG ⟨x, hx⟩ ⟨y, hy⟩ = orI (cmpO x y) (cmpI x.sq y.sq) := rfl
  rw [hres]
  simp only
  have h1 : blk ((w.alloc (.cells (ofrA x) 143)).alloc (.cells (ofrA y) 143)) w.heap.size = some (.cells (ofrA x) 143 (0, 0)) := by
    unfold blk
    rw [Below.heap_alloc _ _ _ (by simp)]
    exact heap_alloc_new w _
  have h2 : blk ((w.alloc (.cells (ofrA x) 143)).alloc (.cells (ofrA y) 143)) (w.heap.size + 1) = some (.cells (ofrA y) 143 (0, 0)) := by
    have := heap_alloc_new (w.alloc (.cells (ofrA x) 143)) (.cells (ofrA y) 143)
    simpa [blk] using this
  have hg : Grw w ((w.alloc (.cells (ofrA x) 143)).alloc (.cells (ofrA y) 143)) := ((Grw.refl w).alloc _).alloc _
  clear fx fy hres
  generalize cmpO x y = b at *
  generalize cmpI x.sq y.sq = c at *
  generalize hw0 : ((w.alloc (.cells (ofrA x) 143)).alloc (.cells (ofrA y) 143)) = w0 at *
  have HW := Lib.hid hw0
  clear hw0
  go_enter Try.func103, Try.ntmps103
  go_wp2_with (go_skip)
  rw [HW.out]
  refine wp_region_G_tail 10 (by kernel_rfl) (by kernel_rfl) ?_
  simp only [List.take_succ_cons, List.take_zero, List.drop_succ_cons, List.drop_zero]
  repeat (first
    | go_big_quiet_skip
    | ((with_reducible apply wpQ_loadCG); (· exact cell_u64); (· rfl); (· rfl); (· first | exact h1 | exact h2); (· with_reducible exact rk_g0 ..); (simp only [Act.put, List.setIfInBounds_toArray, List.set_cons_zero, List.set_cons_succ]))
    | ((with_reducible apply wpQ_loadRG row_rat); (· rfl); (· rfl); (· first | exact h1 | exact h2); (· simp only [ofrA_sz, Nat.reduceAdd, Nat.reduceLeDiff, Nat.le_refl]; done); (· with_reducible exact ofr_rat ..); (simp only [Act.put, List.setIfInBounds_toArray, List.set_cons_zero, List.set_cons_succ]))
    | go_big_quiet_step (with_reducible exact AnsG.quiet (by assumption)))
  refine wpQuiet_nil ?_
  clear h1 h2
  intro w1 g1
  have g2 := hg.trans g1
  go_wp2_with (go_skip)
  have hb : Rd (w1.alloc (.cells #[.int .i64 b, .int .i64 c] 3)) (some ⟨w1.heap.size, 0, none⟩) [.int .i64 b, .int .i64 c] := by
    intro i hi
    refine ⟨_, _, rfl, ?_⟩
    rw [cell_of_row _ _ (0 + i) _ _ _ (heap_alloc_new w1 _)]
    simp at hi
    simp [hi]
  refine (or_any _ 2 b c _ hb).mono ?_
  clear hb
  rintro e w' ⟨rfl, hb4⟩
  go_wp2_with (go_skip)
  go_ret
  exact ⟨rfl, (g2.alloc _).trans hb4.grw⟩
theorem insR_none (p : Option Addr) (cap : Nat) (fv : Value) (w : World) :
    Calls Try.prog 145 #[.slice p 0 cap, .int .i64 0, .int .i64 0, fv] w fun e w' => e = .returned (.tuple #[]) ∧ w' = w := by
  go_enter Try.func145, Try.ntmps145
  go_wp2
  refine wp_loop_rounds 1 ?_
  rw [rounds_succ]
  go_wp2
  go_end0
  exact ⟨rfl, rfl⟩
theorem pdqR_none (p : Option Addr) (cap : Nat) (lim : Int) (fv : Value) (w : World) :
    Calls Try.prog 123 #[.slice p 0 cap, .int .i64 0, .int .i64 0, .int .i64 lim, fv] w fun e w' => e = .returned (.tuple #[]) ∧ w' = w := by
  have hi := fun W => insR_none p cap fv W
  go_enter Try.func123, Try.ntmps123
  go_wp2
  refine wp_loop_rounds 1 ?_
  rw [rounds_succ]
  go_wp2_with (first | go_skip | ((refine (hi _).mono ?_); rintro e w' ⟨rfl, rfl⟩))
  (try simp only [Exit.inBlock, Exit.then])
  refine bodyPost_ret (results_none rfl _ _ _) rfl ?_
  exact ⟨rfl, rfl⟩
theorem sortR_none (p : Option Addr) (cap : Nat) (fv : Value) (w : World) :
    Calls Try.prog 102 #[.slice p 0 cap, fv] w fun e w' => e = .returned (.tuple #[]) ∧ w' = w := by
  have hp := fun lim W => pdqR_none p cap lim fv W
  have hl : ∀ W, Calls Try.prog 120 #[.int .u64 0] W fun e w' => e = .returned (.int .i64 (Lib.bitLen 0 : Nat)) ∧ w' = W := fun W => by
    have h := Go.Proofs.Any.bits_Len (SlLaysF0.n15.bits (P := Try.prog) (ρ := Try.sortRanked_ren) { Try.sortRanked with }) 0 W (by omega) (by omega)
    exact h
  go_enter Try.func102, Try.ntmps102
  go_wp2_with (first | go_skip | ((refine (hl _).mono ?_); rintro e w' ⟨rfl, rfl⟩) | ((refine (hp _ _).mono ?_); rintro e w' ⟨rfl, rfl⟩))
  go_end0
  exact ⟨rfl, rfl⟩
theorem encG_len (x : GOf) : (encG x).length = 7 := rfl
theorem encG_L : ∀ (L : List Ofr) (h : ∀ o ∈ L, mayB o.nu o.de = true), (L.pmap Subtype.mk h).flatMap encG = ofrL L
  | [], _ => rfl
  | x :: L, h => by
    rw [List.pmap_cons, List.flatMap_cons, encG_L L (fun o ho => h o (List.mem_cons_of_mem _ ho))]
    rfl
section
variable {W w : World} {l : List Thing} {g off n c : Nat}
theorem cmpLays_rk (blk off size : Nat) (w : World) : CmpLays Try.prog 103 #[] encG 7 cfG blk off size w := fun m os dk hs x y => against_G x y _
theorem cfG_asym (x y : GOf) (h : cfG x y < 0) : ¬ cfG y x < 0 := by rw [cfG_lt] at *; exact ltO_asym _ _ h
set_option maxHeartbeats 8000000 in
theorem rsort_H {L M : List Ofr} (H : Heap W (OwnT 143 7 (.slice (some ⟨g, off, none⟩) n c) n (ofrL L) :: l) w) (hL : ∀ o ∈ L, mayB o.nu o.de = true) (hn : L.length = n) (hb : n ≤ 1000000) (hp : L.Perm M) (hM : M.Pairwise ltO) :
    Calls Try.prog 102 #[.slice (some ⟨g, off, none⟩) n c, .func (.func 103) #[] #[]] w fun e w' => e = .returned (.tuple #[]) ∧ Heap W (OwnT 143 7 (.slice (some ⟨g, off, none⟩) n c) n (ofrL M) :: l) w' := by
  have hML : ∀ o ∈ M, mayB o.nu o.de = true := fun o ho => hL o (hp.mem_iff.2 ho)
  have e1 := encG_L L hL
  have e2 := encG_L M hML
  have hn' : (L.pmap Subtype.mk hL).length = n := by rw [List.length_pmap]; exact hn
  have hp' : (L.pmap Subtype.mk hL).Perm (M.pmap Subtype.mk hML) := hp.pmap _
  have hM' : (M.pmap Subtype.mk hML).Pairwise fun x y : GOf => cfG x y < 0 := by
    rw [List.pairwise_pmap]
    refine hM.imp ?_
    intro a b h h1 h2
    exact (cfG_lt (x := ⟨a, h1⟩) (y := ⟨b, h2⟩)).2 h
  rw [← e1] at H
  rw [← e2]
  generalize L.pmap Subtype.mk hL = L' at *
  generalize M.pmap Subtype.mk hML = M' at *
  have hsz : L'.toArray.size = n := by simpa using hn'
  have eg : ∀ args w, (callFunc 103 args).run Try.prog w = .ok (.enter 103 args) w := enters_of Try.func103 (by kernel_rfl) rfl
  have hcon := AnyQ.slices_SortFunc Try.sortRanked 7 Try.isAgg143 Try.sizeOf143 encG (fun _ => rfl) (fun x v hv => by simp [encG, ofrV] at hv; rcases hv with rfl | rfl | rfl | rfl | rfl | rfl | rfl <;> rfl) cfG swoG 103 #[] g off c L'.toArray w eg (cmpLays_rk g off _ w) (sortG_holds encG_len (by omega) (H.ok _ List.mem_cons_self) hn') (slG_lt H) (by omega)
  change Calls Try.prog 102 _ _ _ at hcon
  rw [hsz] at hcon
  refine hcon.mono fun e w' ⟨he, d', k, os, h1, h2, hw⟩ => ⟨he, ?_⟩
  subst hw
  exact sortG_heap encG_len (by omega) H hn' (by rw [hsz]; exact h1) (sortedG cfG_asym hM' (fun x _ y _ h => by rw [lt_cfG]; exact decide_eq_true h) (by simpa using hp') (by rw [hsz]; exact h1) (by rw [hsz]; exact h2))
end
end Go.Proofs.Ytacglcpjbepfnaa

/- books: Best. -/
namespace Go.Proofs.Ytacglcpjbepfnaa
open Go.RowKit Go.Sort
set_option linter.unusedSimpArgs false
set_option linter.unusedVariables false
set_option maxRecDepth 100000
theorem row_rk : RowTy 143 7 (ofrA ofrZ) := ⟨⟨_, Try.underlying143, rfl⟩, by kernel_rfl, by kernel_rfl⟩
theorem slR : SlTy Try.prog 142 143 7 40 (.agg (ofrA ofrZ)) := slTy_mk Try.underlying142 (by kernel_rfl) rfl (by decide)
theorem bs_rk : Try.prog.underlying 142 = some (.slice 143) ∧ (Try.prog.info? 143).map (fun i => (i.size, i.zero.map Value.cells)) = some ((ofrA ofrZ).size, some (ofrA ofrZ)) ∧ 0 < (ofrA ofrZ).size ∧ (ofrA ofrZ).size ≤ 65536 := ⟨Try.underlying142, by kernel_rfl, by decide, by decide⟩
theorem filt_succ {L : List Ofr} {k : Nat} {x : Ofr} (se bu : Int) (h : L[k]? = some x) : (L.take (k + 1)).filter (ofC se bu) = (L.take k).filter (ofC se bu) ++ if ofC se bu x = true then [x] else [] := by
  rw [List.take_add_one, h, Option.toList_some, List.filter_append]
  congr 1
  by_cases ho : ofC se bu x = true
  · rw [if_pos ho, List.filter_cons_of_pos ho]; rfl
  · rw [if_neg ho, List.filter_cons_of_neg ho]; rfl
theorem out_step {S : List Ofr} {k : Nat} {x : Ofr} {xs0 : List Value} (h : S[k]? = some x) (hl : xs0.length = S.length * 7) :
    (ofrL (S.take k) ++ xs0.drop (k * 7)).take (k * 7) ++ (ofrA x).toList ++ (ofrL (S.take k) ++ xs0.drop (k * 7)).drop (k * 7 + 7) = ofrL (S.take (k + 1)) ++ xs0.drop ((k + 1) * 7) := by
  have hk := (List.getElem?_eq_some_iff.1 h).1
  have h1 : (ofrL (S.take k)).length = k * 7 := by rw [ofrL_len, List.length_take, Nat.min_eq_left (by omega)]
  rw [List.take_add_one, h, Option.toList_some, ofrL_app, ofrL_one]
  congr 1
  · congr 1
    rw [← h1]
    exact List.take_left
  · rw [← h1, ← List.drop_drop, List.drop_left, List.drop_drop, h1]
    congr 1
    omega
structure BestR1 (W : World) (l : List Thing) (L : List Ofr) (se bu : Int) (n : Nat) (v i : Value) (wr : World) : Prop where
  out : ∃ k m : Nat, k ≤ n ∧ i = .int .i64 (k : Int) ∧ ((L.take k).filter (ofC se bu)).length = m ∧ Heap W (RowT 143 7 v m (ofrL ((L.take k).filter (ofC se bu))) :: l) wr
structure BestR2 (W : World) (l : List Thing) (S : List Ofr) (g m : Nat) (xs0 : List Value) (i : Value) (wr : World) : Prop where
  out : ∃ k : Nat, k ≤ m ∧ i = .int .i64 (k : Int) ∧ Heap W (OwnT 83 7 (.slice (some ⟨g, 0, none⟩) m m) m (ofrL (S.take k) ++ xs0.drop (k * 7)) :: l) wr
theorem best_few {B : Bok} (G : B.Good) (se bu : Int) : (B.L.filter (ofC se bu)).length ≤ 32 := Nat.le_trans (List.length_filter_le ..) G.few
section
variable {W w : World} {l : List Thing}
set_option maxHeartbeats 8000000
theorem best_H {p : Nat} {v : Value} {B : Bok} (se bu : Int) (G : B.Good) (m1 : BkB p v B.nx ∈ l) (m2 : OfT v B.L.length B.L ∈ l) (H : Heap W l w) :
    Calls Try.prog 53 #[.pointer (some ⟨p, 0, none⟩), .int .u8 se, .int .u8 bu] w fun e w' => ∃ v', e = .returned v' ∧ Heap W (OwO v' (bestO B.L se bu).length (bestO B.L se bu) :: l) w' := by
  have hfew := G.few
  have hnx := G.nx.1
  have hff := best_few G se bu
  have HB := Lib.hid (G.best se bu)
  have hmy := Lib.hid (fun o (ho : o ∈ B.L.filter (ofC se bu)) => (mayO_iff.1 (G.ok o (List.mem_filter.1 ho).1).1).2.2.2.2.2)
  generalize B.L = L at *
  generalize hn : L.length = n at *
  generalize bestO L se bu = S at *
  go_enter Try.func53, Try.ntmps53
  go_wp2_with (go_skip)
  refine (all_H m1 m2 (by omega) hn (by omega) H).mono ?_
  clear H
  rintro e w1 ⟨v1, rfl, H⟩
  clear m1 m2 hnx
  have hv1 : ∃ a1 c1, v1 = .slice a1 n c1 := by
    rcases (H.ok _ List.mem_cons_self).2 with ⟨rfl, rfl⟩ | ⟨g, off, cap, cur, rfl, _⟩
    · exact ⟨_, _, rfl⟩
    · exact ⟨_, _, rfl⟩
  obtain ⟨a1, c1, rfl⟩ := hv1
  have HN := Lib.hid hn
  clear hn
  go_wp2_with (go_skip)
  have H0 := H.nilRow 143 7
  clear H
  go_loopw [7, 16] (fun v i wr => BestR1 W (OwO (.slice a1 n c1) n L :: l) L se bu n v i wr) (fun _ i _ => n - (intOf i).toNat)
  case atStart => exact ⟨0, 0, Nat.zero_le _, rfl, rfl, H0⟩
  case round =>
    obtain ⟨k, m, hk, rfl, hm, H⟩ := hrel.out
    clear H0 hrel
    have hm32 : m ≤ 32 := by
      have : ((L.take k).filter (ofC se bu)).length ≤ (L.take k).length := List.length_filter_le ..
      rw [List.length_take] at this
      have := HN.out
      omega
    by_cases hlt : k < n
    · have hkL : k < L.length := by rw [HN.out]; exact hlt
      have hx : L[k]? = some L[k] := List.getElem?_eq_getElem hkL
      have hrow := ofrL_get L k hkL
      have hlen : k * 7 + 7 ≤ (ofrL L).length := by rw [ofrL_len]; omega
      have HS := Lib.hid (filt_succ se bu hx)
      have HM := Lib.hid hm
      have hn1 : m + 1 ≤ maxLen := by unfold maxLen; omega
      have hn2 : (m + 1) * 40 ≤ 140737488355328 := by omega
      clear hx hm
      generalize L[k] = x at *
      generalize (L.take k).filter (ofC se bu) = D at *
      obtain ⟨ba, oa, rfl, _⟩ := (H.ownRd (List.mem_cons_of_mem _ List.mem_cons_self)).lt (by omega)
      by_cases hs : x.se = se
      · have d1 : (x.se == se) = true := by simpa using hs
        by_cases hb : x.bu = bu
        · have d2 : (x.bu == bu) = true := by simpa using hb
          have hof : ofC se bu x = true := by simp [ofC, hs, hb]
          rw [hof] at HS
          have HS2 := Lib.hid (HS.out.trans (by rw [if_pos rfl]))
          clear HS hof hs hb
          go_wp2_with (first
            | go_skip
            | ((with_reducible show wpList _ _ _ (_ :: _) _ _); (with_reducible apply wpl_loadRdR row_ofr); (· rfl); (· rfl); (· exact H.ownRd (List.mem_cons_of_mem _ List.mem_cons_self)); (· first | rfl | exact (Nat.zero_add _).symm); (· exact hlen); (· decide); (· exact hrow); (simp only [Act.put, List.setIfInBounds_toArray, List.set_cons_zero, List.set_cons_succ]))
            | ((with_reducible show wpList _ _ _ (_ :: _) _ _); (with_reducible apply wpl_allocRH row_ofr); (· rfl); (· exact H); (clear H; intro px _ H); (simp only [Act.put, List.setIfInBounds_toArray, List.set_cons_zero, List.set_cons_succ]))
            | ((with_reducible show wpList _ _ _ (_ :: _) _ _); (with_reducible apply wpl_storeRH row_ofr); (· rfl); (· rfl); (· rfl); (· with_reducible exact ofr_cells ..); (· exact H); (· (repeat (first | (with_reducible exact List.mem_cons_self) | with_reducible apply List.mem_cons_of_mem))); (· (simp only [ofrA_sz, Nat.reduceAdd, Nat.reduceLeDiff, Nat.le_refl]; done)); (· with_reducible exact ofr_splice ..); (· (repeat (first | (with_reducible exact Repl.here) | with_reducible apply Repl.there))); (clear H; intro _ H); (simp only [Act.put, List.setIfInBounds_toArray, List.set_cons_zero, List.set_cons_succ]))
            | ((with_reducible show wpList _ _ _ (_ :: _) _ _); (with_reducible apply wpl_loadCH); (· first | exact cell_u64 | exact cell_party | exact cell_cur | exact cell_i64); (· rfl); (· rfl); (· exact H); (· (repeat (first | (with_reducible exact List.mem_cons_self) | with_reducible apply List.mem_cons_of_mem))); (· with_reducible first | exact ofr_g0 .. | exact ofr_g1 .. | exact ofr_g2 .. | exact ofr_g3 .. | exact ofr_g4 ..); (simp only [Act.put, List.setIfInBounds_toArray, List.set_cons_zero, List.set_cons_succ]))
            | ((with_reducible show wpList _ _ _ (_ :: _) _ _); (with_reducible apply wpl_loadRH row_ofr); (· rfl); (· rfl); (· exact H); (· (repeat (first | (with_reducible exact List.mem_cons_self) | with_reducible apply List.mem_cons_of_mem))); (· (simp only [ofrA_sz, Nat.reduceAdd, Nat.reduceLeDiff, Nat.le_refl]; done)); (· with_reducible exact ofrA_all ..); (simp only [Act.put, List.setIfInBounds_toArray, List.set_cons_zero, List.set_cons_succ]))
            | ((with_reducible show wpList _ _ _ (_ :: _) _ _); (with_reducible apply wpl_bsRH); (· rfl); (· rfl); (· exact bs_rk); (· exact rfl); (· exact H); (clear H; intro pf _ H); (simp only [Act.put, List.setIfInBounds_toArray, List.set_cons_zero, List.set_cons_succ]))
            | ((with_reducible show wpList _ _ _ (_ :: _) _ _); (with_reducible apply wpl_appendH slR); (· rfl); (· rfl); (· rfl); (· rfl); (· exact H.pull (.there (.there .here))); (· exact H.celRd List.mem_cons_self); (· rfl); (· exact ofrA_ones _); (· exact hn1); (· exact hn2); (clear H; intro v2 _ H); (simp only [Act.put, List.setIfInBounds_toArray, List.set_cons_zero, List.set_cons_succ])))
          refine ⟨⟨k + 1, m + 1, by omega, by go_num, ?_, ?_⟩, ?measure0⟩
          · rw [HS2.out, List.length_append, HM.out]; rfl
          · rw [HS2.out, ofrL_app, ofrL_one]
            exact (H.drop (.there .here)).drop (.there .here)
          case measure0 => simp [intOf]; omega
        · have d2 : (x.bu == bu) = false := by simpa using hb
          have hof : ofC se bu x = false := by simp [ofC, hb]
          rw [hof] at HS
          have HS2 := Lib.hid (HS.out.trans (by rw [if_neg Bool.false_ne_true, List.append_nil]))
          clear HS hof hs hb
          go_wp2_with (first
            | go_skip
            | ((with_reducible show wpList _ _ _ (_ :: _) _ _); (with_reducible apply wpl_loadRdR row_ofr); (· rfl); (· rfl); (· exact H.ownRd (List.mem_cons_of_mem _ List.mem_cons_self)); (· first | rfl | exact (Nat.zero_add _).symm); (· exact hlen); (· decide); (· exact hrow); (simp only [Act.put, List.setIfInBounds_toArray, List.set_cons_zero, List.set_cons_succ]))
            | ((with_reducible show wpList _ _ _ (_ :: _) _ _); (with_reducible apply wpl_allocRH row_ofr); (· rfl); (· exact H); (clear H; intro px _ H); (simp only [Act.put, List.setIfInBounds_toArray, List.set_cons_zero, List.set_cons_succ]))
            | ((with_reducible show wpList _ _ _ (_ :: _) _ _); (with_reducible apply wpl_storeRH row_ofr); (· rfl); (· rfl); (· rfl); (· with_reducible exact ofr_cells ..); (· exact H); (· (repeat (first | (with_reducible exact List.mem_cons_self) | with_reducible apply List.mem_cons_of_mem))); (· (simp only [ofrA_sz, Nat.reduceAdd, Nat.reduceLeDiff, Nat.le_refl]; done)); (· with_reducible exact ofr_splice ..); (· (repeat (first | (with_reducible exact Repl.here) | with_reducible apply Repl.there))); (clear H; intro _ H); (simp only [Act.put, List.setIfInBounds_toArray, List.set_cons_zero, List.set_cons_succ]))
            | ((with_reducible show wpList _ _ _ (_ :: _) _ _); (with_reducible apply wpl_loadCH); (· first | exact cell_u64 | exact cell_party | exact cell_cur | exact cell_i64); (· rfl); (· rfl); (· exact H); (· (repeat (first | (with_reducible exact List.mem_cons_self) | with_reducible apply List.mem_cons_of_mem))); (· with_reducible first | exact ofr_g0 .. | exact ofr_g1 .. | exact ofr_g2 .. | exact ofr_g3 .. | exact ofr_g4 ..); (simp only [Act.put, List.setIfInBounds_toArray, List.set_cons_zero, List.set_cons_succ])))
          refine ⟨⟨k + 1, m, by omega, by go_num, by rw [HS2.out]; exact HM.out, ?_⟩, ?measure1⟩
          · rw [HS2.out]
            exact H.tail
          case measure1 => simp [intOf]; omega
      · have d1 : (x.se == se) = false := by simpa using hs
        have hof : ofC se bu x = false := by simp [ofC, hs]
        rw [hof] at HS
        have HS2 := Lib.hid (HS.out.trans (by rw [if_neg Bool.false_ne_true, List.append_nil]))
        clear HS hof hs
        go_wp2_with (first
          | go_skip
          | ((with_reducible show wpList _ _ _ (_ :: _) _ _); (with_reducible apply wpl_loadRdR row_ofr); (· rfl); (· rfl); (· exact H.ownRd (List.mem_cons_of_mem _ List.mem_cons_self)); (· first | rfl | exact (Nat.zero_add _).symm); (· exact hlen); (· decide); (· exact hrow); (simp only [Act.put, List.setIfInBounds_toArray, List.set_cons_zero, List.set_cons_succ]))
          | ((with_reducible show wpList _ _ _ (_ :: _) _ _); (with_reducible apply wpl_allocRH row_ofr); (· rfl); (· exact H); (clear H; intro px _ H); (simp only [Act.put, List.setIfInBounds_toArray, List.set_cons_zero, List.set_cons_succ]))
          | ((with_reducible show wpList _ _ _ (_ :: _) _ _); (with_reducible apply wpl_storeRH row_ofr); (· rfl); (· rfl); (· rfl); (· with_reducible exact ofr_cells ..); (· exact H); (· (repeat (first | (with_reducible exact List.mem_cons_self) | with_reducible apply List.mem_cons_of_mem))); (· (simp only [ofrA_sz, Nat.reduceAdd, Nat.reduceLeDiff, Nat.le_refl]; done)); (· with_reducible exact ofr_splice ..); (· (repeat (first | (with_reducible exact Repl.here) | with_reducible apply Repl.there))); (clear H; intro _ H); (simp only [Act.put, List.setIfInBounds_toArray, List.set_cons_zero, List.set_cons_succ]))
          | ((with_reducible show wpList _ _ _ (_ :: _) _ _); (with_reducible apply wpl_loadCH); (· first | exact cell_u64 | exact cell_party | exact cell_cur | exact cell_i64); (· rfl); (· rfl); (· exact H); (· (repeat (first | (with_reducible exact List.mem_cons_self) | with_reducible apply List.mem_cons_of_mem))); (· with_reducible first | exact ofr_g0 .. | exact ofr_g1 .. | exact ofr_g2 .. | exact ofr_g3 .. | exact ofr_g4 ..); (simp only [Act.put, List.setIfInBounds_toArray, List.set_cons_zero, List.set_cons_succ])))
        refine ⟨⟨k + 1, m, by omega, by go_num, by rw [HS2.out]; exact HM.out, ?_⟩, ?measure2⟩
        · rw [HS2.out]
          exact H.tail
        case measure2 => simp [intOf]; omega
    · obtain rfl : k = n := by omega
      rw [List.take_of_length_le (by rw [HN.out]; exact Nat.le_refl _)] at hm H
      replace H := (H.drop (.there .here)).slide
      have hpl := HB.out.2.length_eq
      have hSm : S.length = m := by rw [hpl]; exact hm
      have HSM := Lib.hid hSm
      have HM := Lib.hid hm
      clear hpl hSm
      rcases (H.ok _ List.mem_cons_self).2 with ⟨hv, hm0⟩ | ⟨gf, off, cap, cur, hv, _⟩
      · subst hv hm0
        have e0 : S = [] := List.length_eq_zero_iff.1 HSM.out
        have SN := fun W => sortR_none none 0 (.func (.func 103) #[] #[]) W
        replace H := H.tail
        have HE0 := Lib.hid e0
        clear e0 hm
        go_wp2_with (first
          | ((with_reducible show wpList _ _ _ (_ :: _) _ _); (with_reducible apply wpl_makeC slO (n := 0) (m := 0)); (· rfl); (· rfl); (· rfl); (· rfl); (· exact Nat.le_refl _); (· omega); (· omega); (· exact H); (clear H; intro pm _ H); (simp only [Act.put, List.setIfInBounds_toArray, List.set_cons_zero, List.set_cons_succ]))
          | go_skip
          | ((refine (SN _).mono ?_); rintro e w' ⟨rfl, rfl⟩))
        refine wp_loop_rounds 1 ?_
        rw [rounds_succ]
        go_wp2_with (first | go_skip)
        go_ret
        refine ⟨.slice (some ⟨pm, 0, none⟩) 0 0, rfl, ?_⟩
        have H2 := H.celOwn (n := 0) (size := 7) (by rw [size_madeCells]) (Nat.zero_le _)
        have e1 : (madeCells (Value.cells (.agg (ofrA ofrZ))) (0 * 7)).toList = [] := List.eq_nil_of_length_eq_zero (by simp [size_madeCells])
        rw [e1] at H2
        rw [HE0.out]
        exact H2
      · subst hv
        have hm1 : m ≤ 65536 := by omega
        have hm2 : 40 * m ≤ 281474976710656 := by omega
        clear hm
        go_wp2_with (go_skip)
        refine (rsort_H H hmy.out HM.out (by omega) HB.out.2.symm HB.out.1).mono ?_
        clear H
        rintro e w3 ⟨rfl, H⟩
        go_wp2_with (first
          | ((with_reducible show wpList _ _ _ (_ :: _) _ _); (with_reducible apply wpl_makeC slO (n := m) (m := m)); (· rfl); (· rfl); (· rfl); (· rfl); (· exact Nat.le_refl _); (· exact hm1); (· exact hm2); (· exact H); (clear H; intro pm _ H); (simp only [Act.put, List.setIfInBounds_toArray, List.set_cons_zero, List.set_cons_succ]))
          | go_skip)
        replace H := H.celOwn (n := m) (size := 7) (by rw [size_madeCells]) (by unfold maxLen; omega)
        obtain ⟨xs0, hx0⟩ : ∃ xs0, (madeCells (Value.cells (.agg (ofrA ofrZ))) (m * 7)).toList = xs0 := ⟨_, rfl⟩
        have hx0l : xs0.length = m * 7 := by rw [← hx0]; simp [size_madeCells]
        rw [hx0] at H
        have HX := Lib.hid hx0l
        clear hx0 hx0l
        have H0 := H
        clear H
        go_loopw [42] (fun i wr => BestR2 W (OwnT 143 7 (.slice (some ⟨gf, off, none⟩) m cap) m (ofrL S) :: l) S pm m xs0 i wr) (fun i _ => m - (intOf i).toNat)
        case atStart => exact ⟨0, Nat.zero_le _, rfl, by simpa [ofrL] using H0⟩
        case round =>
          obtain ⟨j, hj, rfl, H⟩ := hrel.out
          clear H0 hrel
          by_cases hjm : j < m
          · have hjS : j < S.length := by rw [HSM.out]; exact hjm
            have hx : S[j]? = some S[j] := List.getElem?_eq_getElem hjS
            have hrow := ofrL_get S j hjS
            have hlen : j * 7 + 7 ≤ (ofrL S).length := by rw [ofrL_len]; omega
            have HO := Lib.hid (out_step (xs0 := xs0) hx (by rw [HX.out, HSM.out]))
            have hfit : j * 7 + 7 ≤ (ofrL (S.take j) ++ xs0.drop (j * 7)).length := by
              have := HX.out
              rw [List.length_append, ofrL_len, List.length_take, List.length_drop]
              omega
            clear hx
            generalize S[j] = x at *
            go_wp2_with (first
              | go_skip
              | ((with_reducible show wpList _ _ _ (_ :: _) _ _); (with_reducible apply wpl_loadRdR row_rk); (· rfl); (· rfl); (· exact H.ownRd (List.mem_cons_of_mem _ List.mem_cons_self)); (· first | rfl | exact (Nat.zero_add _).symm); (· exact hlen); (· decide); (· exact hrow); (simp only [Act.put, List.setIfInBounds_toArray, List.set_cons_zero, List.set_cons_succ]))
              | ((with_reducible show wpList _ _ _ (_ :: _) _ _); (with_reducible apply wpl_allocRH row_rk); (· rfl); (· exact H); (clear H; intro px _ H); (simp only [Act.put, List.setIfInBounds_toArray, List.set_cons_zero, List.set_cons_succ]))
              | ((with_reducible show wpList _ _ _ (_ :: _) _ _); (with_reducible apply wpl_storeRH row_rk); (· rfl); (· rfl); (· rfl); (· with_reducible exact ofr_cells ..); (· exact H); (· (repeat (first | (with_reducible exact List.mem_cons_self) | with_reducible apply List.mem_cons_of_mem))); (· (simp only [ofrA_sz, Nat.reduceAdd, Nat.reduceLeDiff, Nat.le_refl]; done)); (· with_reducible exact ofr_splice ..); (· (repeat (first | (with_reducible exact Repl.here) | with_reducible apply Repl.there))); (clear H; intro _ H); (simp only [Act.put, List.setIfInBounds_toArray, List.set_cons_zero, List.set_cons_succ]))
              | ((with_reducible show wpList _ _ _ (_ :: _) _ _); (with_reducible apply wpl_loadRH row_rk); (· rfl); (· rfl); (· exact H); (· (repeat (first | (with_reducible exact List.mem_cons_self) | with_reducible apply List.mem_cons_of_mem))); (· (simp only [ofrA_sz, Nat.reduceAdd, Nat.reduceLeDiff, Nat.le_refl]; done)); (· with_reducible exact ofrA_all ..); (simp only [Act.put, List.setIfInBounds_toArray, List.set_cons_zero, List.set_cons_succ]))
              | ((with_reducible show wpList _ _ _ (_ :: _) _ _); (with_reducible apply wpl_storeOwnR row_ofr); (· rfl); (· rfl); (· rfl); (· exact ofr_cells _); (· exact H); (· exact List.mem_cons_of_mem _ List.mem_cons_self); (· exact (Nat.zero_add _).symm); (· exact hfit); (· exact HO.out); (· exact Repl.there Repl.here); (clear H; intro _ H); (simp only [Act.put, List.setIfInBounds_toArray, List.set_cons_zero, List.set_cons_succ])))
            refine ⟨⟨j + 1, by omega, by go_num, H.tail⟩, ?measure3⟩
            case measure3 => simp [intOf]; omega
          · obtain rfl : j = m := by omega
            go_wp2_with (go_skip)
            go_ret
            have e1 : S.take j = S := List.take_of_length_le (by rw [HSM.out]; exact Nat.le_refl _)
            have e2 : xs0.drop (j * 7) = [] := List.drop_of_length_le (by rw [HX.out]; exact Nat.le_refl _)
            rw [e1, e2, List.append_nil] at H
            refine ⟨.slice (some ⟨pm, 0, none⟩) j j, rfl, ?_⟩
            rw [HSM.out]
            exact H.drop (.there .here)
end
end Go.Proofs.Ytacglcpjbepfnaa

/- books: New; the chapter's example. (Printed by a program; see gen/lives04.py.) -/
namespace Go.Proofs.Ytacglcpjbepfnaa
open Go.RowKit Go.Sort
set_option linter.unusedSimpArgs false
set_option linter.unusedVariables false
set_option maxRecDepth 100000
theorem rat_cells (n d : Int) : Cells 2 (ratA n d) := ⟨rfl, by simp [ratA, Value.oneCell']⟩
theorem rat_splice (n d x y : Int) : splice (ratA n d) 0 (ratA x y) = ratA x y := splice_all rfl
theorem run_buildBk (n : Int) (w : World) : (Instr.build 99 #[(1, .int .u64 n)]).run Try.prog w = .ok (.agg (bkb (.slice none 0 0) n)) w := by kernel_rfl
section
variable {ops : Array Oper} {rest : List Oper} {a : Act} {W w : World} {l : List Thing} {Q : Exit → Act → World → Prop} {dst : Option Tmp} {ty : TypeId} {pos : String} {after : Array Edge} {guard : Option (Nat × Bool)}
theorem wpl_buildBk {x : Operand} {n : Int} (hw : Region.wanted ⟨dst, .build 99 #[(1, x)], ty, pos, after, guard⟩ (yielded ops a.tmps) = true) (hx : a.eval x = .int .u64 n)
    (h : wpList Try.prog ops Q rest (a.put dst (.agg (bkb (.slice none 0 0) n))) w) : wpList Try.prog ops Q (⟨dst, .build 99 #[(1, x)], ty, pos, after, guard⟩ :: rest) a w := by
  refine wpl_pure hw _ (fun w => ?_) h
  unfold execOp
  simp only [List.map_toArray, List.map_cons, List.map_nil, hx, Sem.run_bind, run_buildBk, Result.andThen_ok, Sem.run_pure]
end
abbrev oB1 : Ofr := ⟨1, 1, 1, 2, 10, 3, 2⟩
abbrev oB2 : Ofr := ⟨2, 2, 1, 2, 5, 1, 1⟩
abbrev oB3 : Ofr := ⟨3, 3, 1, 2, 5, 3, 2⟩
abbrev bB0 : Bok := ⟨[], 1⟩
abbrev bB1 : Bok := ⟨[oB1], 2⟩
abbrev bB2 : Bok := ⟨[oB1, oB2], 3⟩
abbrev bB3 : Bok := ⟨[oB1, oB2, oB3], 4⟩
abbrev bB4 : Bok := ⟨[oB1, oB3], 4⟩
abbrev bB5 : Bok := ⟨[oB3], 4⟩
theorem bB_s1 : placeS bB0 1 1 2 10 3 2 = bB1 := by kernel_rfl
theorem bB_e1 : placeE bB0 1 1 2 10 3 2 = 0 := by kernel_rfl
theorem bB_n1 : placeN bB0 1 1 2 10 3 2 = 1 := by kernel_rfl
theorem bB_s2 : placeS bB1 2 1 2 5 1 1 = bB2 := by kernel_rfl
theorem bB_e2 : placeE bB1 2 1 2 5 1 1 = 0 := by kernel_rfl
theorem bB_n2 : placeN bB1 2 1 2 5 1 1 = 2 := by kernel_rfl
theorem bB_s3 : placeS bB2 3 1 2 5 3 2 = bB3 := by kernel_rfl
theorem bB_e3 : placeE bB2 3 1 2 5 3 2 = 0 := by kernel_rfl
theorem bB_n3 : placeN bB2 3 1 2 5 3 2 = 3 := by kernel_rfl
theorem bB_s4 : placeS bB3 1 1 1 5 1 1 = bB3 := by kernel_rfl
theorem bB_e4 : placeE bB3 1 1 1 5 1 1 = 1 := by kernel_rfl
theorem bB_n4 : placeN bB3 1 1 1 5 1 1 = 0 := by kernel_rfl
theorem bB_b1 : bestO bB3.L 1 2 = [oB2, oB1, oB3] := by kernel_rfl
theorem bB_b2 : bestO bB3.L 2 1 = [] := by kernel_rfl
theorem bB_s5 : cancelS bB3 1 2 = bB3 := by kernel_rfl
theorem bB_e5 : cancelE bB3 1 2 = 15 := by kernel_rfl
theorem bB_n5 : cancelN bB3 1 2 = 0 := by kernel_rfl
theorem bB_s6 : cancelS bB3 2 2 = bB4 := by kernel_rfl
theorem bB_e6 : cancelE bB3 2 2 = 0 := by kernel_rfl
theorem bB_n6 : cancelN bB3 2 2 = 5 := by kernel_rfl
theorem bB_s7 : takeS bB4 1 10 = bB5 := by kernel_rfl
theorem bB_e7 : takeE bB4 1 10 = 0 := by kernel_rfl
theorem bB_g0 : bB0.Good := Bok.new_good
theorem bB_g1 : bB1.Good := by have := bB_g0.place 1 1 2 10 3 2; rwa [bB_s1] at this
theorem bB_g2 : bB2.Good := by have := bB_g1.place 2 1 2 5 1 1; rwa [bB_s2] at this
theorem bB_g3 : bB3.Good := by have := bB_g2.place 3 1 2 5 3 2; rwa [bB_s3] at this
theorem bB_g4 : bB4.Good := by have := bB_g3.cancel 2 2; rwa [bB_s6] at this
theorem ofrOk_lit {a b c d e f g : Int} (h : (0 ≤ a ∧ a ≤ 18446744073709551615) ∧ (0 ≤ b ∧ b ≤ 255) ∧ (0 ≤ c ∧ c ≤ 255) ∧ (0 ≤ d ∧ d ≤ 255) ∧ (-9223372036854775808 ≤ e ∧ e ≤ 9223372036854775807) ∧ (-9223372036854775808 ≤ f ∧ f ≤ 9223372036854775807) ∧ (-9223372036854775808 ≤ g ∧ g ≤ 9223372036854775807)) : OfrOk ⟨a, b, c, d, e, f, g⟩ := ⟨h.1, h.2.1, h.2.2.1, h.2.2.2.1, h.2.2.2.2.1, h.2.2.2.2.2.1, h.2.2.2.2.2.2⟩
section
variable {W w : World} {l : List Thing}
set_option maxHeartbeats 8000000
theorem bnew_H (H : Heap W l w) : Calls Try.prog 68 #[] w fun e w' => ∃ p, e = .returned (.pointer (some ⟨p, 0, none⟩)) ∧ Heap W (BkB p (.slice none 0 0) bB0.nx :: OfT (.slice none 0 0) bB0.L.length bB0.L :: l) w' := by
  go_enter Try.func68, Try.ntmps68
  go_wp2_with (first
    | ((with_reducible show wpList _ _ _ (_ :: _) _ _); (with_reducible apply wpl_buildBk); (· rfl); (· rfl); (simp only [Act.put, List.setIfInBounds_toArray, List.set_cons_zero, List.set_cons_succ]))
    | ((with_reducible show wpList _ _ _ (_ :: _) _ _); (with_reducible apply wpl_boxRH); (· rfl); (· rfl); (· exact H); (clear H; intro pb _ H); (simp only [Act.put, List.setIfInBounds_toArray, List.set_cons_zero, List.set_cons_succ]))
    | go_skip)
  go_ret
  exact ⟨_, rfl, (H.nilRow 83 7).perm (.swap _ _ _)⟩
theorem OwnT.formO {w : World} {e size n : Nat} {v : Value} {xs : List Value} (h : (OwnT e size v n xs).ok w) : ∃ a c, v = .slice a n c ∧ n ≤ c ∧ c ≤ maxLen := by
  obtain ⟨a, c, e, _, h1, h2, _⟩ := Own.rd h
  exact ⟨a, c, e, h1, h2⟩
theorem lives04_H (H : Heap W l w) : Calls Try.prog 50 #[] w fun e w' => e = .returned (.bool true) ∧ Heap W l w' := by
  go_enter Try.func50, Try.ntmps50
  go_wp2_with (go_skip)
  refine (bnew_H H).mono ?_
  clear H
  rintro e w1 ⟨p, rfl, H⟩
  go_wp2_with (first
    | ((with_reducible show wpList _ _ _ (_ :: _) _ _); (with_reducible apply wpl_allocRH row_rat); (· rfl); (· exact H); (clear H; intro pa _ H); (simp only [Act.put, List.setIfInBounds_toArray, List.set_cons_zero, List.set_cons_succ]))
    | ((with_reducible show wpList _ _ _ (_ :: _) _ _); (with_reducible apply wpl_storeRH row_rat); (· rfl); (· rfl); (· rfl); (· with_reducible exact rat_cells ..); (· exact H); (· (repeat (first | (with_reducible exact List.mem_cons_self) | with_reducible apply List.mem_cons_of_mem))); (· (simp only [ratA_sz, Nat.reduceAdd, Nat.reduceLeDiff, Nat.le_refl]; done)); (· with_reducible exact rat_splice ..); (· (repeat (first | (with_reducible exact Repl.here) | with_reducible apply Repl.there))); (clear H; intro _ H); (simp only [Act.put, List.setIfInBounds_toArray, List.set_cons_zero, List.set_cons_succ]))
    | ((with_reducible show wpList _ _ _ (_ :: _) _ _); (with_reducible apply wpl_loadRH row_rat); (· rfl); (· rfl); (· exact H); (· (repeat (first | (with_reducible exact List.mem_cons_self) | with_reducible apply List.mem_cons_of_mem))); (· (simp only [ratA_sz, Nat.reduceAdd, Nat.reduceLeDiff, Nat.le_refl]; done)); (· with_reducible exact ratA_all ..); (simp only [Act.put, List.setIfInBounds_toArray, List.set_cons_zero, List.set_cons_succ]))
    | go_skip)
  replace H := H.top2 (.there (.there .here)) (.there (.there .here))
  refine (place_H (p := p) (B := bB0) 1 1 2 10 3 2 (ofrOk_lit (by decide)) bB_g0 H).mono ?_
  clear H
  rintro e w2 ⟨v1, rfl, H⟩
  rw [bB_n1, bB_e1]
  rw [bB_s1] at H
  go_wp2_with (first
    | go_skip
    | ((with_reducible show wpList _ _ _ (_ :: _) _ _); (with_reducible apply wpl_loadRH row_rat); (· rfl); (· rfl); (· exact H); (· (repeat (first | (with_reducible exact List.mem_cons_self) | with_reducible apply List.mem_cons_of_mem))); (· (simp only [ratA_sz, Nat.reduceAdd, Nat.reduceLeDiff, Nat.le_refl]; done)); (· with_reducible exact ratA_all ..); (simp only [Act.put, List.setIfInBounds_toArray, List.set_cons_zero, List.set_cons_succ])))
  refine (place_H (p := p) (B := bB1) 2 1 2 5 1 1 (ofrOk_lit (by decide)) bB_g1 H).mono ?_
  clear H
  rintro e w3 ⟨v2, rfl, H⟩
  rw [bB_n2, bB_e2]
  rw [bB_s2] at H
  go_wp2_with (first
    | go_skip
    | ((with_reducible show wpList _ _ _ (_ :: _) _ _); (with_reducible apply wpl_loadRH row_rat); (· rfl); (· rfl); (· exact H); (· (repeat (first | (with_reducible exact List.mem_cons_self) | with_reducible apply List.mem_cons_of_mem))); (· (simp only [ratA_sz, Nat.reduceAdd, Nat.reduceLeDiff, Nat.le_refl]; done)); (· with_reducible exact ratA_all ..); (simp only [Act.put, List.setIfInBounds_toArray, List.set_cons_zero, List.set_cons_succ])))
  refine (place_H (p := p) (B := bB2) 3 1 2 5 3 2 (ofrOk_lit (by decide)) bB_g2 H).mono ?_
  clear H
  rintro e w4 ⟨v3, rfl, H⟩
  rw [bB_n3, bB_e3]
  rw [bB_s3] at H
  go_wp2_with (first
    | go_skip
    | ((with_reducible show wpList _ _ _ (_ :: _) _ _); (with_reducible apply wpl_loadRH row_rat); (· rfl); (· rfl); (· exact H); (· (repeat (first | (with_reducible exact List.mem_cons_self) | with_reducible apply List.mem_cons_of_mem))); (· (simp only [ratA_sz, Nat.reduceAdd, Nat.reduceLeDiff, Nat.le_refl]; done)); (· with_reducible exact ratA_all ..); (simp only [Act.put, List.setIfInBounds_toArray, List.set_cons_zero, List.set_cons_succ])))
  refine (place_H (p := p) (B := bB3) 1 1 1 5 1 1 (ofrOk_lit (by decide)) bB_g3 H).mono ?_
  clear H
  rintro e w5 ⟨v4, rfl, H⟩
  rw [bB_n4, bB_e4]
  rw [bB_s4] at H
  go_wp2_with (first
    | go_skip
    | ((with_reducible show wpList _ _ _ (_ :: _) _ _); (with_reducible apply wpl_loadRH row_rat); (· rfl); (· rfl); (· exact H); (· (repeat (first | (with_reducible exact List.mem_cons_self) | with_reducible apply List.mem_cons_of_mem))); (· (simp only [ratA_sz, Nat.reduceAdd, Nat.reduceLeDiff, Nat.le_refl]; done)); (· with_reducible exact ratA_all ..); (simp only [Act.put, List.setIfInBounds_toArray, List.set_cons_zero, List.set_cons_succ])))
  refine (best_H (p := p) (B := bB3) 1 2 bB_g3 List.mem_cons_self (List.mem_cons_of_mem _ List.mem_cons_self) H).mono ?_
  clear H
  rintro e w6 ⟨v5, rfl, H⟩
  rw [bB_b1] at H
  obtain ⟨a5, c5, rfl, _, _⟩ := OwnT.formO (H.ok _ List.mem_cons_self)
  have R5 := H.ownRd List.mem_cons_self
  obtain ⟨g5, o5, rfl, _⟩ := R5.lt (by simp [ofrL, ofrV])
  have k0 : w6.cell? ⟨g5, o5, none⟩ = some (.int .u64 2) := by simpa using rd_ofr (k := 0) (j := 0) R5 rfl rfl
  have k1 : w6.cell? ⟨g5, o5 + 7, none⟩ = some (.int .u64 1) := by simpa using rd_ofr (k := 1) (j := 0) R5 rfl rfl
  have k2 : w6.cell? ⟨g5, o5 + 14, none⟩ = some (.int .u64 3) := by simpa using rd_ofr (k := 2) (j := 0) R5 rfl rfl
  clear R5
  go_wp2_with (first
    | go_skip
    | ((with_reducible show wpList _ _ _ (_ :: _) _ _); (with_reducible apply wpl_loadCell cell_u64); (· rfl); (· rfl); (· first | exact k0 | exact k1 | exact k2); (simp only [Act.put, List.setIfInBounds_toArray, List.set_cons_zero, List.set_cons_succ])))
  clear k0 k1 k2
  refine (best_H (p := p) (B := bB3) 2 1 bB_g3 (List.mem_cons_of_mem _ List.mem_cons_self) (List.mem_cons_of_mem _ (List.mem_cons_of_mem _ List.mem_cons_self)) H).mono ?_
  clear H
  rintro e w7 ⟨v6, rfl, H⟩
  rw [bB_b2] at H
  obtain ⟨a6, c6, rfl, _, _⟩ := OwnT.formO (H.ok _ List.mem_cons_self)
  replace H := H.tail.tail
  go_wp2_with (go_skip)
  refine (cancel_H (p := p) (B := bB3) 1 2 bB_g3 H).mono ?_
  clear H
  rintro e w8 ⟨v7, rfl, H⟩
  rw [bB_n5, bB_e5]
  rw [bB_s5] at H
  go_wp2_with (go_skip)
  refine (cancel_H (p := p) (B := bB3) 2 2 bB_g3 H).mono ?_
  clear H
  rintro e w9 ⟨v8, rfl, H⟩
  rw [bB_n6, bB_e6]
  rw [bB_s6] at H
  go_wp2_with (go_skip)
  refine (take_H (p := p) (B := bB4) 1 10 (by omega) bB_g4 H).mono ?_
  clear H
  rintro e w10 ⟨v9, rfl, H⟩
  rw [bB_e7]
  rw [bB_s7] at H
  go_wp2_with (go_skip)
  refine (all_H (p := p) (L := bB5.L) List.mem_cons_self (List.mem_cons_of_mem _ List.mem_cons_self) (by decide) rfl (by decide) H).mono ?_
  clear H
  rintro e w11 ⟨v10, rfl, H⟩
  obtain ⟨a7, c7, rfl, _, _⟩ := OwnT.formO (H.ok _ List.mem_cons_self)
  have R5 := H.ownRd List.mem_cons_self
  obtain ⟨g5, o5, rfl, _⟩ := R5.lt (by simp [ofrL, ofrV])
  have k0 : w11.cell? ⟨g5, o5, none⟩ = some (.int .u64 3) := by simpa using rd_ofr (k := 0) (j := 0) R5 rfl rfl
  clear R5
  go_wp2_with (first
    | go_skip
    | ((with_reducible show wpList _ _ _ (_ :: _) _ _); (with_reducible apply wpl_loadCell cell_u64); (· rfl); (· rfl); (· exact k0); (simp only [Act.put, List.setIfInBounds_toArray, List.set_cons_zero, List.set_cons_succ])))
  go_ret
  exact ⟨rfl, H.tail.tail.tail.tail.tail⟩
end
end Go.Proofs.Ytacglcpjbepfnaa

/- books: Of, Copy; two lists of offers that are the same. -/
namespace Go.Proofs.Ytacglcpjbepfnaa
open Go.RowKit
set_option linter.unusedSimpArgs false
set_option linter.unusedVariables false
set_option maxRecDepth 100000
/-- May these stand behind such a number? -/
def okO (nx : Int) : Int → List Ofr → Bool
  | last, [] => decide (last < nx)
  | last, o :: L => mayO o && decide (last < o.sq) && okO nx o.sq L
theorem okO_iff {nx : Int} : ∀ {L : List Ofr} {last : Int}, okO nx last L = true ↔ (∀ o ∈ L, mayO o = true ∧ last < o.sq ∧ o.sq < nx) ∧ L.Pairwise (fun x y => x.sq < y.sq) ∧ last < nx
  | [], last => by simp [okO]
  | a :: L, last => by
    rw [okO, Bool.and_eq_true, Bool.and_eq_true, decide_eq_true_eq, okO_iff, List.pairwise_cons]
    constructor
    · rintro ⟨⟨h1, h2⟩, h3, h4, h5⟩
      refine ⟨fun o ho => ?_, ⟨fun o ho => (h3 o ho).2.1, h4⟩, by omega⟩
      rcases List.mem_cons.1 ho with rfl | ho
      · exact ⟨h1, h2, h5⟩
      · have := h3 o ho; exact ⟨this.1, by omega, this.2.2⟩
    · rintro ⟨h1, ⟨h2, h3⟩, h4⟩
      have ha := h1 a List.mem_cons_self
      exact ⟨⟨ha.1, ha.2.1⟩, fun o ho => ⟨(h1 o (List.mem_cons_of_mem _ ho)).1, h2 o ho, (h1 o (List.mem_cons_of_mem _ ho)).2.2⟩, h3, ha.2.2⟩
theorem ofE_ok (L : List Ofr) (nx : Int) : ofE L nx = if 32 < L.length then 9 else if okO nx 0 L = true then 0 else 1 := by
  unfold ofE
  split
  · rfl
  · have h : okO nx 0 L = true ↔ (∀ o ∈ L, mayO o = true ∧ 1 ≤ o.sq ∧ o.sq < nx) ∧ L.Pairwise (fun x y => x.sq < y.sq) ∧ 1 ≤ nx := by
      rw [okO_iff]
      constructor
      · rintro ⟨h1, h2, h3⟩
        exact ⟨fun o ho => by have := h1 o ho; exact ⟨this.1, by omega, this.2.2⟩, h2, by omega⟩
      · rintro ⟨h1, h2, h3⟩
        exact ⟨fun o ho => by have := h1 o ho; exact ⟨this.1, by omega, this.2.2⟩, h2, by omega⟩
    by_cases h2 : okO nx 0 L = true
    · rw [if_pos h2, if_pos (h.1 h2)]
    · rw [if_neg h2, if_neg (fun h3 => h2 (h.2 h3))]
theorem run_buildBk2 (a : Option Addr) (n c : Nat) (x : Int) (w : World) : (Instr.build 99 #[(0, .slice a n c), (1, .int .u64 x)]).run Try.prog w = .ok (.agg (bkb (.slice a n c) x)) w := by kernel_rfl
section
variable {ops : Array Oper} {rest : List Oper} {a : Act} {W w : World} {l : List Thing} {Q : Exit → Act → World → Prop} {dst : Option Tmp} {ty : TypeId} {pos : String} {after : Array Edge} {guard : Option (Nat × Bool)}
theorem wpl_buildBk2 {x y : Operand} {ao : Option Addr} {m c : Nat} {n : Int} (hw : Region.wanted ⟨dst, .build 99 #[(0, x), (1, y)], ty, pos, after, guard⟩ (yielded ops a.tmps) = true) (hx : a.eval x = .slice ao m c) (hy : a.eval y = .int .u64 n)
    (h : wpList Try.prog ops Q rest (a.put dst (.agg (bkb (.slice ao m c) n))) w) : wpList Try.prog ops Q (⟨dst, .build 99 #[(0, x), (1, y)], ty, pos, after, guard⟩ :: rest) a w := by
  refine wpl_pure hw _ (fun w => ?_) h
  unfold execOp
  simp only [List.map_toArray, List.map_cons, List.map_nil, hx, hy, Sem.run_bind, run_buildBk2, Result.andThen_ok, Sem.run_pure]
end
/-- What Of answers. -/
def OfPost (W : World) (l : List Thing) (L : List Ofr) (n : Nat) (nx : Int) (e : Ending) (w' : World) : Prop :=
  (ofE L nx = 0 ∧ ∃ p v, e = .returned (.tuple #[.pointer (some ⟨p, 0, none⟩), .int .i64 0]) ∧ Heap W (BkB p v nx :: OfT v n L :: l) w') ∨ (ofE L nx ≠ 0 ∧ e = .returned (.tuple #[.pointer none, .int .i64 (ofE L nx)]) ∧ Heap W l w')
structure OfR (W : World) (l : List Thing) (L : List Ofr) (nx : Int) (n : Nat) (last i : Value) (wr : World) : Prop where
  out : ∃ (k : Nat) (z : Int), k ≤ n ∧ i = .int .i64 (k : Int) ∧ last = .int .u64 z ∧ okO nx 0 L = okO nx z (L.drop k) ∧ Heap W l wr
section
variable {W w : World} {l : List Thing}
set_option maxHeartbeats 8000000
theorem of4_H (ea : Option Addr) (n ec : Nat) (L : List Ofr) (nx : Int) (hl : L.length = n) (hn : n ≤ 1000000) (hL : ∀ o ∈ L, OfrOk o) (R : ∀ l' w', (∀ x ∈ l, x ∈ l') → Heap W l' w' → Rd w' ea (ofrL L)) (H : Heap W l w) :
    Calls Try.prog 63 #[.slice ea n ec, .int .u64 nx] w (OfPost W l L n nx) := by
  have HE := Lib.hid (ofE_ok L nx)
  have HL := Lib.hid hl
  have HK := Lib.hid hL
  have HR := Lib.hid R
  have hl2 := hl
  clear hL R hl
  by_cases hbig : 32 < n
  · have d1 : decide ((n : Int) > 32) = true := decide_eq_true (by omega)
    have d2 : decide (32 < (n : Int)) = true := decide_eq_true (by omega)
    go_enter Try.func63, Try.ntmps63
    go_wp2_with (go_skip)
    go_ret2
    have e1 : ofE L nx = 9 := by rw [HE.out, if_pos (by rw [HL.out]; exact hbig)]
    exact .inr ⟨by rw [e1]; decide, by rw [e1]; rfl, H⟩
  · have d1 : decide ((n : Int) > 32) = false := decide_eq_false (by omega)
    have d2 : decide (32 < (n : Int)) = false := decide_eq_false (by omega)
    have HE2 := Lib.hid (show ofE L nx = if okO nx 0 L = true then 0 else 1 by rw [HE.out, if_neg (by rw [HL.out]; exact hbig)])
    clear hbig hl2 HE
    go_enter Try.func63, Try.ntmps63
    go_wp2_with (go_skip)
    have H0 := H
    clear H
    go_loopw [6, 14] (fun last i wr => OfR W l L nx n last i wr) (fun _ i _ => n - (intOf i).toNat)
    case atStart => exact ⟨0, 0, Nat.zero_le _, rfl, rfl, rfl, H0⟩
    case round =>
      obtain ⟨k, z, hk, rfl, rfl, hz, H⟩ := hrel.out
      clear H0 hrel
      by_cases hlt : k < n
      · have hkL : k < L.length := by rw [HL.out]; exact hlt
        have hrow := ofrL_get L k hkL
        have hlen : k * 7 + 7 ≤ (ofrL L).length := by rw [ofrL_len]; omega
        have hok := HK.out L[k] (List.getElem_mem hkL)
        rw [List.drop_eq_getElem_cons hkL, okO] at hz
        generalize L[k] = x at *
        have M := fun l' => bmay_H (W := W) (l := l') x hok
        obtain ⟨ba, oa, rfl, _⟩ := (HR.out _ _ (fun _ h => h) H).lt (by omega)
        cases hb : mayO x with
        | false =>
          rw [hb] at M hz
          have HZ := Lib.hid (show okO nx 0 L = false from hz)
          clear hz hb hok
          go_wp2_with (first
            | ((with_reducible show wpList _ _ _ (_ :: _) _ _); (with_reducible apply wpl_allocRH row_ofr); (· rfl); (· exact H); (clear H; intro px _ H); (simp only [Act.put, List.setIfInBounds_toArray, List.set_cons_zero, List.set_cons_succ]))
            | go_skip
            | ((with_reducible show wpList _ _ _ (_ :: _) _ _); (with_reducible apply wpl_loadRdR row_ofr); (· rfl); (· rfl); (· exact HR.out _ _ (fun _ h => h) H); (· first | rfl | exact (Nat.add_zero _).symm); (· exact hlen); (· decide); (· exact hrow); (simp only [Act.put, List.setIfInBounds_toArray, List.set_cons_zero, List.set_cons_succ]))
            | ((with_reducible show wpList _ _ _ (_ :: _) _ _); (with_reducible apply wpl_storeRH row_ofr); (· rfl); (· rfl); (· rfl); (· with_reducible exact ofr_cells ..); (· exact H); (· (repeat (first | (with_reducible exact List.mem_cons_self) | with_reducible apply List.mem_cons_of_mem))); (· (simp only [ofrA_sz, Nat.reduceAdd, Nat.reduceLeDiff, Nat.le_refl]; done)); (· with_reducible exact ofr_splice ..); (· (repeat (first | (with_reducible exact Repl.here) | with_reducible apply Repl.there))); (clear H; intro _ H); (simp only [Act.put, List.setIfInBounds_toArray, List.set_cons_zero, List.set_cons_succ]))
            | ((with_reducible show wpList _ _ _ (_ :: _) _ _); (with_reducible apply wpl_loadRH row_ofr); (· rfl); (· rfl); (· exact H); (· (repeat (first | (with_reducible exact List.mem_cons_self) | with_reducible apply List.mem_cons_of_mem))); (· (simp only [ofrA_sz, Nat.reduceAdd, Nat.reduceLeDiff, Nat.le_refl]; done)); (· with_reducible exact ofrA_all ..); (simp only [Act.put, List.setIfInBounds_toArray, List.set_cons_zero, List.set_cons_succ]))
            | ((with_reducible refine AnsH.call (M _) H ?_); clear H; intro _ H))
          go_ret2
          have e1 : ofE L nx = 1 := by rw [HE2.out, HZ.out]; rfl
          exact .inr ⟨by rw [e1]; decide, by rw [e1]; rfl, H.tail⟩
        | true =>
          rw [hb] at M hz
          by_cases hs : x.sq ≤ z
          · have d3 : decide (x.sq ≤ z) = true := decide_eq_true hs
            have HZ := Lib.hid (show okO nx 0 L = false by rw [hz, decide_eq_false (by omega)]; rfl)
            clear hz hb hok hs
            go_wp2_with (first
              | ((with_reducible show wpList _ _ _ (_ :: _) _ _); (with_reducible apply wpl_allocRH row_ofr); (· rfl); (· exact H); (clear H; intro px _ H); (simp only [Act.put, List.setIfInBounds_toArray, List.set_cons_zero, List.set_cons_succ]))
              | go_skip
              | ((with_reducible show wpList _ _ _ (_ :: _) _ _); (with_reducible apply wpl_loadRdR row_ofr); (· rfl); (· rfl); (· exact HR.out _ _ (fun _ h => h) H); (· first | rfl | exact (Nat.add_zero _).symm); (· exact hlen); (· decide); (· exact hrow); (simp only [Act.put, List.setIfInBounds_toArray, List.set_cons_zero, List.set_cons_succ]))
              | ((with_reducible show wpList _ _ _ (_ :: _) _ _); (with_reducible apply wpl_storeRH row_ofr); (· rfl); (· rfl); (· rfl); (· with_reducible exact ofr_cells ..); (· exact H); (· (repeat (first | (with_reducible exact List.mem_cons_self) | with_reducible apply List.mem_cons_of_mem))); (· (simp only [ofrA_sz, Nat.reduceAdd, Nat.reduceLeDiff, Nat.le_refl]; done)); (· with_reducible exact ofr_splice ..); (· (repeat (first | (with_reducible exact Repl.here) | with_reducible apply Repl.there))); (clear H; intro _ H); (simp only [Act.put, List.setIfInBounds_toArray, List.set_cons_zero, List.set_cons_succ]))
              | ((with_reducible show wpList _ _ _ (_ :: _) _ _); (with_reducible apply wpl_loadRH row_ofr); (· rfl); (· rfl); (· exact H); (· (repeat (first | (with_reducible exact List.mem_cons_self) | with_reducible apply List.mem_cons_of_mem))); (· (simp only [ofrA_sz, Nat.reduceAdd, Nat.reduceLeDiff, Nat.le_refl]; done)); (· with_reducible exact ofrA_all ..); (simp only [Act.put, List.setIfInBounds_toArray, List.set_cons_zero, List.set_cons_succ]))
              | ((with_reducible show wpList _ _ _ (_ :: _) _ _); (with_reducible apply wpl_loadCH); (· first | exact cell_u64 | exact cell_party | exact cell_cur | exact cell_i64); (· rfl); (· rfl); (· exact H); (· (repeat (first | (with_reducible exact List.mem_cons_self) | with_reducible apply List.mem_cons_of_mem))); (· with_reducible first | exact ofr_g0 .. | exact ofr_g1 .. | exact ofr_g2 .. | exact ofr_g3 .. | exact ofr_g4 ..); (simp only [Act.put, List.setIfInBounds_toArray, List.set_cons_zero, List.set_cons_succ]))
              | ((with_reducible refine AnsH.call (M _) H ?_); clear H; intro _ H))
            go_ret2
            have e1 : ofE L nx = 1 := by rw [HE2.out, HZ.out]; rfl
            exact .inr ⟨by rw [e1]; decide, by rw [e1]; rfl, H.tail⟩
          · have d3 : decide (x.sq ≤ z) = false := decide_eq_false hs
            have HZ := Lib.hid (show okO nx 0 L = okO nx x.sq (L.drop (k + 1)) by rw [hz, decide_eq_true (by omega)]; rfl)
            clear hz hb hok hs
            go_wp2_with (first
              | ((with_reducible show wpList _ _ _ (_ :: _) _ _); (with_reducible apply wpl_allocRH row_ofr); (· rfl); (· exact H); (clear H; intro px _ H); (simp only [Act.put, List.setIfInBounds_toArray, List.set_cons_zero, List.set_cons_succ]))
              | go_skip
              | ((with_reducible show wpList _ _ _ (_ :: _) _ _); (with_reducible apply wpl_loadRdR row_ofr); (· rfl); (· rfl); (· exact HR.out _ _ (fun _ h => h) H); (· first | rfl | exact (Nat.add_zero _).symm); (· exact hlen); (· decide); (· exact hrow); (simp only [Act.put, List.setIfInBounds_toArray, List.set_cons_zero, List.set_cons_succ]))
              | ((with_reducible show wpList _ _ _ (_ :: _) _ _); (with_reducible apply wpl_storeRH row_ofr); (· rfl); (· rfl); (· rfl); (· with_reducible exact ofr_cells ..); (· exact H); (· (repeat (first | (with_reducible exact List.mem_cons_self) | with_reducible apply List.mem_cons_of_mem))); (· (simp only [ofrA_sz, Nat.reduceAdd, Nat.reduceLeDiff, Nat.le_refl]; done)); (· with_reducible exact ofr_splice ..); (· (repeat (first | (with_reducible exact Repl.here) | with_reducible apply Repl.there))); (clear H; intro _ H); (simp only [Act.put, List.setIfInBounds_toArray, List.set_cons_zero, List.set_cons_succ]))
              | ((with_reducible show wpList _ _ _ (_ :: _) _ _); (with_reducible apply wpl_loadRH row_ofr); (· rfl); (· rfl); (· exact H); (· (repeat (first | (with_reducible exact List.mem_cons_self) | with_reducible apply List.mem_cons_of_mem))); (· (simp only [ofrA_sz, Nat.reduceAdd, Nat.reduceLeDiff, Nat.le_refl]; done)); (· with_reducible exact ofrA_all ..); (simp only [Act.put, List.setIfInBounds_toArray, List.set_cons_zero, List.set_cons_succ]))
              | ((with_reducible show wpList _ _ _ (_ :: _) _ _); (with_reducible apply wpl_loadCH); (· first | exact cell_u64 | exact cell_party | exact cell_cur | exact cell_i64); (· rfl); (· rfl); (· exact H); (· (repeat (first | (with_reducible exact List.mem_cons_self) | with_reducible apply List.mem_cons_of_mem))); (· with_reducible first | exact ofr_g0 .. | exact ofr_g1 .. | exact ofr_g2 .. | exact ofr_g3 .. | exact ofr_g4 ..); (simp only [Act.put, List.setIfInBounds_toArray, List.set_cons_zero, List.set_cons_succ]))
              | ((with_reducible refine AnsH.call (M _) H ?_); clear H; intro _ H))
            refine ⟨⟨k + 1, x.sq, by omega, by go_num, rfl, HZ.out, H.tail⟩, ?measure⟩
            case measure => simp [intOf]; omega
      · obtain rfl : k = n := by omega
        rw [List.drop_of_length_le (by rw [HL.out]; exact Nat.le_refl _), okO] at hz
        by_cases hs : nx ≤ z
        · have d3 : decide (nx ≤ z) = true := decide_eq_true hs
          have HZ := Lib.hid (show okO nx 0 L = false by rw [hz, decide_eq_false (by omega)])
          clear hz hs
          go_wp2_with (go_skip)
          go_ret2
          have e1 : ofE L nx = 1 := by rw [HE2.out, HZ.out]; rfl
          exact .inr ⟨by rw [e1]; decide, by rw [e1]; rfl, H⟩
        · have d3 : decide (nx ≤ z) = false := decide_eq_false hs
          have HZ := Lib.hid (show okO nx 0 L = true by rw [hz, decide_eq_true (by omega)])
          clear hz hs
          go_wp2_with (go_skip)
          refine (cloneO_H ea k ec L HL.out hn HR.out H).mono ?_
          clear H
          rintro e w2 ⟨v2, rfl, H⟩
          obtain ⟨a2, c2, rfl, _, _⟩ := RowT.form0 (H.ok _ List.mem_cons_self)
          go_wp2_with (first
            | ((with_reducible show wpList _ _ _ (_ :: _) _ _); (with_reducible apply wpl_buildBk2); (· rfl); (· rfl); (· rfl); (simp only [Act.put, List.setIfInBounds_toArray, List.set_cons_zero, List.set_cons_succ]))
            | ((with_reducible show wpList _ _ _ (_ :: _) _ _); (with_reducible apply wpl_boxRH); (· rfl); (· rfl); (· exact H); (clear H; intro pb _ H); (simp only [Act.put, List.setIfInBounds_toArray, List.set_cons_zero, List.set_cons_succ]))
            | go_skip)
          go_ret2
          exact .inl ⟨by rw [HE2.out, HZ.out]; rfl, _, _, rfl, H⟩
theorem sameOffers_P {L : List Ofr} (a b : Option Addr) (n c d : Nat) (hA : L.length = n) (hn : n ≤ 1000000) (RA : ∀ w', Heap W l w' → Rd w' a (ofrL L)) (RB : ∀ w', Heap W l w' → Rd w' b (ofrL L)) :
    AnsH W l 67 #[.slice a n c, .slice b n d] (.bool true) := by
  intro w H
  have S := sameO_P (W := W) (l := l) a b n c d hA hn RA RB
  clear RA RB
  go_enter Try.func67, Try.ntmps67
  go_wp2_with (first | go_skip | ((with_reducible refine AnsH.call (by assumption) H ?_); clear H; intro _ H))
  go_ret
  exact ⟨rfl, H⟩
end
end Go.Proofs.Ytacglcpjbepfnaa
