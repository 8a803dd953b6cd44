/- books: the order of the best ones; they are sorted. -/
import Derived.Test.YtacglcpjbepfnaaBok8
import Derived.Test.YtacglcpjbepfnaaGrw
import Derived.Test.YtacglcpjbepfnaaSortG
import Derived.Test.YtacglcpjbepfnaaShelfL
namespace Go.Proofs.Ytacglcpjbepfnaa
open Go.RowKit Go.Sort
set_option linter.unusedSimpArgs false
set_option linter.unusedVariables false
set_option maxRecDepth 100000
theorem Blw.grw {w w' : World} (h : Blw w.heap.size w w') : Grw w w' := by
  refine ⟨w'.drawn - w.drawn, w'.heap.extract w.heap.size w'.heap.size, ?_⟩
  have h1 := h.os
  have h2 := h.tape
  have h3 := h.output
  have h4 := h.size
  have h5 := h.block
  have h6 := h.dr
  have hh : w'.heap = w.heap ++ w'.heap.extract w.heap.size w'.heap.size := by
    apply Array.ext_getElem?
    intro i
    by_cases hi : i < w.heap.size
    · rw [h5 i hi, Array.getElem?_append_left hi]
    · rw [Array.getElem?_append_right (by omega), Array.getElem?_extract]
      by_cases h7 : i < w'.heap.size
      · rw [if_pos (by simp; omega)]
        congr 1
        omega
      · rw [if_neg (by simp; omega), Array.getElem?_eq_none (by omega)]
  have hd : w'.drawn = w.drawn + (w'.drawn - w.drawn) := by omega
  cases w'
  cases w
  simp only [grow, World.drewN] at *
  subst h1 h2 h3
  rw [← hh, ← hd]
/-- By rate, then by number. -/
def cfO (x y : Ofr) : Int := orI (cmpO x y) (cmpI x.sq y.sq)
theorem cfO_lt {x y : Ofr} : cfO x y < 0 ↔ ltO x y := by
  unfold cfO orI ltO
  rcases Int.lt_trichotomy x.sq y.sq with h | h | h
  · rw [cmpI_lt h]; split <;> omega
  · rw [h, cmpI_eq]; split <;> omega
  · rw [cmpI_gt h]; split <;> omega
/-- An offer whose rate may be. -/
abbrev GOf : Type := { o : Ofr // mayB o.nu o.de = true }
instance : Inhabited GOf := ⟨⟨⟨0, 0, 0, 0, 0, 1, 1⟩, by decide⟩⟩
def encG (x : GOf) : List Value := ofrV x.1
def cfG (x y : GOf) : Int := cfO x.1 y.1
theorem lt_cfG (x y : GOf) : ltOf cfG x y = decide (cfG x y < 0) := rfl
theorem cfG_lt {x y : GOf} : cfG x y < 0 ↔ ltO x.1 y.1 := cfO_lt
theorem cmpG_trans (x y z : GOf) (h1 : cmpO x.1 y.1 ≤ 0) (h2 : cmpO y.1 z.1 ≤ 0) : cmpO x.1 z.1 ≤ 0 := cmpR_trans x.2 y.2 z.2 h1 h2
theorem swoG : SWO (ltOf cfG) where
  irrefl x := by
    rw [lt_cfG, decide_eq_false_iff_not, cfG_lt]
    have := cmpO_swap x.1 x.1
    unfold ltO
    omega
  trans x y z h1 h2 := by
    rw [lt_cfG, decide_eq_true_eq, cfG_lt] at *
    unfold ltO at *
    have a1 := cmpG_trans x y z
    have a2 := cmpG_trans y z x
    have a3 := cmpG_trans z x y
    have s1 := cmpO_swap x.1 y.1
    have s2 := cmpO_swap y.1 z.1
    have s3 := cmpO_swap x.1 z.1
    omega
  ntrans x y z h1 h2 := by
    rw [lt_cfG, decide_eq_false_iff_not, cfG_lt] at *
    unfold ltO at *
    have a1 := cmpG_trans z y x
    have a2 := cmpG_trans y x z
    have a3 := cmpG_trans x z y
    have s1 := cmpO_swap x.1 y.1
    have s2 := cmpO_swap y.1 z.1
    have s3 := cmpO_swap x.1 z.1
    omega
theorem rk_g0 (r : Ofr) : (ofrA r)[0]? = some (.int .u64 r.sq) := rfl
theorem against_G (x y : GOf) : AnsG 103 #[.agg (ofrA x.1), .agg (ofrA y.1)] (.int .i64 (cfG x y)) := by
  intro w
  obtain ⟨x, hx⟩ := x
  obtain ⟨y, hy⟩ := y
  have fx := may_facts hx
  have fy := may_facts hy
  have c1 : AnsG 57 #[.agg #[.int .i64 x.nu, .int .i64 x.de], .agg #[.int .i64 y.nu, .int .i64 y.de]] (.int .i64 (cmpO x y)) := fun w => (rcompare_any x.nu x.de y.nu y.de w ⟨by omega, by omega, by omega, by omega⟩ ⟨by omega, by omega, by omega, by omega⟩).mono fun _ _ ⟨he, hb⟩ => ⟨he, hb.grw⟩
  have c2 : AnsG 109 #[.int .u64 x.sq, .int .u64 y.sq] (.int .i64 (cmpI x.sq y.sq)) := fun w => (compare_any x.sq y.sq w).mono fun _ _ ⟨he, hb⟩ => ⟨he, hb ▸ Grw.refl _⟩
  have hres : cfG ⟨x, hx⟩ ⟨y, hy⟩ = orI (cmpO x y) (cmpI x.sq y.sq) := rfl
  rw [hres]
  simp only
  have h1 : blk ((w.alloc (.cells (ofrA x) 143)).alloc (.cells (ofrA y) 143)) w.heap.size = some (.cells (ofrA x) 143 (0, 0)) := by
    unfold blk
    rw [Below.heap_alloc _ _ _ (by simp)]
    exact heap_alloc_new w _
  have h2 : blk ((w.alloc (.cells (ofrA x) 143)).alloc (.cells (ofrA y) 143)) (w.heap.size + 1) = some (.cells (ofrA y) 143 (0, 0)) := by
    have := heap_alloc_new (w.alloc (.cells (ofrA x) 143)) (.cells (ofrA y) 143)
    simpa [blk] using this
  have hg : Grw w ((w.alloc (.cells (ofrA x) 143)).alloc (.cells (ofrA y) 143)) := ((Grw.refl w).alloc _).alloc _
  clear fx fy hres
  generalize cmpO x y = b at *
  generalize cmpI x.sq y.sq = c at *
  generalize hw0 : ((w.alloc (.cells (ofrA x) 143)).alloc (.cells (ofrA y) 143)) = w0 at *
  have HW := Lib.hid hw0
  clear hw0
  go_enter Try.func103, Try.ntmps103
  go_wp2_with (go_skip)
  rw [HW.out]
  refine wp_region_G_tail 10 (by kernel_rfl) (by kernel_rfl) ?_
  simp only [List.take_succ_cons, List.take_zero, List.drop_succ_cons, List.drop_zero]
  repeat (first
    | go_big_quiet_skip
    | ((with_reducible apply wpQ_loadCG); (· exact cell_u64); (· rfl); (· rfl); (· first | exact h1 | exact h2); (· with_reducible exact rk_g0 ..); (simp only [Act.put, List.setIfInBounds_toArray, List.set_cons_zero, List.set_cons_succ]))
    | ((with_reducible apply wpQ_loadRG row_rat); (· rfl); (· rfl); (· first | exact h1 | exact h2); (· simp only [ofrA_sz, Nat.reduceAdd, Nat.reduceLeDiff, Nat.le_refl]; done); (· with_reducible exact ofr_rat ..); (simp only [Act.put, List.setIfInBounds_toArray, List.set_cons_zero, List.set_cons_succ]))
    | go_big_quiet_step (with_reducible exact AnsG.quiet (by assumption)))
  refine wpQuiet_nil ?_
  clear h1 h2
  intro w1 g1
  have g2 := hg.trans g1
  go_wp2_with (go_skip)
  have hb : Rd (w1.alloc (.cells #[.int .i64 b, .int .i64 c] 3)) (some ⟨w1.heap.size, 0, none⟩) [.int .i64 b, .int .i64 c] := by
    intro i hi
    refine ⟨_, _, rfl, ?_⟩
    rw [cell_of_row _ _ (0 + i) _ _ _ (heap_alloc_new w1 _)]
    simp at hi
    simp [hi]
  refine (or_any _ 2 b c _ hb).mono ?_
  clear hb
  rintro e w' ⟨rfl, hb4⟩
  go_wp2_with (go_skip)
  go_ret
  exact ⟨rfl, (g2.alloc _).trans hb4.grw⟩
theorem insR_none (p : Option Addr) (cap : Nat) (fv : Value) (w : World) :
    Calls Try.prog 145 #[.slice p 0 cap, .int .i64 0, .int .i64 0, fv] w fun e w' => e = .returned (.tuple #[]) ∧ w' = w := by
  go_enter Try.func145, Try.ntmps145
  go_wp2
  refine wp_loop_rounds 1 ?_
  rw [rounds_succ]
  go_wp2
  go_end0
  exact ⟨rfl, rfl⟩
theorem pdqR_none (p : Option Addr) (cap : Nat) (lim : Int) (fv : Value) (w : World) :
    Calls Try.prog 123 #[.slice p 0 cap, .int .i64 0, .int .i64 0, .int .i64 lim, fv] w fun e w' => e = .returned (.tuple #[]) ∧ w' = w := by
  have hi := fun W => insR_none p cap fv W
  go_enter Try.func123, Try.ntmps123
  go_wp2
  refine wp_loop_rounds 1 ?_
  rw [rounds_succ]
  go_wp2_with (first | go_skip | ((refine (hi _).mono ?_); rintro e w' ⟨rfl, rfl⟩))
  (try simp only [Exit.inBlock, Exit.then])
  refine bodyPost_ret (results_none rfl _ _ _) rfl ?_
  exact ⟨rfl, rfl⟩
theorem sortR_none (p : Option Addr) (cap : Nat) (fv : Value) (w : World) :
    Calls Try.prog 102 #[.slice p 0 cap, fv] w fun e w' => e = .returned (.tuple #[]) ∧ w' = w := by
  have hp := fun lim W => pdqR_none p cap lim fv W
  have hl : ∀ W, Calls Try.prog 120 #[.int .u64 0] W fun e w' => e = .returned (.int .i64 (Lib.bitLen 0 : Nat)) ∧ w' = W := fun W => by
    have h := Go.Proofs.Any.bits_Len (SlLaysF0.n15.bits (P := Try.prog) (ρ := Try.sortRanked_ren) { Try.sortRanked with }) 0 W (by omega) (by omega)
    exact h
  go_enter Try.func102, Try.ntmps102
  go_wp2_with (first | go_skip | ((refine (hl _).mono ?_); rintro e w' ⟨rfl, rfl⟩) | ((refine (hp _ _).mono ?_); rintro e w' ⟨rfl, rfl⟩))
  go_end0
  exact ⟨rfl, rfl⟩
theorem encG_len (x : GOf) : (encG x).length = 7 := rfl
theorem encG_L : ∀ (L : List Ofr) (h : ∀ o ∈ L, mayB o.nu o.de = true), (L.pmap Subtype.mk h).flatMap encG = ofrL L
  | [], _ => rfl
  | x :: L, h => by
    rw [List.pmap_cons, List.flatMap_cons, encG_L L (fun o ho => h o (List.mem_cons_of_mem _ ho))]
    rfl
section
variable {W w : World} {l : List Thing} {g off n c : Nat}
theorem cmpLays_rk (blk off size : Nat) (w : World) : CmpLays Try.prog 103 #[] encG 7 cfG blk off size w := fun m os dk hs x y => against_G x y _
theorem cfG_asym (x y : GOf) (h : cfG x y < 0) : ¬ cfG y x < 0 := by rw [cfG_lt] at *; exact ltO_asym _ _ h
set_option maxHeartbeats 8000000 in
theorem rsort_H {L M : List Ofr} (H : Heap W (OwnT 143 7 (.slice (some ⟨g, off, none⟩) n c) n (ofrL L) :: l) w) (hL : ∀ o ∈ L, mayB o.nu o.de = true) (hn : L.length = n) (hb : n ≤ 1000000) (hp : L.Perm M) (hM : M.Pairwise ltO) :
    Calls Try.prog 102 #[.slice (some ⟨g, off, none⟩) n c, .func (.func 103) #[] #[]] w fun e w' => e = .returned (.tuple #[]) ∧ Heap W (OwnT 143 7 (.slice (some ⟨g, off, none⟩) n c) n (ofrL M) :: l) w' := by
  have hML : ∀ o ∈ M, mayB o.nu o.de = true := fun o ho => hL o (hp.mem_iff.2 ho)
  have e1 := encG_L L hL
  have e2 := encG_L M hML
  have hn' : (L.pmap Subtype.mk hL).length = n := by rw [List.length_pmap]; exact hn
  have hp' : (L.pmap Subtype.mk hL).Perm (M.pmap Subtype.mk hML) := hp.pmap _
  have hM' : (M.pmap Subtype.mk hML).Pairwise fun x y : GOf => cfG x y < 0 := by
    rw [List.pairwise_pmap]
    refine hM.imp ?_
    intro a b h h1 h2
    exact (cfG_lt (x := ⟨a, h1⟩) (y := ⟨b, h2⟩)).2 h
  rw [← e1] at H
  rw [← e2]
  generalize L.pmap Subtype.mk hL = L' at *
  generalize M.pmap Subtype.mk hML = M' at *
  have hsz : L'.toArray.size = n := by simpa using hn'
  have eg : ∀ args w, (callFunc 103 args).run Try.prog w = .ok (.enter 103 args) w := enters_of Try.func103 (by kernel_rfl) rfl
  have hcon := AnyQ.slices_SortFunc Try.sortRanked 7 Try.isAgg143 Try.sizeOf143 encG (fun _ => rfl) (fun x v hv => by simp [encG, ofrV] at hv; rcases hv with rfl | rfl | rfl | rfl | rfl | rfl | rfl <;> rfl) cfG swoG 103 #[] g off c L'.toArray w eg (cmpLays_rk g off _ w) (sortG_holds encG_len (by omega) (H.ok _ List.mem_cons_self) hn') (slG_lt H) (by omega)
  change Calls Try.prog 102 _ _ _ at hcon
  rw [hsz] at hcon
  refine hcon.mono fun e w' ⟨he, d', k, os, h1, h2, hw⟩ => ⟨he, ?_⟩
  subst hw
  exact sortG_heap encG_len (by omega) H hn' (by rw [hsz]; exact h1) (sortedG cfG_asym hM' (fun x _ y _ h => by rw [lt_cfG]; exact decide_eq_true h) (by simpa using hp') (by rw [hsz]; exact h1) (by rw [hsz]; exact h2))
end
end Go.Proofs.Ytacglcpjbepfnaa
