/- Part 5 of what ProofBooksOf stands on: Bok9, Bok10, Bok11, Bok12, Bok13, RefB, HeapPair, HeapPair2, QCell. -/
import Derived.Test.YtacglcpjbepfnaaBksOPart4
import Derived.Test.YtacglcpjbepfnaaShelfL
import Derived.WalkKit
import Derived.WalkSpells
import Derived.Handy
import Derived.Outline
import Derived.Lib.Hide
import Derived.Deep.QuietTactic
import Derived.BigQuiet
import Derived.WalkSmall
import Derived.Deep.CutBlock
import Derived.Deep.DeepCutAuto
import Derived.Laws.Bits64
import Derived.Laws.Bits64b
import Derived.Lib.ItoaNum
import Derived.Shelf.Spec.BitsCarry
import Derived.OwnWalk
import Derived.OrdersHeld
import Derived.Lib.SmallJoins
import Derived.Laws.Rows
import Derived.Scope
import Derived.ScopeJumps
import Derived.WalkMore
import Derived.Laws.StructEq
import Derived.Deep.RegionWith
import Derived.Deep.RegionHeld3
/- books: the order of the best ones; they are sorted. -/
namespace Go.Proofs.Ytacglcpjbepfnaa
open Go.RowKit Go.Sort
set_option linter.unusedSimpArgs false
set_option linter.unusedVariables false
set_option maxRecDepth 100000
theorem Blw.grw {w w' : World} (h : Blw w.heap.size w w') : Grw w w' := by
  refine ⟨w'.drawn - w.drawn, w'.heap.extract w.heap.size w'.heap.size, ?_⟩
  have h1 := h.os
  have h2 := h.tape
  have h3 := h.output
  have h4 := h.size
  have h5 := h.block
  have h6 := h.dr
  have hh : w'.heap = w.heap ++ w'.heap.extract w.heap.size w'.heap.size := by
    apply Array.ext_getElem?
    intro i
    by_cases hi : i < w.heap.size
    · rw [h5 i hi, Array.getElem?_append_left hi]
    · rw [Array.getElem?_append_right (by omega), Array.getElem?_extract]
      by_cases h7 : i < w'.heap.size
      · rw [if_pos (by simp; omega)]
        congr 1
        omega
      · rw [if_neg (by simp; omega), Array.getElem?_eq_none (by omega)]
  have hd : w'.drawn = w.drawn + (w'.drawn - w.drawn) := by omega
  cases w'
  cases w
  simp only [grow, World.drewN] at *
  subst h1 h2 h3
  rw [← hh, ← hd]
/-- By rate, then by number. -/
def cfO (x y : Ofr) : Int := orI (cmpO x y) (cmpI x.sq y.sq)
theorem cfO_lt {x y : Ofr} : cfO x y < 0 ↔ ltO x y := by
  unfold cfO orI ltO
  rcases Int.lt_trichotomy x.sq y.sq with h | h | h
  · rw [cmpI_lt h]; split <;> omega
  · rw [h, cmpI_eq]; split <;> omega
  · rw [cmpI_gt h]; split <;> omega
/-- An offer whose rate may be. -/
abbrev GOf : Type := { o : Ofr // mayB o.nu o.de = true }
instance : Inhabited GOf := ⟨⟨⟨0, 0, 0, 0, 0, 1, 1⟩, by decide⟩⟩
def encG (x : GOf) : List Value := ofrV x.1
def cfG (x y : GOf) : Int := cfO x.1 y.1
theorem lt_cfG (x y : GOf) : ltOf cfG x y = decide (cfG x y < 0) := rfl
theorem cfG_lt {x y : GOf} : cfG x y < 0 ↔ ltO x.1 y.1 := cfO_lt
theorem cmpG_trans (x y z : GOf) (h1 : cmpO x.1 y.1 ≤ 0) (h2 : cmpO y.1 z.1 ≤ 0) : cmpO x.1 z.1 ≤ 0 := cmpR_trans x.2 y.2 z.2 h1 h2
theorem swoG : SWO (ltOf cfG) where
  irrefl x := by
    rw [lt_cfG, decide_eq_false_iff_not, cfG_lt]
    have := cmpO_swap x.1 x.1
    unfold ltO
    omega
  trans x y z h1 h2 := by
    rw [lt_cfG, decide_eq_true_eq, cfG_lt] at *
    unfold ltO at *
    have a1 := cmpG_trans x y z
    have a2 := cmpG_trans y z x
    have a3 := cmpG_trans z x y
    have s1 := cmpO_swap x.1 y.1
    have s2 := cmpO_swap y.1 z.1
    have s3 := cmpO_swap x.1 z.1
    omega
  ntrans x y z h1 h2 := by
    rw [lt_cfG, decide_eq_false_iff_not, cfG_lt] at *
    unfold ltO at *
    have a1 := cmpG_trans z y x
    have a2 := cmpG_trans y x z
    have a3 := cmpG_trans x z y
    have s1 := cmpO_swap x.1 y.1
    have s2 := cmpO_swap y.1 z.1
    have s3 := cmpO_swap x.1 z.1
    omega
theorem rk_g0 (r : Ofr) : (ofrA r)[0]? = some (.int .u64 r.sq) := rfl
theorem against_G (x y : GOf) : AnsG 103 #[.agg (ofrA x.1), .agg (ofrA y.1)] (.int .i64 (cfG x y)) := by
  intro w
  obtain ⟨x, hx⟩ := x
  obtain ⟨y, hy⟩ := y
  have fx := may_facts hx
  have fy := may_facts hy
  have c1 : AnsG 57 #[.agg #[.int .i64 x.nu, .int .i64 x.de], .agg #[.int .i64 y.nu, .int .i64 y.de]] (.int .i64 (cmpO x y)) := fun w => (rcompare_any x.nu x.de y.nu y.de w ⟨by omega, by omega, by omega, by omega⟩ ⟨by omega, by omega, by omega, by omega⟩).mono fun _ _ ⟨he, hb⟩ => ⟨he, hb.grw⟩
  have c2 : AnsG 109 #[.int .u64 x.sq, .int .u64 y.sq] (.int .i64 (cmpI x.sq y.sq)) := fun w => (compare_any x.sq y.sq w).mono fun _ _ ⟨he, hb⟩ => ⟨he, hb ▸ Grw.refl _⟩
  have hres : cfG ⟨x, hx⟩ ⟨y, hy⟩ = orI (cmpO x y) (cmpI x.sq y.sq) := rfl
  rw [hres]
  simp only
  have h1 : blk ((w.alloc (.cells (ofrA x) 143)).alloc (.cells (ofrA y) 143)) w.heap.size = some (.cells (ofrA x) 143 (0, 0)) := by
    unfold blk
    rw [Below.heap_alloc _ _ _ (by simp)]
    exact heap_alloc_new w _
  have h2 : blk ((w.alloc (.cells (ofrA x) 143)).alloc (.cells (ofrA y) 143)) (w.heap.size + 1) = some (.cells (ofrA y) 143 (0, 0)) := by
    have := heap_alloc_new (w.alloc (.cells (ofrA x) 143)) (.cells (ofrA y) 143)
    simpa [blk] using this
  have hg : Grw w ((w.alloc (.cells (ofrA x) 143)).alloc (.cells (ofrA y) 143)) := ((Grw.refl w).alloc _).alloc _
  clear fx fy hres
  generalize cmpO x y = b at *
  generalize cmpI x.sq y.sq = c at *
  generalize hw0 : ((w.alloc (.cells (ofrA x) 143)).alloc (.cells (ofrA y) 143)) = w0 at *
  have HW := Lib.hid hw0
  clear hw0
  go_enter Try.func103, Try.ntmps103
  go_wp2_with (go_skip)
  rw [HW.out]
  refine wp_region_G_tail 10 (by kernel_rfl) (by kernel_rfl) ?_
  simp only [List.take_succ_cons, List.take_zero, List.drop_succ_cons, List.drop_zero]
  repeat (first
    | go_big_quiet_skip
    | ((with_reducible apply wpQ_loadCG); (· exact cell_u64); (· rfl); (· rfl); (· first | exact h1 | exact h2); (· with_reducible exact rk_g0 ..); (simp only [Act.put, List.setIfInBounds_toArray, List.set_cons_zero, List.set_cons_succ]))
    | ((with_reducible apply wpQ_loadRG row_rat); (· rfl); (· rfl); (· first | exact h1 | exact h2); (· simp only [ofrA_sz, Nat.reduceAdd, Nat.reduceLeDiff, Nat.le_refl]; done); (· with_reducible exact ofr_rat ..); (simp only [Act.put, List.setIfInBounds_toArray, List.set_cons_zero, List.set_cons_succ]))
    | go_big_quiet_step (with_reducible exact AnsG.quiet (by assumption)))
  refine wpQuiet_nil ?_
  clear h1 h2
  intro w1 g1
  have g2 := hg.trans g1
  go_wp2_with (go_skip)
  have hb : Rd (w1.alloc (.cells #[.int .i64 b, .int .i64 c] 3)) (some ⟨w1.heap.size, 0, none⟩) [.int .i64 b, .int .i64 c] := by
    intro i hi
    refine ⟨_, _, rfl, ?_⟩
    rw [cell_of_row _ _ (0 + i) _ _ _ (heap_alloc_new w1 _)]
    simp at hi
    simp [hi]
  refine (or_any _ 2 b c _ hb).mono ?_
  clear hb
  rintro e w' ⟨rfl, hb4⟩
  go_wp2_with (go_skip)
  go_ret
  exact ⟨rfl, (g2.alloc _).trans hb4.grw⟩
theorem insR_none (p : Option Addr) (cap : Nat) (fv : Value) (w : World) :
    Calls Try.prog 145 #[.slice p 0 cap, .int .i64 0, .int .i64 0, fv] w fun e w' => e = .returned (.tuple #[]) ∧ w' = w := by
  go_enter Try.func145, Try.ntmps145
  go_wp2
  refine wp_loop_rounds 1 ?_
  rw [rounds_succ]
  go_wp2
  go_end0
  exact ⟨rfl, rfl⟩
theorem pdqR_none (p : Option Addr) (cap : Nat) (lim : Int) (fv : Value) (w : World) :
    Calls Try.prog 123 #[.slice p 0 cap, .int .i64 0, .int .i64 0, .int .i64 lim, fv] w fun e w' => e = .returned (.tuple #[]) ∧ w' = w := by
  have hi := fun W => insR_none p cap fv W
  go_enter Try.func123, Try.ntmps123
  go_wp2
  refine wp_loop_rounds 1 ?_
  rw [rounds_succ]
  go_wp2_with (first | go_skip | ((refine (hi _).mono ?_); rintro e w' ⟨rfl, rfl⟩))
  (try simp only [Exit.inBlock, Exit.then])
  refine bodyPost_ret (results_none rfl _ _ _) rfl ?_
  exact ⟨rfl, rfl⟩
theorem sortR_none (p : Option Addr) (cap : Nat) (fv : Value) (w : World) :
    Calls Try.prog 102 #[.slice p 0 cap, fv] w fun e w' => e = .returned (.tuple #[]) ∧ w' = w := by
  have hp := fun lim W => pdqR_none p cap lim fv W
  have hl : ∀ W, Calls Try.prog 120 #[.int .u64 0] W fun e w' => e = .returned (.int .i64 (Lib.bitLen 0 : Nat)) ∧ w' = W := fun W => by
    have h := Go.Proofs.Any.bits_Len (SlLaysF0.n15.bits (P := Try.prog) (ρ := Try.sortRanked_ren) { Try.sortRanked with }) 0 W (by omega) (by omega)
    exact h
  go_enter Try.func102, Try.ntmps102
  go_wp2_with (first | go_skip | ((refine (hl _).mono ?_); rintro e w' ⟨rfl, rfl⟩) | ((refine (hp _ _).mono ?_); rintro e w' ⟨rfl, rfl⟩))
  go_end0
  exact ⟨rfl, rfl⟩
theorem encG_len (x : GOf) : (encG x).length = 7 := rfl
theorem encG_L : ∀ (L : List Ofr) (h : ∀ o ∈ L, mayB o.nu o.de = true), (L.pmap Subtype.mk h).flatMap encG = ofrL L
  | [], _ => rfl
  | x :: L, h => by
    rw [List.pmap_cons, List.flatMap_cons, encG_L L (fun o ho => h o (List.mem_cons_of_mem _ ho))]
    rfl
section
variable {W w : World} {l : List Thing} {g off n c : Nat}
theorem cmpLays_rk (blk off size : Nat) (w : World) : CmpLays Try.prog 103 #[] encG 7 cfG blk off size w := fun m os dk hs x y => against_G x y _
theorem cfG_asym (x y : GOf) (h : cfG x y < 0) : ¬ cfG y x < 0 := by rw [cfG_lt] at *; exact ltO_asym _ _ h
set_option maxHeartbeats 8000000 in
theorem rsort_H {L M : List Ofr} (H : Heap W (OwnT 143 7 (.slice (some ⟨g, off, none⟩) n c) n (ofrL L) :: l) w) (hL : ∀ o ∈ L, mayB o.nu o.de = true) (hn : L.length = n) (hb : n ≤ 1000000) (hp : L.Perm M) (hM : M.Pairwise ltO) :
    Calls Try.prog 102 #[.slice (some ⟨g, off, none⟩) n c, .func (.func 103) #[] #[]] w fun e w' => e = .returned (.tuple #[]) ∧ Heap W (OwnT 143 7 (.slice (some ⟨g, off, none⟩) n c) n (ofrL M) :: l) w' := by
  have hML : ∀ o ∈ M, mayB o.nu o.de = true := fun o ho => hL o (hp.mem_iff.2 ho)
  have e1 := encG_L L hL
  have e2 := encG_L M hML
  have hn' : (L.pmap Subtype.mk hL).length = n := by rw [List.length_pmap]; exact hn
  have hp' : (L.pmap Subtype.mk hL).Perm (M.pmap Subtype.mk hML) := hp.pmap _
  have hM' : (M.pmap Subtype.mk hML).Pairwise fun x y : GOf => cfG x y < 0 := by
    rw [List.pairwise_pmap]
    refine hM.imp ?_
    intro a b h h1 h2
    exact (cfG_lt (x := ⟨a, h1⟩) (y := ⟨b, h2⟩)).2 h
  rw [← e1] at H
  rw [← e2]
  generalize L.pmap Subtype.mk hL = L' at *
  generalize M.pmap Subtype.mk hML = M' at *
  have hsz : L'.toArray.size = n := by simpa using hn'
  have eg : ∀ args w, (callFunc 103 args).run Try.prog w = .ok (.enter 103 args) w := enters_of Try.func103 (by kernel_rfl) rfl
  have hcon := AnyQ.slices_SortFunc Try.sortRanked 7 Try.isAgg143 Try.sizeOf143 encG (fun _ => rfl) (fun x v hv => by simp [encG, ofrV] at hv; rcases hv with rfl | rfl | rfl | rfl | rfl | rfl | rfl <;> rfl) cfG swoG 103 #[] g off c L'.toArray w eg (cmpLays_rk g off _ w) (sortG_holds encG_len (by omega) (H.ok _ List.mem_cons_self) hn') (slG_lt H) (by omega)
  change Calls Try.prog 102 _ _ _ at hcon
  rw [hsz] at hcon
  refine hcon.mono fun e w' ⟨he, d', k, os, h1, h2, hw⟩ => ⟨he, ?_⟩
  subst hw
  exact sortG_heap encG_len (by omega) H hn' (by rw [hsz]; exact h1) (sortedG cfG_asym hM' (fun x _ y _ h => by rw [lt_cfG]; exact decide_eq_true h) (by simpa using hp') (by rw [hsz]; exact h1) (by rw [hsz]; exact h2))
end
end Go.Proofs.Ytacglcpjbepfnaa

/- books: Best. -/
namespace Go.Proofs.Ytacglcpjbepfnaa
open Go.RowKit Go.Sort
set_option linter.unusedSimpArgs false
set_option linter.unusedVariables false
set_option maxRecDepth 100000
theorem row_rk : RowTy 143 7 (ofrA ofrZ) := ⟨⟨_, Try.underlying143, rfl⟩, by kernel_rfl, by kernel_rfl⟩
theorem slR : SlTy Try.prog 142 143 7 40 (.agg (ofrA ofrZ)) := slTy_mk Try.underlying142 (by kernel_rfl) rfl (by decide)
theorem bs_rk : Try.prog.underlying 142 = some (.slice 143) ∧ (Try.prog.info? 143).map (fun i => (i.size, i.zero.map Value.cells)) = some ((ofrA ofrZ).size, some (ofrA ofrZ)) ∧ 0 < (ofrA ofrZ).size ∧ (ofrA ofrZ).size ≤ 65536 := ⟨Try.underlying142, by kernel_rfl, by decide, by decide⟩
theorem filt_succ {L : List Ofr} {k : Nat} {x : Ofr} (se bu : Int) (h : L[k]? = some x) : (L.take (k + 1)).filter (ofC se bu) = (L.take k).filter (ofC se bu) ++ if ofC se bu x = true then [x] else [] := by
  rw [List.take_add_one, h, Option.toList_some, List.filter_append]
  congr 1
  by_cases ho : ofC se bu x = true
  · rw [if_pos ho, List.filter_cons_of_pos ho]; rfl
  · rw [if_neg ho, List.filter_cons_of_neg ho]; rfl
theorem out_step {S : List Ofr} {k : Nat} {x : Ofr} {xs0 : List Value} (h : S[k]? = some x) (hl : xs0.length = S.length * 7) :
    (ofrL (S.take k) ++ xs0.drop (k * 7)).take (k * 7) ++ (ofrA x).toList ++ (ofrL (S.take k) ++ xs0.drop (k * 7)).drop (k * 7 + 7) = ofrL (S.take (k + 1)) ++ xs0.drop ((k + 1) * 7) := by
  have hk := (List.getElem?_eq_some_iff.1 h).1
  have h1 : (ofrL (S.take k)).length = k * 7 := by rw [ofrL_len, List.length_take, Nat.min_eq_left (by omega)]
  rw [List.take_add_one, h, Option.toList_some, ofrL_app, ofrL_one]
  congr 1
  · congr 1
    rw [← h1]
    exact List.take_left
  · rw [← h1, ← List.drop_drop, List.drop_left, List.drop_drop, h1]
    congr 1
    omega
structure BestR1 (W : World) (l : List Thing) (L : List Ofr) (se bu : Int) (n : Nat) (v i : Value) (wr : World) : Prop where
  out : ∃ k m : Nat, k ≤ n ∧ i = .int .i64 (k : Int) ∧ ((L.take k).filter (ofC se bu)).length = m ∧ Heap W (RowT 143 7 v m (ofrL ((L.take k).filter (ofC se bu))) :: l) wr
structure BestR2 (W : World) (l : List Thing) (S : List Ofr) (g m : Nat) (xs0 : List Value) (i : Value) (wr : World) : Prop where
  out : ∃ k : Nat, k ≤ m ∧ i = .int .i64 (k : Int) ∧ Heap W (OwnT 83 7 (.slice (some ⟨g, 0, none⟩) m m) m (ofrL (S.take k) ++ xs0.drop (k * 7)) :: l) wr
theorem best_few {B : Bok} (G : B.Good) (se bu : Int) : (B.L.filter (ofC se bu)).length ≤ 32 := Nat.le_trans (List.length_filter_le ..) G.few
section
variable {W w : World} {l : List Thing}
set_option maxHeartbeats 8000000
theorem best_H {p : Nat} {v : Value} {B : Bok} (se bu : Int) (G : B.Good) (m1 : BkB p v B.nx ∈ l) (m2 : OfT v B.L.length B.L ∈ l) (H : Heap W l w) :
    Calls Try.prog 53 #[.pointer (some ⟨p, 0, none⟩), .int .u8 se, .int .u8 bu] w fun e w' => ∃ v', e = .returned v' ∧ Heap W (OwO v' (bestO B.L se bu).length (bestO B.L se bu) :: l) w' := by
  have hfew := G.few
  have hnx := G.nx.1
  have hff := best_few G se bu
  have HB := Lib.hid (G.best se bu)
  have hmy := Lib.hid (fun o (ho : o ∈ B.L.filter (ofC se bu)) => (mayO_iff.1 (G.ok o (List.mem_filter.1 ho).1).1).2.2.2.2.2)
  generalize B.L = L at *
  generalize hn : L.length = n at *
  generalize bestO L se bu = S at *
  go_enter Try.func53, Try.ntmps53
  go_wp2_with (go_skip)
  refine (all_H m1 m2 (by omega) hn (by omega) H).mono ?_
  clear H
  rintro e w1 ⟨v1, rfl, H⟩
  clear m1 m2 hnx
  have hv1 : ∃ a1 c1, v1 = .slice a1 n c1 := by
    rcases (H.ok _ List.mem_cons_self).2 with ⟨rfl, rfl⟩ | ⟨g, off, cap, cur, rfl, _⟩
    · exact ⟨_, _, rfl⟩
    · exact ⟨_, _, rfl⟩
  obtain ⟨a1, c1, rfl⟩ := hv1
  have HN := Lib.hid hn
  clear hn
  go_wp2_with (go_skip)
  have H0 := H.nilRow 143 7
  clear H
  go_loopw [7, 16] (fun v i wr => BestR1 W (OwO (.slice a1 n c1) n L :: l) L se bu n v i wr) (fun _ i _ => n - (intOf i).toNat)
  case atStart => exact ⟨0, 0, Nat.zero_le _, rfl, rfl, H0⟩
  case round =>
    obtain ⟨k, m, hk, rfl, hm, H⟩ := hrel.out
    clear H0 hrel
    have hm32 : m ≤ 32 := by
      have : ((L.take k).filter (ofC se bu)).length ≤ (L.take k).length := List.length_filter_le ..
      rw [List.length_take] at this
      have := HN.out
      omega
    by_cases hlt : k < n
    · have hkL : k < L.length := by rw [HN.out]; exact hlt
      have hx : L[k]? = some L[k] := List.getElem?_eq_getElem hkL
      have hrow := ofrL_get L k hkL
      have hlen : k * 7 + 7 ≤ (ofrL L).length := by rw [ofrL_len]; omega
      have HS := Lib.hid (filt_succ se bu hx)
      have HM := Lib.hid hm
      have hn1 : m + 1 ≤ maxLen := by unfold maxLen; omega
      have hn2 : (m + 1) * 40 ≤ 140737488355328 := by omega
      clear hx hm
      generalize L[k] = x at *
      generalize (L.take k).filter (ofC se bu) = D at *
      obtain ⟨ba, oa, rfl, _⟩ := (H.ownRd (List.mem_cons_of_mem _ List.mem_cons_self)).lt (by omega)
      by_cases hs : x.se = se
      · have d1 : (x.se == se) = true := by simpa using hs
        by_cases hb : x.bu = bu
        · have d2 : (x.bu == bu) = true := by simpa using hb
          have hof : ofC se bu x = true := by simp [ofC, hs, hb]
          rw [hof] at HS
          have HS2 := Lib.hid (HS.out.trans (by rw [if_pos rfl]))
          clear HS hof hs hb
          go_wp2_with (first
            | go_skip
            | ((with_reducible show wpList _ _ _ (_ :: _) _ _); (with_reducible apply wpl_loadRdR row_ofr); (· rfl); (· rfl); (· exact H.ownRd (List.mem_cons_of_mem _ List.mem_cons_self)); (· first | rfl | exact (Nat.zero_add _).symm); (· exact hlen); (· decide); (· exact hrow); (simp only [Act.put, List.setIfInBounds_toArray, List.set_cons_zero, List.set_cons_succ]))
            | ((with_reducible show wpList _ _ _ (_ :: _) _ _); (with_reducible apply wpl_allocRH row_ofr); (· rfl); (· exact H); (clear H; intro px _ H); (simp only [Act.put, List.setIfInBounds_toArray, List.set_cons_zero, List.set_cons_succ]))
            | ((with_reducible show wpList _ _ _ (_ :: _) _ _); (with_reducible apply wpl_storeRH row_ofr); (· rfl); (· rfl); (· rfl); (· with_reducible exact ofr_cells ..); (· exact H); (· (repeat (first | (with_reducible exact List.mem_cons_self) | with_reducible apply List.mem_cons_of_mem))); (· (simp only [ofrA_sz, Nat.reduceAdd, Nat.reduceLeDiff, Nat.le_refl]; done)); (· with_reducible exact ofr_splice ..); (· (repeat (first | (with_reducible exact Repl.here) | with_reducible apply Repl.there))); (clear H; intro _ H); (simp only [Act.put, List.setIfInBounds_toArray, List.set_cons_zero, List.set_cons_succ]))
            | ((with_reducible show wpList _ _ _ (_ :: _) _ _); (with_reducible apply wpl_loadCH); (· first | exact cell_u64 | exact cell_party | exact cell_cur | exact cell_i64); (· rfl); (· rfl); (· exact H); (· (repeat (first | (with_reducible exact List.mem_cons_self) | with_reducible apply List.mem_cons_of_mem))); (· with_reducible first | exact ofr_g0 .. | exact ofr_g1 .. | exact ofr_g2 .. | exact ofr_g3 .. | exact ofr_g4 ..); (simp only [Act.put, List.setIfInBounds_toArray, List.set_cons_zero, List.set_cons_succ]))
            | ((with_reducible show wpList _ _ _ (_ :: _) _ _); (with_reducible apply wpl_loadRH row_ofr); (· rfl); (· rfl); (· exact H); (· (repeat (first | (with_reducible exact List.mem_cons_self) | with_reducible apply List.mem_cons_of_mem))); (· (simp only [ofrA_sz, Nat.reduceAdd, Nat.reduceLeDiff, Nat.le_refl]; done)); (· with_reducible exact ofrA_all ..); (simp only [Act.put, List.setIfInBounds_toArray, List.set_cons_zero, List.set_cons_succ]))
            | ((with_reducible show wpList _ _ _ (_ :: _) _ _); (with_reducible apply wpl_bsRH); (· rfl); (· rfl); (· exact bs_rk); (· exact rfl); (· exact H); (clear H; intro pf _ H); (simp only [Act.put, List.setIfInBounds_toArray, List.set_cons_zero, List.set_cons_succ]))
            | ((with_reducible show wpList _ _ _ (_ :: _) _ _); (with_reducible apply wpl_appendH slR); (· rfl); (· rfl); (· rfl); (· rfl); (· exact H.pull (.there (.there .here))); (· exact H.celRd List.mem_cons_self); (· rfl); (· exact ofrA_ones _); (· exact hn1); (· exact hn2); (clear H; intro v2 _ H); (simp only [Act.put, List.setIfInBounds_toArray, List.set_cons_zero, List.set_cons_succ])))
          refine ⟨⟨k + 1, m + 1, by omega, by go_num, ?_, ?_⟩, ?measure0⟩
          · rw [HS2.out, List.length_append, HM.out]; rfl
          · rw [HS2.out, ofrL_app, ofrL_one]
            exact (H.drop (.there .here)).drop (.there .here)
          case measure0 => simp [intOf]; omega
        · have d2 : (x.bu == bu) = false := by simpa using hb
          have hof : ofC se bu x = false := by simp [ofC, hb]
          rw [hof] at HS
          have HS2 := Lib.hid (HS.out.trans (by rw [if_neg Bool.false_ne_true, List.append_nil]))
          clear HS hof hs hb
          go_wp2_with (first
            | go_skip
            | ((with_reducible show wpList _ _ _ (_ :: _) _ _); (with_reducible apply wpl_loadRdR row_ofr); (· rfl); (· rfl); (· exact H.ownRd (List.mem_cons_of_mem _ List.mem_cons_self)); (· first | rfl | exact (Nat.zero_add _).symm); (· exact hlen); (· decide); (· exact hrow); (simp only [Act.put, List.setIfInBounds_toArray, List.set_cons_zero, List.set_cons_succ]))
            | ((with_reducible show wpList _ _ _ (_ :: _) _ _); (with_reducible apply wpl_allocRH row_ofr); (· rfl); (· exact H); (clear H; intro px _ H); (simp only [Act.put, List.setIfInBounds_toArray, List.set_cons_zero, List.set_cons_succ]))
            | ((with_reducible show wpList _ _ _ (_ :: _) _ _); (with_reducible apply wpl_storeRH row_ofr); (· rfl); (· rfl); (· rfl); (· with_reducible exact ofr_cells ..); (· exact H); (· (repeat (first | (with_reducible exact List.mem_cons_self) | with_reducible apply List.mem_cons_of_mem))); (· (simp only [ofrA_sz, Nat.reduceAdd, Nat.reduceLeDiff, Nat.le_refl]; done)); (· with_reducible exact ofr_splice ..); (· (repeat (first | (with_reducible exact Repl.here) | with_reducible apply Repl.there))); (clear H; intro _ H); (simp only [Act.put, List.setIfInBounds_toArray, List.set_cons_zero, List.set_cons_succ]))
            | ((with_reducible show wpList _ _ _ (_ :: _) _ _); (with_reducible apply wpl_loadCH); (· first | exact cell_u64 | exact cell_party | exact cell_cur | exact cell_i64); (· rfl); (· rfl); (· exact H); (· (repeat (first | (with_reducible exact List.mem_cons_self) | with_reducible apply List.mem_cons_of_mem))); (· with_reducible first | exact ofr_g0 .. | exact ofr_g1 .. | exact ofr_g2 .. | exact ofr_g3 .. | exact ofr_g4 ..); (simp only [Act.put, List.setIfInBounds_toArray, List.set_cons_zero, List.set_cons_succ])))
          refine ⟨⟨k + 1, m, by omega, by go_num, by rw [HS2.out]; exact HM.out, ?_⟩, ?measure1⟩
          · rw [HS2.out]
            exact H.tail
          case measure1 => simp [intOf]; omega
      · have d1 : (x.se == se) = false := by simpa using hs
        have hof : ofC se bu x = false := by simp [ofC, hs]
        rw [hof] at HS
        have HS2 := Lib.hid (HS.out.trans (by rw [if_neg Bool.false_ne_true, List.append_nil]))
        clear HS hof hs
        go_wp2_with (first
          | go_skip
          | ((with_reducible show wpList _ _ _ (_ :: _) _ _); (with_reducible apply wpl_loadRdR row_ofr); (· rfl); (· rfl); (· exact H.ownRd (List.mem_cons_of_mem _ List.mem_cons_self)); (· first | rfl | exact (Nat.zero_add _).symm); (· exact hlen); (· decide); (· exact hrow); (simp only [Act.put, List.setIfInBounds_toArray, List.set_cons_zero, List.set_cons_succ]))
          | ((with_reducible show wpList _ _ _ (_ :: _) _ _); (with_reducible apply wpl_allocRH row_ofr); (· rfl); (· exact H); (clear H; intro px _ H); (simp only [Act.put, List.setIfInBounds_toArray, List.set_cons_zero, List.set_cons_succ]))
          | ((with_reducible show wpList _ _ _ (_ :: _) _ _); (with_reducible apply wpl_storeRH row_ofr); (· rfl); (· rfl); (· rfl); (· with_reducible exact ofr_cells ..); (· exact H); (· (repeat (first | (with_reducible exact List.mem_cons_self) | with_reducible apply List.mem_cons_of_mem))); (· (simp only [ofrA_sz, Nat.reduceAdd, Nat.reduceLeDiff, Nat.le_refl]; done)); (· with_reducible exact ofr_splice ..); (· (repeat (first | (with_reducible exact Repl.here) | with_reducible apply Repl.there))); (clear H; intro _ H); (simp only [Act.put, List.setIfInBounds_toArray, List.set_cons_zero, List.set_cons_succ]))
          | ((with_reducible show wpList _ _ _ (_ :: _) _ _); (with_reducible apply wpl_loadCH); (· first | exact cell_u64 | exact cell_party | exact cell_cur | exact cell_i64); (· rfl); (· rfl); (· exact H); (· (repeat (first | (with_reducible exact List.mem_cons_self) | with_reducible apply List.mem_cons_of_mem))); (· with_reducible first | exact ofr_g0 .. | exact ofr_g1 .. | exact ofr_g2 .. | exact ofr_g3 .. | exact ofr_g4 ..); (simp only [Act.put, List.setIfInBounds_toArray, List.set_cons_zero, List.set_cons_succ])))
        refine ⟨⟨k + 1, m, by omega, by go_num, by rw [HS2.out]; exact HM.out, ?_⟩, ?measure2⟩
        · rw [HS2.out]
          exact H.tail
        case measure2 => simp [intOf]; omega
    · obtain rfl : k = n := by omega
      rw [List.take_of_length_le (by rw [HN.out]; exact Nat.le_refl _)] at hm H
      replace H := (H.drop (.there .here)).slide
      have hpl := HB.out.2.length_eq
      have hSm : S.length = m := by rw [hpl]; exact hm
      have HSM := Lib.hid hSm
      have HM := Lib.hid hm
      clear hpl hSm
      rcases (H.ok _ List.mem_cons_self).2 with ⟨hv, hm0⟩ | ⟨gf, off, cap, cur, hv, _⟩
      · subst hv hm0
        have e0 : S = [] := List.length_eq_zero_iff.1 HSM.out
        have SN := fun W => sortR_none none 0 (.func (.func 103) #[] #[]) W
        replace H := H.tail
        have HE0 := Lib.hid e0
        clear e0 hm
        go_wp2_with (first
          | ((with_reducible show wpList _ _ _ (_ :: _) _ _); (with_reducible apply wpl_makeC slO (n := 0) (m := 0)); (· rfl); (· rfl); (· rfl); (· rfl); (· exact Nat.le_refl _); (· omega); (· omega); (· exact H); (clear H; intro pm _ H); (simp only [Act.put, List.setIfInBounds_toArray, List.set_cons_zero, List.set_cons_succ]))
          | go_skip
          | ((refine (SN _).mono ?_); rintro e w' ⟨rfl, rfl⟩))
        refine wp_loop_rounds 1 ?_
        rw [rounds_succ]
        go_wp2_with (first | go_skip)
        go_ret
        refine ⟨.slice (some ⟨pm, 0, none⟩) 0 0, rfl, ?_⟩
        have H2 := H.celOwn (n := 0) (size := 7) (by rw [size_madeCells]) (Nat.zero_le _)
        have e1 : (madeCells (Value.cells (.agg (ofrA ofrZ))) (0 * 7)).toList = [] := List.eq_nil_of_length_eq_zero (by simp [size_madeCells])
        rw [e1] at H2
        rw [HE0.out]
        exact H2
      · subst hv
        have hm1 : m ≤ 65536 := by omega
        have hm2 : 40 * m ≤ 281474976710656 := by omega
        clear hm
        go_wp2_with (go_skip)
        refine (rsort_H H hmy.out HM.out (by omega) HB.out.2.symm HB.out.1).mono ?_
        clear H
        rintro e w3 ⟨rfl, H⟩
        go_wp2_with (first
          | ((with_reducible show wpList _ _ _ (_ :: _) _ _); (with_reducible apply wpl_makeC slO (n := m) (m := m)); (· rfl); (· rfl); (· rfl); (· rfl); (· exact Nat.le_refl _); (· exact hm1); (· exact hm2); (· exact H); (clear H; intro pm _ H); (simp only [Act.put, List.setIfInBounds_toArray, List.set_cons_zero, List.set_cons_succ]))
          | go_skip)
        replace H := H.celOwn (n := m) (size := 7) (by rw [size_madeCells]) (by unfold maxLen; omega)
        obtain ⟨xs0, hx0⟩ : ∃ xs0, (madeCells (Value.cells (.agg (ofrA ofrZ))) (m * 7)).toList = xs0 := ⟨_, rfl⟩
        have hx0l : xs0.length = m * 7 := by rw [← hx0]; simp [size_madeCells]
        rw [hx0] at H
        have HX := Lib.hid hx0l
        clear hx0 hx0l
        have H0 := H
        clear H
        go_loopw [42] (fun i wr => BestR2 W (OwnT 143 7 (.slice (some ⟨gf, off, none⟩) m cap) m (ofrL S) :: l) S pm m xs0 i wr) (fun i _ => m - (intOf i).toNat)
        case atStart => exact ⟨0, Nat.zero_le _, rfl, by simpa [ofrL] using H0⟩
        case round =>
          obtain ⟨j, hj, rfl, H⟩ := hrel.out
          clear H0 hrel
          by_cases hjm : j < m
          · have hjS : j < S.length := by rw [HSM.out]; exact hjm
            have hx : S[j]? = some S[j] := List.getElem?_eq_getElem hjS
            have hrow := ofrL_get S j hjS
            have hlen : j * 7 + 7 ≤ (ofrL S).length := by rw [ofrL_len]; omega
            have HO := Lib.hid (out_step (xs0 := xs0) hx (by rw [HX.out, HSM.out]))
            have hfit : j * 7 + 7 ≤ (ofrL (S.take j) ++ xs0.drop (j * 7)).length := by
              have := HX.out
              rw [List.length_append, ofrL_len, List.length_take, List.length_drop]
              omega
            clear hx
            generalize S[j] = x at *
            go_wp2_with (first
              | go_skip
              | ((with_reducible show wpList _ _ _ (_ :: _) _ _); (with_reducible apply wpl_loadRdR row_rk); (· rfl); (· rfl); (· exact H.ownRd (List.mem_cons_of_mem _ List.mem_cons_self)); (· first | rfl | exact (Nat.zero_add _).symm); (· exact hlen); (· decide); (· exact hrow); (simp only [Act.put, List.setIfInBounds_toArray, List.set_cons_zero, List.set_cons_succ]))
              | ((with_reducible show wpList _ _ _ (_ :: _) _ _); (with_reducible apply wpl_allocRH row_rk); (· rfl); (· exact H); (clear H; intro px _ H); (simp only [Act.put, List.setIfInBounds_toArray, List.set_cons_zero, List.set_cons_succ]))
              | ((with_reducible show wpList _ _ _ (_ :: _) _ _); (with_reducible apply wpl_storeRH row_rk); (· rfl); (· rfl); (· rfl); (· with_reducible exact ofr_cells ..); (· exact H); (· (repeat (first | (with_reducible exact List.mem_cons_self) | with_reducible apply List.mem_cons_of_mem))); (· (simp only [ofrA_sz, Nat.reduceAdd, Nat.reduceLeDiff, Nat.le_refl]; done)); (· with_reducible exact ofr_splice ..); (· (repeat (first | (with_reducible exact Repl.here) | with_reducible apply Repl.there))); (clear H; intro _ H); (simp only [Act.put, List.setIfInBounds_toArray, List.set_cons_zero, List.set_cons_succ]))
              | ((with_reducible show wpList _ _ _ (_ :: _) _ _); (with_reducible apply wpl_loadRH row_rk); (· rfl); (· rfl); (· exact H); (· (repeat (first | (with_reducible exact List.mem_cons_self) | with_reducible apply List.mem_cons_of_mem))); (· (simp only [ofrA_sz, Nat.reduceAdd, Nat.reduceLeDiff, Nat.le_refl]; done)); (· with_reducible exact ofrA_all ..); (simp only [Act.put, List.setIfInBounds_toArray, List.set_cons_zero, List.set_cons_succ]))
              | ((with_reducible show wpList _ _ _ (_ :: _) _ _); (with_reducible apply wpl_storeOwnR row_ofr); (· rfl); (· rfl); (· rfl); (· exact ofr_cells _); (· exact H); (· exact List.mem_cons_of_mem _ List.mem_cons_self); (· exact (Nat.zero_add _).symm); (· exact hfit); (· exact HO.out); (· exact Repl.there Repl.here); (clear H; intro _ H); (simp only [Act.put, List.setIfInBounds_toArray, List.set_cons_zero, List.set_cons_succ])))
            refine ⟨⟨j + 1, by omega, by go_num, H.tail⟩, ?measure3⟩
            case measure3 => simp [intOf]; omega
          · obtain rfl : j = m := by omega
            go_wp2_with (go_skip)
            go_ret
            have e1 : S.take j = S := List.take_of_length_le (by rw [HSM.out]; exact Nat.le_refl _)
            have e2 : xs0.drop (j * 7) = [] := List.drop_of_length_le (by rw [HX.out]; exact Nat.le_refl _)
            rw [e1, e2, List.append_nil] at H
            refine ⟨.slice (some ⟨pm, 0, none⟩) j j, rfl, ?_⟩
            rw [HSM.out]
            exact H.drop (.there .here)
end
end Go.Proofs.Ytacglcpjbepfnaa

/- books: New; the chapter's example. (Printed by a program; see gen/lives04.py.) -/
namespace Go.Proofs.Ytacglcpjbepfnaa
open Go.RowKit Go.Sort
set_option linter.unusedSimpArgs false
set_option linter.unusedVariables false
set_option maxRecDepth 100000
theorem rat_cells (n d : Int) : Cells 2 (ratA n d) := ⟨rfl, by simp [ratA, Value.oneCell']⟩
theorem rat_splice (n d x y : Int) : splice (ratA n d) 0 (ratA x y) = ratA x y := splice_all rfl
theorem run_buildBk (n : Int) (w : World) : (Instr.build 99 #[(1, .int .u64 n)]).run Try.prog w = .ok (.agg (bkb (.slice none 0 0) n)) w := by kernel_rfl
section
variable {ops : Array Oper} {rest : List Oper} {a : Act} {W w : World} {l : List Thing} {Q : Exit → Act → World → Prop} {dst : Option Tmp} {ty : TypeId} {pos : String} {after : Array Edge} {guard : Option (Nat × Bool)}
theorem wpl_buildBk {x : Operand} {n : Int} (hw : Region.wanted ⟨dst, .build 99 #[(1, x)], ty, pos, after, guard⟩ (yielded ops a.tmps) = true) (hx : a.eval x = .int .u64 n)
    (h : wpList Try.prog ops Q rest (a.put dst (.agg (bkb (.slice none 0 0) n))) w) : wpList Try.prog ops Q (⟨dst, .build 99 #[(1, x)], ty, pos, after, guard⟩ :: rest) a w := by
  refine wpl_pure hw _ (fun w => ?_) h
  unfold execOp
  simp only [List.map_toArray, List.map_cons, List.map_nil, hx, Sem.run_bind, run_buildBk, Result.andThen_ok, Sem.run_pure]
end
abbrev oB1 : Ofr := ⟨1, 1, 1, 2, 10, 3, 2⟩
abbrev oB2 : Ofr := ⟨2, 2, 1, 2, 5, 1, 1⟩
abbrev oB3 : Ofr := ⟨3, 3, 1, 2, 5, 3, 2⟩
abbrev bB0 : Bok := ⟨[], 1⟩
abbrev bB1 : Bok := ⟨[oB1], 2⟩
abbrev bB2 : Bok := ⟨[oB1, oB2], 3⟩
abbrev bB3 : Bok := ⟨[oB1, oB2, oB3], 4⟩
abbrev bB4 : Bok := ⟨[oB1, oB3], 4⟩
abbrev bB5 : Bok := ⟨[oB3], 4⟩
theorem bB_s1 : placeS bB0 1 1 2 10 3 2 = bB1 := by kernel_rfl
theorem bB_e1 : placeE bB0 1 1 2 10 3 2 = 0 := by kernel_rfl
theorem bB_n1 : placeN bB0 1 1 2 10 3 2 = 1 := by kernel_rfl
theorem bB_s2 : placeS bB1 2 1 2 5 1 1 = bB2 := by kernel_rfl
theorem bB_e2 : placeE bB1 2 1 2 5 1 1 = 0 := by kernel_rfl
theorem bB_n2 : placeN bB1 2 1 2 5 1 1 = 2 := by kernel_rfl
theorem bB_s3 : placeS bB2 3 1 2 5 3 2 = bB3 := by kernel_rfl
theorem bB_e3 : placeE bB2 3 1 2 5 3 2 = 0 := by kernel_rfl
theorem bB_n3 : placeN bB2 3 1 2 5 3 2 = 3 := by kernel_rfl
theorem bB_s4 : placeS bB3 1 1 1 5 1 1 = bB3 := by kernel_rfl
theorem bB_e4 : placeE bB3 1 1 1 5 1 1 = 1 := by kernel_rfl
theorem bB_n4 : placeN bB3 1 1 1 5 1 1 = 0 := by kernel_rfl
theorem bB_b1 : bestO bB3.L 1 2 = [oB2, oB1, oB3] := by kernel_rfl
theorem bB_b2 : bestO bB3.L 2 1 = [] := by kernel_rfl
theorem bB_s5 : cancelS bB3 1 2 = bB3 := by kernel_rfl
theorem bB_e5 : cancelE bB3 1 2 = 15 := by kernel_rfl
theorem bB_n5 : cancelN bB3 1 2 = 0 := by kernel_rfl
theorem bB_s6 : cancelS bB3 2 2 = bB4 := by kernel_rfl
theorem bB_e6 : cancelE bB3 2 2 = 0 := by kernel_rfl
theorem bB_n6 : cancelN bB3 2 2 = 5 := by kernel_rfl
theorem bB_s7 : takeS bB4 1 10 = bB5 := by kernel_rfl
theorem bB_e7 : takeE bB4 1 10 = 0 := by kernel_rfl
theorem bB_g0 : bB0.Good := Bok.new_good
theorem bB_g1 : bB1.Good := by have := bB_g0.place 1 1 2 10 3 2; rwa [bB_s1] at this
theorem bB_g2 : bB2.Good := by have := bB_g1.place 2 1 2 5 1 1; rwa [bB_s2] at this
theorem bB_g3 : bB3.Good := by have := bB_g2.place 3 1 2 5 3 2; rwa [bB_s3] at this
theorem bB_g4 : bB4.Good := by have := bB_g3.cancel 2 2; rwa [bB_s6] at this
theorem ofrOk_lit {a b c d e f g : Int} (h : (0 ≤ a ∧ a ≤ 18446744073709551615) ∧ (0 ≤ b ∧ b ≤ 255) ∧ (0 ≤ c ∧ c ≤ 255) ∧ (0 ≤ d ∧ d ≤ 255) ∧ (-9223372036854775808 ≤ e ∧ e ≤ 9223372036854775807) ∧ (-9223372036854775808 ≤ f ∧ f ≤ 9223372036854775807) ∧ (-9223372036854775808 ≤ g ∧ g ≤ 9223372036854775807)) : OfrOk ⟨a, b, c, d, e, f, g⟩ := ⟨h.1, h.2.1, h.2.2.1, h.2.2.2.1, h.2.2.2.2.1, h.2.2.2.2.2.1, h.2.2.2.2.2.2⟩
section
variable {W w : World} {l : List Thing}
set_option maxHeartbeats 8000000
theorem bnew_H (H : Heap W l w) : Calls Try.prog 68 #[] w fun e w' => ∃ p, e = .returned (.pointer (some ⟨p, 0, none⟩)) ∧ Heap W (BkB p (.slice none 0 0) bB0.nx :: OfT (.slice none 0 0) bB0.L.length bB0.L :: l) w' := by
  go_enter Try.func68, Try.ntmps68
  go_wp2_with (first
    | ((with_reducible show wpList _ _ _ (_ :: _) _ _); (with_reducible apply wpl_buildBk); (· rfl); (· rfl); (simp only [Act.put, List.setIfInBounds_toArray, List.set_cons_zero, List.set_cons_succ]))
    | ((with_reducible show wpList _ _ _ (_ :: _) _ _); (with_reducible apply wpl_boxRH); (· rfl); (· rfl); (· exact H); (clear H; intro pb _ H); (simp only [Act.put, List.setIfInBounds_toArray, List.set_cons_zero, List.set_cons_succ]))
    | go_skip)
  go_ret
  exact ⟨_, rfl, (H.nilRow 83 7).perm (.swap _ _ _)⟩
theorem OwnT.formO {w : World} {e size n : Nat} {v : Value} {xs : List Value} (h : (OwnT e size v n xs).ok w) : ∃ a c, v = .slice a n c ∧ n ≤ c ∧ c ≤ maxLen := by
  obtain ⟨a, c, e, _, h1, h2, _⟩ := Own.rd h
  exact ⟨a, c, e, h1, h2⟩
theorem lives04_H (H : Heap W l w) : Calls Try.prog 50 #[] w fun e w' => e = .returned (.bool true) ∧ Heap W l w' := by
  go_enter Try.func50, Try.ntmps50
  go_wp2_with (go_skip)
  refine (bnew_H H).mono ?_
  clear H
  rintro e w1 ⟨p, rfl, H⟩
  go_wp2_with (first
    | ((with_reducible show wpList _ _ _ (_ :: _) _ _); (with_reducible apply wpl_allocRH row_rat); (· rfl); (· exact H); (clear H; intro pa _ H); (simp only [Act.put, List.setIfInBounds_toArray, List.set_cons_zero, List.set_cons_succ]))
    | ((with_reducible show wpList _ _ _ (_ :: _) _ _); (with_reducible apply wpl_storeRH row_rat); (· rfl); (· rfl); (· rfl); (· with_reducible exact rat_cells ..); (· exact H); (· (repeat (first | (with_reducible exact List.mem_cons_self) | with_reducible apply List.mem_cons_of_mem))); (· (simp only [ratA_sz, Nat.reduceAdd, Nat.reduceLeDiff, Nat.le_refl]; done)); (· with_reducible exact rat_splice ..); (· (repeat (first | (with_reducible exact Repl.here) | with_reducible apply Repl.there))); (clear H; intro _ H); (simp only [Act.put, List.setIfInBounds_toArray, List.set_cons_zero, List.set_cons_succ]))
    | ((with_reducible show wpList _ _ _ (_ :: _) _ _); (with_reducible apply wpl_loadRH row_rat); (· rfl); (· rfl); (· exact H); (· (repeat (first | (with_reducible exact List.mem_cons_self) | with_reducible apply List.mem_cons_of_mem))); (· (simp only [ratA_sz, Nat.reduceAdd, Nat.reduceLeDiff, Nat.le_refl]; done)); (· with_reducible exact ratA_all ..); (simp only [Act.put, List.setIfInBounds_toArray, List.set_cons_zero, List.set_cons_succ]))
    | go_skip)
  replace H := H.top2 (.there (.there .here)) (.there (.there .here))
  refine (place_H (p := p) (B := bB0) 1 1 2 10 3 2 (ofrOk_lit (by decide)) bB_g0 H).mono ?_
  clear H
  rintro e w2 ⟨v1, rfl, H⟩
  rw [bB_n1, bB_e1]
  rw [bB_s1] at H
  go_wp2_with (first
    | go_skip
    | ((with_reducible show wpList _ _ _ (_ :: _) _ _); (with_reducible apply wpl_loadRH row_rat); (· rfl); (· rfl); (· exact H); (· (repeat (first | (with_reducible exact List.mem_cons_self) | with_reducible apply List.mem_cons_of_mem))); (· (simp only [ratA_sz, Nat.reduceAdd, Nat.reduceLeDiff, Nat.le_refl]; done)); (· with_reducible exact ratA_all ..); (simp only [Act.put, List.setIfInBounds_toArray, List.set_cons_zero, List.set_cons_succ])))
  refine (place_H (p := p) (B := bB1) 2 1 2 5 1 1 (ofrOk_lit (by decide)) bB_g1 H).mono ?_
  clear H
  rintro e w3 ⟨v2, rfl, H⟩
  rw [bB_n2, bB_e2]
  rw [bB_s2] at H
  go_wp2_with (first
    | go_skip
    | ((with_reducible show wpList _ _ _ (_ :: _) _ _); (with_reducible apply wpl_loadRH row_rat); (· rfl); (· rfl); (· exact H); (· (repeat (first | (with_reducible exact List.mem_cons_self) | with_reducible apply List.mem_cons_of_mem))); (· (simp only [ratA_sz, Nat.reduceAdd, Nat.reduceLeDiff, Nat.le_refl]; done)); (· with_reducible exact ratA_all ..); (simp only [Act.put, List.setIfInBounds_toArray, List.set_cons_zero, List.set_cons_succ])))
  refine (place_H (p := p) (B := bB2) 3 1 2 5 3 2 (ofrOk_lit (by decide)) bB_g2 H).mono ?_
  clear H
  rintro e w4 ⟨v3, rfl, H⟩
  rw [bB_n3, bB_e3]
  rw [bB_s3] at H
  go_wp2_with (first
    | go_skip
    | ((with_reducible show wpList _ _ _ (_ :: _) _ _); (with_reducible apply wpl_loadRH row_rat); (· rfl); (· rfl); (· exact H); (· (repeat (first | (with_reducible exact List.mem_cons_self) | with_reducible apply List.mem_cons_of_mem))); (· (simp only [ratA_sz, Nat.reduceAdd, Nat.reduceLeDiff, Nat.le_refl]; done)); (· with_reducible exact ratA_all ..); (simp only [Act.put, List.setIfInBounds_toArray, List.set_cons_zero, List.set_cons_succ])))
  refine (place_H (p := p) (B := bB3) 1 1 1 5 1 1 (ofrOk_lit (by decide)) bB_g3 H).mono ?_
  clear H
  rintro e w5 ⟨v4, rfl, H⟩
  rw [bB_n4, bB_e4]
  rw [bB_s4] at H
  go_wp2_with (first
    | go_skip
    | ((with_reducible show wpList _ _ _ (_ :: _) _ _); (with_reducible apply wpl_loadRH row_rat); (· rfl); (· rfl); (· exact H); (· (repeat (first | (with_reducible exact List.mem_cons_self) | with_reducible apply List.mem_cons_of_mem))); (· (simp only [ratA_sz, Nat.reduceAdd, Nat.reduceLeDiff, Nat.le_refl]; done)); (· with_reducible exact ratA_all ..); (simp only [Act.put, List.setIfInBounds_toArray, List.set_cons_zero, List.set_cons_succ])))
  refine (best_H (p := p) (B := bB3) 1 2 bB_g3 List.mem_cons_self (List.mem_cons_of_mem _ List.mem_cons_self) H).mono ?_
  clear H
  rintro e w6 ⟨v5, rfl, H⟩
  rw [bB_b1] at H
  obtain ⟨a5, c5, rfl, _, _⟩ := OwnT.formO (H.ok _ List.mem_cons_self)
  have R5 := H.ownRd List.mem_cons_self
  obtain ⟨g5, o5, rfl, _⟩ := R5.lt (by simp [ofrL, ofrV])
  have k0 : w6.cell? ⟨g5, o5, none⟩ = some (.int .u64 2) := by simpa using rd_ofr (k := 0) (j := 0) R5 rfl rfl
  have k1 : w6.cell? ⟨g5, o5 + 7, none⟩ = some (.int .u64 1) := by simpa using rd_ofr (k := 1) (j := 0) R5 rfl rfl
  have k2 : w6.cell? ⟨g5, o5 + 14, none⟩ = some (.int .u64 3) := by simpa using rd_ofr (k := 2) (j := 0) R5 rfl rfl
  clear R5
  go_wp2_with (first
    | go_skip
    | ((with_reducible show wpList _ _ _ (_ :: _) _ _); (with_reducible apply wpl_loadCell cell_u64); (· rfl); (· rfl); (· first | exact k0 | exact k1 | exact k2); (simp only [Act.put, List.setIfInBounds_toArray, List.set_cons_zero, List.set_cons_succ])))
  clear k0 k1 k2
  refine (best_H (p := p) (B := bB3) 2 1 bB_g3 (List.mem_cons_of_mem _ List.mem_cons_self) (List.mem_cons_of_mem _ (List.mem_cons_of_mem _ List.mem_cons_self)) H).mono ?_
  clear H
  rintro e w7 ⟨v6, rfl, H⟩
  rw [bB_b2] at H
  obtain ⟨a6, c6, rfl, _, _⟩ := OwnT.formO (H.ok _ List.mem_cons_self)
  replace H := H.tail.tail
  go_wp2_with (go_skip)
  refine (cancel_H (p := p) (B := bB3) 1 2 bB_g3 H).mono ?_
  clear H
  rintro e w8 ⟨v7, rfl, H⟩
  rw [bB_n5, bB_e5]
  rw [bB_s5] at H
  go_wp2_with (go_skip)
  refine (cancel_H (p := p) (B := bB3) 2 2 bB_g3 H).mono ?_
  clear H
  rintro e w9 ⟨v8, rfl, H⟩
  rw [bB_n6, bB_e6]
  rw [bB_s6] at H
  go_wp2_with (go_skip)
  refine (take_H (p := p) (B := bB4) 1 10 (by omega) bB_g4 H).mono ?_
  clear H
  rintro e w10 ⟨v9, rfl, H⟩
  rw [bB_e7]
  rw [bB_s7] at H
  go_wp2_with (go_skip)
  refine (all_H (p := p) (L := bB5.L) List.mem_cons_self (List.mem_cons_of_mem _ List.mem_cons_self) (by decide) rfl (by decide) H).mono ?_
  clear H
  rintro e w11 ⟨v10, rfl, H⟩
  obtain ⟨a7, c7, rfl, _, _⟩ := OwnT.formO (H.ok _ List.mem_cons_self)
  have R5 := H.ownRd List.mem_cons_self
  obtain ⟨g5, o5, rfl, _⟩ := R5.lt (by simp [ofrL, ofrV])
  have k0 : w11.cell? ⟨g5, o5, none⟩ = some (.int .u64 3) := by simpa using rd_ofr (k := 0) (j := 0) R5 rfl rfl
  clear R5
  go_wp2_with (first
    | go_skip
    | ((with_reducible show wpList _ _ _ (_ :: _) _ _); (with_reducible apply wpl_loadCell cell_u64); (· rfl); (· rfl); (· exact k0); (simp only [Act.put, List.setIfInBounds_toArray, List.set_cons_zero, List.set_cons_succ])))
  go_ret
  exact ⟨rfl, H.tail.tail.tail.tail.tail⟩
end
end Go.Proofs.Ytacglcpjbepfnaa

/- books: Of, Copy; two lists of offers that are the same. -/
namespace Go.Proofs.Ytacglcpjbepfnaa
open Go.RowKit
set_option linter.unusedSimpArgs false
set_option linter.unusedVariables false
set_option maxRecDepth 100000
/-- May these stand behind such a number? -/
def okO (nx : Int) : Int → List Ofr → Bool
  | last, [] => decide (last < nx)
  | last, o :: L => mayO o && decide (last < o.sq) && okO nx o.sq L
theorem okO_iff {nx : Int} : ∀ {L : List Ofr} {last : Int}, okO nx last L = true ↔ (∀ o ∈ L, mayO o = true ∧ last < o.sq ∧ o.sq < nx) ∧ L.Pairwise (fun x y => x.sq < y.sq) ∧ last < nx
  | [], last => by simp [okO]
  | a :: L, last => by
    rw [okO, Bool.and_eq_true, Bool.and_eq_true, decide_eq_true_eq, okO_iff, List.pairwise_cons]
    constructor
    · rintro ⟨⟨h1, h2⟩, h3, h4, h5⟩
      refine ⟨fun o ho => ?_, ⟨fun o ho => (h3 o ho).2.1, h4⟩, by omega⟩
      rcases List.mem_cons.1 ho with rfl | ho
      · exact ⟨h1, h2, h5⟩
      · have := h3 o ho; exact ⟨this.1, by omega, this.2.2⟩
    · rintro ⟨h1, ⟨h2, h3⟩, h4⟩
      have ha := h1 a List.mem_cons_self
      exact ⟨⟨ha.1, ha.2.1⟩, fun o ho => ⟨(h1 o (List.mem_cons_of_mem _ ho)).1, h2 o ho, (h1 o (List.mem_cons_of_mem _ ho)).2.2⟩, h3, ha.2.2⟩
theorem ofE_ok (L : List Ofr) (nx : Int) : ofE L nx = if 32 < L.length then 9 else if okO nx 0 L = true then 0 else 1 := by
  unfold ofE
  split
  · rfl
  · have h : okO nx 0 L = true ↔ (∀ o ∈ L, mayO o = true ∧ 1 ≤ o.sq ∧ o.sq < nx) ∧ L.Pairwise (fun x y => x.sq < y.sq) ∧ 1 ≤ nx := by
      rw [okO_iff]
      constructor
      · rintro ⟨h1, h2, h3⟩
        exact ⟨fun o ho => by have := h1 o ho; exact ⟨this.1, by omega, this.2.2⟩, h2, by omega⟩
      · rintro ⟨h1, h2, h3⟩
        exact ⟨fun o ho => by have := h1 o ho; exact ⟨this.1, by omega, this.2.2⟩, h2, by omega⟩
    by_cases h2 : okO nx 0 L = true
    · rw [if_pos h2, if_pos (h.1 h2)]
    · rw [if_neg h2, if_neg (fun h3 => h2 (h.2 h3))]
theorem run_buildBk2 (a : Option Addr) (n c : Nat) (x : Int) (w : World) : (Instr.build 99 #[(0, .slice a n c), (1, .int .u64 x)]).run Try.prog w = .ok (.agg (bkb (.slice a n c) x)) w := by kernel_rfl
section
variable {ops : Array Oper} {rest : List Oper} {a : Act} {W w : World} {l : List Thing} {Q : Exit → Act → World → Prop} {dst : Option Tmp} {ty : TypeId} {pos : String} {after : Array Edge} {guard : Option (Nat × Bool)}
theorem wpl_buildBk2 {x y : Operand} {ao : Option Addr} {m c : Nat} {n : Int} (hw : Region.wanted ⟨dst, .build 99 #[(0, x), (1, y)], ty, pos, after, guard⟩ (yielded ops a.tmps) = true) (hx : a.eval x = .slice ao m c) (hy : a.eval y = .int .u64 n)
    (h : wpList Try.prog ops Q rest (a.put dst (.agg (bkb (.slice ao m c) n))) w) : wpList Try.prog ops Q (⟨dst, .build 99 #[(0, x), (1, y)], ty, pos, after, guard⟩ :: rest) a w := by
  refine wpl_pure hw _ (fun w => ?_) h
  unfold execOp
  simp only [List.map_toArray, List.map_cons, List.map_nil, hx, hy, Sem.run_bind, run_buildBk2, Result.andThen_ok, Sem.run_pure]
end
/-- What Of answers. -/
def OfPost (W : World) (l : List Thing) (L : List Ofr) (n : Nat) (nx : Int) (e : Ending) (w' : World) : Prop :=
  (ofE L nx = 0 ∧ ∃ p v, e = .returned (.tuple #[.pointer (some ⟨p, 0, none⟩), .int .i64 0]) ∧ Heap W (BkB p v nx :: OfT v n L :: l) w') ∨ (ofE L nx ≠ 0 ∧ e = .returned (.tuple #[.pointer none, .int .i64 (ofE L nx)]) ∧ Heap W l w')
structure OfR (W : World) (l : List Thing) (L : List Ofr) (nx : Int) (n : Nat) (last i : Value) (wr : World) : Prop where
  out : ∃ (k : Nat) (z : Int), k ≤ n ∧ i = .int .i64 (k : Int) ∧ last = .int .u64 z ∧ okO nx 0 L = okO nx z (L.drop k) ∧ Heap W l wr
section
variable {W w : World} {l : List Thing}
set_option maxHeartbeats 8000000
theorem of4_H (ea : Option Addr) (n ec : Nat) (L : List Ofr) (nx : Int) (hl : L.length = n) (hn : n ≤ 1000000) (hL : ∀ o ∈ L, OfrOk o) (R : ∀ l' w', (∀ x ∈ l, x ∈ l') → Heap W l' w' → Rd w' ea (ofrL L)) (H : Heap W l w) :
    Calls Try.prog 63 #[.slice ea n ec, .int .u64 nx] w (OfPost W l L n nx) := by
  have HE := Lib.hid (ofE_ok L nx)
  have HL := Lib.hid hl
  have HK := Lib.hid hL
  have HR := Lib.hid R
  have hl2 := hl
  clear hL R hl
  by_cases hbig : 32 < n
  · have d1 : decide ((n : Int) > 32) = true := decide_eq_true (by omega)
    have d2 : decide (32 < (n : Int)) = true := decide_eq_true (by omega)
    go_enter Try.func63, Try.ntmps63
    go_wp2_with (go_skip)
    go_ret2
    have e1 : ofE L nx = 9 := by rw [HE.out, if_pos (by rw [HL.out]; exact hbig)]
    exact .inr ⟨by rw [e1]; decide, by rw [e1]; rfl, H⟩
  · have d1 : decide ((n : Int) > 32) = false := decide_eq_false (by omega)
    have d2 : decide (32 < (n : Int)) = false := decide_eq_false (by omega)
    have HE2 := Lib.hid (show ofE L nx = if okO nx 0 L = true then 0 else 1 by rw [HE.out, if_neg (by rw [HL.out]; exact hbig)])
    clear hbig hl2 HE
    go_enter Try.func63, Try.ntmps63
    go_wp2_with (go_skip)
    have H0 := H
    clear H
    go_loopw [6, 14] (fun last i wr => OfR W l L nx n last i wr) (fun _ i _ => n - (intOf i).toNat)
    case atStart => exact ⟨0, 0, Nat.zero_le _, rfl, rfl, rfl, H0⟩
    case round =>
      obtain ⟨k, z, hk, rfl, rfl, hz, H⟩ := hrel.out
      clear H0 hrel
      by_cases hlt : k < n
      · have hkL : k < L.length := by rw [HL.out]; exact hlt
        have hrow := ofrL_get L k hkL
        have hlen : k * 7 + 7 ≤ (ofrL L).length := by rw [ofrL_len]; omega
        have hok := HK.out L[k] (List.getElem_mem hkL)
        rw [List.drop_eq_getElem_cons hkL, okO] at hz
        generalize L[k] = x at *
        have M := fun l' => bmay_H (W := W) (l := l') x hok
        obtain ⟨ba, oa, rfl, _⟩ := (HR.out _ _ (fun _ h => h) H).lt (by omega)
        cases hb : mayO x with
        | false =>
          rw [hb] at M hz
          have HZ := Lib.hid (show okO nx 0 L = false from hz)
          clear hz hb hok
          go_wp2_with (first
            | ((with_reducible show wpList _ _ _ (_ :: _) _ _); (with_reducible apply wpl_allocRH row_ofr); (· rfl); (· exact H); (clear H; intro px _ H); (simp only [Act.put, List.setIfInBounds_toArray, List.set_cons_zero, List.set_cons_succ]))
            | go_skip
            | ((with_reducible show wpList _ _ _ (_ :: _) _ _); (with_reducible apply wpl_loadRdR row_ofr); (· rfl); (· rfl); (· exact HR.out _ _ (fun _ h => h) H); (· first | rfl | exact (Nat.add_zero _).symm); (· exact hlen); (· decide); (· exact hrow); (simp only [Act.put, List.setIfInBounds_toArray, List.set_cons_zero, List.set_cons_succ]))
            | ((with_reducible show wpList _ _ _ (_ :: _) _ _); (with_reducible apply wpl_storeRH row_ofr); (· rfl); (· rfl); (· rfl); (· with_reducible exact ofr_cells ..); (· exact H); (· (repeat (first | (with_reducible exact List.mem_cons_self) | with_reducible apply List.mem_cons_of_mem))); (· (simp only [ofrA_sz, Nat.reduceAdd, Nat.reduceLeDiff, Nat.le_refl]; done)); (· with_reducible exact ofr_splice ..); (· (repeat (first | (with_reducible exact Repl.here) | with_reducible apply Repl.there))); (clear H; intro _ H); (simp only [Act.put, List.setIfInBounds_toArray, List.set_cons_zero, List.set_cons_succ]))
            | ((with_reducible show wpList _ _ _ (_ :: _) _ _); (with_reducible apply wpl_loadRH row_ofr); (· rfl); (· rfl); (· exact H); (· (repeat (first | (with_reducible exact List.mem_cons_self) | with_reducible apply List.mem_cons_of_mem))); (· (simp only [ofrA_sz, Nat.reduceAdd, Nat.reduceLeDiff, Nat.le_refl]; done)); (· with_reducible exact ofrA_all ..); (simp only [Act.put, List.setIfInBounds_toArray, List.set_cons_zero, List.set_cons_succ]))
            | ((with_reducible refine AnsH.call (M _) H ?_); clear H; intro _ H))
          go_ret2
          have e1 : ofE L nx = 1 := by rw [HE2.out, HZ.out]; rfl
          exact .inr ⟨by rw [e1]; decide, by rw [e1]; rfl, H.tail⟩
        | true =>
          rw [hb] at M hz
          by_cases hs : x.sq ≤ z
          · have d3 : decide (x.sq ≤ z) = true := decide_eq_true hs
            have HZ := Lib.hid (show okO nx 0 L = false by rw [hz, decide_eq_false (by omega)]; rfl)
            clear hz hb hok hs
            go_wp2_with (first
              | ((with_reducible show wpList _ _ _ (_ :: _) _ _); (with_reducible apply wpl_allocRH row_ofr); (· rfl); (· exact H); (clear H; intro px _ H); (simp only [Act.put, List.setIfInBounds_toArray, List.set_cons_zero, List.set_cons_succ]))
              | go_skip
              | ((with_reducible show wpList _ _ _ (_ :: _) _ _); (with_reducible apply wpl_loadRdR row_ofr); (· rfl); (· rfl); (· exact HR.out _ _ (fun _ h => h) H); (· first | rfl | exact (Nat.add_zero _).symm); (· exact hlen); (· decide); (· exact hrow); (simp only [Act.put, List.setIfInBounds_toArray, List.set_cons_zero, List.set_cons_succ]))
              | ((with_reducible show wpList _ _ _ (_ :: _) _ _); (with_reducible apply wpl_storeRH row_ofr); (· rfl); (· rfl); (· rfl); (· with_reducible exact ofr_cells ..); (· exact H); (· (repeat (first | (with_reducible exact List.mem_cons_self) | with_reducible apply List.mem_cons_of_mem))); (· (simp only [ofrA_sz, Nat.reduceAdd, Nat.reduceLeDiff, Nat.le_refl]; done)); (· with_reducible exact ofr_splice ..); (· (repeat (first | (with_reducible exact Repl.here) | with_reducible apply Repl.there))); (clear H; intro _ H); (simp only [Act.put, List.setIfInBounds_toArray, List.set_cons_zero, List.set_cons_succ]))
              | ((with_reducible show wpList _ _ _ (_ :: _) _ _); (with_reducible apply wpl_loadRH row_ofr); (· rfl); (· rfl); (· exact H); (· (repeat (first | (with_reducible exact List.mem_cons_self) | with_reducible apply List.mem_cons_of_mem))); (· (simp only [ofrA_sz, Nat.reduceAdd, Nat.reduceLeDiff, Nat.le_refl]; done)); (· with_reducible exact ofrA_all ..); (simp only [Act.put, List.setIfInBounds_toArray, List.set_cons_zero, List.set_cons_succ]))
              | ((with_reducible show wpList _ _ _ (_ :: _) _ _); (with_reducible apply wpl_loadCH); (· first | exact cell_u64 | exact cell_party | exact cell_cur | exact cell_i64); (· rfl); (· rfl); (· exact H); (· (repeat (first | (with_reducible exact List.mem_cons_self) | with_reducible apply List.mem_cons_of_mem))); (· with_reducible first | exact ofr_g0 .. | exact ofr_g1 .. | exact ofr_g2 .. | exact ofr_g3 .. | exact ofr_g4 ..); (simp only [Act.put, List.setIfInBounds_toArray, List.set_cons_zero, List.set_cons_succ]))
              | ((with_reducible refine AnsH.call (M _) H ?_); clear H; intro _ H))
            go_ret2
            have e1 : ofE L nx = 1 := by rw [HE2.out, HZ.out]; rfl
            exact .inr ⟨by rw [e1]; decide, by rw [e1]; rfl, H.tail⟩
          · have d3 : decide (x.sq ≤ z) = false := decide_eq_false hs
            have HZ := Lib.hid (show okO nx 0 L = okO nx x.sq (L.drop (k + 1)) by rw [hz, decide_eq_true (by omega)]; rfl)
            clear hz hb hok hs
            go_wp2_with (first
              | ((with_reducible show wpList _ _ _ (_ :: _) _ _); (with_reducible apply wpl_allocRH row_ofr); (· rfl); (· exact H); (clear H; intro px _ H); (simp only [Act.put, List.setIfInBounds_toArray, List.set_cons_zero, List.set_cons_succ]))
              | go_skip
              | ((with_reducible show wpList _ _ _ (_ :: _) _ _); (with_reducible apply wpl_loadRdR row_ofr); (· rfl); (· rfl); (· exact HR.out _ _ (fun _ h => h) H); (· first | rfl | exact (Nat.add_zero _).symm); (· exact hlen); (· decide); (· exact hrow); (simp only [Act.put, List.setIfInBounds_toArray, List.set_cons_zero, List.set_cons_succ]))
              | ((with_reducible show wpList _ _ _ (_ :: _) _ _); (with_reducible apply wpl_storeRH row_ofr); (· rfl); (· rfl); (· rfl); (· with_reducible exact ofr_cells ..); (· exact H); (· (repeat (first | (with_reducible exact List.mem_cons_self) | with_reducible apply List.mem_cons_of_mem))); (· (simp only [ofrA_sz, Nat.reduceAdd, Nat.reduceLeDiff, Nat.le_refl]; done)); (· with_reducible exact ofr_splice ..); (· (repeat (first | (with_reducible exact Repl.here) | with_reducible apply Repl.there))); (clear H; intro _ H); (simp only [Act.put, List.setIfInBounds_toArray, List.set_cons_zero, List.set_cons_succ]))
              | ((with_reducible show wpList _ _ _ (_ :: _) _ _); (with_reducible apply wpl_loadRH row_ofr); (· rfl); (· rfl); (· exact H); (· (repeat (first | (with_reducible exact List.mem_cons_self) | with_reducible apply List.mem_cons_of_mem))); (· (simp only [ofrA_sz, Nat.reduceAdd, Nat.reduceLeDiff, Nat.le_refl]; done)); (· with_reducible exact ofrA_all ..); (simp only [Act.put, List.setIfInBounds_toArray, List.set_cons_zero, List.set_cons_succ]))
              | ((with_reducible show wpList _ _ _ (_ :: _) _ _); (with_reducible apply wpl_loadCH); (· first | exact cell_u64 | exact cell_party | exact cell_cur | exact cell_i64); (· rfl); (· rfl); (· exact H); (· (repeat (first | (with_reducible exact List.mem_cons_self) | with_reducible apply List.mem_cons_of_mem))); (· with_reducible first | exact ofr_g0 .. | exact ofr_g1 .. | exact ofr_g2 .. | exact ofr_g3 .. | exact ofr_g4 ..); (simp only [Act.put, List.setIfInBounds_toArray, List.set_cons_zero, List.set_cons_succ]))
              | ((with_reducible refine AnsH.call (M _) H ?_); clear H; intro _ H))
            refine ⟨⟨k + 1, x.sq, by omega, by go_num, rfl, HZ.out, H.tail⟩, ?measure⟩
            case measure => simp [intOf]; omega
      · obtain rfl : k = n := by omega
        rw [List.drop_of_length_le (by rw [HL.out]; exact Nat.le_refl _), okO] at hz
        by_cases hs : nx ≤ z
        · have d3 : decide (nx ≤ z) = true := decide_eq_true hs
          have HZ := Lib.hid (show okO nx 0 L = false by rw [hz, decide_eq_false (by omega)])
          clear hz hs
          go_wp2_with (go_skip)
          go_ret2
          have e1 : ofE L nx = 1 := by rw [HE2.out, HZ.out]; rfl
          exact .inr ⟨by rw [e1]; decide, by rw [e1]; rfl, H⟩
        · have d3 : decide (nx ≤ z) = false := decide_eq_false hs
          have HZ := Lib.hid (show okO nx 0 L = true by rw [hz, decide_eq_true (by omega)])
          clear hz hs
          go_wp2_with (go_skip)
          refine (cloneO_H ea k ec L HL.out hn HR.out H).mono ?_
          clear H
          rintro e w2 ⟨v2, rfl, H⟩
          obtain ⟨a2, c2, rfl, _, _⟩ := RowT.form0 (H.ok _ List.mem_cons_self)
          go_wp2_with (first
            | ((with_reducible show wpList _ _ _ (_ :: _) _ _); (with_reducible apply wpl_buildBk2); (· rfl); (· rfl); (· rfl); (simp only [Act.put, List.setIfInBounds_toArray, List.set_cons_zero, List.set_cons_succ]))
            | ((with_reducible show wpList _ _ _ (_ :: _) _ _); (with_reducible apply wpl_boxRH); (· rfl); (· rfl); (· exact H); (clear H; intro pb _ H); (simp only [Act.put, List.setIfInBounds_toArray, List.set_cons_zero, List.set_cons_succ]))
            | go_skip)
          go_ret2
          exact .inl ⟨by rw [HE2.out, HZ.out]; rfl, _, _, rfl, H⟩
theorem sameOffers_P {L : List Ofr} (a b : Option Addr) (n c d : Nat) (hA : L.length = n) (hn : n ≤ 1000000) (RA : ∀ w', Heap W l w' → Rd w' a (ofrL L)) (RB : ∀ w', Heap W l w' → Rd w' b (ofrL L)) :
    AnsH W l 67 #[.slice a n c, .slice b n d] (.bool true) := by
  intro w H
  have S := sameO_P (W := W) (l := l) a b n c d hA hn RA RB
  clear RA RB
  go_enter Try.func67, Try.ntmps67
  go_wp2_with (first | go_skip | ((with_reducible refine AnsH.call (by assumption) H ?_); clear H; intro _ H))
  go_ret
  exact ⟨rfl, H⟩
end
end Go.Proofs.Ytacglcpjbepfnaa

/- books: Copy. -/
namespace Go.Proofs.Ytacglcpjbepfnaa
open Go.RowKit
set_option linter.unusedSimpArgs false
set_option linter.unusedVariables false
set_option maxRecDepth 100000
section
variable {ops : Array Oper} {rest : List Oper} {a : Act} {W w : World} {l : List Thing} {K : Act → Prop}
end
section
variable {W w : World} {l : List Thing}
set_option maxHeartbeats 8000000
end
end Go.Proofs.Ytacglcpjbepfnaa

/- What books need of countinghouseref02: May, Compare. (Printed by gen/refb.py out of the texts of seat d.) -/
/-! Bit192 -/
/- Numbers as rows of 192 bits: what adding, taking off, shifting and dividing bit by bit come to. -/
namespace Go.Proofs.Ytacglcpjbepfnaa
open Go.RowKit

def bitsA (x : Nat) : Array Value := Array.ofFn (n := 192) fun i => Value.bool (x.testBit i)
theorem bitsA_size (x : Nat) : (bitsA x).size = 192 := by unfold bitsA; simp
theorem bitsA_get (x i : Nat) : (bitsA x)[i]? = if i < 192 then some (.bool (x.testBit i)) else none := by
  unfold bitsA; rw [Array.getElem?_ofFn]; split <;> rfl
/-- A sign, and bits. -/
def wholeA (s : Bool) (x : Nat) : Array Value := #[.bool s] ++ bitsA x
theorem wholeA_get (s : Bool) (x i : Nat) : (wholeA s x)[i]? = if i = 0 then some (.bool s) else if i - 1 < 192 then some (.bool (x.testBit (i - 1))) else none := by
  unfold wholeA
  rcases i with _ | i
  · rw [Array.getElem?_append_left (by simp)]; simp
  · rw [Array.getElem?_append_right (by simp)]; simp [bitsA_get]
theorem wholeA_ext1 (s : Bool) (x : Nat) : (wholeA s x).extract 1 (1 + 192) = bitsA x := by
  unfold wholeA
  apply Array.ext_getElem?
  intro i
  rw [Array.getElem?_extract, bitsA_get]
  by_cases h : i < 192
  · rw [if_pos (by simp [bitsA_size]; omega), if_pos h, Array.getElem?_append_right (by simp)]
    simp [bitsA_get, h]
  · rw [if_neg (by simp [bitsA_size]; omega), if_neg h]
def bit (x k : Nat) : Nat := (x.testBit k).toNat
end Go.Proofs.Ytacglcpjbepfnaa

/-! Ref01a -/
/- countinghouseref01 over rows of 192 bits. -/
namespace Go.Proofs.Ytacglcpjbepfnaa
open Go.RowKit
set_option linter.unusedSimpArgs false
set_option linter.unusedVariables false

attribute [local go_sem high] bitsA_get wholeA_get
end Go.Proofs.Ytacglcpjbepfnaa

/-! Build -/
/- Whole numbers that are built out of a sign and bits. -/
namespace Go.Proofs.Ytacglcpjbepfnaa
open Go.RowKit
set_option linter.unusedSimpArgs false
set_option linter.unusedVariables false

section
variable {ops : Array Oper} {rest : List Oper} {a : Act} {w : World} {Q : Exit → Act → World → Prop} {C : World → Prop} {K : Act → Prop} {dst : Option Tmp} {ty : TypeId} {pos : String} {after : Array Edge} {guard : Option (Nat × Bool)} {x y : Operand} {s : Bool} {m : Nat}
end
end Go.Proofs.Ytacglcpjbepfnaa

/-! Ref01b -/
/- countinghouseref01: which of two sizes is greater, a number as a whole one. -/
namespace Go.Proofs.Ytacglcpjbepfnaa
open Go.RowKit
set_option linter.unusedSimpArgs false
set_option linter.unusedVariables false
attribute [local go_sem high] bitsA_get wholeA_get

end Go.Proofs.Ytacglcpjbepfnaa

/-! DivPlain -/
/- The plain arithmetic of a division of 128 bits by 64. No program in sight. -/
namespace Go.Proofs.Ytacglcpjbepfnaa

end Go.Proofs.Ytacglcpjbepfnaa

/-! Div64 -/
/- math/bits.Div64: the quotient and what is left, where the upper word is less than the divisor. -/
namespace Go.Proofs.Ytacglcpjbepfnaa
open Go.RowKit

end Go.Proofs.Ytacglcpjbepfnaa

/-! Exacts -/
/- What the functions of exacts come to: exact numbers. Each is the number itself where it is one of 64 bits. -/
namespace Go.Proofs.Ytacglcpjbepfnaa
open Go.RowKit

def badBy (a num den : Int) : Prop := a < 0 ∨ num < 0 ∨ den < 1
instance (a num den : Int) : Decidable (badBy a num den) := by unfold badBy; infer_instance
end Go.Proofs.Ytacglcpjbepfnaa

/-! Ref01n -/
/- countinghouseref01: a whole number as a number of 64 bits. -/
namespace Go.Proofs.Ytacglcpjbepfnaa
open Go.RowKit
set_option linter.unusedSimpArgs false
set_option linter.unusedVariables false
attribute [local go_sem high] bitsA_get wholeA_get
end Go.Proofs.Ytacglcpjbepfnaa

/-! Ref01c -/
/- countinghouseref01: the sum of two whole numbers, their product. -/
namespace Go.Proofs.Ytacglcpjbepfnaa
open Go.RowKit
set_option linter.unusedSimpArgs false
set_option linter.unusedVariables false
attribute [local go_sem high] bitsA_get wholeA_get

end Go.Proofs.Ytacglcpjbepfnaa

/-! Held -/
/- A region that draws its order, rows loaded and stored in it: the loads first, under what holds throughout; then the stores. -/
namespace Go.Proofs.Ytacglcpjbepfnaa
open Go.RowKit

section
variable {ops : Array Oper} {md : Region.Mode} {S : World → Prop} {a : Act} {w w' : World} {Q : Exit → Act → World → Prop} {T n : Nat} {z : Array Value} {fuel i : Nat} {listed : Array Bool}
  {dst : Option Tmp} {ty : TypeId} {pos : String} {after : Array Edge} {guard : Option (Nat × Bool)} {x y : Operand} {b off : Nat} {c c0 c1 : Array Value} {t : TypeId} {f : Nat × Nat}
end
end Go.Proofs.Ytacglcpjbepfnaa

/-! Ref01d -/
/- countinghouseref01: a size by another one. -/
namespace Go.Proofs.Ytacglcpjbepfnaa
open Go.RowKit
set_option linter.unusedSimpArgs false
set_option linter.unusedVariables false
attribute [local go_sem high] bitsA_get wholeA_get

end Go.Proofs.Ytacglcpjbepfnaa

/-! Ref01e -/
/- countinghouseref01: Add, Sub, Mul. -/
namespace Go.Proofs.Ytacglcpjbepfnaa
open Go.RowKit
set_option linter.unusedSimpArgs false
set_option linter.unusedVariables false

theorem wholeA_set0 (s t : Bool) (x : Nat) : (wholeA s x).setIfInBounds 0 (.bool t) = wholeA t x := by
  unfold wholeA
  apply Array.ext'
  simp
attribute [local go_sem high] bitsA_get wholeA_get wholeA_set0
end Go.Proofs.Ytacglcpjbepfnaa

/-! ArrEq -/
/- Two rows of bits are the same just where each bit is. -/
namespace Go.Proofs.Ytacglcpjbepfnaa
open Go.RowKit
set_option linter.unusedSimpArgs false
set_option linter.unusedVariables false

section
variable {ops : Array Oper} {rest : List Oper} {a : Act} {w : World} {Q : Exit → Act → World → Prop} {dst : Option Tmp} {ty : TypeId} {pos : String} {after : Array Edge} {guard : Option (Nat × Bool)} {p q : Operand} {x y : Nat}
end
end Go.Proofs.Ytacglcpjbepfnaa

/-! Ref01f -/
/- countinghouseref01: Down, Up. -/
namespace Go.Proofs.Ytacglcpjbepfnaa
open Go.RowKit
set_option linter.unusedSimpArgs false
set_option linter.unusedVariables false

theorem wholeA_part1 (s : Bool) (x : Nat) : (wholeA s x).extract 1 193 = bitsA x := wholeA_ext1 s x
theorem run_field1 (s : Bool) (x : Nat) (w : World) : (Instr.field 176 (.agg (wholeA s x)) 1).run Try.prog w = .ok (.agg (bitsA x)) w := by
  have hu := Try.underlying176
  have hu2 := Try.underlying174
  have hs : (sizeOf 174).run Try.prog w = .ok 192 w := by kernel_rfl
  unfold Instr.field
  rw [Sem.run_bind, run_underlying hu]
  simp [part, isAgg, run_underlying hu2, hs, asAgg, wholeA_part1]
attribute [local go_sem high] bitsA_get wholeA_get wholeA_part1 run_field1
end Go.Proofs.Ytacglcpjbepfnaa

/-! Ref01g -/
/- countinghouseref01: Down, Up, as the program's. -/
namespace Go.Proofs.Ytacglcpjbepfnaa
open Go.RowKit
set_option linter.unusedSimpArgs false
set_option linter.unusedVariables false

end Go.Proofs.Ytacglcpjbepfnaa

/-! Sum -/
/- exacts.Sum: the sum of numbers, in 128 bits. -/
namespace Go.Proofs.Ytacglcpjbepfnaa
open Go.RowKit

end Go.Proofs.Ytacglcpjbepfnaa

/-! Lives01 -/
/- The chapter's example of exact numbers: it holds. -/
namespace Go.Proofs.Ytacglcpjbepfnaa
open Go.RowKit

end Go.Proofs.Ytacglcpjbepfnaa

/-! Two -/
/- A block of two cells: what is read of it, and what it is behind a store. -/
namespace Go.Proofs.Ytacglcpjbepfnaa
open Go.RowKit

end Go.Proofs.Ytacglcpjbepfnaa

/-! Rats -/
/- What the functions of rats come to: a rate in its lowest terms. -/
namespace Go.Proofs.Ytacglcpjbepfnaa
open Go.RowKit

instance (n d : Int) : Decidable (PosT n d) := by unfold PosT; infer_instance
end Go.Proofs.Ytacglcpjbepfnaa

/-! RatEq -/
/- Two rates are the same just where their terms are. -/
namespace Go.Proofs.Ytacglcpjbepfnaa
open Go.RowKit
end Go.Proofs.Ytacglcpjbepfnaa

/-! Rats2 -/
/- rats: which rates may be; their order; what comes of a number by them. -/
namespace Go.Proofs.Ytacglcpjbepfnaa
open Go.RowKit

attribute [local go_sem high] ratEq_run ratSame_self
end Go.Proofs.Ytacglcpjbepfnaa

/-! Rats3 -/
/- rats: the inverse of a rate; what comes of a number by a rate. -/
namespace Go.Proofs.Ytacglcpjbepfnaa
open Go.RowKit

attribute [local go_sem high] ratEq_run ratSame_self
end Go.Proofs.Ytacglcpjbepfnaa

/-! Rats4 -/
/- rats.Compare: which of two rates is less. -/
namespace Go.Proofs.Ytacglcpjbepfnaa
open Go.RowKit

end Go.Proofs.Ytacglcpjbepfnaa

/-! Ref02 -/
/- countinghouseref02: the greatest common divisor by taking off; rates. -/
namespace Go.Proofs.Ytacglcpjbepfnaa
open Go.RowKit
set_option linter.unusedSimpArgs false
set_option linter.unusedVariables false

attribute [local go_sem high] run_max1
/-- What is taken off. -/
theorem off_facts (A B : Nat) (hB : 1 ≤ B) (h : B < A) : 0 ≤ (B : Int) * max 1 ((A : Int) / B - 1) ∧ (B : Int) * max 1 ((A : Int) / B - 1) ≤ (A : Int) - 1 ∧ Nat.gcd ((A : Int) - (B : Int) * max 1 ((A : Int) / B - 1)).toNat B = Nat.gcd A B := by
  have e : (A : Int) / B = ((A / B : Nat) : Int) := by simp
  rw [e]
  have h1 : 1 ≤ A / B := (Nat.one_le_div_iff (by omega)).2 (by omega)
  have h2 := Nat.div_mul_le_self A B
  generalize A / B = q at *
  obtain ⟨k, hk, hk2⟩ : ∃ k : Nat, max 1 ((q : Int) - 1) = k ∧ B * k ≤ A - 1 := by
    by_cases hq : q ≤ 2
    · exact ⟨1, by omega, by omega⟩
    · refine ⟨q - 1, by omega, ?_⟩
      have : B * (q - 1) = q * B - B := by rw [Nat.mul_sub, Nat.mul_one, Nat.mul_comm]
      omega
  rw [hk]
  have e2 : (B : Int) * k = ((B * k : Nat) : Int) := by simp
  rw [e2]
  refine ⟨by omega, by omega, ?_⟩
  have e3 : ((A : Int) - ((B * k : Nat) : Int)).toNat = A - B * k := by omega
  rw [e3, Nat.gcd_comm, Nat.gcd_sub_mul_left_right (by omega), Nat.gcd_comm]
set_option maxRecDepth 100000 in
set_option maxHeartbeats 1000000 in
theorem common_ans (A B : Nat) (hA : 1 ≤ A) (hB : 1 ≤ B) (hA1 : A ≤ 9223372036854775807) (hB1 : B ≤ 9223372036854775807) : Ans 153 #[.int .i64 (A : Int), .int .i64 (B : Int)] (.int .i64 (Nat.gcd A B : Nat)) := by
  intro w
  have HG := Lib.hid (show Nat.gcd A B = Nat.gcd A B from rfl)
  generalize hg : Nat.gcd A B = g at *
  go_enter Try.func153, Try.ntmps153
  go_wp2_with fail
  go_loop [0, 1] (fun a b => ∃ x y : Nat, 1 ≤ x ∧ x ≤ A ∧ 1 ≤ y ∧ y ≤ B ∧ Hid (Nat.gcd x y = g) ∧ a = .int .i64 (x : Int) ∧ b = .int .i64 (y : Int)) (fun a b => (intOf a + intOf b).toNat)
  case atStart => exact ⟨A, B, hA, Nat.le_refl _, hB, Nat.le_refl _, Lib.hid hg, rfl, rfl⟩
  case round =>
    clear HG hg
    obtain ⟨x, y, hx, hx1, hy, hy1, HG, rfl, rfl⟩ := hrel
    rcases Nat.lt_trichotomy x y with h | rfl | h
    · have k1 : ((x : Int) != y) = true := by simp; omega
      have k2 : decide ((y : Int) < x) = false := by simp; omega
      obtain ⟨f1, f2, f3⟩ := off_facts y x hx h
      have q0 : 0 ≤ (y : Int) / x := Int.ediv_nonneg (by omega) (by omega)
      have q1 : (y : Int) / x ≤ y := Int.ediv_le_self _ (by omega)
      have F3 := Lib.hid f3
      clear f3
      go_wp2_with fail
      go_round
      case rel =>
        refine ⟨x, ((y : Int) - (x : Int) * max 1 ((y : Int) / x - 1)).toNat, hx, hx1, by omega, by omega, Lib.hid ?_, rfl, by congr 1; omega⟩
        rw [Nat.gcd_comm, F3.out, Nat.gcd_comm]; exact HG.out
      case measure =>
        have : 1 ≤ (x : Int) * max 1 ((y : Int) / x - 1) := by
          have := Int.mul_le_mul_of_nonneg_left (show (1 : Int) ≤ max 1 ((y : Int) / x - 1) by omega) (show (0 : Int) ≤ x by omega)
          omega
        simp [intOf]; omega
    · have k1 : ((x : Int) != x) = false := by simp
      have hg := HG.out
      rw [Nat.gcd_self] at hg
      subst hg
      go_wp2_with fail
      go_ret
      exact ⟨rfl, (by repeat (first | exact Ext.refl _ | refine Ext.alloc ?_ _ | refine Ext.ext ?_ _ | refine Ext.drew ?_))⟩
    · have k1 : ((x : Int) != y) = true := by simp; omega
      have k2 : decide ((y : Int) < x) = true := by simp; omega
      obtain ⟨f1, f2, f3⟩ := off_facts x y hy h
      have q0 : 0 ≤ (x : Int) / y := Int.ediv_nonneg (by omega) (by omega)
      have q1 : (x : Int) / y ≤ x := Int.ediv_le_self _ (by omega)
      have F3 := Lib.hid f3
      clear f3
      go_wp2_with fail
      go_round
      case rel =>
        refine ⟨((x : Int) - (y : Int) * max 1 ((x : Int) / y - 1)).toNat, y, by omega, by omega, hy, hy1, Lib.hid ?_, by congr 1; omega, rfl⟩
        rw [F3.out]; exact HG.out
      case measure =>
        have : 1 ≤ (y : Int) * max 1 ((x : Int) / y - 1) := by
          have := Int.mul_le_mul_of_nonneg_left (show (1 : Int) ≤ max 1 ((x : Int) / y - 1) by omega) (show (0 : Int) ≤ y by omega)
          omega
        simp [intOf]; omega
end Go.Proofs.Ytacglcpjbepfnaa

/-! Ref02b -/
/- countinghouseref02: Of, May, Inverse. -/
namespace Go.Proofs.Ytacglcpjbepfnaa
open Go.RowKit
set_option linter.unusedSimpArgs false
set_option linter.unusedVariables false

set_option maxRecDepth 100000 in
set_option maxHeartbeats 1000000 in
theorem rmay_ans (x y : Int) (h : In64p x y) : Ans 129 #[.agg #[.int .i64 x, .int .i64 y]] (.bool (mayB x y)) := by
  intro w
  obtain ⟨x0, x1, y0, y1⟩ := h
  by_cases h1 : x < 1
  · have k1 : decide (x < 1) = true := by simpa using h1
    rw [show mayB x y = false from decide_eq_false (fun hh => by have := hh.1.1; omega)]
    clear h1
    go_enter Try.func129, Try.ntmps129
    go_wp2_with fail
    go_ret
    exact ⟨rfl, (by repeat (first | exact Ext.refl _ | refine Ext.alloc ?_ _ | refine Ext.ext ?_ _ | refine Ext.drew ?_))⟩
  · have k1 : decide (x < 1) = false := by simpa using h1
    by_cases h2 : y < 1
    · have k2 : decide (y < 1) = true := by simpa using h2
      rw [show mayB x y = false from decide_eq_false (fun hh => by have := hh.1.2; omega)]
      clear h1 h2
      go_enter Try.func129, Try.ntmps129
      go_wp2_with fail
      go_ret
      exact ⟨rfl, (by repeat (first | exact Ext.refl _ | refine Ext.alloc ?_ _ | refine Ext.ext ?_ _ | refine Ext.drew ?_))⟩
    · have k2 : decide (y < 1) = false := by simpa using h2
      by_cases h3 : 1099511627776 < x
      · have k3 : decide (1099511627776 < x) = true := by simpa using h3
        rw [show mayB x y = false from decide_eq_false (fun hh => by have := hh.2.2.1; omega)]
        clear h1 h2 h3
        go_enter Try.func129, Try.ntmps129
        go_wp2_with fail
        go_ret
        exact ⟨rfl, (by repeat (first | exact Ext.refl _ | refine Ext.alloc ?_ _ | refine Ext.ext ?_ _ | refine Ext.drew ?_))⟩
      · have k3 : decide (1099511627776 < x) = false := by simpa using h3
        by_cases h4 : 1099511627776 < y
        · have k4 : decide (1099511627776 < y) = true := by simpa using h4
          rw [show mayB x y = false from decide_eq_false (fun hh => by have := hh.2.2.2; omega)]
          clear h1 h2 h3 h4
          go_enter Try.func129, Try.ntmps129
          go_wp2_with fail
          go_ret
          exact ⟨rfl, (by repeat (first | exact Ext.refl _ | refine Ext.alloc ?_ _ | refine Ext.ext ?_ _ | refine Ext.drew ?_))⟩
        · have k4 : decide (1099511627776 < y) = false := by simpa using h4
          obtain ⟨A, rfl⟩ : ∃ A : Nat, x = A := ⟨x.toNat, by omega⟩
          obtain ⟨B, rfl⟩ : ∃ A : Nat, y = A := ⟨y.toNat, by omega⟩
          have hc := common_ans A B (by omega) (by omega) (by omega) (by omega)
          have e : mayB (A : Int) B = (((Nat.gcd A B : Nat) : Int) == 1) := by
            unfold mayB
            rw [Bool.eq_iff_iff]
            simp only [decide_eq_true_eq, beq_iff_eq]
            constructor
            · intro hh; have := hh.2.1; rw [Int.gcd_natCast_natCast] at this; omega
            · intro hh; exact ⟨⟨by omega, by omega⟩, by rw [Int.gcd_natCast_natCast]; omega, by omega, by omega⟩
          rw [e]
          clear h1 h2 h3 h4 e
          generalize Nat.gcd A B = g at *
          go_enter Try.func129, Try.ntmps129
          go_wp2_with ((with_reducible refine Ans.call (by assumption) ?_); intro _)
          go_ret
          exact ⟨rfl, (by repeat (first | exact Ext.refl _ | refine Ext.alloc ?_ _ | refine Ext.ext ?_ _ | refine Ext.drew ?_))⟩
end Go.Proofs.Ytacglcpjbepfnaa

/-! Ref02c -/
/- countinghouseref02: Of, Compare, Down, Up. -/
namespace Go.Proofs.Ytacglcpjbepfnaa
open Go.RowKit
set_option linter.unusedSimpArgs false
set_option linter.unusedVariables false
attribute [local go_sem high] bitsA_get wholeA_get wholeA_part1 run_field1

end Go.Proofs.Ytacglcpjbepfnaa

/-! Make -/
/- A region that draws its order: operations that only read, or call what only makes memory; one that makes a row, wherever it comes among them; and, behind all of these, others in one order. One walk serves every order. -/
namespace Go.Proofs.Ytacglcpjbepfnaa
open Go.RowKit

section
variable {P : Program} {ops : Array Oper} {md : Region.Mode} {W : World} {z : Array Value} {T : TypeId}
/-- From each world behind W the operation yields v, and leaves a world behind that one. -/
def YieldsE (P : Program) (ops : Array Oper) (W : World) (o : Oper) (v : Value) (a : Act) : Prop := ∀ d, YieldsIn P ops (fun w' => ∃ e, w' = World.ext (World.ext W d) e) o v a
theorem YieldsE.of_same {o : Oper} {v : Value} {a a' : Act} (hy : YieldsE P ops W o v a) (he : execOp a'.eval o = execOp a.eval o)
    (hw : Region.wanted o (yielded ops a'.tmps) = Region.wanted o (yielded ops a.tmps)) : YieldsE P ops W o v a' := fun d => (hy d).of_same he hw
/-- The operation makes a row of these cells. -/
def MakesE (P : Program) (ops : Array Oper) (z : Array Value) (T : TypeId) (o : Oper) : Prop :=
  ∀ (a : Act) (w : World), Region.wanted o (yielded ops a.tmps) = true ∧ ∀ (K : Act → World → Prop) (Q : Exit → Act → World → Prop), K (a.put o.dst (.pointer (some ⟨w.heap.size, 0, none⟩))) (w.alloc (.cells z T)) → o.wp P a w K Q
def HeadE (P : Program) (md : Region.Mode) (ops : Array Oper) (W : World) (n m : Nat) (L : Option Nat → Array Bool → Act → Prop) : Nat → Option Nat → Array Bool → Act → Prop
  | 0, q, listed, a => L q listed a
  | f + 1, q, listed, a => Region.ready md ops listed ≠ [] ∧ ∀ i ∈ Region.ready md ops listed, i < n ∧ ∃ o, ops[i]? = some o ∧
      ((i = m ∧ ∀ p, HeadE P md ops W n m L f (some p) (listed.setIfInBounds i true) (a.put o.dst (.pointer (some ⟨p, 0, none⟩)))) ∨
       (i ≠ m ∧ ∃ v, YieldsE P ops W o v a ∧ HeadE P md ops W n m L f q (listed.setIfInBounds i true) (a.put o.dst v)))
theorem HeadE.any {n m g : Nat} {L : Option Nat → Array Bool → Act → Prop} {Q : Exit → Act → World → Prop} (hA : ∀ o, ops[m]? = some o → MakesE P ops z T o)
    (hL : ∀ q listed a w, Ext W w → (∀ p, q = some p → W.heap.size ≤ p ∧ blk w p = some (.cells z T)) → L q listed a → wpAny P md ops Q g listed a w) :
    ∀ (f : Nat) (q : Option Nat) (listed : Array Bool) (a : Act) (w : World), Ext W w → (∀ p, q = some p → W.heap.size ≤ p ∧ blk w p = some (.cells z T)) → HeadE P md ops W n m L f q listed a → wpAny P md ops Q (f + g) listed a w := by
  intro f
  induction f with
  | zero => intro q listed a w hw hq h; rw [Nat.zero_add]; exact hL _ _ _ _ hw hq h
  | succ f ih =>
    intro q listed a w hw hq h
    rw [show f + 1 + g = (f + g) + 1 by omega]
    refine ⟨fun h0 => absurd h0 h.1, fun i hi => ?_⟩
    obtain ⟨_, o, ho, h⟩ := h.2 i hi
    rcases h with ⟨rfl, h⟩ | ⟨_, v, hy, h⟩
    · unfold wpOp
      simp only [ho]
      rw [if_pos (hA o ho a w).1]
      exact .inl ((hA o ho a w).2 _ _ (ih _ _ _ _ (hw.alloc _) (fun p hp => by cases hp; exact ⟨hw.size, blk_here rfl⟩) (h _)))
    · obtain ⟨d, rfl⟩ := hw.out
      refine wpOp_of_qOp (C := fun w' => ∃ e, w' = World.ext (World.ext W d) e) (ext_of (Below.refl _ _)) (fun a' w' hw' ha' => ?_) ((hy d).qOp ho (K := fun a' => a' = a.put o.dst v) rfl)
      obtain ⟨e, rfl⟩ := hw'
      subst ha'
      exact ih _ _ _ _ (hw.ext e) (fun p hp => ⟨(hq p hp).1, blk_extS (hq p hp).2⟩) h
theorem HeadE.first {n m i : Nat} {oi : Oper} {v : Value} {L : Option Nat → Array Bool → Act → Prop} (hi : ops[i]? = some oi) (hsel : ∀ (j : Nat) (o : Oper) cs b, ops[j]? = some o → o.op ≠ .select cs b)
    (hs : Region.sinkB md ops n = true) (hc : Region.chainB md ops n = true) (hn : n < ops.size) (hin : i < n) (him : i ≠ m) (hdone : ∀ q listed a, L q listed a → ∀ j ∈ Region.ready md ops listed, n ≤ j) :
    ∀ (f : Nat) (q : Option Nat) (listed : Array Bool) (a : Act), HeadInv md ops n listed →
      (∀ j oj, ops[j]? = some oj → j ≠ i → listed.getD j true = false → (∀ e ∈ oj.after, Region.binds md e = true → e.on ≠ i) → oi.apart ops oj = true) →
      i ∈ Region.ready md ops listed → YieldsE P ops W oi v a → HeadE P md ops W n m L f q (listed.setIfInBounds i true) (a.put oi.dst v) → HeadE P md ops W n m L (f + 1) q listed a := by
  intro f
  induction f with
  | zero =>
    intro q listed a inv _ hr hy H
    refine ⟨fun h => by rw [h] at hr; simp at hr, fun j hj => ?_⟩
    have hjn : j < n := Nat.lt_of_not_le fun h => tail_waits hs hc hn inv _ i rfl hin (mem_ready.1 hr).1 j h hj
    refine ⟨hjn, ?_⟩
    by_cases e : j = i
    · subst e; exact ⟨oi, hi, .inr ⟨him, v, hy, H⟩⟩
    · have := hdone _ _ _ H j (ready_mono hj e)
      omega
  | succ f ih =>
    intro q listed a inv hfree hr hy H
    have hun := (mem_ready.1 hr).1
    refine ⟨fun h => by rw [h] at hr; simp at hr, fun j hj => ?_⟩
    have hjn : j < n := Nat.lt_of_not_le fun h => tail_waits hs hc hn inv _ i rfl hin hun j h hj
    refine ⟨hjn, ?_⟩
    by_cases e : j = i
    · subst e; exact ⟨oi, hi, .inr ⟨him, v, hy, H⟩⟩
    · obtain ⟨hjun, oj, hoj, hall⟩ := mem_ready.1 hj
      have hnot : ∀ e ∈ oj.after, Region.binds md e = true → e.on ≠ i := fun e he hb heq => by
        have := hall e he hb
        rw [heq, getD_both hun] at this
        cases this
      obtain ⟨h1, h2, h3⟩ := Oper.apart_spec (hfree j oj hoj e hjun hnot)
      have hsi := fun cs b => hsel i oi cs b hi
      have hsj := fun cs b => hsel j oj cs b hoj
      have keep : ∀ u, YieldsE P ops W oi v (a.put oj.dst u) := fun u => hy.of_same (execOp_put oi hsi a oj.dst u h3) (wanted_put oi a oj.dst u h3)
      have hfree' : ∀ k ok, ops[k]? = some ok → k ≠ i → (listed.setIfInBounds j true).getD k true = false →
          (∀ e ∈ ok.after, Region.binds md e = true → e.on ≠ i) → oi.apart ops ok = true := fun k ok hk hki hun hno => by
        refine hfree k ok hk hki ?_ hno
        by_cases hjk : j = k
        · subst hjk; exact hjun
        · rw [getD_set_ne true hjk] at hun; exact hun
      obtain ⟨_, o', ho', h⟩ := H.2 j (ready_mono hj e)
      obtain rfl : o' = oj := Option.some.inj (ho'.symm.trans hoj)
      refine ⟨o', hoj, ?_⟩
      rcases h with ⟨rfl, h⟩ | ⟨hm, u, hu, h⟩
      · refine .inl ⟨rfl, fun p => ih _ _ _ (inv.set hj hjn) hfree' (ready_mono hr (Ne.symm e)) (keep _) ?_⟩
        rw [Array.setIfInBounds_comm _ _ e, ← Act.put_comm a v _ h2]
        exact h p
      · refine .inr ⟨hm, u, hu.of_same (execOp_put o' hsj a oi.dst v h1).symm (wanted_put o' a oi.dst v h1).symm, ih _ _ _ (inv.set hj hjn) hfree' (ready_mono hr (Ne.symm e)) (keep _) ?_⟩
        rw [Array.setIfInBounds_comm _ _ e, ← Act.put_comm a v _ h2]
        exact h
theorem HeadE.last {n m : Nat} {om : Oper} {L : Option Nat → Array Bool → Act → Prop} (hom : ops[m]? = some om)
    (hs : Region.sinkB md ops n = true) (hc : Region.chainB md ops n = true) (hn : n < ops.size) (hin : m < n) (hdone : ∀ q listed a, L q listed a → ∀ j ∈ Region.ready md ops listed, n ≤ j)
    (q : Option Nat) (listed : Array Bool) (a : Act) (inv : HeadInv md ops n listed) (hr : m ∈ Region.ready md ops listed) (H : ∀ p, L (some p) (listed.setIfInBounds m true) (a.put om.dst (.pointer (some ⟨p, 0, none⟩)))) : HeadE P md ops W n m L 1 q listed a := by
  refine ⟨fun h => by rw [h] at hr; simp at hr, fun j hj => ?_⟩
  have hjn : j < n := Nat.lt_of_not_le fun h => tail_waits hs hc hn inv _ m rfl hin (mem_ready.1 hr).1 j h hj
  refine ⟨hjn, ?_⟩
  by_cases e : j = m
  · subst e; exact ⟨om, hom, .inl ⟨rfl, H⟩⟩
  · have := hdone _ _ _ (H 0) j (ready_mono hj e)
    omega
/-- The walk in the order of the text, the making last. -/
def wpER4 (P : Program) (ops : Array Oper) (W : World) (t : Option Tmp) (K : Nat → Act → Prop) : List Oper → Act → Prop
  | [], a => ∀ p, K p (a.put t (.pointer (some ⟨p, 0, none⟩)))
  | o :: l, a => ∃ v, YieldsE P ops W o v a ∧ wpER4 P ops W t K l (a.put o.dst v)
theorem HeadE.lex {n m g : Nat} {om : Oper} {K : Nat → Act → Prop} (hom : ops[m]? = some om) (hnm : n = m + 1) (hsel : Region.noSelect ops = true) (hs : Region.sinkB md ops n = true) (hc : Region.chainB md ops n = true) (hn : n < ops.size) :
    ∀ (l : List Oper) (k : Nat) (listed : Array Bool) (a : Act), (∀ j, j < l.length → l[j]? = ops[k + j]?) → k + l.length = m → HeadInv md ops n listed →
    Region.lexHead md ops g (l.length + 1) k listed = true → wpER4 P ops W om.dst K l a → HeadE P md ops W n m (fun q listed' a' => Region.seqB md ops g n listed' = true ∧ ∃ p, q = some p ∧ K p a') (l.length + 1) none listed a := by
  intro l
  induction l with
  | nil =>
    intro k listed a _ hk inv hB h
    obtain rfl : k = m := by simpa using hk
    subst hnm
    simp only [List.length_nil, Region.lexHead, Bool.and_eq_true] at hB
    exact HeadE.last hom hs hc hn (by omega) (fun _ _ _ hL => seqB_ready hL.1) none listed a inv (by simpa using hB.1.1) fun p => ⟨by simpa [Region.lexHead] using hB.2, p, rfl, h p⟩
  | cons o l ih =>
    intro k listed a hl hk inv hB h
    have h0 : ops[k]? = some o := by simpa using (hl 0 (by simp)).symm
    simp only [List.length_cons] at hk
    rw [List.length_cons, Region.lexHead] at hB
    simp only [Bool.and_eq_true] at hB
    have hr : k ∈ Region.ready md ops listed := by simpa using hB.1.1
    obtain ⟨v, hy, hK⟩ := h
    exact HeadE.first h0 (Region.noSelect_spec hsel) hs hc hn (by omega) (by omega) (fun _ _ _ hL => seqB_ready hL.1) (l.length + 1) none listed a inv (Region.free_spec h0 hB.1.2) hr hy
      (ih (k + 1) _ _ (fun j hj => by have := hl (j + 1) (by simp; omega); simpa [Nat.add_assoc, Nat.add_comm 1 j] using this) (by omega) (inv.set hr (by omega)) hB.2 hK)
end
end Go.Proofs.Ytacglcpjbepfnaa

/-! Ref02e -/
/- countinghouseref02: Compare. -/
namespace Go.Proofs.Ytacglcpjbepfnaa
open Go.RowKit
set_option linter.unusedSimpArgs false
set_option linter.unusedVariables false
attribute [local go_sem high] bitsA_get wholeA_get wholeA_part1 run_field1

end Go.Proofs.Ytacglcpjbepfnaa


/- A region that draws its order, where two allocs may come in either order. -/
namespace Go.Proofs.Ytacglcpjbepfnaa
open Go.RowKit
set_option linter.unusedVariables false
section
variable {P : Program} {ops : Array Oper} {md : Region.Mode} {W : World} {G : List Thing → Prop}
end
section
variable {W : World} {G : List Thing → Prop} {loud : List Nat} {K : List Thing → Act → Prop} {lo : List Oper} {ks : List (Nat × Option Nat)} {k : Nat} {l : List Thing} {a : Act} {T n : Nat} {z : Array Value}
theorem LoudG.perm {ops : Array Oper} {o : Oper} {k k' : List Thing → Value → Prop} (h : LoudG Try.prog ops W o l a k) (hk : ∀ l' u, k l' u → ∃ l2, l'.Perm l2 ∧ k' l2 u) : LoudG Try.prog ops W o l a k' :=
  ⟨h.1, fun w H => by
    obtain ⟨l', u, w', hr, H', hk1⟩ := h.2 w H
    obtain ⟨l2, hp, hk2⟩ := hk _ _ hk1
    exact ⟨l2, u, w', hr, H'.perm hp, hk2⟩⟩
end
end Go.Proofs.Ytacglcpjbepfnaa

/- A region that draws: a copy of a row made by append and a slice literal, in either order; an append, a store. -/
namespace Go.Proofs.Ytacglcpjbepfnaa
open Go.RowKit
set_option linter.unusedVariables false
section
variable {W : World} {G : List Thing → Prop} {loud : List Nat} {K : List Thing → Act → Prop} {lo : List Oper} {ks : List (Nat × Option Nat)} {k : Nat} {l r : List Thing} {a : Act} {dst : Option Tmp} {ty : TypeId} {pos : String} {after : Array Edge} {ops : Array Oper}
end
end Go.Proofs.Ytacglcpjbepfnaa

/- A quiet read of one cell. -/
namespace Go.Proofs.Ytacglcpjbepfnaa
open Go.RowKit
set_option linter.unusedSimpArgs false
set_option linter.unusedVariables false
set_option linter.unusedVariables false
section
variable {ops : Array Oper} {rest : List Oper} {a : Act} {w W : World} {l : List Thing}
theorem wpQ_loadCell {T : TypeId} {dst : Option Tmp} {ty : TypeId} {pos : String} {after : Array Edge} {guard : Option (Nat × Bool)} {x : Operand} {b off : Nat} {K : Act → Prop} {H : Heap W l w} (CT : CellTy T) (hw : Region.wanted ⟨dst, .load T x, ty, pos, after, guard⟩ (yielded ops a.tmps) = true) (hx : a.eval x = .pointer (some ⟨b, off, none⟩))
    {v : Value} (hc : ∀ w', Heap W l w' → w'.cell? ⟨b, off, none⟩ = some v)
    (h : wpQuiet Try.prog ops (fun w' => ∃ d, w' = H.any d) K rest (a.put dst v)) : wpQuiet Try.prog ops (fun w' => ∃ d, w' = H.any d) K (⟨dst, .load T x, ty, pos, after, guard⟩ :: rest) a := by
  refine BigFrame.wpQuiet_want hw fun K hK => ⟨v, ?_, hK _ h⟩
  rintro _ ⟨d, rfl⟩
  have hv := hc _ (H.any_heap d)
  simp only [World.cell?, if_true] at hv
  cases hb : (H.any d).heap[b]? with
  | none => rw [hb] at hv; cases hv
  | some o =>
    rw [hb] at hv
    cases o <;> first | (cases hv; done) | skip
    rename_i cs t f
    unfold Oper.quietAt execOp
    simp only [hx, Sem.run_bind, run_loadC CT hb hv]
    exact ⟨rfl, rfl⟩
end
section
variable {W w : World} {l : List Thing}
set_option maxRecDepth 100000
set_option maxHeartbeats 2000000
end
end Go.Proofs.Ytacglcpjbepfnaa
