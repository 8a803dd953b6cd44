/- Part 12 of what ProofNettingsPlay stands on: NetS, NoDeb, Sound9, NetD, Net5, Net3, Rnd7, Rnd8, Rnd9. -/
import Derived.Test.YtgobnamhdkbbeaaGreatNetPPart11
import Derived.Test.YtgobnamhdkbbeaaGreatShelfL
/- nettings: the debts in their order. -/
namespace Go.Proofs.YtgobnamhdkbbeaaGreat
open Go.RowKit Go.Sort
set_option linter.unusedSimpArgs false
set_option linter.unusedVariables false
set_option maxRecDepth 100000
set_option maxHeartbeats 2000000
instance : Inhabited Flw := ⟨⟨0, 0, 0⟩⟩
theorem lt_cfF (x y : Flw) : ltOf cfF x y = decide (cfF x y < 0) := rfl
theorem swoF : SWO (ltOf cfF) where
  irrefl x := by rw [lt_cfF, decide_eq_false_iff_not, cfF_lt]; omega
  trans x y z h1 h2 := by rw [lt_cfF, decide_eq_true_eq, cfF_lt] at *; omega
  ntrans x y z h1 h2 := by rw [lt_cfF, decide_eq_false_iff_not, cfF_lt] at *; omega
theorem order13 (x y : Flw) : AnsG 29 #[.agg (flow (x.f : Int) (x.t : Int) x.n), .agg (flow (y.f : Int) (y.t : Int) y.n)] (.int .i64 (cfF x y)) := by
  intro w
  unfold cfF
  have c2 := AnsG.same (cmpP_ans x.f y.f)
  have c3 := AnsG.same (cmpP_ans x.t y.t)
  obtain ⟨xr, xd, xn⟩ := x
  obtain ⟨yr, yd, yn⟩ := y
  simp only at c2 c3 ⊢
  have h1 : blk ((w.alloc (.cells (flow (xr : Int) (xd : Int) xn) 53)).alloc (.cells (flow (yr : Int) (yd : Int) yn) 53)) w.heap.size = some (.cells (flow (xr : Int) (xd : Int) xn) 53 (0, 0)) := by
    unfold blk
    rw [Below.heap_alloc _ _ _ (by simp)]
    exact heap_alloc_new w _
  have h2 : blk ((w.alloc (.cells (flow (xr : Int) (xd : Int) xn) 53)).alloc (.cells (flow (yr : Int) (yd : Int) yn) 53)) (w.heap.size + 1) = some (.cells (flow (yr : Int) (yd : Int) yn) 53 (0, 0)) := by
    have := heap_alloc_new (w.alloc (.cells (flow (xr : Int) (xd : Int) xn) 53)) (.cells (flow (yr : Int) (yd : Int) yn) 53)
    simpa [blk] using this
  have hg : Grw w ((w.alloc (.cells (flow (xr : Int) (xd : Int) xn) 53)).alloc (.cells (flow (yr : Int) (yd : Int) yn) 53)) := ((Grw.refl w).alloc _).alloc _
  generalize Lib.compareInt (xr : Int) (yr : Int) = b at *
  generalize Lib.compareInt (xd : Int) (yd : Int) = c at *
  generalize hw0 : ((w.alloc (.cells (flow (xr : Int) (xd : Int) xn) 53)).alloc (.cells (flow (yr : Int) (yd : Int) yn) 53)) = w0 at *
  have HW := Lib.hid hw0
  clear hw0
  go_enter Tryz.func29, Tryz.ntmps29
  go_wp2_with (go_skip)
  rw [HW.out]
  refine wp_region_G_tail 10 (by kernel_rfl) (by kernel_rfl) ?_
  simp only [List.take_succ_cons, List.take_zero, List.drop_succ_cons, List.drop_zero]
  repeat (first
    | go_big_quiet_skip
    | ((with_reducible apply wpQ_loadCG); (· exact cell_party); (· rfl); (· rfl); (· first | exact h1 | exact h2); (· with_reducible first | exact flow_g0 .. | exact flow_g1 ..); (simp only [Act.put, List.setIfInBounds_toArray, List.set_cons_zero, List.set_cons_succ]))
    | go_big_quiet_step (with_reducible exact AnsG.quiet (by assumption)))
  refine wpQuiet_nil ?_
  clear h1 h2
  intro w1 g1
  have g2 := hg.trans g1
  go_wp2_with (go_skip)
  have hb : Rd (w1.alloc (.cells #[.int .i64 b, .int .i64 c] 3)) (some ⟨w1.heap.size, 0, none⟩) ([b, c].map (Value.int .i64)) := by
    intro i hi
    refine ⟨_, _, rfl, ?_⟩
    rw [cell_of_row _ _ (0 + i) _ _ _ (heap_alloc_new w1 _)]
    simp at hi
    simp [hi]
  refine (or_C _ 2 2 [b, c] rfl (by omega) _ hb).mono ?_
  clear hb
  rintro e w' ⟨rfl, rfl⟩
  go_wp2_with (go_skip)
  go_ret
  exact ⟨rfl, g2.alloc _⟩
theorem insF_none (p : Option Addr) (cap : Nat) (fv : Value) (w : World) :
    Calls Tryz.prog 72 #[.slice p 0 cap, .int .i64 0, .int .i64 0, fv] w fun e w' => e = .returned (.tuple #[]) ∧ w' = w := by
  go_enter Tryz.func72, Tryz.ntmps72
  go_wp2
  refine wp_loop_rounds 1 ?_
  rw [rounds_succ]
  go_wp2
  go_end0
  exact ⟨rfl, rfl⟩
theorem pdqF_none (p : Option Addr) (cap : Nat) (lim : Int) (fv : Value) (w : World) :
    Calls Tryz.prog 55 #[.slice p 0 cap, .int .i64 0, .int .i64 0, .int .i64 lim, fv] w fun e w' => e = .returned (.tuple #[]) ∧ w' = w := by
  have hi := fun W => insF_none p cap fv W
  go_enter Tryz.func55, Tryz.ntmps55
  go_wp2
  refine wp_loop_rounds 1 ?_
  rw [rounds_succ]
  go_wp2_with (first | go_skip | ((refine (hi _).mono ?_); rintro e w' ⟨rfl, rfl⟩))
  (try simp only [Exit.inBlock, Exit.then])
  refine bodyPost_ret (results_none rfl _ _ _) rfl ?_
  exact ⟨rfl, rfl⟩
theorem sortF_none (p : Option Addr) (cap : Nat) (fv : Value) (w : World) :
    Calls Tryz.prog 28 #[.slice p 0 cap, fv] w fun e w' => e = .returned (.tuple #[]) ∧ w' = w := by
  have hp := fun lim W => pdqF_none p cap lim fv W
  have hl : ∀ W, Calls Tryz.prog 56 #[.int .u64 0] W fun e w' => e = .returned (.int .i64 (Lib.bitLen 0 : Nat)) ∧ w' = W := fun W => by
    have h := Go.Proofs.Any.bits_Len (SlLaysF0.n15.bits (P := Tryz.prog) (ρ := Tryz.sortFlow_ren) { Tryz.sortFlow with }) 0 W (by omega) (by omega)
    exact h
  go_enter Tryz.func28, Tryz.ntmps28
  go_wp2_with (first | go_skip | ((refine (hl _).mono ?_); rintro e w' ⟨rfl, rfl⟩) | ((refine (hp _ _).mono ?_); rintro e w' ⟨rfl, rfl⟩))
  go_end0
  exact ⟨rfl, rfl⟩
theorem flwV_len (x : Flw) : (flwV x).length = 3 := rfl
section
variable {W w : World} {l : List Thing} {g off n c : Nat}
theorem cmpLays_dbt (blk off size : Nat) (w : World) : CmpLays Tryz.prog 29 #[] flwV 3 cfF blk off size w := fun m os dk hs x y => order13 x y _
theorem fsort_H {L M : List Flw} (H : Heap W (OwnT 53 3 (.slice (some ⟨g, off, none⟩) n c) n (flwL L) :: l) w) (hn : L.length = n) (hb : n ≤ 1000000) (hp : L.Perm M) (hM : M.Pairwise fun y x => cfF y x < 0) :
    Calls Tryz.prog 28 #[.slice (some ⟨g, off, none⟩) n c, .func (.func 29) #[] #[]] w fun e w' => e = .returned (.tuple #[]) ∧ Heap W (OwnT 53 3 (.slice (some ⟨g, off, none⟩) n c) n (flwL M) :: l) w' := by
  have hsz : L.toArray.size = n := by simpa using hn
  have eg : ∀ args w, (callFunc 29 args).run Tryz.prog w = .ok (.enter 29 args) w := enters_of Tryz.func29 (by kernel_rfl) rfl
  have hcon := AnyQ.slices_SortFunc Tryz.sortFlow 3 Tryz.isAgg53 Tryz.sizeOf53 flwV (fun _ => rfl) (fun x v hv => by simp [flwV] at hv; rcases hv with rfl | rfl | rfl <;> rfl) cfF swoF 29 #[] g off c L.toArray w eg (cmpLays_dbt g off _ w) (sortG_holds flwV_len (by omega) (H.ok _ List.mem_cons_self) hn) (slG_lt H) (by omega)
  change Calls Tryz.prog 28 _ _ _ at hcon
  rw [hsz] at hcon
  refine hcon.mono fun e w' ⟨he, d', k, os, h1, h2, hw⟩ => ⟨he, ?_⟩
  subst hw
  exact sortG_heap flwV_len (by omega) H hn (by rw [hsz]; exact h1) (sortedG cfF_asym hM (fun x _ y _ h => by rw [lt_cfF]; exact decide_eq_true h) (by simpa using hp) (by rw [hsz]; exact h1) (by rw [hsz]; exact h2))
end
end Go.Proofs.YtgobnamhdkbbeaaGreat

/- Lines without their debts. (Plain.) -/
namespace Go.Proofs.YtgobnamhdkbbeaaGreat
end Go.Proofs.YtgobnamhdkbbeaaGreat

/- countinghouselaw09: Moved, Sound. -/
namespace Go.Proofs.YtgobnamhdkbbeaaGreat
open Go.RowKit
set_option linter.unusedSimpArgs false
set_option linter.unusedVariables false
set_option maxRecDepth 100000
section
variable {W w : World} {l r s r2 s2 : List Thing} {p q p2 q2 : Nat} {S S2 : Lgr} {ops : Array Oper} {rest : List Oper} {a : Act}
theorem llinesN (G : S.Good) (h1 : Pull l (LdC p S.P (some q)) r) (h2 : Pull r (LdM q S.L) s) (H : Heap W l w) : Calls Tryz.prog 26 #[.pointer (some ⟨p, 0, none⟩)] w fun e w' => ∃ g c, e = .returned (.slice (some ⟨g, 0, none⟩) S.L.length c) ∧ S.L.length ≤ c ∧ c ≤ maxLen ∧ Heap W (RowT 65 5 (.slice (some ⟨g, 0, none⟩) S.L.length c) S.L.length (linL S.L) :: l) w' := by
  refine (llines_H G (H.top2 h1 h2)).mono ?_
  rintro e w' ⟨g, c, rfl, h3, h4, H⟩
  exact ⟨g, c, rfl, h3, h4, H.perm (.cons _ (h1.perm.trans (h2.perm.cons _)).symm)⟩
set_option maxHeartbeats 8000000
end
end Go.Proofs.YtgobnamhdkbbeaaGreat

/- nettings: kept, Debts. -/
namespace Go.Proofs.YtgobnamhdkbbeaaGreat
open Go.RowKit Go.Sort
set_option linter.unusedSimpArgs false
set_option linter.unusedVariables false
set_option maxRecDepth 100000
def LinSm (x : Lin) : Prop := (0 ≤ x.cr ∧ x.cr ≤ 255) ∧ (0 ≤ x.db ∧ x.db ≤ 255) ∧ (0 ≤ x.cu ∧ x.cu ≤ 255)
theorem Lgr.Good.sm {S : Lgr} (G : S.Good) : ∀ x ∈ S.L, LinSm x := fun x hx => by
  have h1 := G.small hx
  have h2 := (G.ok x hx).cu
  exact ⟨by omega, by omega, by omega⟩
theorem keptD_take {L : List Lin} {c k : Nat} {x : Lin} (h : L[k]? = some x) : keptD (L.take (k + 1)) c = keptD (L.take k) c ++ if owes c x = true then [flwOf x] else [] := by
  unfold keptD
  rw [List.take_add_one, h, Option.toList_some, List.filter_append, List.map_append]
  congr 1
  by_cases ho : owes c x = true
  · rw [if_pos ho, List.filter_cons_of_pos ho]; rfl
  · rw [if_neg ho, List.filter_cons_of_neg ho]; rfl
theorem keptD_len (L : List Lin) (c : Nat) : (keptD L c).length ≤ L.length := by
  unfold keptD
  rw [List.length_map]
  exact List.length_filter_le ..
theorem flwOf_val {x : Lin} (h : LinSm x) : (flow x.db x.cr x.deb).toList = flwL [flwOf x] := by
  obtain ⟨⟨h1, _⟩, ⟨h2, _⟩, _⟩ := h
  have e1 : ((x.cr.toNat : Nat) : Int) = x.cr := by omega
  have e2 : ((x.db.toNat : Nat) : Int) = x.db := by omega
  simp [flow, flwL, flwV, flwOf, e1, e2]
/-- Flows in a row of one's own, wherever. -/
abbrev FlT (v : Value) (n : Nat) (F : List Flw) : Thing := OwnT 53 3 v n (flwL F)
section
variable {W w : World} {l : List Thing}
set_option maxHeartbeats 8000000
theorem kept_H (L : List Lin) (a : Option Addr) (n cc pc c : Nat) (hl : L.length = n) (hn : n ≤ 64) (hL : ∀ x ∈ L, LinSm x) (m : Cel pc #[.int .u8 (c : Int)] 31 ∈ l) (R : ∀ l' w', (∀ x ∈ l, x ∈ l') → Heap W l' w' → Rd w' a (linL L)) (H : Heap W l w) :
    Calls Tryz.prog 25 #[.slice a n cc, .func (.func 27) #[] #[.pointer (some ⟨pc, 0, none⟩)]] w fun e w' =>
      ∃ v, e = .returned v ∧ ((keptD L c).length = 0 → v = .slice none 0 0) ∧ Heap W (FlT v (keptD L c).length (keptD L c) :: l) w' := by
  have HL := Lib.hid hl
  have HLs := Lib.hid hL
  have HR := Lib.hid R
  clear hl hL R
  go_enter Tryz.func25, Tryz.ntmps25
  go_wp2_with (go_skip)
  have H0 := H.nilRow 53 3
  clear H
  go_loopw [5, 12] (fun v i wr => KeptR W l L c n v i wr) (fun _ i _ => n - (intOf i).toNat)
  case atStart => exact ⟨0, 0, Nat.zero_le _, rfl, rfl, fun _ => rfl, H0⟩
  case round =>
    obtain ⟨k, mm, hk, rfl, hm, hz, H⟩ := hrel.out
    have HZ := Lib.hid hz
    clear hz
    clear H0 hrel
    have hmm : mm ≤ 64 := by
      have := keptD_len (L.take k) c
      rw [List.length_take] at this
      omega
    by_cases hlt : k < n
    · have hkL : k < L.length := by rw [HL.out]; exact hlt
      have hrow := linL_row L k hkL
      have hlen : k * 5 + 5 ≤ (linL L).length := by rw [linL_len]; omega
      have hx : L[k]? = some L[k] := List.getElem?_eq_getElem hkL
      have hsm := HLs.out _ (List.mem_of_getElem? hx)
      have HT := Lib.hid (keptD_take (c := c) hx)
      have HV := Lib.hid (flwOf_val hsm)
      have hcu := hsm.2.2
      have HM := Lib.hid hm
      have hn1 : mm + 1 ≤ maxLen := by unfold maxLen; omega
      have hn2 : (mm + 1) * 16 ≤ 140737488355328 := by omega
      clear hx hsm hm
      generalize L[k] = x at *
      generalize keptD (L.take k) c = D at *
      obtain ⟨ba, oa, rfl, _⟩ := (HR.out _ _ (fun y hy => List.mem_cons_of_mem _ hy) H).lt (by omega)
      have Rw := HR.out _ _ (fun y hy => List.mem_cons_of_mem _ hy) H
      go_wp2_with (first
        | go_skip
        | ((with_reducible show wpList _ _ _ (_ :: _) _ _); (with_reducible apply wpl_loadRdR row_line); (· rfl); (· rfl); (· exact Rw); (· first | rfl | exact (Nat.zero_add _).symm); (· exact hlen); (· decide); (· exact hrow); (simp only [Act.put, List.setIfInBounds_toArray, List.set_cons_zero, List.set_cons_succ]))
        | ((with_reducible show wpList _ _ _ (_ :: _) _ _); (with_reducible apply wpl_allocRH row_line); (· rfl); (· exact H); (clear H; intro px _ H); (simp only [Act.put, List.setIfInBounds_toArray, List.set_cons_zero, List.set_cons_succ]))
        | ((with_reducible show wpList _ _ _ (_ :: _) _ _); (with_reducible apply wpl_storeRH row_line); (· rfl); (· rfl); (· rfl); (· with_reducible exact line_cells ..); (· exact H); (· (repeat (first | (with_reducible exact List.mem_cons_self) | with_reducible apply List.mem_cons_of_mem))); (· (simp only [line_sz, Nat.reduceAdd, Nat.reduceLeDiff, Nat.le_refl]; done)); (· with_reducible exact line_splice ..); (· (repeat (first | (with_reducible exact Repl.here) | with_reducible apply Repl.there))); (clear H; intro _ H); (simp only [Act.put, List.setIfInBounds_toArray, List.set_cons_zero, List.set_cons_succ]))
        | ((with_reducible show wpList _ _ _ (_ :: _) _ _); (with_reducible apply wpl_loadRH row_line); (· rfl); (· rfl); (· exact H); (· (repeat (first | (with_reducible exact List.mem_cons_self) | with_reducible apply List.mem_cons_of_mem))); (· (simp only [line_sz, Nat.reduceAdd, Nat.reduceLeDiff, Nat.le_refl]; done)); (· with_reducible exact line_all ..); (simp only [Act.put, List.setIfInBounds_toArray, List.set_cons_zero, List.set_cons_succ])))
      refine (debt1_H x pc c hcu (List.mem_cons_of_mem _ (List.mem_cons_of_mem _ m)) H).mono ?_
      clear H
      rintro e w2 ⟨rfl, H⟩
      by_cases ho : owes c x = true
      · rw [ho]
        have HT2 := Lib.hid (HT.out.trans (by rw [if_pos ho]))
        clear ho HT
        go_wp2_with (first
          | go_skip
          | ((with_reducible show wpList _ _ _ (_ :: _) _ _); (with_reducible apply wpl_allocRH row_flow); (· rfl); (· exact H); (clear H; intro py _ H); (simp only [Act.put, List.setIfInBounds_toArray, List.set_cons_zero, List.set_cons_succ]))
          | ((with_reducible show wpList _ _ _ (_ :: _) _ _); (with_reducible apply wpl_storeRH row_flow); (· rfl); (· rfl); (· rfl); (· with_reducible exact flow_cells ..); (· exact H); (· (repeat (first | (with_reducible exact List.mem_cons_self) | with_reducible apply List.mem_cons_of_mem))); (· (simp only [flow_sz, Nat.reduceAdd, Nat.reduceLeDiff, Nat.le_refl]; done)); (· with_reducible exact flow_splice ..); (· (repeat (first | (with_reducible exact Repl.here) | with_reducible apply Repl.there))); (clear H; intro _ H); (simp only [Act.put, List.setIfInBounds_toArray, List.set_cons_zero, List.set_cons_succ]))
          | ((with_reducible show wpList _ _ _ (_ :: _) _ _); (with_reducible apply wpl_loadRH row_flow); (· rfl); (· rfl); (· exact H); (· (repeat (first | (with_reducible exact List.mem_cons_self) | with_reducible apply List.mem_cons_of_mem))); (· (simp only [flow_sz, Nat.reduceAdd, Nat.reduceLeDiff, Nat.le_refl]; done)); (· with_reducible exact flow_all ..); (simp only [Act.put, List.setIfInBounds_toArray, List.set_cons_zero, List.set_cons_succ]))
          | ((with_reducible show wpList _ _ _ (_ :: _) _ _); (with_reducible apply wpl_bsRH); (· rfl); (· rfl); (· exact bs_flow); (· exact rfl); (· exact H); (clear H; intro pf _ H); (simp only [Act.put, List.setIfInBounds_toArray, List.set_cons_zero, List.set_cons_succ]))
          | ((with_reducible show wpList _ _ _ (_ :: _) _ _); (with_reducible apply wpl_appendH slF); (· rfl); (· rfl); (· rfl); (· rfl); (· exact H.pull (.there (.there (.there .here)))); (· exact H.celRd List.mem_cons_self); (· rfl); (· exact flowC_one _ _ _); (· exact hn1); (· exact hn2); (clear H; intro v2 _ H); (simp only [Act.put, List.setIfInBounds_toArray, List.set_cons_zero, List.set_cons_succ])))
        refine ⟨⟨k + 1, mm + 1, by omega, by go_num, ?_, fun h => by omega, ?_⟩, ?measure0⟩
        · rw [HT2.out, List.length_append, HM.out]; rfl
        · rw [HT2.out, flwL_app, ← HV.out]
          exact ((H.drop (.there .here)).drop (.there .here)).drop (.there .here)
        case measure0 => simp [intOf]; omega
      · have ho2 : owes c x = false := by simpa using ho
        rw [ho2]
        have HT2 := Lib.hid (HT.out.trans (by rw [if_neg ho, List.append_nil]))
        clear ho ho2 HT
        go_wp2_with (first
          | go_skip
          | ((with_reducible show wpList _ _ _ (_ :: _) _ _); (with_reducible apply wpl_allocRH row_flow); (· rfl); (· exact H); (clear H; intro py _ H); (simp only [Act.put, List.setIfInBounds_toArray, List.set_cons_zero, List.set_cons_succ]))
          | ((with_reducible show wpList _ _ _ (_ :: _) _ _); (with_reducible apply wpl_storeRH row_flow); (· rfl); (· rfl); (· rfl); (· with_reducible exact flow_cells ..); (· exact H); (· (repeat (first | (with_reducible exact List.mem_cons_self) | with_reducible apply List.mem_cons_of_mem))); (· (simp only [flow_sz, Nat.reduceAdd, Nat.reduceLeDiff, Nat.le_refl]; done)); (· with_reducible exact flow_splice ..); (· (repeat (first | (with_reducible exact Repl.here) | with_reducible apply Repl.there))); (clear H; intro _ H); (simp only [Act.put, List.setIfInBounds_toArray, List.set_cons_zero, List.set_cons_succ])))
        refine ⟨⟨k + 1, mm, by omega, by go_num, by rw [HT2.out]; exact HM.out, HZ.out, ?_⟩, ?measure1⟩
        · rw [HT2.out]
          exact H.tail.tail
        case measure1 => simp [intOf]; omega
    · obtain rfl : k = n := by omega
      rw [List.take_of_length_le (by rw [HL.out]; exact Nat.le_refl _)] at hm H
      obtain ⟨va, vc, rfl, hv1, hv2⟩ := RowT.form0 (H.ok _ List.mem_cons_self)
      have K := clipFA va mm vc hv1 hv2 (fun e => RowT.nil7 (H.ok _ List.mem_cons_self) _ _ (by rw [e]))
      have HM := Lib.hid hm
      clear hm
      go_wp2_with (first | go_skip | ((with_reducible refine Ans.callH (by assumption) H ?_); clear H; intro _ H))
      go_ret
      rw [← HM.out]
      refine ⟨_, rfl, fun h => ?_, ?_⟩
      · have e := HZ.out h
        cases e
        rfl
      · exact H.slide.clipOwn
theorem debts13_H {p q : Nat} {S : Lgr} {r s : List Thing} (c : Nat) (hc : c ≤ 255) (G : S.Good) (h1 : Pull l (LdC p S.P (some q)) r) (h2 : Pull r (LdM q S.L) s) (H : Heap W l w) :
    Calls Tryz.prog 8 #[.pointer (some ⟨p, 0, none⟩), .int .u8 (c : Int)] w fun e w' => ∃ v, e = .returned v ∧ Heap W (FlT v (dbtS S.L c).length (dbtS S.L c) :: l) w' := by
  have hfew := G.few
  have hsm := G.sm
  have hperm := keptD_perm G c
  have hlen := hperm.length_eq
  have hdf := G.dbt_few c
  have hmf : ∀ (fn : Fn) (first cap : Array Value) (w : World), (Instr.makeFunc fn first cap).run Tryz.prog w = .ok (.func fn first cap) w := fun _ _ _ _ => rfl
  go_enter Tryz.func8, Tryz.ntmps8
  go_wp2_with (first | go_skip | ((with_reducible show wpList _ _ _ (_ :: _) _ _); (with_reducible apply wpl_boxCH); (· rfl); (· rfl); (· rfl); (· exact H); (clear H; intro pc _ H); (simp only [Act.put, List.setIfInBounds_toArray, List.set_cons_zero, List.set_cons_succ])))
  refine (llinesN G (.there h1) (.there h2) H).mono ?_
  clear H
  rintro e w1 ⟨g, cc, rfl, hc1, hc2, H⟩
  go_wp2_with (go_skip)
  refine (kept_H S.L (some ⟨g, 0, none⟩) S.L.length cc pc c rfl hfew hsm (List.mem_cons_of_mem _ List.mem_cons_self) (fun l' w' hh H' => H'.slRd (hh _ List.mem_cons_self)) H).mono ?_
  clear H
  rintro e w2 ⟨v, rfl, _, H⟩
  replace H := (H.drop (.there .here)).drop (.there .here)
  rcases (H.ok _ List.mem_cons_self).2 with ⟨hv, hn⟩ | ⟨gf, off, cap, cur, hv, _⟩
  · subst hv
    have hn2 : (dbtS S.L c).length = 0 := by omega
    have e0 : dbtS S.L c = [] := List.length_eq_zero_iff.1 hn2
    have e1 : keptD S.L c = [] := List.length_eq_zero_iff.1 hn
    rw [e1] at H
    have HE0 := Lib.hid e0
    clear e0 e1 hperm hsm hlen hn hn2
    go_wp2_with (go_skip)
    refine (sortF_none none 0 _ _).mono ?_
    rintro e w3 ⟨rfl, rfl⟩
    go_wp2_with (go_skip)
    go_ret
    refine ⟨_, rfl, ?_⟩
    rw [HE0.out]
    exact H
  · subst hv
    have hb : (keptD S.L c).length ≤ 1000000 := by omega
    have HE := Lib.hid hlen
    have HP := Lib.hid hperm
    clear hlen hperm hsm
    go_wp2_with (go_skip)
    refine (fsort_H H rfl hb HP.out (dbtS_pw _)).mono ?_
    clear H
    rintro e w3 ⟨rfl, H⟩
    go_wp2_with (go_skip)
    go_ret
    refine ⟨_, rfl, ?_⟩
    rw [HE.out] at H ⊢
    exact H
end
end Go.Proofs.YtgobnamhdkbbeaaGreat

/- Nettings of a ledger, debt by debt. (Plain.) -/
namespace Go.Proofs.YtgobnamhdkbbeaaGreat
set_option linter.unusedSimpArgs false
set_option linter.unusedVariables false
theorem tot_add_aux {cr db cu : Int} : ∀ {L : List Lin}, L.Pairwise (fun x y => x.rank < y.rank) → ∀ (n c : Int), totL (addL L cr db cu n) c = totL L c + (if isLine L cr db cu = true ∧ cu = c then n else 0)
  | [], _, n, c => by simp [addL, isLine, lineOf, totL]
  | x :: L, h, n, c => by
    have h1 := List.pairwise_cons.1 h
    have ih := tot_add_aux (cr := cr) (db := db) (cu := cu) h1.2 n c
    have e : addL (x :: L) cr db cu n = (if x.at cr db cu then { x with deb := x.deb + n } else x) :: addL L cr db cu n := rfl
    have tc : ∀ (y : Lin) (M : List Lin), totL (y :: M) c = (if y.cu = c then y.deb else 0) + totL M c := fun y M => by simp [totL]
    rw [e, tc, tc]
    by_cases ha : x.at cr db cu = true
    · have hno : isLine L cr db cu = false := by
        rw [isLine_not]
        intro y hy
        rw [Lin.at_not]
        intro e2
        have e1 := Lin.at_iff.1 ha
        have := h1.1 y hy
        unfold Lin.rank at this
        rw [e1.1, e1.2.1, e1.2.2, e2.1, e2.2.1, e2.2.2] at this
        omega
      have hyes : isLine (x :: L) cr db cu = true := isLine_iff.2 ⟨x, List.mem_cons_self .., ha⟩
      rw [addL_none hno, if_pos ha, hyes]
      obtain ⟨e1, e2, e3⟩ := Lin.at_iff.1 ha
      simp only [e3, true_and]
      split <;> omega
    · have hsame : isLine (x :: L) cr db cu = isLine L cr db cu := by
        unfold isLine lineOf
        rw [List.find?_cons_of_neg (by simpa using ha)]
      rw [if_neg ha, ih, hsame]
      omega
theorem forgL_deb (c : Nat) (Q : List Flw) (a b : Nat) : ∀ (F : List Flw) (S : Lgr), (∀ y ∈ F, ¬ (y.f = a ∧ y.t = b)) → debOf (forgL S c Q F).L b a c = debOf S.L b a c
  | [], S, _ => rfl
  | y :: F, S, h => by
    show debOf (forgL (forgS S y.t y.f c (y.n - ofF Q y.f y.t)) c Q F).L b a c = _
    rw [forgL_deb c Q a b F _ fun z hz => h z (List.mem_cons_of_mem _ hz)]
    have h0 := h y List.mem_cons_self
    unfold forgS
    split
    · simp only
      rw [debOf_add, if_neg (by rintro ⟨_, h1, h2, _⟩; omega)]
      omega
    · rfl
theorem net_step {S : Lgr} (G : S.Good) (c : Nat) (Q : List Flw) {k : Nat} {x : Flw} (hx : (dbtS S.L c)[k]? = some x) (h0 : 0 ≤ ofF Q x.f x.t) :
    (x.n - ofF Q x.f x.t ≤ 0 → forgS (forgL S c Q ((dbtS S.L c).take k)) x.t x.f c (x.n - ofF Q x.f x.t) = forgL S c Q ((dbtS S.L c).take k)) ∧
    (0 < x.n - ofF Q x.f x.t → totL (forgS (forgL S c Q ((dbtS S.L c).take k)) x.t x.f c (x.n - ofF Q x.f x.t)).L c = totL (forgL S c Q ((dbtS S.L c).take k)).L c - (x.n - ofF Q x.f x.t)) := by
  have hM := G.dbt c
  have hmem := dbtS_mem.1 (List.mem_of_getElem? hx)
  have Gk := forgL_good G c Q ((dbtS S.L c).take k)
  have hd : debOf (forgL S c Q ((dbtS S.L c).take k)).L x.t x.f c = x.n := by
    rw [forgL_deb c Q x.f x.t, hmem.2.2.2]
    intro y hy ⟨e1, e2⟩
    obtain ⟨j, hj, rfl⟩ := List.mem_iff_getElem.1 hy
    rw [List.length_take] at hj
    have hy2 : (dbtS S.L c)[j]? = some ((dbtS S.L c).take k)[j] := by
      rw [List.getElem_take]
      exact List.getElem?_eq_getElem (by omega)
    have := hM.uniq hx hy2 e1.symm e2.symm
    omega
  have hle : x.n - ofF Q x.f x.t ≤ x.n := by omega
  generalize forgL S c Q ((dbtS S.L c).take k) = S1 at *
  generalize x.n - ofF Q x.f x.t = n at *
  refine ⟨fun h => ?_, fun h => ?_⟩
  · unfold forgS
    rw [if_neg]
    unfold forgE
    rw [if_pos (by omega)]
    omega
  · have hl : isLine S1.L (x.t : Int) (x.f : Int) (c : Int) = true := by
      cases hl : isLine S1.L (x.t : Int) (x.f : Int) (c : Int) with
      | true => rfl
      | false => have := (Lgr.Good.noLine hl).2.2; omega
    have hE : forgE S1 x.t x.f c n = 0 := by
      unfold forgE
      rw [if_neg (by omega), hl, if_neg (by simp), if_neg (by omega)]
    unfold forgS
    rw [if_pos hE]
    simp only
    rw [tot_add_aux Gk.ord, hl, if_pos ⟨rfl, rfl⟩]
    omega
/-- Where in a list a debt of these ends is. -/
def endsB (f t : Nat) (y : Flw) : Bool := decide (y.f = f ∧ y.t = t)
theorem endsB_iff {f t : Nat} {y : Flw} : endsB f t y = true ↔ y.f = f ∧ y.t = t := decide_eq_true_iff
def fIdx (L : List Flw) (f t : Nat) : Nat := L.findIdx (endsB f t)
theorem fIdx_le (L : List Flw) (f t : Nat) : fIdx L f t ≤ L.length := List.findIdx_le_length
theorem fIdx_at {L : List Flw} {f t : Nat} (h : fIdx L f t < L.length) : endsB f t (L[fIdx L f t]'h) = true := List.findIdx_getElem (w := h)
theorem fIdx_before {L : List Flw} {f t k : Nat} {y : Flw} (hk : k < fIdx L f t) (hy : L[k]? = some y) : endsB f t y = false := by
  obtain ⟨hlt, rfl⟩ := List.getElem?_eq_some_iff.1 hy
  have := List.not_of_lt_findIdx hk
  simpa using this
theorem ofF_find {L : List Flw} {f t : Nat} (h : fIdx L f t < L.length) : ∃ y, L[fIdx L f t]? = some y ∧ y.n = ofF L f t := by
  have h1 := endsB_iff.1 (fIdx_at h)
  refine ⟨_, List.getElem?_eq_getElem h, (ofF_at (List.getElem?_eq_getElem h) h1.1 h1.2 fun j y hj hy e => ?_).symm⟩
  have := fIdx_before hj hy
  rw [endsB_iff.2 e] at this
  cases this
theorem ofF_nofind {L : List Flw} {f t : Nat} (h : ¬ fIdx L f t < L.length) : ofF L f t = 0 := by
  refine ofF_no fun y hy e => h ?_
  unfold fIdx
  exact List.findIdx_lt_length_of_exists ⟨y, hy, endsB_iff.2 e⟩
end Go.Proofs.YtgobnamhdkbbeaaGreat

/- Nettings of a ledger: what NettingsLeast stands on. (Plain.) -/
namespace Go.Proofs.YtgobnamhdkbbeaaGreat
set_option linter.unusedSimpArgs false
set_option linter.unusedVariables false
theorem MayD.bnd {F : List Flw} (h : MayD F) : ∀ x ∈ F, x.f ≤ 16 ∧ x.t ≤ 16 ∧ 0 ≤ x.n ∧ x.n ≤ 1099511627776 := fun x hx => by
  obtain ⟨i, hi, rfl⟩ := List.mem_iff_getElem.1 hx
  have := h.okX (List.getElem?_eq_getElem hi)
  exact ⟨by omega, by omega, by omega, by omega⟩
/-- What is known of a netting that went. -/
structure NetGone (S : Lgr) (c : Nat) (n k : Int) (S' : Lgr) (N : List Int) : Prop where
  inv : InvN (dbtS S.L c) N
  pot : HasPot (edD (dbtS S.L c) N)
  is : S' = ⟨S.P, netL S.L c (leftL (dbtS S.L c) N)⟩
  good : S'.Good
  dbt : dbtS S'.L c = leftL (dbtS S.L c) N
  oth : ∀ d, d ≠ c → dbtS S'.L d = dbtS S.L d
  sum : n = sumF (dbtS S.L c) - sumF (leftL (dbtS S.L c) N)
  many : 0 ≤ k ∧ k ≤ n
  pos : ∀ p d : Nat, posL S'.L p d = posL S.L p d
  stand : ∀ p : Nat, dl (leftL (dbtS S.L c) N) p = dl (dbtS S.L c) p
  lin : S'.L.map (fun x => { x with deb := 0 }) = S.L.map fun x => { x with deb := 0 }
theorem NetOut.gone {S : Lgr} (G : S.Good) {c : Nat} {q n k : Int} {S' : Lgr} (h : NetOut S c q n k 0 S') : (1 ≤ c ∧ c ≤ 8) ∧ 0 ≤ q ∧ ∃ N, NetGone S c n k S' N := by
  rcases h with ⟨_, _, _, h, _⟩ | ⟨h1, Q, k0, h2, ⟨h3, _⟩ | ⟨_, rfl, rfl, hn⟩⟩
  · omega
  · omega
  · have hM := G.dbt c
    rcases h2 with ⟨_, _, _, h⟩ | ⟨_, hq, j, N, ht, hj, ⟨hr, rfl, rfl, _⟩ | ⟨_, _, _, _, h⟩⟩
    · omega
    · obtain ⟨I, hi⟩ := ht.inv hM
      have e := forgL_all G I
      have hd : dbtS (netL S.L c (leftL (dbtS S.L c) N)) c = leftL (dbtS S.L c) N := dbt_net G I
      have hst := fun p => ht.stand hM p
      have hgood := net_good G I
      have hs1 := G.tot_dbt c
      have hs2 := hgood.tot_dbt c
      simp only at hs2
      rw [hd] at hs2
      have hls : sumF (leftL (dbtS S.L c) N) = N.sum := leftL_sum I
      have hF : ((dbtS S.L c).map Flw.n).sum = sumF (dbtS S.L c) := rfl
      rw [e] at hn ⊢
      simp only at hn
      refine ⟨h1, hq, N, ⟨I, pot_of hM (by have := G.dbt_few c; omega) hr, rfl, hgood, hd, fun d h => dbt_other _ _ h, by omega, ⟨by omega, by omega⟩, fun p d => ?_, hst, ?_⟩⟩
      · by_cases ed : d = c
        · subst ed
          rw [hgood.pos_dbt, G.pos_dbt]
          simp only
          rw [hd, hst]
        · rw [hgood.pos_dbt, G.pos_dbt]
          simp only
          rw [dbt_other _ _ ed]
      · unfold netL
        rw [List.map_map]
        refine List.map_congr_left fun x _ => ?_
        simp only [Function.comp, netX]
        split <;> rfl
    · omega
end Go.Proofs.YtgobnamhdkbbeaaGreat

/- Debts in memory. -/
namespace Go.Proofs.YtgobnamhdkbbeaaGreat
open Go.RowKit
set_option linter.unusedSimpArgs false
set_option linter.unusedVariables false
def dbt (f : Int) (t : Int) (n : Int) (k : Int) : Array Value := #[.int .u8 f, .int .u8 t, .int .i64 n, .int .i64 k]
section
variable (f : Int) (t : Int) (n : Int) (k : Int)
theorem dbt_sz : (dbt f t n k).size = 4 := rfl
theorem dbt_g0 : (dbt f t n k)[0]? = some (.int .u8 f) := rfl
theorem dbt_s0 (v : Int) : (dbt f t n k).setIfInBounds 0 (.int .u8 v) = dbt v t n k := rfl
theorem dbt_g1 : (dbt f t n k)[1]? = some (.int .u8 t) := rfl
theorem dbt_s1 (v : Int) : (dbt f t n k).setIfInBounds 1 (.int .u8 v) = dbt f v n k := rfl
theorem dbt_g2 : (dbt f t n k)[2]? = some (.int .i64 n) := rfl
theorem dbt_s2 (v : Int) : (dbt f t n k).setIfInBounds 2 (.int .i64 v) = dbt f t v k := rfl
theorem dbt_g3 : (dbt f t n k)[3]? = some (.int .i64 k) := rfl
theorem dbt_s3 (v : Int) : (dbt f t n k).setIfInBounds 3 (.int .i64 v) = dbt f t n v := rfl
end
theorem cell_bool8 : CellTy 4 := ⟨⟨_, Tryz.underlying4, rfl⟩, by kernel_rfl⟩
theorem cell_pdbt : CellTy 109 := ⟨⟨_, Tryz.underlying109, rfl⟩, by kernel_rfl⟩
/-- A debt's block. -/
abbrev DbC (p : Nat) (f t : Nat) (n k : Int) : Thing := Cel p (dbt (f : Int) (t : Int) n k) 111
def debtT (p : Nat) (x : Flw) (m : Int) : Thing := DbC p x.f x.t m (x.n - m)
def dbs : List Nat → List Flw → List Int → List Thing
  | p :: ps, x :: F, m :: N => debtT p x m :: dbs ps F N
  | _, _, _ => []
def ptrL (ps : List Nat) : List Value := ps.map fun p => .pointer (some ⟨p, 0, none⟩)
theorem ptrL_len (ps : List Nat) : (ptrL ps).length = ps.length := by simp [ptrL]
theorem dbs_pull {l : List Thing} {p : Nat} {x : Flw} {m : Int} : ∀ {ps : List Nat} {F : List Flw} {N : List Int} {i : Nat}, ps[i]? = some p → F[i]? = some x → N[i]? = some m → ∃ r, Pull (dbs ps F N ++ l) (debtT p x m) r ∧ ∀ m', Pull (dbs ps F (N.set i m') ++ l) (debtT p x m') r
  | [], F, N, i, h, _, _ => by simp at h
  | q :: ps, [], N, i, _, h, _ => by simp at h
  | q :: ps, y :: F, [], i, _, _, h => by simp at h
  | q :: ps, y :: F, k :: N, 0, h1, h2, h3 => by
    simp at h1 h2 h3
    subst h1 h2 h3
    exact ⟨dbs ps F N ++ l, .here, fun m' => .here⟩
  | q :: ps, y :: F, k :: N, i + 1, h1, h2, h3 => by
    obtain ⟨r, g1, g2⟩ := dbs_pull (l := l) (ps := ps) (F := F) (N := N) (i := i) (by simpa using h1) (by simpa using h2) (by simpa using h3)
    exact ⟨debtT q y k :: r, .there g1, fun m' => .there (g2 m')⟩
theorem dbs_mem {p : Nat} {x : Flw} {m : Int} {ps : List Nat} {F : List Flw} {N : List Int} {i : Nat} (h1 : ps[i]? = some p) (h2 : F[i]? = some x) (h3 : N[i]? = some m) {l : List Thing} : debtT p x m ∈ dbs ps F N ++ l := by
  obtain ⟨r, g, _⟩ := dbs_pull (l := l) h1 h2 h3
  exact g.perm.mem_iff.2 List.mem_cons_self
/-- A step as a value. -/
def stp (p : Nat) (b : Bool) : Array Value := #[.pointer (some ⟨p, 0, none⟩), .bool b]
theorem stp_g0 (p : Nat) (b : Bool) : (stp p b)[0]? = some (.pointer (some ⟨p, 0, none⟩)) := rfl
theorem stp_g1 (p : Nat) (b : Bool) : (stp p b)[1]? = some (.bool b) := rfl
section
variable {W w : World} {l : List Thing}
set_option maxRecDepth 100000
set_option maxHeartbeats 2000000
theorem most8_H (p f t : Nat) (n k : Int) (b : Bool) (m : DbC p f t n k ∈ l) : AnsH W l 95 #[.agg (stp p b)] (.int .i64 (if b then k else n)) := by
  intro w H
  cases b
  all_goals
    go_enter Tryz.func95, Tryz.ntmps95
    go_wp2_with (first | go_skip | ((with_reducible show wpList _ _ _ (_ :: _) _ _); (with_reducible apply wpl_boxRH); (· rfl); (· rfl); (· exact H); (clear H; intro px _ H); (simp only [Act.put, List.setIfInBounds_toArray, List.set_cons_zero, List.set_cons_succ])) | ((with_reducible show wpList _ _ _ (_ :: _) _ _); (with_reducible apply wpl_loadCH); (· first | exact cell_bool8 | exact cell_pdbt); (· rfl); (· rfl); (· exact H); (· exact List.mem_cons_self); (· with_reducible first | exact stp_g0 .. | exact stp_g1 ..); (simp only [Act.put, List.setIfInBounds_toArray, List.set_cons_zero, List.set_cons_succ])) | ((with_reducible show wpList _ _ _ (_ :: _) _ _); (with_reducible apply wpl_loadCH); (· exact cell_i64); (· rfl); (· rfl); (· exact H); (· exact List.mem_cons_of_mem _ m); (· (with_reducible first | exact dbt_g0 .. | exact dbt_g1 .. | exact dbt_g2 .. | exact dbt_g3 ..)); (simp only [Act.put, List.setIfInBounds_toArray, List.set_cons_zero, List.set_cons_succ])))
    go_ret
    exact ⟨rfl, H.tail⟩
theorem goes8_H (p f t : Nat) (n k v : Int) (b : Bool) (h1 : 0 ≤ n ∧ n ≤ 1099511627776) (h2 : 0 ≤ k ∧ k ≤ 1099511627776) (h3 : 0 ≤ v ∧ v ≤ 1099511627776) (H : Heap W (DbC p f t n k :: l) w) :
    Calls Tryz.prog 96 #[.agg (stp p b), .int .i64 v] w fun e w' => e = .returned (.tuple #[]) ∧ Heap W (DbC p f t (n + if b then v else -v) (k - if b then v else -v) :: l) w' := by
  have w0 : wrap64 (-v) = -v := IntWalk.wrap64_in _ ⟨by omega, by omega⟩
  have w1 : wrap64 (n - v) = n - v := IntWalk.wrap64_in _ ⟨by omega, by omega⟩
  have w2 : wrap64 (k + v) = k + v := IntWalk.wrap64_in _ ⟨by omega, by omega⟩
  have w3 : wrap64 (n - -v) = n - -v := IntWalk.wrap64_in _ ⟨by omega, by omega⟩
  have w4 : wrap64 (k + -v) = k + -v := IntWalk.wrap64_in _ ⟨by omega, by omega⟩
  cases b
  all_goals
    go_enter Tryz.func96, Tryz.ntmps96
    go_wp2_with (first | go_skip | ((with_reducible show wpList _ _ _ (_ :: _) _ _); (with_reducible apply wpl_boxRH); (· rfl); (· rfl); (· exact H); (clear H; intro px _ H); (simp only [Act.put, List.setIfInBounds_toArray, List.set_cons_zero, List.set_cons_succ])) | ((with_reducible show wpList _ _ _ (_ :: _) _ _); (with_reducible apply wpl_loadCH); (· first | exact cell_bool8 | exact cell_pdbt); (· rfl); (· rfl); (· exact H); (· exact List.mem_cons_self); (· with_reducible first | exact stp_g0 .. | exact stp_g1 ..); (simp only [Act.put, List.setIfInBounds_toArray, List.set_cons_zero, List.set_cons_succ])) | ((with_reducible show wpList _ _ _ (_ :: _) _ _); (with_reducible apply wpl_loadCH); (· exact cell_i64); (· rfl); (· rfl); (· exact H); (· (repeat (first | (with_reducible exact List.mem_cons_self) | with_reducible apply List.mem_cons_of_mem))); (· (with_reducible first | exact dbt_g0 .. | exact dbt_g1 .. | exact dbt_g2 .. | exact dbt_g3 ..)); (simp only [Act.put, List.setIfInBounds_toArray, List.set_cons_zero, List.set_cons_succ])) | (first | ((with_reducible show wpList _ _ _ (_ :: _) _ _); (with_reducible apply wpl_storeIH); (· exact cell_i64); (· rfl); (· rfl); (· rfl); (· exact H); (· (repeat (first | (with_reducible exact List.mem_cons_self) | with_reducible apply List.mem_cons_of_mem))); (· (simp only [dbt_sz, Nat.reduceLT]; done)); (· (with_reducible first | exact dbt_s0 .. | exact dbt_s1 .. | exact dbt_s2 .. | exact dbt_s3 ..)); (· (repeat (first | (with_reducible exact Repl.here) | with_reducible apply Repl.there))); (clear H; intro _ H); (simp only [Act.put, List.setIfInBounds_toArray, List.set_cons_zero, List.set_cons_succ])) | ((with_reducible show wpList _ _ _ (_ :: _) _ _); (with_reducible apply wpl_storeBH); (· exact cell_i64); (· rfl); (· rfl); (· rfl); (· exact H); (· (repeat (first | (with_reducible exact List.mem_cons_self) | with_reducible apply List.mem_cons_of_mem))); (· (simp only [dbt_sz, Nat.reduceLT]; done)); (· (with_reducible first | exact dbt_s0 .. | exact dbt_s1 .. | exact dbt_s2 .. | exact dbt_s3 ..)); (· (repeat (first | (with_reducible exact Repl.here) | with_reducible apply Repl.there))); (clear H; intro _ H); (simp only [Act.put, List.setIfInBounds_toArray, List.set_cons_zero, List.set_cons_succ])) | ((with_reducible show wpList _ _ _ (_ :: _) _ _); (with_reducible apply wpl_storeSH); (· exact cell_i64); (· rfl); (· rfl); (· rfl); (· exact H); (· (repeat (first | (with_reducible exact List.mem_cons_self) | with_reducible apply List.mem_cons_of_mem))); (· (simp only [dbt_sz, Nat.reduceLT]; done)); (· (with_reducible first | exact dbt_s0 .. | exact dbt_s1 .. | exact dbt_s2 .. | exact dbt_s3 ..)); (· (repeat (first | (with_reducible exact Repl.here) | with_reducible apply Repl.there))); (clear H; intro _ H); (simp only [Act.put, List.setIfInBounds_toArray, List.set_cons_zero, List.set_cons_succ])) | ((with_reducible show wpList _ _ _ (_ :: _) _ _); (with_reducible apply wpl_storePH); (· exact cell_i64); (· rfl); (· rfl); (· rfl); (· exact H); (· (repeat (first | (with_reducible exact List.mem_cons_self) | with_reducible apply List.mem_cons_of_mem))); (· (simp only [dbt_sz, Nat.reduceLT]; done)); (· (with_reducible first | exact dbt_s0 .. | exact dbt_s1 .. | exact dbt_s2 .. | exact dbt_s3 ..)); (· (repeat (first | (with_reducible exact Repl.here) | with_reducible apply Repl.there))); (clear H; intro _ H); (simp only [Act.put, List.setIfInBounds_toArray, List.set_cons_zero, List.set_cons_succ]))))
    go_end0
    refine ⟨rfl, ?_⟩
    have H2 := H.tail
    simpa [Int.sub_eq_add_neg] using H2
end
end Go.Proofs.YtgobnamhdkbbeaaGreat

/- rounds: the edges of debts. -/
namespace Go.Proofs.YtgobnamhdkbbeaaGreat
open Go.RowKit
set_option linter.unusedSimpArgs false
set_option linter.unusedVariables false
theorem edD_app : ∀ (F : List Flw) (N : List Int) (x : Flw) (m : Int), N.length = F.length → edD (F ++ [x]) (N ++ [m]) = edD F N ++ edX x m
  | [], [], x, m, _ => by simp [edD]
  | [], k :: N, x, m, h => by simp at h
  | y :: F, [], x, m, h => by simp at h
  | y :: F, k :: N, x, m, h => by
    show edX y k ++ edD (F ++ [x]) (N ++ [m]) = edX y k ++ edD F N ++ edX x m
    rw [edD_app F N x m (by simpa using h), List.append_assoc]
theorem edD_take {F : List Flw} {N : List Int} (h : N.length = F.length) {k : Nat} {x : Flw} {m : Int} (hx : F[k]? = some x) (hm : N[k]? = some m) : edD (F.take (k + 1)) (N.take (k + 1)) = edD (F.take k) (N.take k) ++ edX x m := by
  rw [List.take_add_one, hx, List.take_add_one, hm]
  exact edD_app _ _ _ _ (by simp; omega)
theorem edgC_one8 (a b c : Int) : OneCells (edg a b c).toList := by
  intro v hv
  simp [edg] at hv
  rcases hv with rfl | rfl | rfl <;> rfl
theorem bs_edg8 : Tryz.prog.underlying 113 = some (.slice 141) ∧ (Tryz.prog.info? 141).map (fun i => (i.size, i.zero.map Value.cells)) = some ((edg 0 0 0).size, some (edg 0 0 0)) ∧ 0 < (edg 0 0 0).size ∧ (edg 0 0 0).size ≤ 65536 := ⟨Tryz.underlying113, by kernel_rfl, by decide, by decide⟩
structure EdR (W : World) (l : List Thing) (F : List Flw) (N : List Int) (n : Nat) (v i : Value) (wr : World) : Prop where
  out : ∃ k : Nat, k ≤ n ∧ i = .int .i64 (k : Int) ∧ Heap W (RowT 141 3 v (edD (F.take k) (N.take k)).length (edgL (edD (F.take k) (N.take k))) :: l) wr
section
variable {W w : World} {l : List Thing}
set_option maxRecDepth 100000
set_option maxHeartbeats 4000000
theorem edges8_H (a : Option Addr) (n c : Nat) (ps : List Nat) (F : List Flw) (N : List Int) (hp : ps.length = n) (hf : F.length = n) (hN : N.length = n) (hn : n ≤ 1000)
    (R : ∀ l' w', (∀ x ∈ l, x ∈ l') → Heap W l' w' → Rd w' a (ptrL ps)) (D : ∀ (i p : Nat) (x : Flw) (m : Int), ps[i]? = some p → F[i]? = some x → N[i]? = some m → debtT p x m ∈ l) (H : Heap W l w) :
    Calls Tryz.prog 62 #[.slice a n c] w fun e w' => ∃ v, e = .returned v ∧ Heap W (RowT 141 3 v (edD F N).length (edgL (edD F N)) :: l) w' := by
  have HP := Lib.hid (And.intro hp (And.intro hf hN))
  have HD := Lib.hid D
  have HR := Lib.hid R
  clear hp hf hN D R
  go_enter Tryz.func62, Tryz.ntmps62
  go_wp2_with (go_skip)
  have H0 := H.nilRow 141 3
  clear H
  go_loopw [2, 7] (fun v i wr => EdR W l F N n v i wr) (fun _ i _ => n - (intOf i).toNat)
  case atStart => exact ⟨0, Nat.zero_le _, rfl, by simpa [edD, edgL] using H0⟩
  case round =>
    obtain ⟨k, hk, rfl, H⟩ := hrel.out
    clear H0 hrel
    by_cases hlt : k < n
    · have hpk : ps[k]? = some (ps[k]'(by rw [HP.out.1]; exact hlt)) := List.getElem?_eq_getElem _
      have hfk : F[k]? = some (F[k]'(by rw [HP.out.2.1]; exact hlt)) := List.getElem?_eq_getElem _
      have hnk : N[k]? = some (N[k]'(by rw [HP.out.2.2]; exact hlt)) := List.getElem?_eq_getElem _
      generalize ps[k]'(by rw [HP.out.1]; exact hlt) = p at *
      generalize F[k]'(by rw [HP.out.2.1]; exact hlt) = x at *
      generalize N[k]'(by rw [HP.out.2.2]; exact hlt) = m at *
      have hm : debtT p x m ∈ l := HD.out k p x m hpk hfk hnk
      have htk := edD_take (by rw [HP.out.2.2, HP.out.2.1]) hfk hnk
      have HTK := Lib.hid htk
      have hlen := edD_len (F.take k) (N.take k)
      have hlk : (F.take k).length ≤ 1000 := by simp; omega
      have Rw := HR.out _ wr (fun x hx => List.mem_cons_of_mem _ hx) H
      obtain ⟨eb, eo, rfl, _⟩ := Rw.lt (by rw [ptrL_len, HP.out.1]; omega)
      have hc : wr.cell? ⟨eb, eo + k, none⟩ = some (.pointer (some ⟨p, 0, none⟩)) := by
        have := Rw.get (i := k) (by rw [ptrL_len, HP.out.1]; exact hlt)
        simpa [ptrL, List.getElem_map, (List.getElem?_eq_some_iff.1 hpk).2] using this
      clear htk hpk hfk hnk Rw
      generalize edD (F.take k) (N.take k) = E at *
      obtain ⟨f, t, y⟩ := x
      unfold debtT at hm
      simp only at hm
      obtain ⟨kk, hkk⟩ : ∃ kk, y - m = kk := ⟨_, rfl⟩
      rw [hkk] at hm
      obtain ⟨ne, hne⟩ : ∃ ne, E.length = ne := ⟨_, rfl⟩
      have HNE := Lib.hid hne
      rw [hne] at H hlen
      clear hne
      have hn1 : ne + 1 ≤ maxLen := by unfold maxLen; omega
      have hn2 : (ne + 1) * 3 ≤ 140737488355328 := by omega
      have hn3 : ne + 1 + 1 ≤ maxLen := by unfold maxLen; omega
      have hn4 : (ne + 1 + 1) * 3 ≤ 140737488355328 := by omega
      by_cases h0 : 0 < m
      · have d0 : decide (m > 0) = true := decide_eq_true (by omega)
        by_cases h1 : 0 < kk
        · have d1 : decide (kk > 0) = true := decide_eq_true (by omega)
          have hX : edX ⟨f, t, y⟩ m = [⟨f, t, -1⟩, ⟨t, f, 1⟩] := by unfold edX; rw [if_pos (by omega), if_pos (by simp only; omega)]; rfl
          have HX := Lib.hid hX
          clear hX
          go_wp2_with (first | go_skip | ((with_reducible show wpList _ _ _ (_ :: _) _ _); (with_reducible apply wpl_loadCH); (· exact cell_i64); (· rfl); (· rfl); (· exact H); (· exact List.mem_cons_of_mem _ hm); (· (with_reducible first | exact dbt_g0 .. | exact dbt_g1 .. | exact dbt_g2 .. | exact dbt_g3 ..)); (simp only [Act.put, List.setIfInBounds_toArray, List.set_cons_zero, List.set_cons_succ])))
          refine wp_region_O [12, 13] [0, 1, 2, 3, 4, 5, 6, 7, 8, 9, 10, 11, 12, 13, 14] (fun l0 => ∃ pre, l0 = pre ++ l) H ⟨[_], rfl⟩ (by kernel_rfl) (by kernel_rfl) ?_
          iterate 12 (apply wpO_step; (· rfl); (· rfl); (· rfl); (· exact Nat.le_of_ble_eq_true rfl); (· rintro l0 ⟨pre, rfl⟩ w0 H0; (first | go_big_quiet_skip | ((with_reducible apply wpQ_loadCH); (· exact cell_party); (· rfl); (· rfl); (· exact List.mem_append_right _ hm); (· (with_reducible first | exact dbt_g0 .. | exact dbt_g1 .. | exact dbt_g2 .. | exact dbt_g3 ..)); (simp only [Act.put, List.setIfInBounds_toArray, List.set_cons_zero, List.set_cons_succ])) | go_big_quiet_step (fail)); (refine wpQuiet_nil ?_); (simp only [Array.getD_eq_getD_getElem?, List.getElem?_toArray, List.getElem?_cons_succ, List.getElem?_cons_zero, Option.getD_some]; rfl)); (simp only [Act.put, List.setIfInBounds_toArray, List.set_cons_zero, List.set_cons_succ]))
          refine wpO_bsR rfl rfl rfl bs_edg8 rfl (fun p => ⟨[_, _], rfl⟩) ?_
          intro pf
          (simp only [Act.put, List.setIfInBounds_toArray, List.set_cons_zero, List.set_cons_succ])
          refine wpO_append slE rfl rfl rfl rfl (.there .here) List.mem_cons_self rfl rfl (edgC_one8 _ _ _) hn1 hn2 (fun v => ⟨[_, _], rfl⟩) ?_
          intro v2
          (simp only [Act.put, List.setIfInBounds_toArray, List.set_cons_zero, List.set_cons_succ])
          (apply wpO_step; (· rfl); (· rfl); (· rfl); (· exact Nat.le_of_ble_eq_true rfl); (· rintro l0 ⟨pre, rfl⟩ w0 H0; (first | go_big_quiet_skip | fail | go_big_quiet_step (fail)); (refine wpQuiet_nil ?_); (simp only [Array.getD_eq_getD_getElem?, List.getElem?_toArray, List.getElem?_cons_succ, List.getElem?_cons_zero, Option.getD_some]; rfl)); (simp only [Act.put, List.setIfInBounds_toArray, List.set_cons_zero, List.set_cons_succ]))
          (refine wpO_nil ?_; clear H; intro _ H)
          replace H := H.drop (.there .here)
          go_wp2_with (first | go_skip | ((with_reducible show wpList _ _ _ (_ :: _) _ _); (with_reducible apply wpl_loadCH); (· exact cell_i64); (· rfl); (· rfl); (· exact H); (· exact List.mem_cons_of_mem _ hm); (· (with_reducible first | exact dbt_g0 .. | exact dbt_g1 .. | exact dbt_g2 .. | exact dbt_g3 ..)); (simp only [Act.put, List.setIfInBounds_toArray, List.set_cons_zero, List.set_cons_succ])))
          refine wp_region_O [12, 13] [0, 1, 2, 3, 4, 5, 6, 7, 8, 9, 10, 11, 12, 13, 14] (fun l0 => ∃ pre, l0 = pre ++ l) H ⟨[_], rfl⟩ (by kernel_rfl) (by kernel_rfl) ?_
          iterate 12 (apply wpO_step; (· rfl); (· rfl); (· rfl); (· exact Nat.le_of_ble_eq_true rfl); (· rintro l0 ⟨pre, rfl⟩ w0 H0; (first | go_big_quiet_skip | ((with_reducible apply wpQ_loadCH); (· exact cell_party); (· rfl); (· rfl); (· exact List.mem_append_right _ hm); (· (with_reducible first | exact dbt_g0 .. | exact dbt_g1 .. | exact dbt_g2 .. | exact dbt_g3 ..)); (simp only [Act.put, List.setIfInBounds_toArray, List.set_cons_zero, List.set_cons_succ])) | go_big_quiet_step (fail)); (refine wpQuiet_nil ?_); (simp only [Array.getD_eq_getD_getElem?, List.getElem?_toArray, List.getElem?_cons_succ, List.getElem?_cons_zero, Option.getD_some]; rfl)); (simp only [Act.put, List.setIfInBounds_toArray, List.set_cons_zero, List.set_cons_succ]))
          refine wpO_bsR rfl rfl rfl bs_edg8 rfl (fun p => ⟨[_, _], rfl⟩) ?_
          intro pf
          (simp only [Act.put, List.setIfInBounds_toArray, List.set_cons_zero, List.set_cons_succ])
          refine wpO_append slE rfl rfl rfl rfl (.there .here) List.mem_cons_self rfl rfl (edgC_one8 _ _ _) hn3 hn4 (fun v => ⟨[_, _], rfl⟩) ?_
          intro v2
          (simp only [Act.put, List.setIfInBounds_toArray, List.set_cons_zero, List.set_cons_succ])
          (apply wpO_step; (· rfl); (· rfl); (· rfl); (· exact Nat.le_of_ble_eq_true rfl); (· rintro l0 ⟨pre, rfl⟩ w0 H0; (first | go_big_quiet_skip | fail | go_big_quiet_step (fail)); (refine wpQuiet_nil ?_); (simp only [Array.getD_eq_getD_getElem?, List.getElem?_toArray, List.getElem?_cons_succ, List.getElem?_cons_zero, Option.getD_some]; rfl)); (simp only [Act.put, List.setIfInBounds_toArray, List.set_cons_zero, List.set_cons_succ]))
          (refine wpO_nil ?_; clear H; intro _ H)
          replace H := H.drop (.there .here)
          go_wp2_with (first | go_skip | ((with_reducible show wpList _ _ _ (_ :: _) _ _); (with_reducible apply wpl_loadCH); (· exact cell_i64); (· rfl); (· rfl); (· exact H); (· exact List.mem_cons_of_mem _ hm); (· (with_reducible first | exact dbt_g0 .. | exact dbt_g1 .. | exact dbt_g2 .. | exact dbt_g3 ..)); (simp only [Act.put, List.setIfInBounds_toArray, List.set_cons_zero, List.set_cons_succ])))
          refine ⟨⟨k + 1, by omega, by go_num, ?_⟩, ?measure1⟩
          case measure1 => simp [intOf]; omega
          rw [HTK.out, HX.out, edgL_app, List.length_append, HNE.out]
          simpa [edgL, edgV, edg] using H
        · have d1 : decide (kk > 0) = false := decide_eq_false (by omega)
          have hX : edX ⟨f, t, y⟩ m = [⟨f, t, -1⟩] := by unfold edX; rw [if_pos (by omega), if_neg (by simp only; omega)]; rfl
          have HX := Lib.hid hX
          clear hX
          go_wp2_with (first | go_skip | ((with_reducible show wpList _ _ _ (_ :: _) _ _); (with_reducible apply wpl_loadCH); (· exact cell_i64); (· rfl); (· rfl); (· exact H); (· exact List.mem_cons_of_mem _ hm); (· (with_reducible first | exact dbt_g0 .. | exact dbt_g1 .. | exact dbt_g2 .. | exact dbt_g3 ..)); (simp only [Act.put, List.setIfInBounds_toArray, List.set_cons_zero, List.set_cons_succ])))
          refine wp_region_O [12, 13] [0, 1, 2, 3, 4, 5, 6, 7, 8, 9, 10, 11, 12, 13, 14] (fun l0 => ∃ pre, l0 = pre ++ l) H ⟨[_], rfl⟩ (by kernel_rfl) (by kernel_rfl) ?_
          iterate 12 (apply wpO_step; (· rfl); (· rfl); (· rfl); (· exact Nat.le_of_ble_eq_true rfl); (· rintro l0 ⟨pre, rfl⟩ w0 H0; (first | go_big_quiet_skip | ((with_reducible apply wpQ_loadCH); (· exact cell_party); (· rfl); (· rfl); (· exact List.mem_append_right _ hm); (· (with_reducible first | exact dbt_g0 .. | exact dbt_g1 .. | exact dbt_g2 .. | exact dbt_g3 ..)); (simp only [Act.put, List.setIfInBounds_toArray, List.set_cons_zero, List.set_cons_succ])) | go_big_quiet_step (fail)); (refine wpQuiet_nil ?_); (simp only [Array.getD_eq_getD_getElem?, List.getElem?_toArray, List.getElem?_cons_succ, List.getElem?_cons_zero, Option.getD_some]; rfl)); (simp only [Act.put, List.setIfInBounds_toArray, List.set_cons_zero, List.set_cons_succ]))
          refine wpO_bsR rfl rfl rfl bs_edg8 rfl (fun p => ⟨[_, _], rfl⟩) ?_
          intro pf
          (simp only [Act.put, List.setIfInBounds_toArray, List.set_cons_zero, List.set_cons_succ])
          refine wpO_append slE rfl rfl rfl rfl (.there .here) List.mem_cons_self rfl rfl (edgC_one8 _ _ _) hn1 hn2 (fun v => ⟨[_, _], rfl⟩) ?_
          intro v2
          (simp only [Act.put, List.setIfInBounds_toArray, List.set_cons_zero, List.set_cons_succ])
          (apply wpO_step; (· rfl); (· rfl); (· rfl); (· exact Nat.le_of_ble_eq_true rfl); (· rintro l0 ⟨pre, rfl⟩ w0 H0; (first | go_big_quiet_skip | fail | go_big_quiet_step (fail)); (refine wpQuiet_nil ?_); (simp only [Array.getD_eq_getD_getElem?, List.getElem?_toArray, List.getElem?_cons_succ, List.getElem?_cons_zero, Option.getD_some]; rfl)); (simp only [Act.put, List.setIfInBounds_toArray, List.set_cons_zero, List.set_cons_succ]))
          (refine wpO_nil ?_; clear H; intro _ H)
          replace H := H.drop (.there .here)
          go_wp2_with (first | go_skip | ((with_reducible show wpList _ _ _ (_ :: _) _ _); (with_reducible apply wpl_loadCH); (· exact cell_i64); (· rfl); (· rfl); (· exact H); (· exact List.mem_cons_of_mem _ hm); (· (with_reducible first | exact dbt_g0 .. | exact dbt_g1 .. | exact dbt_g2 .. | exact dbt_g3 ..)); (simp only [Act.put, List.setIfInBounds_toArray, List.set_cons_zero, List.set_cons_succ])))
          refine ⟨⟨k + 1, by omega, by go_num, ?_⟩, ?measure2⟩
          case measure2 => simp [intOf]; omega
          rw [HTK.out, HX.out, edgL_app, List.length_append, HNE.out]
          simpa [edgL, edgV, edg] using H
      · have d0 : decide (m > 0) = false := decide_eq_false (by omega)
        by_cases h1 : 0 < kk
        · have d1 : decide (kk > 0) = true := decide_eq_true (by omega)
          have hX : edX ⟨f, t, y⟩ m = [⟨t, f, 1⟩] := by unfold edX; rw [if_neg (by omega), if_pos (by simp only; omega)]; rfl
          have HX := Lib.hid hX
          clear hX
          go_wp2_with (first | go_skip | ((with_reducible show wpList _ _ _ (_ :: _) _ _); (with_reducible apply wpl_loadCH); (· exact cell_i64); (· rfl); (· rfl); (· exact H); (· exact List.mem_cons_of_mem _ hm); (· (with_reducible first | exact dbt_g0 .. | exact dbt_g1 .. | exact dbt_g2 .. | exact dbt_g3 ..)); (simp only [Act.put, List.setIfInBounds_toArray, List.set_cons_zero, List.set_cons_succ])))
          refine wp_region_O [12, 13] [0, 1, 2, 3, 4, 5, 6, 7, 8, 9, 10, 11, 12, 13, 14] (fun l0 => ∃ pre, l0 = pre ++ l) H ⟨[_], rfl⟩ (by kernel_rfl) (by kernel_rfl) ?_
          iterate 12 (apply wpO_step; (· rfl); (· rfl); (· rfl); (· exact Nat.le_of_ble_eq_true rfl); (· rintro l0 ⟨pre, rfl⟩ w0 H0; (first | go_big_quiet_skip | ((with_reducible apply wpQ_loadCH); (· exact cell_party); (· rfl); (· rfl); (· exact List.mem_append_right _ hm); (· (with_reducible first | exact dbt_g0 .. | exact dbt_g1 .. | exact dbt_g2 .. | exact dbt_g3 ..)); (simp only [Act.put, List.setIfInBounds_toArray, List.set_cons_zero, List.set_cons_succ])) | go_big_quiet_step (fail)); (refine wpQuiet_nil ?_); (simp only [Array.getD_eq_getD_getElem?, List.getElem?_toArray, List.getElem?_cons_succ, List.getElem?_cons_zero, Option.getD_some]; rfl)); (simp only [Act.put, List.setIfInBounds_toArray, List.set_cons_zero, List.set_cons_succ]))
          refine wpO_bsR rfl rfl rfl bs_edg8 rfl (fun p => ⟨[_, _], rfl⟩) ?_
          intro pf
          (simp only [Act.put, List.setIfInBounds_toArray, List.set_cons_zero, List.set_cons_succ])
          refine wpO_append slE rfl rfl rfl rfl (.there .here) List.mem_cons_self rfl rfl (edgC_one8 _ _ _) hn1 hn2 (fun v => ⟨[_, _], rfl⟩) ?_
          intro v2
          (simp only [Act.put, List.setIfInBounds_toArray, List.set_cons_zero, List.set_cons_succ])
          (apply wpO_step; (· rfl); (· rfl); (· rfl); (· exact Nat.le_of_ble_eq_true rfl); (· rintro l0 ⟨pre, rfl⟩ w0 H0; (first | go_big_quiet_skip | fail | go_big_quiet_step (fail)); (refine wpQuiet_nil ?_); (simp only [Array.getD_eq_getD_getElem?, List.getElem?_toArray, List.getElem?_cons_succ, List.getElem?_cons_zero, Option.getD_some]; rfl)); (simp only [Act.put, List.setIfInBounds_toArray, List.set_cons_zero, List.set_cons_succ]))
          (refine wpO_nil ?_; clear H; intro _ H)
          replace H := H.drop (.there .here)
          go_wp2_with (first | go_skip | ((with_reducible show wpList _ _ _ (_ :: _) _ _); (with_reducible apply wpl_loadCH); (· exact cell_i64); (· rfl); (· rfl); (· exact H); (· exact List.mem_cons_of_mem _ hm); (· (with_reducible first | exact dbt_g0 .. | exact dbt_g1 .. | exact dbt_g2 .. | exact dbt_g3 ..)); (simp only [Act.put, List.setIfInBounds_toArray, List.set_cons_zero, List.set_cons_succ])))
          refine ⟨⟨k + 1, by omega, by go_num, ?_⟩, ?measure3⟩
          case measure3 => simp [intOf]; omega
          rw [HTK.out, HX.out, edgL_app, List.length_append, HNE.out]
          simpa [edgL, edgV, edg] using H
        · have d1 : decide (kk > 0) = false := decide_eq_false (by omega)
          have hX : edX ⟨f, t, y⟩ m = [] := by unfold edX; rw [if_neg (by omega), if_neg (by simp only; omega)]; rfl
          have HX := Lib.hid hX
          clear hX
          go_wp2_with (first | go_skip | ((with_reducible show wpList _ _ _ (_ :: _) _ _); (with_reducible apply wpl_loadCH); (· exact cell_i64); (· rfl); (· rfl); (· exact H); (· exact List.mem_cons_of_mem _ hm); (· (with_reducible first | exact dbt_g0 .. | exact dbt_g1 .. | exact dbt_g2 .. | exact dbt_g3 ..)); (simp only [Act.put, List.setIfInBounds_toArray, List.set_cons_zero, List.set_cons_succ])))
          refine ⟨⟨k + 1, by omega, by go_num, ?_⟩, ?measure4⟩
          case measure4 => simp [intOf]; omega
          rw [HTK.out, HX.out, edgL_app, List.length_append, HNE.out]
          simpa [edgL] using H
    · obtain rfl : k = n := by omega
      rw [List.take_of_length_le (by rw [HP.out.2.1]; exact Nat.le_refl _), List.take_of_length_le (by rw [HP.out.2.2]; exact Nat.le_refl _)] at H
      go_wp2_with (go_skip)
      go_ret
      exact ⟨_, rfl, H⟩
end
end Go.Proofs.YtgobnamhdkbbeaaGreat

/- rounds: a step of a round. -/
namespace Go.Proofs.YtgobnamhdkbbeaaGreat
open Go.RowKit
set_option linter.unusedSimpArgs false
set_option linter.unusedVariables false
def fwdAt (F : List Flw) (N : List Int) (a b j : Nat) : Prop := ∃ (x : Flw) (m : Int), F[j]? = some x ∧ N[j]? = some m ∧ x.f = a ∧ x.t = b ∧ 0 < m
def bckAt (F : List Flw) (N : List Int) (a b j : Nat) : Prop := ∃ (x : Flw) (m : Int), F[j]? = some x ∧ N[j]? = some m ∧ x.f = b ∧ x.t = a ∧ m < x.n
def stp0 : Array Value := #[.pointer none, .bool false]
theorem row_stp : RowTy 154 2 stp0 := ⟨⟨_, Tryz.underlying154, rfl⟩, by kernel_rfl, by kernel_rfl⟩
/-- What is found so far. -/
def StpC (F : List Flw) (N : List Int) (a b : Nat) (ps : List Nat) (k : Nat) (c : Array Value) : Prop := (c = stp0 ∧ ∀ j, j < k → ¬ bckAt F N a b j) ∨ (∃ j p, j < k ∧ bckAt F N a b j ∧ ps[j]? = some p ∧ c = stp p true)
structure StpR (W : World) (l : List Thing) (F : List Flw) (N : List Int) (a b : Nat) (ps : List Nat) (q n : Nat) (i : Value) (wr : World) : Prop where
  out : ∃ (k : Nat) (c : Array Value), k ≤ n ∧ i = .int .i64 (k : Int) ∧ (∀ j, j < k → ¬ fwdAt F N a b j) ∧ StpC F N a b ps k c ∧ c.size = 2 ∧ Heap W (Cel q c 154 :: l) wr
theorem StpC.size {F : List Flw} {N : List Int} {a b : Nat} {ps : List Nat} {k : Nat} {c : Array Value} (h : StpC F N a b ps k c) : c.size = 2 := by
  rcases h with ⟨rfl, _⟩ | ⟨j, p, _, _, _, rfl⟩ <;> rfl
theorem StpC.keep {F : List Flw} {N : List Int} {a b : Nat} {ps : List Nat} {k : Nat} {c : Array Value} (h : StpC F N a b ps k c) (hn : ¬ bckAt F N a b k) : StpC F N a b ps (k + 1) c := by
  rcases h with ⟨h1, h2⟩ | ⟨j, p, h1, h2⟩
  · exact .inl ⟨h1, fun j hj => by
      by_cases e : j = k
      · subst e; exact hn
      · exact h2 j (by omega)⟩
  · exact .inr ⟨j, p, by omega, h2⟩
theorem fwd_next {F : List Flw} {N : List Int} {a b k : Nat} (h : ∀ j, j < k → ¬ fwdAt F N a b j) (hn : ¬ fwdAt F N a b k) : ∀ j, j < k + 1 → ¬ fwdAt F N a b j := fun j hj => by
  by_cases e : j = k
  · subst e; exact hn
  · exact h j (by omega)
theorem StpC.end {F : List Flw} {N : List Int} (hM : MayD F) {a b i n : Nat} {back : Bool} {ps : List Nat} {p : Nat} {c : Array Value} (hl : F.length = n) (hS : StepIs F N a b i back) (hp : ps[i]? = some p) (h1 : ∀ j, j < n → ¬ fwdAt F N a b j) (h2 : StpC F N a b ps n c) : c = stp p back := by
  obtain ⟨x, m, x1, x2, ⟨rfl, x3, x4, x5⟩ | ⟨rfl, x3, x4, x5, _⟩⟩ := hS
  · exact absurd ⟨x, m, x1, x2, x3, x4, x5⟩ (h1 i (by rw [← hl]; exact (List.getElem?_eq_some_iff.1 x1).1))
  · rcases h2 with ⟨_, h2⟩ | ⟨j, p', _, ⟨y, k, y1, y2, y3, y4, y5⟩, h3, rfl⟩
    · exact absurd ⟨x, m, x1, x2, x3, x4, x5⟩ (h2 i (by rw [← hl]; exact (List.getElem?_eq_some_iff.1 x1).1))
    · obtain rfl := hM.uniq x1 y1 (by omega) (by omega)
      rw [hp] at h3
      cases h3
      rfl
theorem fwd_is {F : List Flw} {N : List Int} (hM : MayD F) {a b i k : Nat} {back : Bool} (hS : StepIs F N a b i back) (h : fwdAt F N a b k) : i = k ∧ back = false := by
  obtain ⟨x, m, h1, h2, h3, h4, h5⟩ := h
  exact hS.det hM ⟨x, m, h1, h2, .inl ⟨rfl, h3, h4, h5⟩⟩

theorem stp_cells (p : Nat) (b : Bool) : Cells 2 #[.pointer (some ⟨p, 0, none⟩), .bool b] := ⟨rfl, by simp [Value.oneCell']⟩
theorem stp_all (p : Nat) (b : Bool) : (stp p b).extract 0 (0 + 2) = stp p b := by simp [stp]
theorem stp_cells2 (p : Nat) (b : Bool) : Cells 2 (stp p b) := stp_cells p b
theorem stp_splice2 (p : Nat) (b : Bool) : splice (stp p b) 0 (stp p b) = stp p b := splice_all rfl
theorem stp_splice {c : Array Value} (h : c.size = 2) (p : Nat) (b : Bool) : splice c 0 #[.pointer (some ⟨p, 0, none⟩), .bool b] = stp p b := splice_all (by rw [h]; rfl)
section
variable {W w : World} {l : List Thing}
set_option maxRecDepth 100000
set_option maxHeartbeats 8000000
theorem step8_H (ea : Option Addr) (n c : Nat) (ps : List Nat) (F : List Flw) (N : List Int) (hM : MayD F) (hp : ps.length = n) (hf : F.length = n) (hN : N.length = n) (hn : n ≤ 1000)
    (R : ∀ l' w', (∀ x ∈ l, x ∈ l') → Heap W l' w' → Rd w' ea (ptrL ps)) (D : ∀ (i p : Nat) (x : Flw) (m : Int), ps[i]? = some p → F[i]? = some x → N[i]? = some m → debtT p x m ∈ l)
    (a b i0 p0 : Nat) (back : Bool) (hS : StepIs F N a b i0 back) (hp0 : ps[i0]? = some p0) :
    AnsH W l 94 #[.slice ea n c, .int .u8 (a : Int), .int .u8 (b : Int)] (.agg (stp p0 back)) := by
  intro w H
  have HP := Lib.hid (And.intro hp (And.intro hf hN))
  have HD := Lib.hid D
  have HR := Lib.hid R
  have HE := Lib.hid (fun c (h1 : ∀ j, j < n → ¬ fwdAt F N a b j) (h2 : StpC F N a b ps n c) => StpC.end hM hf hS hp0 h1 h2)
  have HW := Lib.hid (fun k (h : fwdAt F N a b k) => fwd_is hM hS h)
  have HP0 := Lib.hid hp0
  have hab : a ≠ b := by
    obtain ⟨x, m, x1, _, x3⟩ := hS
    have := (hM.okX x1).2.2.2.2.1
    rcases x3 with ⟨_, x3, x4, _⟩ | ⟨_, x3, x4, _⟩ <;> omega
  have HOK := Lib.hid (fun (i : Nat) (x : Flw) (h : F[i]? = some x) => (hM.okX h).2.2.2.2.1)
  clear hp hf hN D R hM hS hp0
  go_enter Tryz.func94, Tryz.ntmps94
  go_wp2_with (first | go_skip | ((with_reducible show wpList _ _ _ (_ :: _) _ _); (with_reducible apply wpl_allocRH row_stp); (· rfl); (· exact H); (clear H; intro q _ H); (simp only [Act.put, List.setIfInBounds_toArray, List.set_cons_zero, List.set_cons_succ])))
  have H0 := H
  clear H
  go_loopw [11] (fun i wr => StpR W l F N a b ps q n i wr) (fun i _ => n - (intOf i).toNat)
  case atStart => exact ⟨0, stp0, Nat.zero_le _, rfl, fun j hj => absurd hj (by omega), .inl ⟨rfl, fun j hj => absurd hj (by omega)⟩, rfl, H0⟩
  case round =>
    obtain ⟨k, cc, hk, rfl, hno, hcc, hsz, H⟩ := hrel.out
    clear H0 hrel
    have HNO := Lib.hid hno
    have HCC := Lib.hid hcc
    clear hno hcc
    by_cases hlt : k < n
    · have hpk : ps[k]? = some (ps[k]'(by rw [HP.out.1]; exact hlt)) := List.getElem?_eq_getElem _
      have hfk : F[k]? = some (F[k]'(by rw [HP.out.2.1]; exact hlt)) := List.getElem?_eq_getElem _
      have hnk : N[k]? = some (N[k]'(by rw [HP.out.2.2]; exact hlt)) := List.getElem?_eq_getElem _
      generalize ps[k]'(by rw [HP.out.1]; exact hlt) = p at *
      generalize F[k]'(by rw [HP.out.2.1]; exact hlt) = x at *
      generalize N[k]'(by rw [HP.out.2.2]; exact hlt) = m at *
      have hm : debtT p x m ∈ l := HD.out k p x m hpk hfk hnk
      have Rw := HR.out _ wr (fun x hx => List.mem_cons_of_mem _ hx) H
      obtain ⟨eb, eo, rfl, _⟩ := Rw.lt (by rw [ptrL_len, HP.out.1]; omega)
      have hc : wr.cell? ⟨eb, eo + k, none⟩ = some (.pointer (some ⟨p, 0, none⟩)) := by
        have := Rw.get (i := k) (by rw [ptrL_len, HP.out.1]; exact hlt)
        simpa [ptrL, List.getElem_map, (List.getElem?_eq_some_iff.1 hpk).2] using this
      have HPK := Lib.hid hpk
      have hft := HOK.out k x hfk
      have HF := Lib.hid (show fwdAt F N a b k ↔ (x.f = a ∧ x.t = b ∧ 0 < m) from ⟨fun ⟨y, j, h1, h2, h3⟩ => by rw [hfk] at h1; rw [hnk] at h2; cases h1; cases h2; exact h3, fun h => ⟨x, m, hfk, hnk, h⟩⟩)
      have HB := Lib.hid (show bckAt F N a b k ↔ (x.f = b ∧ x.t = a ∧ m < x.n) from ⟨fun ⟨y, j, h1, h2, h3⟩ => by rw [hfk] at h1; rw [hnk] at h2; cases h1; cases h2; exact h3, fun h => ⟨x, m, hfk, hnk, h⟩⟩)
      clear hpk hfk hnk Rw
      obtain ⟨f, t, y⟩ := x
      unfold debtT at hm
      simp only at hm HF HB hft
      obtain ⟨kk, hkk⟩ : ∃ kk, y - m = kk := ⟨_, rfl⟩
      rw [hkk] at hm
      by_cases u1 : f = a
      · have e1 : ((f : Int) == (a : Int)) = true := by simp; omega
        by_cases u2 : t = b
        · have e2 : ((t : Int) == (b : Int)) = true := by simp; omega
          by_cases u3 : 0 < m
          · have e3 : decide (m > 0) = true := decide_eq_true u3
            obtain ⟨hi, hb⟩ := HW.out k (HF.out.2 ⟨u1, u2, u3⟩)
            subst hi hb
            obtain rfl : p0 = p := Option.some.inj (HP0.out.symm.trans HPK.out)
            clear u1 u2 u3
            go_wp2_with (first | go_skip | ((with_reducible show wpList _ _ _ (_ :: _) _ _); (with_reducible apply wpl_loadCH); (· first | exact cell_party | exact cell_i64); (· rfl); (· rfl); (· exact H); (· exact List.mem_cons_of_mem _ hm); (· (with_reducible first | exact dbt_g0 .. | exact dbt_g1 .. | exact dbt_g2 .. | exact dbt_g3 ..)); (simp only [Act.put, List.setIfInBounds_toArray, List.set_cons_zero, List.set_cons_succ])) | ((with_reducible show wpList _ _ _ (_ :: _) _ _); (with_reducible apply wpl_storeRH row_stp); (· rfl); (· rfl); (· rfl); (· with_reducible exact stp_cells ..); (· exact H); (· (repeat (first | (with_reducible exact List.mem_cons_self) | with_reducible apply List.mem_cons_of_mem))); (· (simp only [hsz, Nat.reduceAdd, Nat.reduceLeDiff, Nat.le_refl]; done)); (· with_reducible exact stp_splice hsz ..); (· (repeat (first | (with_reducible exact Repl.here) | with_reducible apply Repl.there))); (clear H; intro _ H); (simp only [Act.put, List.setIfInBounds_toArray, List.set_cons_zero, List.set_cons_succ])))
            exact ret_row1H row_stp rfl rfl rfl H List.mem_cons_self rfl ⟨rfl, H.tail⟩
          · have e3 : decide (m > 0) = false := decide_eq_false u3
            have HNF := Lib.hid (show ¬ fwdAt F N a b k from fun h => u3 (HF.out.1 h).2.2)
            by_cases v1 : f = b
            · exact absurd (v1.trans u2.symm) hft
            · have r1 : ((f : Int) == (b : Int)) = false := by simp; omega
              have HNB := Lib.hid (show ¬ bckAt F N a b k from fun h => v1 (HB.out.1 h).1)
              go_wp2_with (first | go_skip | ((with_reducible show wpList _ _ _ (_ :: _) _ _); (with_reducible apply wpl_loadCH); (· first | exact cell_party | exact cell_i64); (· rfl); (· rfl); (· exact H); (· exact List.mem_cons_of_mem _ hm); (· (with_reducible first | exact dbt_g0 .. | exact dbt_g1 .. | exact dbt_g2 .. | exact dbt_g3 ..)); (simp only [Act.put, List.setIfInBounds_toArray, List.set_cons_zero, List.set_cons_succ])) | ((with_reducible show wpList _ _ _ (_ :: _) _ _); (with_reducible apply wpl_storeRH row_stp); (· rfl); (· rfl); (· rfl); (· with_reducible exact stp_cells ..); (· exact H); (· (repeat (first | (with_reducible exact List.mem_cons_self) | with_reducible apply List.mem_cons_of_mem))); (· (simp only [hsz, Nat.reduceAdd, Nat.reduceLeDiff, Nat.le_refl]; done)); (· with_reducible exact stp_splice hsz ..); (· (repeat (first | (with_reducible exact Repl.here) | with_reducible apply Repl.there))); (clear H; intro _ H); (simp only [Act.put, List.setIfInBounds_toArray, List.set_cons_zero, List.set_cons_succ])))
              refine ⟨⟨k + 1, _, by omega, by go_num, fwd_next HNO.out HNF.out, HCC.out.keep HNB.out, hsz, H⟩, ?measure1⟩
              case measure1 => simp [intOf]; omega
        · have e2 : ((t : Int) == (b : Int)) = false := by simp; omega
          have HNF := Lib.hid (show ¬ fwdAt F N a b k from fun h => u2 (HF.out.1 h).2.1)
          by_cases v1 : f = b
          · exact absurd (u1.symm.trans v1) hab
          · have r1 : ((f : Int) == (b : Int)) = false := by simp; omega
            have HNB := Lib.hid (show ¬ bckAt F N a b k from fun h => v1 (HB.out.1 h).1)
            go_wp2_with (first | go_skip | ((with_reducible show wpList _ _ _ (_ :: _) _ _); (with_reducible apply wpl_loadCH); (· first | exact cell_party | exact cell_i64); (· rfl); (· rfl); (· exact H); (· exact List.mem_cons_of_mem _ hm); (· (with_reducible first | exact dbt_g0 .. | exact dbt_g1 .. | exact dbt_g2 .. | exact dbt_g3 ..)); (simp only [Act.put, List.setIfInBounds_toArray, List.set_cons_zero, List.set_cons_succ])) | ((with_reducible show wpList _ _ _ (_ :: _) _ _); (with_reducible apply wpl_storeRH row_stp); (· rfl); (· rfl); (· rfl); (· with_reducible exact stp_cells ..); (· exact H); (· (repeat (first | (with_reducible exact List.mem_cons_self) | with_reducible apply List.mem_cons_of_mem))); (· (simp only [hsz, Nat.reduceAdd, Nat.reduceLeDiff, Nat.le_refl]; done)); (· with_reducible exact stp_splice hsz ..); (· (repeat (first | (with_reducible exact Repl.here) | with_reducible apply Repl.there))); (clear H; intro _ H); (simp only [Act.put, List.setIfInBounds_toArray, List.set_cons_zero, List.set_cons_succ])))
            refine ⟨⟨k + 1, _, by omega, by go_num, fwd_next HNO.out HNF.out, HCC.out.keep HNB.out, hsz, H⟩, ?measure2⟩
            case measure2 => simp [intOf]; omega
      · have e1 : ((f : Int) == (a : Int)) = false := by simp; omega
        have HNF := Lib.hid (show ¬ fwdAt F N a b k from fun h => u1 (HF.out.1 h).1)
        by_cases v1 : f = b
        · have r1 : ((f : Int) == (b : Int)) = true := by simp; omega
          by_cases v2 : t = a
          · have r2 : ((t : Int) == (a : Int)) = true := by simp; omega
            by_cases v3 : 0 < kk
            · have r3 : decide (kk > 0) = true := decide_eq_true v3
              have HNB := Lib.hid (show bckAt F N a b k from HB.out.2 ⟨v1, v2, by omega⟩)
              go_wp2_with (first | go_skip | ((with_reducible show wpList _ _ _ (_ :: _) _ _); (with_reducible apply wpl_loadCH); (· first | exact cell_party | exact cell_i64); (· rfl); (· rfl); (· exact H); (· exact List.mem_cons_of_mem _ hm); (· (with_reducible first | exact dbt_g0 .. | exact dbt_g1 .. | exact dbt_g2 .. | exact dbt_g3 ..)); (simp only [Act.put, List.setIfInBounds_toArray, List.set_cons_zero, List.set_cons_succ])) | ((with_reducible show wpList _ _ _ (_ :: _) _ _); (with_reducible apply wpl_storeRH row_stp); (· rfl); (· rfl); (· rfl); (· with_reducible exact stp_cells ..); (· exact H); (· (repeat (first | (with_reducible exact List.mem_cons_self) | with_reducible apply List.mem_cons_of_mem))); (· (simp only [hsz, Nat.reduceAdd, Nat.reduceLeDiff, Nat.le_refl]; done)); (· with_reducible exact stp_splice hsz ..); (· (repeat (first | (with_reducible exact Repl.here) | with_reducible apply Repl.there))); (clear H; intro _ H); (simp only [Act.put, List.setIfInBounds_toArray, List.set_cons_zero, List.set_cons_succ])))
              refine ⟨⟨k + 1, _, by omega, by go_num, fwd_next HNO.out HNF.out, .inr ⟨k, p, by omega, HNB.out, HPK.out, rfl⟩, rfl, H⟩, ?measure3⟩
              case measure3 => simp [intOf]; omega
            · have r3 : decide (kk > 0) = false := decide_eq_false v3
              have HNB := Lib.hid (show ¬ bckAt F N a b k from fun h => by have := (HB.out.1 h).2.2; omega)
              go_wp2_with (first | go_skip | ((with_reducible show wpList _ _ _ (_ :: _) _ _); (with_reducible apply wpl_loadCH); (· first | exact cell_party | exact cell_i64); (· rfl); (· rfl); (· exact H); (· exact List.mem_cons_of_mem _ hm); (· (with_reducible first | exact dbt_g0 .. | exact dbt_g1 .. | exact dbt_g2 .. | exact dbt_g3 ..)); (simp only [Act.put, List.setIfInBounds_toArray, List.set_cons_zero, List.set_cons_succ])) | ((with_reducible show wpList _ _ _ (_ :: _) _ _); (with_reducible apply wpl_storeRH row_stp); (· rfl); (· rfl); (· rfl); (· with_reducible exact stp_cells ..); (· exact H); (· (repeat (first | (with_reducible exact List.mem_cons_self) | with_reducible apply List.mem_cons_of_mem))); (· (simp only [hsz, Nat.reduceAdd, Nat.reduceLeDiff, Nat.le_refl]; done)); (· with_reducible exact stp_splice hsz ..); (· (repeat (first | (with_reducible exact Repl.here) | with_reducible apply Repl.there))); (clear H; intro _ H); (simp only [Act.put, List.setIfInBounds_toArray, List.set_cons_zero, List.set_cons_succ])))
              refine ⟨⟨k + 1, _, by omega, by go_num, fwd_next HNO.out HNF.out, HCC.out.keep HNB.out, hsz, H⟩, ?measure4⟩
              case measure4 => simp [intOf]; omega
          · have r2 : ((t : Int) == (a : Int)) = false := by simp; omega
            have HNB := Lib.hid (show ¬ bckAt F N a b k from fun h => v2 (HB.out.1 h).2.1)
            go_wp2_with (first | go_skip | ((with_reducible show wpList _ _ _ (_ :: _) _ _); (with_reducible apply wpl_loadCH); (· first | exact cell_party | exact cell_i64); (· rfl); (· rfl); (· exact H); (· exact List.mem_cons_of_mem _ hm); (· (with_reducible first | exact dbt_g0 .. | exact dbt_g1 .. | exact dbt_g2 .. | exact dbt_g3 ..)); (simp only [Act.put, List.setIfInBounds_toArray, List.set_cons_zero, List.set_cons_succ])) | ((with_reducible show wpList _ _ _ (_ :: _) _ _); (with_reducible apply wpl_storeRH row_stp); (· rfl); (· rfl); (· rfl); (· with_reducible exact stp_cells ..); (· exact H); (· (repeat (first | (with_reducible exact List.mem_cons_self) | with_reducible apply List.mem_cons_of_mem))); (· (simp only [hsz, Nat.reduceAdd, Nat.reduceLeDiff, Nat.le_refl]; done)); (· with_reducible exact stp_splice hsz ..); (· (repeat (first | (with_reducible exact Repl.here) | with_reducible apply Repl.there))); (clear H; intro _ H); (simp only [Act.put, List.setIfInBounds_toArray, List.set_cons_zero, List.set_cons_succ])))
            refine ⟨⟨k + 1, _, by omega, by go_num, fwd_next HNO.out HNF.out, HCC.out.keep HNB.out, hsz, H⟩, ?measure5⟩
            case measure5 => simp [intOf]; omega
        · have r1 : ((f : Int) == (b : Int)) = false := by simp; omega
          have HNB := Lib.hid (show ¬ bckAt F N a b k from fun h => v1 (HB.out.1 h).1)
          go_wp2_with (first | go_skip | ((with_reducible show wpList _ _ _ (_ :: _) _ _); (with_reducible apply wpl_loadCH); (· first | exact cell_party | exact cell_i64); (· rfl); (· rfl); (· exact H); (· exact List.mem_cons_of_mem _ hm); (· (with_reducible first | exact dbt_g0 .. | exact dbt_g1 .. | exact dbt_g2 .. | exact dbt_g3 ..)); (simp only [Act.put, List.setIfInBounds_toArray, List.set_cons_zero, List.set_cons_succ])) | ((with_reducible show wpList _ _ _ (_ :: _) _ _); (with_reducible apply wpl_storeRH row_stp); (· rfl); (· rfl); (· rfl); (· with_reducible exact stp_cells ..); (· exact H); (· (repeat (first | (with_reducible exact List.mem_cons_self) | with_reducible apply List.mem_cons_of_mem))); (· (simp only [hsz, Nat.reduceAdd, Nat.reduceLeDiff, Nat.le_refl]; done)); (· with_reducible exact stp_splice hsz ..); (· (repeat (first | (with_reducible exact Repl.here) | with_reducible apply Repl.there))); (clear H; intro _ H); (simp only [Act.put, List.setIfInBounds_toArray, List.set_cons_zero, List.set_cons_succ])))
          refine ⟨⟨k + 1, _, by omega, by go_num, fwd_next HNO.out HNF.out, HCC.out.keep HNB.out, hsz, H⟩, ?measure6⟩
          case measure6 => simp [intOf]; omega
    · obtain rfl : k = n := by omega
      have hres := HE.out cc HNO.out HCC.out
      subst hres
      go_wp2_with (first | go_skip | ((with_reducible show wpList _ _ _ (_ :: _) _ _); (with_reducible apply wpl_loadRH row_stp); (· rfl); (· rfl); (· exact H); (· (repeat (first | (with_reducible exact List.mem_cons_self) | with_reducible apply List.mem_cons_of_mem))); (· (simp only [hsz, Nat.reduceAdd, Nat.reduceLeDiff, Nat.le_refl]; done)); (· with_reducible exact stp_all ..); (simp only [Act.put, List.setIfInBounds_toArray, List.set_cons_zero, List.set_cons_succ])) | ((with_reducible show wpList _ _ _ (_ :: _) _ _); (with_reducible apply wpl_storeRH row_stp); (· rfl); (· rfl); (· rfl); (· with_reducible exact stp_cells2 ..); (· exact H); (· (repeat (first | (with_reducible exact List.mem_cons_self) | with_reducible apply List.mem_cons_of_mem))); (· (simp only [hsz, Nat.reduceAdd, Nat.reduceLeDiff, Nat.le_refl]; done)); (· with_reducible exact stp_splice2 ..); (· (repeat (first | (with_reducible exact Repl.here) | with_reducible apply Repl.there))); (clear H; intro _ H); (simp only [Act.put, List.setIfInBounds_toArray, List.set_cons_zero, List.set_cons_succ])))
      exact ret_row1H row_stp rfl rfl rfl H List.mem_cons_self rfl ⟨rfl, H.tail⟩
end
end Go.Proofs.YtgobnamhdkbbeaaGreat
