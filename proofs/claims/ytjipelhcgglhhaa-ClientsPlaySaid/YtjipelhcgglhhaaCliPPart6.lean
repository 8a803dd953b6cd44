/- Part 6 of what ProofClientsPlay stands on: Same27, Open27P, Great27P. -/
import Derived.Test.YtjipelhcgglhhaaCliPPart5
/- countinghouselaw23's Same, SameAll, Other; countinghouselaw01's SameReply, SameCall, of letters of a client. -/
namespace Go.Proofs.Ytjipelhcgglhhaa
open Go.RowKit
set_option linter.unusedSimpArgs false
set_option linter.unusedVariables false
set_option maxRecDepth 100000
def kall (cid : Int) (cnum : Int) (steps : Value) : Array Value := #[.int .u8 cid, .int .u64 cnum, steps]
section
variable (cid : Int) (cnum : Int) (steps : Value)
theorem kall_g0 : (kall cid cnum steps)[0]? = some (.int .u8 cid) := rfl
theorem kall_g1 : (kall cid cnum steps)[1]? = some (.int .u64 cnum) := rfl
theorem kall_g2 : (kall cid cnum steps)[2]? = some (steps) := rfl
end
theorem lett_kall (k f t c m : Int) (s : Value) : (lett k f t c m s).extract 10 (10 + 3) = kall c m s := by simp [lett, kall]
theorem rlet_kall (k f t c m : Int) (s : Value) : (rlet k f t 0 0 0 0 false (.slice none 0 0) (.slice none 0 0) c m s 0 0 0 (.slice none 0 0)).extract 10 (10 + 3) = kall c m s := by simp [rlet, kall]
theorem lett_rep (k f t c m : Int) (s : Value) : (lett k f t c m s).extract 14 (14 + 3) = rep 0 0 (.slice none 0 0) := by simp [lett, rep]
theorem letg_kall (kind frm lto term index mark commit : Int) (yes : Bool) (entries data : Value) (cid cnum : Int) (steps : Value) (err rerr rat : Int) (got : Value) : (letg kind frm lto term index mark commit yes entries data cid cnum steps err rerr rat got).extract 10 (10 + 3) = kall cid cnum steps := by simp [letg, kall]
section
variable {W w : World} {l : List Thing}
set_option maxHeartbeats 4000000
theorem sameBy_nil : AnsH W l 42 #[.slice none 0 0, .slice none 0 0] (.bool true) := by
  intro w H
  go_enter Try.func42, Try.ntmps42
  go_wp2_with (go_skip)
  go_loopw [5] (fun vi wr => vi = .int .i64 0 ∧ Heap W l wr) (fun _ _ => 0)
  case atStart => exact ⟨rfl, H⟩
  case round =>
    obtain ⟨rfl, H'⟩ := hrel
    clear H
    have H := H'
    clear H'
    go_wp2_with (go_skip)
    go_ret
    exact ⟨rfl, H⟩
theorem sameBytes_nil : AnsH W l 39 #[.slice none 0 0, .slice none 0 0] (.bool true) := by
  intro w H
  have S := sameBy_nil (W := W) (l := l)
  go_enter Try.func39, Try.ntmps39
  go_wp2_with (first | go_skip | ((with_reducible refine AnsH.call (by assumption) H ?_); clear H; intro _ H))
  go_ret
  exact ⟨rfl, H⟩
theorem sameEntries_nil : AnsH W l 38 #[.slice none 0 0, .slice none 0 0] (.bool true) := by
  intro w H
  go_enter Try.func38, Try.ntmps38
  go_wp2_with (go_skip)
  go_loopw [5] (fun vi wr => vi = .int .i64 0 ∧ Heap W l wr) (fun _ _ => 0)
  case atStart => exact ⟨rfl, H⟩
  case round =>
    obtain ⟨rfl, H'⟩ := hrel
    clear H
    have H := H'
    clear H'
    go_wp2_with (go_skip)
    go_ret
    exact ⟨rfl, H⟩
theorem sameReply_H (rerr rat : Int) (a b : Option Addr) (n c d : Nat) (L : List RowG) (hl : L.length = n) (hn : n ≤ 1000000) (RA : ∀ l' w', (∀ x ∈ l, x ∈ l') → Heap W l' w' → Rd w' a (rowGL L)) (RB : ∀ l' w', (∀ x ∈ l, x ∈ l') → Heap W l' w' → Rd w' b (rowGL L)) :
    AnsH W l 24 #[.agg (rep rerr rat (.slice a n c)), .agg (rep rerr rat (.slice b n d))] (.bool true) := by
  intro w H
  have S := Lib.hid (fun (l' : List Thing) (hh : ∀ x ∈ l, x ∈ l') => sameG_P (W := W) (l := l') (L := L) a b n c d hl hn (fun w' h => RA l' w' hh h) (fun w' h => RB l' w' hh h))
  have q1 : (rerr == rerr) = true := by simp
  have q2 : (rat == rat) = true := by simp
  clear hl RA RB
  go_enter Try.func24, Try.ntmps24
  go_wp2_with (first
    | ((with_reducible show wpList _ _ _ (_ :: _) _ _); (with_reducible apply wpl_boxRH); (· rfl); (· rfl); (· exact H); (clear H; intro px _ H); (simp only [Act.put, List.setIfInBounds_toArray, List.set_cons_zero, List.set_cons_succ]))
    | go_skip
    | ((with_reducible show wpList _ _ _ (_ :: _) _ _); (with_reducible apply wpl_loadCH); (· first | exact cell_errno | exact cell_i64 | exact cell_gots); (· rfl); (· rfl); (· exact H); (· (repeat (first | (with_reducible exact List.mem_cons_self) | with_reducible apply List.mem_cons_of_mem))); (· (with_reducible first | exact rep_g0 .. | exact rep_g1 .. | exact rep_g2 ..)); (simp only [Act.put, List.setIfInBounds_toArray, List.set_cons_zero, List.set_cons_succ]))
    | ((refine (S.out _ (fun x hx => List.mem_cons_of_mem _ (List.mem_cons_of_mem _ hx)) _ H).mono ?_); clear H; rintro _ _ ⟨rfl, H⟩))
  go_ret
  exact ⟨rfl, H.tail.tail⟩
theorem sameCall_H (cid cnum : Int) (a b : Option Addr) (n c d : Nat) (L : List RowS) (hl : L.length = n) (hn : n ≤ 1000000) (RA : ∀ l' w', (∀ x ∈ l, x ∈ l') → Heap W l' w' → Rd w' a (rowSL L)) (RB : ∀ l' w', (∀ x ∈ l, x ∈ l') → Heap W l' w' → Rd w' b (rowSL L)) :
    AnsH W l 40 #[.agg (kall cid cnum (.slice a n c)), .agg (kall cid cnum (.slice b n d))] (.bool true) := by
  intro w H
  have S := Lib.hid (fun (l' : List Thing) (hh : ∀ x ∈ l, x ∈ l') => sameS_P (W := W) (l := l') (L := L) a b n c d hl hn (fun w' h => RA l' w' hh h) (fun w' h => RB l' w' hh h))
  have q1 : (cid == cid) = true := by simp
  have q2 : (cnum == cnum) = true := by simp
  clear hl RA RB
  go_enter Try.func40, Try.ntmps40
  go_wp2_with (first
    | ((with_reducible show wpList _ _ _ (_ :: _) _ _); (with_reducible apply wpl_boxRH); (· rfl); (· rfl); (· exact H); (clear H; intro px _ H); (simp only [Act.put, List.setIfInBounds_toArray, List.set_cons_zero, List.set_cons_succ]))
    | go_skip
    | ((with_reducible show wpList _ _ _ (_ :: _) _ _); (with_reducible apply wpl_loadCH); (· first | exact cell_b8 | exact cell_u64 | exact cell_steps); (· rfl); (· rfl); (· exact H); (· (repeat (first | (with_reducible exact List.mem_cons_self) | with_reducible apply List.mem_cons_of_mem))); (· (with_reducible first | exact kall_g0 .. | exact kall_g1 .. | exact kall_g2 ..)); (simp only [Act.put, List.setIfInBounds_toArray, List.set_cons_zero, List.set_cons_succ]))
    | ((refine (S.out _ (fun x hx => List.mem_cons_of_mem _ (List.mem_cons_of_mem _ hx)) _ H).mono ?_); clear H; rintro _ _ ⟨rfl, H⟩))
  go_ret
  exact ⟨rfl, H.tail.tail⟩
theorem same23_H (frm lto cid cnum : Int) (a b : Option Addr) (n c d : Nat) (L : List RowS) (hl : L.length = n) (hn : n ≤ 1000000) (RA : ∀ l' w', (∀ x ∈ l, x ∈ l') → Heap W l' w' → Rd w' a (rowSL L)) (RB : ∀ l' w', (∀ x ∈ l, x ∈ l') → Heap W l' w' → Rd w' b (rowSL L)) :
    AnsH W l 34 #[.agg (lett 6 frm lto cid cnum (.slice a n c)), .agg (rlet 6 frm lto 0 0 0 0 false (.slice none 0 0) (.slice none 0 0) cid cnum (.slice b n d) 0 0 0 (.slice none 0 0))] (.bool true) := by
  intro w H
  have S1 := Lib.hid (fun (l' : List Thing) => sameEntries_nil (W := W) (l := l'))
  have S2 := Lib.hid (fun (l' : List Thing) => sameBytes_nil (W := W) (l := l'))
  have S3 := Lib.hid (fun (l' : List Thing) (hh : ∀ x ∈ l, x ∈ l') => sameCall_H (W := W) (l := l') cid cnum a b n c d L hl hn (fun l2 w' h2 h => RA l2 w' (fun x hx => h2 x (hh x hx)) h) (fun l2 w' h2 h => RB l2 w' (fun x hx => h2 x (hh x hx)) h))
  have S4 := Lib.hid (fun (l' : List Thing) => sameReply_H (W := W) (l := l') 0 0 none none 0 0 0 [] rfl (by omega) (fun _ _ _ _ => Rd.nil _ _) (fun _ _ _ _ => Rd.nil _ _))
  have q1 : (frm == frm) = true := by simp
  have q2 : (lto == lto) = true := by simp
  clear hl RA RB
  go_enter Try.func34, Try.ntmps34
  simp only [List.append_eq, List.cons_append, List.nil_append]
  go_wp2_with (first
    | ((with_reducible show wpList _ _ _ (_ :: _) _ _); (with_reducible apply wpl_boxRH); (· rfl); (· rfl); (· exact H); (clear H; intro px _ H); (simp only [Act.put, List.setIfInBounds_toArray, List.set_cons_zero, List.set_cons_succ]))
    | go_skip
    | ((with_reducible show wpList _ _ _ (_ :: _) _ _); (with_reducible apply wpl_loadCH); (· first | exact cell_kind | exact cell_b8 | exact cell_u64 | exact cell_i64 | exact cell_bool | exact cell_entries | exact cell_bytes | exact cell_errno); (· rfl); (· rfl); (· exact H); (· (repeat (first | (with_reducible exact List.mem_cons_self) | with_reducible apply List.mem_cons_of_mem))); (· (with_reducible first | exact lett_g0 .. | exact lett_g1 .. | exact lett_g2 .. | exact lett_g3 .. | exact lett_g4 .. | exact lett_g5 .. | exact lett_g6 .. | exact lett_g7 .. | exact lett_g8 .. | exact lett_g9 .. | exact lett_g10 .. | exact lett_g11 .. | exact lett_g12 .. | exact lett_g13 .. | exact lett_g14 .. | exact lett_g15 .. | exact lett_g16 .. | exact rlet_g0 .. | exact rlet_g1 .. | exact rlet_g2 .. | exact rlet_g3 .. | exact rlet_g4 .. | exact rlet_g5 .. | exact rlet_g6 .. | exact rlet_g7 .. | exact rlet_g8 .. | exact rlet_g9 .. | exact rlet_g10 .. | exact rlet_g11 .. | exact rlet_g12 .. | exact rlet_g13 .. | exact rlet_g14 .. | exact rlet_g15 .. | exact rlet_g16 ..)); (simp only [Act.put, List.setIfInBounds_toArray, List.set_cons_zero, List.set_cons_succ]))
    | ((with_reducible show wpList _ _ _ (_ :: _) _ _); (with_reducible apply wpl_loadRH row_call); (· rfl); (· rfl); (· exact H); (· (repeat (first | (with_reducible exact List.mem_cons_self) | with_reducible apply List.mem_cons_of_mem))); (· (simp only [lett_sz, rlet_sz, Nat.reduceAdd, Nat.reduceLeDiff, Nat.le_refl]; done)); (· with_reducible first | exact lett_kall .. | exact rlet_kall ..); (simp only [Act.put, List.setIfInBounds_toArray, List.set_cons_zero, List.set_cons_succ]))
    | ((with_reducible show wpList _ _ _ (_ :: _) _ _); (with_reducible apply wpl_loadRH row_rep); (· rfl); (· rfl); (· exact H); (· (repeat (first | (with_reducible exact List.mem_cons_self) | with_reducible apply List.mem_cons_of_mem))); (· (simp only [lett_sz, rlet_sz, Nat.reduceAdd, Nat.reduceLeDiff, Nat.le_refl]; done)); (· with_reducible first | exact lett_rep .. | exact rlet_rep ..); (simp only [Act.put, List.setIfInBounds_toArray, List.set_cons_zero, List.set_cons_succ]))
    | ((refine (S1.out _ _ H).mono ?_); clear H; rintro _ _ ⟨rfl, H⟩)
    | ((refine (S2.out _ _ H).mono ?_); clear H; rintro _ _ ⟨rfl, H⟩)
    | ((refine (S3.out _ (fun x hx => List.mem_cons_of_mem _ (List.mem_cons_of_mem _ hx)) _ H).mono ?_); clear H; rintro _ _ ⟨rfl, H⟩)
    | ((refine (S4.out _ _ H).mono ?_); clear H; rintro _ _ ⟨rfl, H⟩))
  go_ret
  exact ⟨rfl, H.tail.tail⟩
theorem sameAll_nil : AnsH W l 19 #[.slice none 0 0, .slice none 0 0] (.bool true) := by
  intro w H
  go_enter Try.func19, Try.ntmps19
  go_wp2_with (go_skip)
  go_loopw [5] (fun vi wr => vi = .int .i64 0 ∧ Heap W l wr) (fun _ _ => 0)
  case atStart => exact ⟨rfl, H⟩
  case round =>
    obtain ⟨rfl, H'⟩ := hrel
    clear H
    have H := H'
    clear H'
    go_wp2_with (go_skip)
    go_ret
    exact ⟨rfl, H⟩
theorem sameAll_one (q rq : Nat) (frm lto cid cnum : Int) (a b : Option Addr) (n c d : Nat) (L : List RowS) (hl : L.length = n) (hn : n ≤ 1000000)
    (m1 : Cel q (lett 6 frm lto cid cnum (.slice a n c)) 36 ∈ l) (m2 : Cel rq (rlet 6 frm lto 0 0 0 0 false (.slice none 0 0) (.slice none 0 0) cid cnum (.slice b n d) 0 0 0 (.slice none 0 0)) 76 ∈ l)
    (RA : ∀ l' w', (∀ x ∈ l, x ∈ l') → Heap W l' w' → Rd w' a (rowSL L)) (RB : ∀ l' w', (∀ x ∈ l, x ∈ l') → Heap W l' w' → Rd w' b (rowSL L)) :
    AnsH W l 19 #[.slice (some ⟨q, 0, none⟩) 1 1, .slice (some ⟨rq, 0, none⟩) 1 1] (.bool true) := by
  intro w H
  have S := same23_H (W := W) (l := l) frm lto cid cnum a b n c d L hl hn RA RB
  clear hl RA RB
  go_enter Try.func19, Try.ntmps19
  go_wp2_with (go_skip)
  go_loopw [5] (fun vi wr => ∃ k : Nat, k ≤ 1 ∧ vi = .int .i64 (k : Int) ∧ Heap W l wr) (fun vi _ => 1 - (intOf vi).toNat)
  case atStart => exact ⟨0, Nat.zero_le _, rfl, H⟩
  case round =>
    obtain ⟨k, hk, rfl, H'⟩ := hrel
    clear H
    have H := H'
    clear H'
    by_cases h1 : k < 1
    · obtain rfl : k = 0 := by omega
      clear h1 hk
      go_wp2_with (go_skip)
      refine wp_region_H H (by kernel_rfl) (by kernel_rfl) ?_
      repeat (first | go_big_quiet_skip | (first | ((with_reducible apply wpQ_loadRH row_lett); (· rfl); (· rfl); (· exact m1); (· exact Nat.le_refl _); (· exact lett_all ..); (simp only [Act.put, List.setIfInBounds_toArray, List.set_cons_zero, List.set_cons_succ])) | ((with_reducible apply wpQ_loadRH row_rlet); (· rfl); (· rfl); (· exact m2); (· exact Nat.le_refl _); (· exact rlet_all ..); (simp only [Act.put, List.setIfInBounds_toArray, List.set_cons_zero, List.set_cons_succ]))) | go_big_quiet_step ((with_reducible first | exact AnsH.quiet (by assumption) | exact Ans.quietH (by assumption))))
      refine wpQuiet_nil ?_
      clear H
      intro _ H
      go_wp2_with (go_skip)
      go_roundw
      case rel => exact ⟨1, by omega, rfl, H⟩
      case measure => simp [intOf]
    · obtain rfl : k = 1 := by omega
      go_wp2_with (go_skip)
      go_ret
      exact ⟨rfl, H⟩
theorem run_buildRL (kind frm lto term index mark commit : Int) (yes : Bool) (ea : Option Addr) (en ec : Nat) (da : Option Addr) (dn dc : Nat) (cid cnum : Int) (sa : Option Addr) (sn sc : Nat) (err rerr rat : Int) (ga : Option Addr) (gn gc : Nat) (w : World) :
    (Instr.build 76 #[(0, .int .i64 kind), (1, .int .u8 frm), (2, .int .u8 lto), (3, .int .u64 term), (4, .int .u64 index), (5, .int .u64 mark), (6, .int .u64 commit), (7, .bool yes), (8, .slice ea en ec), (9, .slice da dn dc), (10, .agg (kall cid cnum (.slice sa sn sc))), (11, .int .i64 err), (12, .agg (rep rerr rat (.slice ga gn gc)))]).run Try.prog w
      = .ok (.agg (rlet kind frm lto term index mark commit yes (.slice ea en ec) (.slice da dn dc) cid cnum (.slice sa sn sc) err rerr rat (.slice ga gn gc))) w := by kernel_rfl
theorem rlet_cellsG (kind frm lto term index mark commit : Int) (yes : Bool) (ea : Option Addr) (en ec : Nat) (da : Option Addr) (dn dc : Nat) (cid cnum : Int) (sa : Option Addr) (sn sc : Nat) (err rerr rat : Int) (ga : Option Addr) (gn gc : Nat) : Cells 17 (rlet kind frm lto term index mark commit yes (.slice ea en ec) (.slice da dn dc) cid cnum (.slice sa sn sc) err rerr rat (.slice ga gn gc)) := by
  refine ⟨rfl, ?_⟩
  simp [rlet, Value.oneCell']
theorem rlet_spliceG (c : Array Value) (h : c.size = 17) (kind frm lto term index mark commit : Int) (yes : Bool) (entries data : Value) (cid cnum : Int) (steps : Value) (err rerr rat : Int) (got : Value) : splice c 0 (rlet kind frm lto term index mark commit yes entries data cid cnum steps err rerr rat got) = rlet kind frm lto term index mark commit yes entries data cid cnum steps err rerr rat got := splice_all (by rw [h]; rfl)
theorem wpl_buildRL {ops : Array Oper} {rest : List Oper} {a : Act} {Q : Exit → Act → World → Prop} {dst : Option Tmp} {ty : TypeId} {pos : String} {after : Array Edge} {guard : Option (Nat × Bool)} {x0 x1 x2 x3 x4 x5 x6 x7 x8 x9 x10 x11 x12 : Operand} {kind frm lto term index mark commit : Int} {yes : Bool} {ea : Option Addr} {en ec : Nat} {da : Option Addr} {dn dc : Nat} {cid cnum : Int} {sa : Option Addr} {sn sc : Nat} {err rerr rat : Int} {ga : Option Addr} {gn gc : Nat}
    (hw : Region.wanted ⟨dst, .build 76 #[(0, x0), (1, x1), (2, x2), (3, x3), (4, x4), (5, x5), (6, x6), (7, x7), (8, x8), (9, x9), (10, x10), (11, x11), (12, x12)], ty, pos, after, guard⟩ (yielded ops a.tmps) = true)
    (h0 : a.eval x0 = .int .i64 kind) (h1 : a.eval x1 = .int .u8 frm) (h2 : a.eval x2 = .int .u8 lto) (h3 : a.eval x3 = .int .u64 term) (h4 : a.eval x4 = .int .u64 index) (h5 : a.eval x5 = .int .u64 mark) (h6 : a.eval x6 = .int .u64 commit) (h7 : a.eval x7 = .bool yes) (h8 : a.eval x8 = .slice ea en ec) (h9 : a.eval x9 = .slice da dn dc) (h10 : a.eval x10 = .agg (kall cid cnum (.slice sa sn sc))) (h11 : a.eval x11 = .int .i64 err) (h12 : a.eval x12 = .agg (rep rerr rat (.slice ga gn gc)))
    (h : wpList Try.prog ops Q rest (a.put dst (.agg (rlet kind frm lto term index mark commit yes (.slice ea en ec) (.slice da dn dc) cid cnum (.slice sa sn sc) err rerr rat (.slice ga gn gc)))) w) :
    wpList Try.prog ops Q (⟨dst, .build 76 #[(0, x0), (1, x1), (2, x2), (3, x3), (4, x4), (5, x5), (6, x6), (7, x7), (8, x8), (9, x9), (10, x10), (11, x11), (12, x12)], ty, pos, after, guard⟩ :: rest) a w := by
  refine wpl_pure hw _ (fun w => ?_) h
  unfold execOp
  simp only [List.map_toArray, List.map_cons, List.map_nil, h0, h1, h2, h3, h4, h5, h6, h7, h8, h9, h10, h11, h12, Sem.run_bind, run_buildRL, Result.andThen_ok, Sem.run_pure]
theorem other23_H (kind frm lto term index mark commit : Int) (yes : Bool) (ea : Option Addr) (en ec : Nat) (da : Option Addr) (dn dc : Nat) (cid cnum : Int) (sa : Option Addr) (sn sc : Nat) (err rerr rat : Int) (ga : Option Addr) (gn gc : Nat) (hk : 0 ≤ kind ∧ kind ≤ 255) :
    AnsH W l 23 #[.agg (letg kind frm lto term index mark commit yes (.slice ea en ec) (.slice da dn dc) cid cnum (.slice sa sn sc) err rerr rat (.slice ga gn gc))] (.agg (rlet kind frm lto term index mark commit yes (.slice ea en ec) (.slice da dn dc) cid cnum (.slice sa sn sc) err rerr rat (.slice ga gn gc))) := by
  intro w H
  have k0 := hk.1
  have k1 := hk.2
  have hw : wrap64 kind = kind := IntWalk.wrap64_in _ ⟨by omega, by omega⟩
  clear hk
  go_enter Try.func23, Try.ntmps23
  go_wp2_with (first
    | ((with_reducible show wpList _ _ _ (_ :: _) _ _); (with_reducible apply wpl_boxRH); (· rfl); (· rfl); (· exact H); (clear H; intro px _ H); (simp only [Act.put, List.setIfInBounds_toArray, List.set_cons_zero, List.set_cons_succ]))
    | ((with_reducible show wpList _ _ _ (_ :: _) _ _); (with_reducible apply wpl_allocRH row_rlet); (· rfl); (· exact H); (clear H; intro pr _ H); (simp only [Act.put, List.setIfInBounds_toArray, List.set_cons_zero, List.set_cons_succ]))
    | ((with_reducible show wpList _ _ _ (_ :: _) _ _); (with_reducible apply wpl_buildRL); (· rfl); (· rfl); (· rfl); (· rfl); (· rfl); (· rfl); (· rfl); (· rfl); (· rfl); (· rfl); (· rfl); (· rfl); (· rfl); (· rfl); (simp only [Act.put, List.setIfInBounds_toArray, List.set_cons_zero, List.set_cons_succ]))
    | go_skip
    | ((with_reducible show wpList _ _ _ (_ :: _) _ _); (with_reducible apply wpl_loadCH); (· first | exact cell_kind | exact cell_b8 | exact cell_u64 | exact cell_bool | exact cell_entries | exact cell_bytes | exact cell_errno); (· rfl); (· rfl); (· exact H); (· (repeat (first | (with_reducible exact List.mem_cons_self) | with_reducible apply List.mem_cons_of_mem))); (· (with_reducible first | exact letg_g0 .. | exact letg_g1 .. | exact letg_g2 .. | exact letg_g3 .. | exact letg_g4 .. | exact letg_g5 .. | exact letg_g6 .. | exact letg_g7 .. | exact letg_g8 .. | exact letg_g9 .. | exact letg_g10 .. | exact letg_g11 .. | exact letg_g12 .. | exact letg_g13 .. | exact letg_g14 .. | exact letg_g15 .. | exact letg_g16 ..)); (simp only [Act.put, List.setIfInBounds_toArray, List.set_cons_zero, List.set_cons_succ]))
    | ((with_reducible show wpList _ _ _ (_ :: _) _ _); (with_reducible apply wpl_loadRH row_call); (· rfl); (· rfl); (· exact H); (· (repeat (first | (with_reducible exact List.mem_cons_self) | with_reducible apply List.mem_cons_of_mem))); (· (simp only [letg_sz, Nat.reduceAdd, Nat.reduceLeDiff, Nat.le_refl]; done)); (· with_reducible exact letg_kall ..); (simp only [Act.put, List.setIfInBounds_toArray, List.set_cons_zero, List.set_cons_succ]))
    | ((with_reducible show wpList _ _ _ (_ :: _) _ _); (with_reducible apply wpl_loadRH row_rep); (· rfl); (· rfl); (· exact H); (· (repeat (first | (with_reducible exact List.mem_cons_self) | with_reducible apply List.mem_cons_of_mem))); (· (simp only [letg_sz, Nat.reduceAdd, Nat.reduceLeDiff, Nat.le_refl]; done)); (· with_reducible exact letg_rep ..); (simp only [Act.put, List.setIfInBounds_toArray, List.set_cons_zero, List.set_cons_succ]))
    | ((with_reducible show wpList _ _ _ (_ :: _) _ _); (with_reducible apply wpl_storeRH row_rlet); (· rfl); (· rfl); (· rfl); (· with_reducible exact rlet_cellsG ..); (· exact H); (· (repeat (first | (with_reducible exact List.mem_cons_self) | with_reducible apply List.mem_cons_of_mem))); (· (simp only [rlet_sz, Nat.reduceAdd, Nat.reduceLeDiff, Nat.le_refl]; done)); (· with_reducible exact rlet_spliceG _ rfl ..); (· (repeat (first | (with_reducible exact Repl.here) | with_reducible apply Repl.there))); (clear H; intro _ H); (simp only [Act.put, List.setIfInBounds_toArray, List.set_cons_zero, List.set_cons_succ])))
  exact ret_row1H row_rlet rfl rfl rfl H List.mem_cons_self rfl ⟨rfl, H.tail.tail⟩
end
end Go.Proofs.Ytjipelhcgglhhaa

/- ClientsPlay: its acts, as arguments: what each holds, and that all that is read is bounded. (Printed by gen/open27p.py.) -/
namespace Go.Proofs.Ytjipelhcgglhhaa
open Go.ChangeShapes Go.WideShapes Go.ChangeAt Go.RowKit
set_option linter.unusedVariables false
set_option linter.unusedSimpArgs false
set_option maxRecDepth 100000
abbrev bigR : Nat := 140737488351232
theorem flat_stepW : flat Try.prog 9 87 = some [81, 82, 82, 83, 83, 2, 2, 2, 2, 26] := by kernel_rfl
theorem flat_entryW : flat Try.prog 9 96 = some [26, 26, 5, 26, 22] := by kernel_rfl
theorem flat_u8W : flat Try.prog 9 5 = some [5] := by kernel_rfl
theorem flat_gotW : flat Try.prog 9 90 = some [2, 2] := by kernel_rfl
theorem entry_cellsW : Try.prog.cellsOf 96 = 5 := by kernel_rfl
theorem step_cellsW : Try.prog.cellsOf 87 = 10 := by kernel_rfl
theorem got_cellsW : Try.prog.cellsOf 90 = 2 := by kernel_rfl
theorem act_cellsW : Try.prog.cellsOf 38 = 20 := by kernel_rfl
theorem step_bytes : 1 ≤ Try.prog.bytesOf 87 := Nat.le_of_ble_eq_true (by kernel_rfl)
theorem got_bytes : 1 ≤ Try.prog.bytesOf 90 := Nat.le_of_ble_eq_true (by kernel_rfl)
theorem entry_bytes : 1 ≤ Try.prog.bytesOf 96 := Nat.le_of_ble_eq_true (by kernel_rfl)
theorem u8_bytes : 1 ≤ Try.prog.bytesOf 5 := Nat.le_of_ble_eq_true (by kernel_rfl)
theorem len_of_bytes {n b R : Nat} (h : n * b ≤ R) (hb : 1 ≤ b) : n ≤ R := Nat.le_trans (Nat.le_mul_of_pos_right n hb) h
def LW (w : World) (u : TypeId) (v : Value) : Prop := ∀ d, LeafW Try.prog w bigR d u v
theorem stepsW_of {w : World} : ∀ (n : Nat) (xs : List Value), xs.length = n * 10 → (∀ (i j : Nat) (u : TypeId), i < n → ([81, 82, 82, 83, 83, 2, 2, 2, 2, 26] : List TypeId)[j]? = some u → ∃ v, xs[i * 10 + j]? = some v ∧ LW w u v) → ∃ F : List RowS, F.length = n ∧ xs = rowSL F
  | 0, xs, hl, _ => ⟨[], rfl, by simpa [rowSL] using hl⟩
  | n + 1, xs, hl, h => by
    rcases xs with _ | ⟨c0, _ | ⟨c1, _ | ⟨c2, _ | ⟨c3, _ | ⟨c4, _ | ⟨c5, _ | ⟨c6, _ | ⟨c7, _ | ⟨c8, _ | ⟨c9, ys⟩⟩⟩⟩⟩⟩⟩⟩⟩⟩
    · simp at hl
    · simp at hl; omega
    · simp at hl; omega
    · simp at hl; omega
    · simp at hl; omega
    · simp at hl; omega
    · simp at hl; omega
    · simp at hl; omega
    · simp at hl; omega
    · simp at hl; omega
    · skip
      obtain ⟨x0, h0, k0⟩ := h 0 0 _ (by omega) rfl
      obtain ⟨x1, h1, k1⟩ := h 0 1 _ (by omega) rfl
      obtain ⟨x2, h2, k2⟩ := h 0 2 _ (by omega) rfl
      obtain ⟨x3, h3, k3⟩ := h 0 3 _ (by omega) rfl
      obtain ⟨x4, h4, k4⟩ := h 0 4 _ (by omega) rfl
      obtain ⟨x5, h5, k5⟩ := h 0 5 _ (by omega) rfl
      obtain ⟨x6, h6, k6⟩ := h 0 6 _ (by omega) rfl
      obtain ⟨x7, h7, k7⟩ := h 0 7 _ (by omega) rfl
      obtain ⟨x8, h8, k8⟩ := h 0 8 _ (by omega) rfl
      obtain ⟨x9, h9, k9⟩ := h 0 9 _ (by omega) rfl
      simp at h0 h1 h2 h3 h4 h5 h6 h7 h8 h9
      subst h0 h1 h2 h3 h4 h5 h6 h7 h8 h9
      obtain ⟨w0, rfl, _⟩ := leaf_intW Try.underlying81 k0
      obtain ⟨w1, rfl, _⟩ := leaf_intW Try.underlying82 k1
      obtain ⟨w2, rfl, _⟩ := leaf_intW Try.underlying82 k2
      obtain ⟨w3, rfl, _⟩ := leaf_intW Try.underlying83 k3
      obtain ⟨w4, rfl, _⟩ := leaf_intW Try.underlying83 k4
      obtain ⟨w5, rfl, _⟩ := leaf_intW Try.underlying2 k5
      obtain ⟨w6, rfl, _⟩ := leaf_intW Try.underlying2 k6
      obtain ⟨w7, rfl, _⟩ := leaf_intW Try.underlying2 k7
      obtain ⟨w8, rfl, _⟩ := leaf_intW Try.underlying2 k8
      obtain ⟨w9, rfl, _⟩ := leaf_intW Try.underlying26 k9
      obtain ⟨F, hF, rfl⟩ := stepsW_of n ys (by simp at hl; omega) (fun i j u hi hj => by
        obtain ⟨v, hv, hk⟩ := h (i + 1) j u (by omega) hj
        refine ⟨v, ?_, hk⟩
        rw [show (i + 1) * 10 + j = (i * 10 + j) + 10 by omega] at hv
        simpa using hv)
      exact ⟨⟨w0, w1, w2, w3, w4, w5, w6, w7, w8, w9⟩ :: F, by simp [hF], rfl⟩
theorem gotsW_of {w : World} : ∀ (n : Nat) (xs : List Value), xs.length = n * 2 → (∀ (i j : Nat) (u : TypeId), i < n → ([2, 2] : List TypeId)[j]? = some u → ∃ v, xs[i * 2 + j]? = some v ∧ LW w u v) → ∃ F : List RowG, F.length = n ∧ xs = rowGL F
  | 0, xs, hl, _ => ⟨[], rfl, by simpa [rowGL] using hl⟩
  | n + 1, xs, hl, h => by
    rcases xs with _ | ⟨c0, _ | ⟨c1, ys⟩⟩
    · simp at hl
    · simp at hl; omega
    · skip
      obtain ⟨x0, h0, k0⟩ := h 0 0 _ (by omega) rfl
      obtain ⟨x1, h1, k1⟩ := h 0 1 _ (by omega) rfl
      simp at h0 h1
      subst h0 h1
      obtain ⟨w0, rfl, _⟩ := leaf_intW Try.underlying2 k0
      obtain ⟨w1, rfl, _⟩ := leaf_intW Try.underlying2 k1
      obtain ⟨F, hF, rfl⟩ := gotsW_of n ys (by simp at hl; omega) (fun i j u hi hj => by
        obtain ⟨v, hv, hk⟩ := h (i + 1) j u (by omega) hj
        refine ⟨v, ?_, hk⟩
        rw [show (i + 1) * 2 + j = (i * 2 + j) + 2 by omega] at hv
        simpa using hv)
      exact ⟨⟨w0, w1⟩ :: F, by simp [hF], rfl⟩
/-- An act: what it holds, and what its lists hold. -/
structure CAct where
  (kd kind frm lto term index mark commit cid cnum err rerr rat : Int)
  (yes near : Bool)
  (ca ea da sa ga : Option Addr)
  (cn cc en ec dn dc sn sc gn gc : Nat)
  S : List RowS
  G : List RowG
def cactA (x : CAct) : Array Value := act x.kd (.slice x.ca x.cn x.cc) x.kind x.frm x.lto x.term x.index x.mark x.commit x.yes (.slice x.ea x.en x.ec) (.slice x.da x.dn x.dc) x.cid x.cnum (.slice x.sa x.sn x.sc) x.err x.rerr x.rat (.slice x.ga x.gn x.gc) x.near
def cactL (F : List CAct) : List Value := F.flatMap fun x => (cactA x).toList
theorem cactA_len (x : CAct) : (cactA x).toList.length = 20 := rfl
theorem cactL_len (F : List CAct) : (cactL F).length = F.length * 20 := by
  unfold cactL
  induction F with
  | nil => rfl
  | cons x F ih => rw [List.flatMap_cons, List.length_append, ih, List.length_cons, cactA_len]; omega
theorem cactL_at (F : List CAct) (i : Nat) (h : i < F.length) : ((cactL F).drop (i * 20)).take 20 = (cactA F[i]).toList := by
  unfold cactL
  induction F generalizing i with
  | nil => simp at h
  | cons x F ih =>
    rw [List.flatMap_cons]
    cases i with
    | zero => rw [Nat.zero_mul, List.drop_zero, List.take_append_of_le_length (by rw [cactA_len]; exact Nat.le_refl _), List.take_of_length_le (by rw [cactA_len]; exact Nat.le_refl _)]; rfl
    | succ i =>
      rw [show (i + 1) * 20 = (cactA x).toList.length + i * 20 by rw [cactA_len]; omega, ← List.drop_drop, List.drop_left]
      simpa using ih i (by simpa using h)
theorem cactL_get (F : List CAct) (i : Nat) (h : i < F.length) : (((cactL F).drop (i * 20)).take 20).toArray = cactA F[i] := by rw [cactL_at F i h]
theorem cactL_sub {F : List CAct} {i : Nat} {x : CAct} (h : F[i]? = some x) (k m : Nat) (hk : k + m ≤ 20) : ((cactL F).drop (i * 20 + k)).take m = ((cactA x).toList.drop k).take m := by
  obtain ⟨hi, rfl⟩ := List.getElem?_eq_some_iff.1 h
  rw [← cactL_at F i hi, List.drop_take, List.take_take, List.drop_drop, show min m (20 - k) = m by omega]
theorem rd_cact {w : World} {g o k j : Nat} {F : List CAct} {y : CAct} {v : Value} (R : Rd w (some ⟨g, o, none⟩) (cactL F)) (h : F[k]? = some y) (hj : (cactA y)[j]? = some v) : w.cell? ⟨g, o + k * 20 + j, none⟩ = some v := by
  obtain ⟨hk, hx⟩ := List.getElem?_eq_some_iff.1 h
  have h20 : j < 20 := by
    have := (Array.getElem?_eq_some_iff.1 hj).1
    simpa [cactA, act] using this
  obtain ⟨b, o', he, hc⟩ := R (k * 20 + j) (by rw [cactL_len]; omega)
  cases he
  rw [Nat.add_assoc, hc]
  have h2 := cactL_at F k hk
  rw [hx] at h2
  have hj2 : (cactA y).toList[j]? = some v := by simpa using hj
  rw [← h2, List.getElem?_take, if_pos h20, List.getElem?_drop] at hj2
  rw [← hj2, List.getElem?_eq_getElem (by rw [cactL_len]; omega)]
/-- Entries that can be read: each one's steps have a length, that is bounded. -/
def EntriesW (w : World) (ea : Option Addr) (en : Nat) : Prop := en = 0 ∨ ∃ b o, ea = some ⟨b, o, none⟩ ∧ b < w.heap.size ∧ ∀ i, i < en → ∃ a n c, w.cell? ⟨b, o + i * 5 + 4, none⟩ = some (.slice a n c) ∧ n ≤ bigR
structure CActOk (w : World) (x : CAct) : Prop where
  kd : 0 ≤ x.kd ∧ x.kd ≤ 255
  kind : 0 ≤ x.kind ∧ x.kind ≤ 255
  frm : 0 ≤ x.frm ∧ x.frm ≤ 255
  lto : 0 ≤ x.lto ∧ x.lto ≤ 255
  index : 0 ≤ x.index ∧ x.index ≤ 18446744073709551615
  cid : 0 ≤ x.cid ∧ x.cid ≤ 255
  cnum : 0 ≤ x.cnum ∧ x.cnum ≤ 18446744073709551615
  steps : x.S.length = x.cn ∧ Rd w x.ca (rowSL x.S)
  gots : x.G.length = x.gn ∧ Rd w x.ga (rowGL x.G)
  len : x.cn ≤ bigR ∧ x.en ≤ bigR ∧ x.dn ≤ bigR ∧ x.sn ≤ bigR ∧ x.gn ≤ bigR
  ents : EntriesW w x.ea x.en
theorem flat_actW : flat Try.prog 9 38 = some [5, 22, 25, 5, 5, 26, 26, 26, 26, 4, 27, 28, 5, 26, 22, 31, 31, 3, 32, 4] := by kernel_rfl
theorem cact_of {w : World} {x0 x1 x2 x3 x4 x5 x6 x7 x8 x9 x10 x11 x12 x13 x14 x15 x16 x17 x18 x19 : Value} (k0 : LW w 5 x0) (k1 : LW w 22 x1) (k2 : LW w 25 x2) (k3 : LW w 5 x3) (k4 : LW w 5 x4) (k5 : LW w 26 x5) (k6 : LW w 26 x6) (k7 : LW w 26 x7) (k8 : LW w 26 x8) (k9 : LW w 4 x9) (k10 : LW w 27 x10) (k11 : LW w 28 x11) (k12 : LW w 5 x12) (k13 : LW w 26 x13) (k14 : LW w 22 x14) (k15 : LW w 31 x15) (k16 : LW w 31 x16) (k17 : LW w 3 x17) (k18 : LW w 32 x18) (k19 : LW w 4 x19) : ∃ x : CAct, [x0, x1, x2, x3, x4, x5, x6, x7, x8, x9, x10, x11, x12, x13, x14, x15, x16, x17, x18, x19] = (cactA x).toList ∧ CActOk w x := by
  obtain ⟨kd, rfl, b0⟩ := leaf_intW Try.underlying5 k0
  obtain ⟨a1, n1, c1, xs1, rfl, hn1, hc1, hl1, hr1, hz1, hb1, hp1⟩ := leaf_sliceW Try.underlying22 flat_stepW k1
  obtain ⟨kind, rfl, b2⟩ := leaf_intW Try.underlying25 k2
  obtain ⟨frm, rfl, b3⟩ := leaf_intW Try.underlying5 k3
  obtain ⟨lto, rfl, b4⟩ := leaf_intW Try.underlying5 k4
  obtain ⟨term, rfl, b5⟩ := leaf_intW Try.underlying26 k5
  obtain ⟨index, rfl, b6⟩ := leaf_intW Try.underlying26 k6
  obtain ⟨mark, rfl, b7⟩ := leaf_intW Try.underlying26 k7
  obtain ⟨commit, rfl, b8⟩ := leaf_intW Try.underlying26 k8
  obtain ⟨yes, rfl⟩ := leaf_boolW Try.underlying4 k9
  obtain ⟨a10, n10, c10, xs10, rfl, hn10, hc10, hl10, hr10, hz10, hb10, hp10⟩ := leaf_sliceW Try.underlying27 flat_entryW k10
  obtain ⟨a11, n11, c11, xs11, rfl, hn11, hc11, hl11, hr11, hz11, hb11, hp11⟩ := leaf_sliceW Try.underlying28 flat_u8W k11
  obtain ⟨cid, rfl, b12⟩ := leaf_intW Try.underlying5 k12
  obtain ⟨cnum, rfl, b13⟩ := leaf_intW Try.underlying26 k13
  obtain ⟨a14, n14, c14, xs14, rfl, hn14, hc14, hl14, hr14, hz14, hb14, hp14⟩ := leaf_sliceW Try.underlying22 flat_stepW k14
  obtain ⟨err, rfl, b15⟩ := leaf_intW Try.underlying31 k15
  obtain ⟨rerr, rfl, b16⟩ := leaf_intW Try.underlying31 k16
  obtain ⟨rat, rfl, b17⟩ := leaf_intW Try.underlying3 k17
  obtain ⟨a18, n18, c18, xs18, rfl, hn18, hc18, hl18, hr18, hz18, hb18, hp18⟩ := leaf_sliceW Try.underlying32 flat_gotW k18
  obtain ⟨near, rfl⟩ := leaf_boolW Try.underlying4 k19
  rw [step_cellsW] at hl1 hp1
  rw [got_cellsW] at hl18 hp18
  obtain ⟨S, hS, rfl⟩ := stepsW_of (w := w) n1 xs1 hl1 hp1
  obtain ⟨G, hG, rfl⟩ := gotsW_of (w := w) n18 xs18 hl18 hp18
  refine ⟨⟨kd, kind, frm, lto, term, index, mark, commit, cid, cnum, err, rerr, rat, yes, near, a1, a10, a11, a14, a18, n1, c1, n10, c10, n11, c11, n14, c14, n18, c18, S, G⟩, rfl, ?_⟩
  refine ⟨bounds_u8 b0, bounds_u8 b2, bounds_u8 b3, bounds_u8 b4, bounds_u64 b6, bounds_u8 b12, bounds_u64 b13, ⟨hS, hr1⟩, ⟨hG, hr18⟩, ⟨len_of_bytes hb1 step_bytes, len_of_bytes hb10 entry_bytes, len_of_bytes hb11 u8_bytes, len_of_bytes hb14 step_bytes, len_of_bytes hb18 got_bytes⟩, ?_⟩
  by_cases h0 : n10 = 0
  · exact .inl h0
  · rw [entry_cellsW] at hl10 hp10
    obtain ⟨b, o, rfl, hb⟩ := hr10.lt (by omega)
    refine .inr ⟨b, o, rfl, hb, fun i hi => ?_⟩
    obtain ⟨v', hv', k'⟩ := hp10 i 4 _ hi rfl
    obtain ⟨a', n', c', xs', rfl, hn', hc', _, _, _, hb', _⟩ := leaf_sliceW Try.underlying22 flat_stepW k'
    refine ⟨a', n', c', ?_, len_of_bytes hb' step_bytes⟩
    obtain ⟨hlt, he⟩ := List.getElem?_eq_some_iff.1 hv'
    have := hr10.get hlt
    rw [he] at this
    rw [← this, Nat.add_assoc]
theorem cacts_of {w : World} : ∀ (n : Nat) (xs : List Value), xs.length = n * 20 → (∀ (i j : Nat) (u : TypeId), i < n → ([5, 22, 25, 5, 5, 26, 26, 26, 26, 4, 27, 28, 5, 26, 22, 31, 31, 3, 32, 4] : List TypeId)[j]? = some u → ∃ v, xs[i * 20 + j]? = some v ∧ LW w u v) → ∃ F : List CAct, F.length = n ∧ xs = cactL F ∧ ∀ x ∈ F, CActOk w x
  | 0, xs, hl, _ => ⟨[], rfl, by simpa [cactL] using hl, by simp⟩
  | n + 1, xs, hl, h => by
    have e0 : ∀ j, j < 20 → ∃ v, xs[j]? = some v := fun j hj => ⟨xs[j]'(by omega), List.getElem?_eq_getElem (by omega)⟩
    obtain ⟨x0, h0, k0⟩ := h 0 0 _ (by omega) rfl
    obtain ⟨x1, h1, k1⟩ := h 0 1 _ (by omega) rfl
    obtain ⟨x2, h2, k2⟩ := h 0 2 _ (by omega) rfl
    obtain ⟨x3, h3, k3⟩ := h 0 3 _ (by omega) rfl
    obtain ⟨x4, h4, k4⟩ := h 0 4 _ (by omega) rfl
    obtain ⟨x5, h5, k5⟩ := h 0 5 _ (by omega) rfl
    obtain ⟨x6, h6, k6⟩ := h 0 6 _ (by omega) rfl
    obtain ⟨x7, h7, k7⟩ := h 0 7 _ (by omega) rfl
    obtain ⟨x8, h8, k8⟩ := h 0 8 _ (by omega) rfl
    obtain ⟨x9, h9, k9⟩ := h 0 9 _ (by omega) rfl
    obtain ⟨x10, h10, k10⟩ := h 0 10 _ (by omega) rfl
    obtain ⟨x11, h11, k11⟩ := h 0 11 _ (by omega) rfl
    obtain ⟨x12, h12, k12⟩ := h 0 12 _ (by omega) rfl
    obtain ⟨x13, h13, k13⟩ := h 0 13 _ (by omega) rfl
    obtain ⟨x14, h14, k14⟩ := h 0 14 _ (by omega) rfl
    obtain ⟨x15, h15, k15⟩ := h 0 15 _ (by omega) rfl
    obtain ⟨x16, h16, k16⟩ := h 0 16 _ (by omega) rfl
    obtain ⟨x17, h17, k17⟩ := h 0 17 _ (by omega) rfl
    obtain ⟨x18, h18, k18⟩ := h 0 18 _ (by omega) rfl
    obtain ⟨x19, h19, k19⟩ := h 0 19 _ (by omega) rfl
    rw [Nat.zero_mul] at h0 h1 h2 h3 h4 h5 h6 h7 h8 h9 h10 h11 h12 h13 h14 h15 h16 h17 h18 h19
    simp only [Nat.zero_add] at h0 h1 h2 h3 h4 h5 h6 h7 h8 h9 h10 h11 h12 h13 h14 h15 h16 h17 h18 h19
    obtain ⟨x, hx, hok⟩ := cact_of k0 k1 k2 k3 k4 k5 k6 k7 k8 k9 k10 k11 k12 k13 k14 k15 k16 k17 k18 k19
    have hsplit : xs = (cactA x).toList ++ xs.drop 20 := by
      rw [← hx]
      apply List.ext_getElem?
      intro i
      by_cases hi : i < 20
      · have hi2 : i = 0 ∨ i = 1 ∨ i = 2 ∨ i = 3 ∨ i = 4 ∨ i = 5 ∨ i = 6 ∨ i = 7 ∨ i = 8 ∨ i = 9 ∨ i = 10 ∨ i = 11 ∨ i = 12 ∨ i = 13 ∨ i = 14 ∨ i = 15 ∨ i = 16 ∨ i = 17 ∨ i = 18 ∨ i = 19 := by omega
        rw [List.getElem?_append_left (by simpa using hi)]
        rcases hi2 with rfl | rfl | rfl | rfl | rfl | rfl | rfl | rfl | rfl | rfl | rfl | rfl | rfl | rfl | rfl | rfl | rfl | rfl | rfl | rfl
        · exact h0
        · exact h1
        · exact h2
        · exact h3
        · exact h4
        · exact h5
        · exact h6
        · exact h7
        · exact h8
        · exact h9
        · exact h10
        · exact h11
        · exact h12
        · exact h13
        · exact h14
        · exact h15
        · exact h16
        · exact h17
        · exact h18
        · exact h19
      · rw [List.getElem?_append_right (by simp; omega), List.getElem?_drop]
        congr 1
        simp
        omega
    obtain ⟨F, hF, hFx, hFok⟩ := cacts_of n (xs.drop 20) (by rw [List.length_drop]; omega) (fun i j u hi hj => by
      obtain ⟨v, hv, hk⟩ := h (i + 1) j u (by omega) hj
      refine ⟨v, ?_, hk⟩
      rw [List.getElem?_drop, ← hv]
      congr 1
      omega)
    refine ⟨x :: F, by simp [hF], ?_, fun y hy => ?_⟩
    · rw [hsplit, hFx]
      rfl
    · rcases List.mem_cons.1 hy with rfl | hy
      · exact hok
      · exact hFok y hy
structure CActsArg (w : World) (a : Option Addr) (n c : Nat) (F : List CAct) : Prop where
  len : F.length = n
  cap : n ≤ c
  max : c ≤ maxLen
  rd : Rd w a (cactL F)
  ok : ∀ x ∈ F, CActOk w x
def CActsV (w : World) (v : Value) : Prop := ∃ a n c F, v = .slice a n c ∧ CActsArg w a n c F
theorem open_cacts {H : Type} {enc : TypeId × Value → H} {W : World} {held : Bool} {v : Value} {d : DataW H} {p : List MemPlace} {r : Reach} {b0 : Nat}
    (hval : Value.okWide Try.prog W r b0 40 v) (h : DataW.Trod enc Try.prog W 0 (fun _ => true) held 40 v d p) (hw : ∀ b ∈ d.weights Try.prog 40, b ≤ bigR) : CActsV W v := by
  have hk := fun d => open_slW Try.underlying40 hval h hw d
  obtain ⟨a, n, c, xs, rfl, hn, hc, hl, hr, _, _, hp⟩ := leaf_sliceW Try.underlying40 flat_actW hk
  rw [act_cellsW] at hl hp
  obtain ⟨F, hF, rfl, hok⟩ := cacts_of (w := W) n xs hl hp
  exact ⟨a, n, c, F, rfl, hF, hn, hc, hr, hok⟩
end Go.Proofs.Ytjipelhcgglhhaa

/- countinghouselaw23.Great, countinghouselaw27.great, of acts that are bounded: what is let through is small. -/
namespace Go.Proofs.Ytjipelhcgglhhaa
open Go.RowKit
set_option linter.unusedSimpArgs false
set_option linter.unusedVariables false
set_option maxRecDepth 100000
structure Great23 (W : World) (l : List Thing) (gn : Nat) (e : Ending) (w' : World) : Prop where
  out : ∃ b, e = .returned (.bool b) ∧ (b = false → gn ≤ 66000) ∧ Heap W l w'
structure Great23R (W : World) (l : List Thing) (px : Nat) (c : Array Value) (en gn : Nat) (n i : Value) (wr : World) : Prop where
  out : ∃ (k : Nat) (s : Int), k ≤ en ∧ i = .int .i64 k ∧ n = .int .i64 s ∧ (gn : Int) ≤ s ∧ s ≤ 1000000000000000 ∧ Heap W (Cel px c 36 :: l) wr
section
variable {W w : World} {l : List Thing}
set_option maxHeartbeats 4000000
theorem great23_W (kind frm lto term index mark commit : Int) (yes : Bool) (ea : Option Addr) (en ec : Nat) (da : Option Addr) (dn dc : Nat) (cid cnum : Int) (sa : Option Addr) (sn sc : Nat) (err rerr rat : Int) (ga : Option Addr) (gn gc : Nat)
    (b1 : en ≤ bigR) (b2 : dn ≤ bigR) (b3 : sn ≤ bigR) (b4 : gn ≤ bigR) (he : EntriesW W ea en) (H : Heap W l w) :
    Calls Try.prog 25 #[.agg (letg kind frm lto term index mark commit yes (.slice ea en ec) (.slice da dn dc) cid cnum (.slice sa sn sc) err rerr rat (.slice ga gn gc))] w (Great23 W l gn) := by
  have HE := Lib.hid he
  unfold bigR at b1 b2 b3 b4
  have w1 : wrap64 ((dn : Int) + (sn : Int)) = (dn : Int) + (sn : Int) := IntWalk.wrap64_in _ ⟨by omega, by omega⟩
  have w2 : wrap64 ((dn : Int) + (sn : Int) + (gn : Int)) = (dn : Int) + (sn : Int) + (gn : Int) := IntWalk.wrap64_in _ ⟨by omega, by omega⟩
  clear he
  go_enter Try.func25, Try.ntmps25
  go_wp2_with (first
    | go_skip
    | ((with_reducible show wpList _ _ _ (_ :: _) _ _); (with_reducible apply wpl_boxRH); (· rfl); (· rfl); (· exact H); (clear H; intro px _ H); (simp only [Act.put, List.setIfInBounds_toArray, List.set_cons_zero, List.set_cons_succ]))
    | ((with_reducible show wpList _ _ _ (_ :: _) _ _); (with_reducible apply wpl_loadCH); (· first | exact cell_bytes | exact cell_steps | exact cell_gots); (· rfl); (· rfl); (· exact H); (· (repeat (first | (with_reducible exact List.mem_cons_self) | with_reducible apply List.mem_cons_of_mem))); (· (with_reducible first | exact letg_g0 .. | exact letg_g1 .. | exact letg_g2 .. | exact letg_g3 .. | exact letg_g4 .. | exact letg_g5 .. | exact letg_g6 .. | exact letg_g7 .. | exact letg_g8 .. | exact letg_g9 .. | exact letg_g10 .. | exact letg_g11 .. | exact letg_g12 .. | exact letg_g13 .. | exact letg_g14 .. | exact letg_g15 .. | exact letg_g16 ..)); (simp only [Act.put, List.setIfInBounds_toArray, List.set_cons_zero, List.set_cons_succ])))
  clear w1 w2
  have H0 := H
  clear H
  go_loopw [3, 4] (fun n i wr => Great23R W l px (letg kind frm lto term index mark commit yes (.slice ea en ec) (.slice da dn dc) cid cnum (.slice sa sn sc) err rerr rat (.slice ga gn gc)) en gn n i wr) (fun _ i _ => en - (intOf i).toNat)
  case atStart => exact ⟨0, _, Nat.zero_le _, rfl, rfl, by omega, by omega, H0⟩
  case round =>
    obtain ⟨k, s, hk, rfl, rfl, hgs, hsb, H⟩ := hrel.out
    clear H0 hrel
    by_cases hgo : k < en ∧ s < 70000
    · obtain ⟨hlt, hs⟩ := hgo
      obtain h0 | ⟨b, o, rfl, hb, he⟩ := HE.out
      · omega
      obtain ⟨a, n, c, hc, hn⟩ := he k hlt
      rw [← ext_cell_old H hb] at hc
      have HC := Lib.hid hc
      unfold bigR at hn
      have w3 : wrap64 (s + 1) = s + 1 := IntWalk.wrap64_in _ ⟨by omega, by omega⟩
      have w4 : wrap64 (s + 1 + (n : Int)) = s + 1 + (n : Int) := IntWalk.wrap64_in _ ⟨by omega, by omega⟩
      clear hc he
      go_wp2_with (first
        | go_skip
        | ((with_reducible show wpList _ _ _ (_ :: _) _ _); (with_reducible apply wpl_loadCH); (· first | exact cell_entries); (· rfl); (· rfl); (· exact H); (· (repeat (first | (with_reducible exact List.mem_cons_self) | with_reducible apply List.mem_cons_of_mem))); (· (with_reducible first | exact letg_g0 .. | exact letg_g1 .. | exact letg_g2 .. | exact letg_g3 .. | exact letg_g4 .. | exact letg_g5 .. | exact letg_g6 .. | exact letg_g7 .. | exact letg_g8 .. | exact letg_g9 .. | exact letg_g10 .. | exact letg_g11 .. | exact letg_g12 .. | exact letg_g13 .. | exact letg_g14 .. | exact letg_g15 .. | exact letg_g16 ..)); (simp only [Act.put, List.setIfInBounds_toArray, List.set_cons_zero, List.set_cons_succ]))
        | ((with_reducible show wpList _ _ _ (_ :: _) _ _); (with_reducible apply wpl_loadCell); (· exact cell_steps); (· rfl); (· rfl); (· exact HC.out); (simp only [Act.put, List.setIfInBounds_toArray, List.set_cons_zero, List.set_cons_succ])))
      refine ⟨⟨k + 1, s + 1 + (n : Int), by omega, by go_num, rfl, by omega, by omega, H⟩, ?measure⟩
      case measure => simp [intOf]; omega
    · by_cases hlt : k < en
      · have hs : ¬ s < 70000 := fun h => hgo ⟨hlt, h⟩
        clear hgo
        have h6 : 66000 < s := by omega
        have d6 : decide (66000 < s) = true := decide_eq_true h6
        have ds : decide (s < 70000) = false := decide_eq_false hs
        go_wp2_with (first | go_skip | ((with_reducible show wpList _ _ _ (_ :: _) _ _); (with_reducible apply wpl_loadCH); (· first | exact cell_entries); (· rfl); (· rfl); (· exact H); (· (repeat (first | (with_reducible exact List.mem_cons_self) | with_reducible apply List.mem_cons_of_mem))); (· (with_reducible first | exact letg_g0 .. | exact letg_g1 .. | exact letg_g2 .. | exact letg_g3 .. | exact letg_g4 .. | exact letg_g5 .. | exact letg_g6 .. | exact letg_g7 .. | exact letg_g8 .. | exact letg_g9 .. | exact letg_g10 .. | exact letg_g11 .. | exact letg_g12 .. | exact letg_g13 .. | exact letg_g14 .. | exact letg_g15 .. | exact letg_g16 ..)); (simp only [Act.put, List.setIfInBounds_toArray, List.set_cons_zero, List.set_cons_succ])))
        go_ret
        exact ⟨true, rfl, (fun h => by cases h), H.tail⟩
      · clear hgo
        by_cases h6 : 66000 < s
        · have d6 : decide (66000 < s) = true := decide_eq_true h6
          go_wp2_with (first | go_skip | ((with_reducible show wpList _ _ _ (_ :: _) _ _); (with_reducible apply wpl_loadCH); (· first | exact cell_entries); (· rfl); (· rfl); (· exact H); (· (repeat (first | (with_reducible exact List.mem_cons_self) | with_reducible apply List.mem_cons_of_mem))); (· (with_reducible first | exact letg_g0 .. | exact letg_g1 .. | exact letg_g2 .. | exact letg_g3 .. | exact letg_g4 .. | exact letg_g5 .. | exact letg_g6 .. | exact letg_g7 .. | exact letg_g8 .. | exact letg_g9 .. | exact letg_g10 .. | exact letg_g11 .. | exact letg_g12 .. | exact letg_g13 .. | exact letg_g14 .. | exact letg_g15 .. | exact letg_g16 ..)); (simp only [Act.put, List.setIfInBounds_toArray, List.set_cons_zero, List.set_cons_succ])))
          go_ret
          exact ⟨true, rfl, (fun h => by cases h), H.tail⟩
        · have d6 : decide (66000 < s) = false := decide_eq_false h6
          go_wp2_with (first | go_skip | ((with_reducible show wpList _ _ _ (_ :: _) _ _); (with_reducible apply wpl_loadCH); (· first | exact cell_entries); (· rfl); (· rfl); (· exact H); (· (repeat (first | (with_reducible exact List.mem_cons_self) | with_reducible apply List.mem_cons_of_mem))); (· (with_reducible first | exact letg_g0 .. | exact letg_g1 .. | exact letg_g2 .. | exact letg_g3 .. | exact letg_g4 .. | exact letg_g5 .. | exact letg_g6 .. | exact letg_g7 .. | exact letg_g8 .. | exact letg_g9 .. | exact letg_g10 .. | exact letg_g11 .. | exact letg_g12 .. | exact letg_g13 .. | exact letg_g14 .. | exact letg_g15 .. | exact letg_g16 ..)); (simp only [Act.put, List.setIfInBounds_toArray, List.set_cons_zero, List.set_cons_succ])))
          go_ret
          exact ⟨_, rfl, fun _ => by omega, H.tail⟩
structure Great27 (W : World) (l : List Thing) (F : List CAct) (n : Nat) (e : Ending) (w' : World) : Prop where
  out : ∃ b, e = .returned (.bool b) ∧ (b = false → n ≤ 150 ∧ ∀ x ∈ F, x.cn ≤ 50 ∧ x.gn ≤ 66000) ∧ Heap W l w'
structure Great27R (W : World) (l : List Thing) (F : List CAct) (n : Nat) (i : Value) (wr : World) : Prop where
  out : ∃ k : Nat, k ≤ n ∧ i = .int .i64 k ∧ (∀ x ∈ F.take k, x.cn ≤ 50 ∧ x.gn ≤ 66000) ∧ Heap W l wr
theorem great27_W (ea : Option Addr) (n ec : Nat) (F : List CAct) (hl : F.length = n) (hn : n ≤ maxLen) (hF : ∀ x ∈ F, CActOk W x) (R : Rd W ea (cactL F)) (H : Heap W l w) :
    Calls Try.prog 6 #[.slice ea n ec] w (Great27 W l F n) := by
  have HR := Lib.hid R
  have HL := Lib.hid (And.intro hl hF)
  unfold maxLen at hn
  clear hl hF R
  by_cases hbig : 150 < n
  · have d1 : decide (150 < (n : Int)) = true := decide_eq_true (by omega)
    have d2 : decide (150 < n) = true := decide_eq_true hbig
    go_enter Try.func6, Try.ntmps6
    go_wp2_with (go_skip)
    go_ret
    exact ⟨true, rfl, (fun h => by cases h), H⟩
  · have d1 : decide (150 < (n : Int)) = false := decide_eq_false (by omega)
    have d2 : decide (150 < n) = false := decide_eq_false hbig
    go_enter Try.func6, Try.ntmps6
    go_wp2_with (go_skip)
    have H0 := H
    clear H
    go_loopw [3] (fun i wr => Great27R W l F n i wr) (fun i _ => n - (intOf i).toNat)
    case atStart => exact ⟨0, Nat.zero_le _, rfl, by simp, H0⟩
    case round =>
      obtain ⟨k, hk, rfl, hsm, H⟩ := hrel.out
      clear H0 hrel
      have HS := Lib.hid hsm
      clear hsm
      by_cases hlt : k < n
      · have hkF : k < F.length := by rw [HL.out.1]; exact hlt
        have hgk : F[k]? = some F[k] := List.getElem?_eq_getElem hkF
        have hok := HL.out.2 F[k] (List.getElem_mem hkF)
        have hRd := H.rd HR.out
        obtain ⟨ba, oa, rfl, _⟩ := hRd.lt (by rw [cactL_len]; omega)
        have hrow : (((cactL F).drop (k * 20 + 2)).take 17).toArray = letg F[k].kind F[k].frm F[k].lto F[k].term F[k].index F[k].mark F[k].commit F[k].yes (.slice F[k].ea F[k].en F[k].ec) (.slice F[k].da F[k].dn F[k].dc) F[k].cid F[k].cnum (.slice F[k].sa F[k].sn F[k].sc) F[k].err F[k].rerr F[k].rat (.slice F[k].ga F[k].gn F[k].gc) := by
          rw [cactL_sub hgk 2 17 (by omega)]; rfl
        have hlen : k * 20 + 2 + 17 ≤ (cactL F).length := by rw [cactL_len]; omega
        have HT := Lib.hid (show F.take (k + 1) = F.take k ++ [F[k]] by rw [List.take_add_one, hgk, Option.toList_some])
        have HC := Lib.hid (show ∀ w', Heap W l w' → w'.cell? ⟨ba, oa + k * 20 + 1, none⟩ = some (.slice F[k].ca F[k].cn F[k].cc) from fun w' H' => rd_cact (H'.rd HR.out) hgk (j := 1) rfl)
        have HRW := Lib.hid (fun w' (H' : Heap W l w') => H'.rd HR.out)
        clear hgk hRd
        generalize F[k] = x at *
        have HX := Lib.hid hok
        clear hkF hok
        go_wp2_with (first
          | go_skip
          | ((with_reducible show wpList _ _ _ (_ :: _) _ _); (with_reducible apply wpl_loadRdR row_letg); (· rfl); (· rfl); (· exact HRW.out _ H); (· exact Nat.add_assoc _ _ _); (· exact hlen); (· decide); (· exact hrow); (simp only [Act.put, List.setIfInBounds_toArray, List.set_cons_zero, List.set_cons_succ])))
        refine (great23_W x.kind x.frm x.lto x.term x.index x.mark x.commit x.yes x.ea x.en x.ec x.da x.dn x.dc x.cid x.cnum x.sa x.sn x.sc x.err x.rerr x.rat x.ga x.gn x.gc HX.out.len.2.1 HX.out.len.2.2.1 HX.out.len.2.2.2.1 HX.out.len.2.2.2.2 HX.out.ents H).mono ?_
        clear H
        rintro e w1 ⟨b, rfl, hb, H⟩
        have HB := Lib.hid hb
        clear hb
        have hcn := HX.out.len.1
        unfold bigR at hcn
        cases b
        · by_cases h5 : 50 < x.cn
          · have d5 : decide (50 < (x.cn : Int)) = true := decide_eq_true (by omega)
            have d6 : decide (50 < x.cn) = true := decide_eq_true h5
            go_wp2_with (first
              | go_skip
              | ((with_reducible show wpList _ _ _ (_ :: _) _ _); (with_reducible apply wpl_loadCell cell_steps); (· rfl); (· rfl); (· exact HC.out _ H); (simp only [Act.put, List.setIfInBounds_toArray, List.set_cons_zero, List.set_cons_succ])))
            go_ret
            exact ⟨true, rfl, (fun h => by cases h), H⟩
          · have d5 : decide (50 < (x.cn : Int)) = false := decide_eq_false (by omega)
            have d6 : decide (50 < x.cn) = false := decide_eq_false h5
            go_wp2_with (first
              | go_skip
              | ((with_reducible show wpList _ _ _ (_ :: _) _ _); (with_reducible apply wpl_loadCell cell_steps); (· rfl); (· rfl); (· exact HC.out _ H); (simp only [Act.put, List.setIfInBounds_toArray, List.set_cons_zero, List.set_cons_succ])))
            refine ⟨⟨k + 1, by omega, by go_num, fun y hy => ?_, H⟩, ?measure⟩
            · rw [HT.out] at hy
              rcases List.mem_append.1 hy with hy | hy
              · exact HS.out y hy
              · rw [List.mem_singleton.1 hy]
                exact ⟨by omega, HB.out (by simp)⟩
            case measure => simp [intOf]; omega
        · go_wp2_with (first
            | go_skip
            | ((with_reducible show wpList _ _ _ (_ :: _) _ _); (with_reducible apply wpl_loadCell cell_steps); (· rfl); (· rfl); (· exact HC.out _ H); (simp only [Act.put, List.setIfInBounds_toArray, List.set_cons_zero, List.set_cons_succ])))
          go_ret
          exact ⟨true, rfl, (fun h => by cases h), H⟩
      · obtain rfl : k = n := by omega
        go_wp2_with (go_skip)
        go_ret
        exact ⟨false, rfl, fun _ => ⟨by omega, fun y hy => HS.out y (by rw [List.take_of_length_le (by rw [HL.out.1]; exact Nat.le_refl _)]; exact hy)⟩, H⟩
end
end Go.Proofs.Ytjipelhcgglhhaa
