/- FlowsRoute: part 16 of its proof: Lives07, LawFlowsRoute, LawPathsLeast2, LawPathsLeast3. -/
import Derived.Test.YtglehneaphigdaaFlowsRoutePart15
/- The chapter's example of flows (countinghouselaw07.lives) answers true, and leaves what stood. -/
namespace Go.Proofs.Ytglehneaphigdaa
open Go.RowKit
attribute [local go_sem] Oper.semAt_some
set_option linter.unusedSimpArgs false
set_option linter.unusedVariables false
def exW : Array Value := #[.int .u8 1, .int .u8 2, .int .i64 2, .int .u8 2, .int .u8 4, .int .i64 2, .int .u8 1, .int .u8 3, .int .i64 2, .int .u8 3, .int .u8 4, .int .i64 2]
def exM : Array Value := #[.int .u8 1, .int .u8 2, .int .i64 1, .int .u8 2, .int .u8 3, .int .i64 1, .int .u8 3, .int .u8 4, .int .i64 1]
theorem exW_one : OneCells exW.toList := fun u hu => List.all_eq_true.1 (show exW.toList.all (fun u => u.oneCell') = true from rfl) u hu
theorem exM_one : OneCells exM.toList := fun u hu => List.all_eq_true.1 (show exM.toList.all (fun u => u.oneCell') = true from rfl) u hu
section
variable {W w : World} {l : List Thing}
theorem wpl_bsAny {dst : Option Tmp} {ty : TypeId} {pos : String} {after : Array Edge} {guard : Option (Nat × Bool)} {t e n size bytes : Nat} {z : Value} {ops : Array Oper} {rest : List Oper} {a : Act} {Q : Exit → Act → World → Prop} (T : SlTy Try.prog t e size bytes z) (xs : List (Nat × Operand)) (vs : List (Nat × Value)) (c : Array Value) (hw : Region.wanted ⟨dst, .buildSlice t n xs.toArray, ty, pos, after, guard⟩ (yielded ops a.tmps) = true)
    (hx : xs.map (fun (i, x) => (i, a.eval x)) = vs) (h0 : 0 < n) (h1 : n * size ≤ 65536)
    (hf : Instr.fill (fun i => some (i * size, size)) (Array.map (fun x => z.cells[x % z.cells.size]!) (Array.range (n * size))) vs = some c)
    (H : Heap W l w) (h : ∀ p w', Heap W (Cel p c e :: l) w' → wpList Try.prog ops Q rest (a.put dst (.slice (some ⟨p, 0, none⟩) n n)) w') : wpList Try.prog ops Q (⟨dst, .buildSlice t n xs.toArray, ty, pos, after, guard⟩ :: rest) a w := by
  obtain ⟨i, hi, hz, hsi, hbi⟩ := T.inf
  have h2 := T.pos
  have h3 : n ≤ n * size := Nat.le_mul_of_pos_right _ h2
  have r1 : (sizeOf e).run Try.prog w = .ok size w := by simp [sizeOf, typeInfo, hi, hsi, go_sem]
  have r2 : (zeroValue e).run Try.prog w = .ok z w := by simp [zeroValue, typeInfo, hi, hz, go_sem]
  refine BigFrame.wpList_want hw fun K hK => ?_
  have hrun : (Instr.buildSlice t n (xs.toArray.map fun (i, x) => (i, a.eval x))).run Try.prog w = .ok (.slice (some ⟨w.heap.size, 0, none⟩) n n) (w.alloc (.cells c e)) := by
    unfold Instr.buildSlice
    rw [Sem.run_bind, run_underlying T.und]
    simp only [Result.andThen_ok]
    rw [Sem.run_bind, r1]
    simp only [Result.andThen_ok]
    rw [if_neg (by omega), if_neg (by omega)]
    simp only [Sem.run_bind, r2, Result.andThen_ok, Sem.run_pure]
    have hx2 : (xs.toArray.map (fun (i, x) => (i, a.eval x))).toList = vs := by rw [← hx]; simp
    rw [hx2, hf]
    simp [newRow, go_sem]
  unfold Oper.wp execOp
  simp only [Sem.run_bind, hrun, Result.andThen_ok, Sem.run_pure]
  exact hK _ _ (h _ _ (H.alloc _ _))
set_option maxRecDepth 100000
set_option maxHeartbeats 2000000
theorem lives07_H (H : Heap W l w) : Calls Try.prog 28 #[] w fun e w' => e = .returned (.bool true) ∧ Heap W l w' := by
  have hc := newG_play exG
  go_enter Try.func28, Try.ntmps28
  go_wp2_with (go_skip)
  have C := new_H (some ⟨w.heap.size, 0, none⟩) 5 5 exF rfl (by omega) (by intro x hx; simp [exF] at hx; rcases hx with rfl | rfl | rfl | rfl | rfl <;> (unfold FlwOk; simp)) (fun w' H' => H'.celRd List.mem_cons_self) (H.alloc #[.int .u8 1, .int .u8 2, .int .i64 3, .int .u8 2, .int .u8 4, .int .i64 2, .int .u8 1, .int .u8 3, .int .i64 2, .int .u8 3, .int .u8 4, .int .i64 9, .int .u8 2, .int .u8 3, .int .i64 5] 35)
  clear H
  refine C.mono ?_
  clear C
  rw [exG]
  rintro e w1 ⟨p, rfl, H⟩
  replace H := H.drop (.there .here)
  go_wp2_with (go_skip)
  have C := route_H (p := p) exC 1 4 4 (by omega) (by omega) (by omega) (by omega) hc List.mem_cons_self H
  clear H
  refine C.mono ?_
  clear C
  rintro e w2 ⟨va, P, got, rfl, hr, H⟩
  obtain ⟨rfl, rfl⟩ := hr.eq ex_route4
  clear hr
  obtain ⟨aa, ca, rfl⟩ := OwnT.form0 (H.ok _ List.mem_cons_self)
  go_wp2_with (go_skip)
  have C := route_H (p := p) exC 1 4 9 (by omega) (by omega) (by omega) (by omega) hc (List.mem_cons_of_mem _ List.mem_cons_self) H
  clear H
  refine C.mono ?_
  clear C
  rintro e w3 ⟨vb, P, got, rfl, hr, H⟩
  obtain ⟨rfl, rfl⟩ := hr.eq (ex_three 9 (by omega))
  clear hr
  obtain ⟨ab, cb, rfl⟩ := OwnT.form0 (H.ok _ List.mem_cons_self)
  go_wp2_with (go_skip)
  have C := route_H (p := p) exC 4 1 1 (by omega) (by omega) (by omega) (by omega) hc (List.mem_cons_of_mem _ (List.mem_cons_of_mem _ List.mem_cons_self)) H
  clear H
  refine C.mono ?_
  clear C
  rintro e w4 ⟨vc, P, got, rfl, hr, H⟩
  obtain ⟨rfl, rfl⟩ := hr.eq ex_none
  clear hr
  obtain ⟨ac, cc, rfl⟩ := OwnT.form0 (H.ok _ List.mem_cons_self)
  replace H := H.tail
  go_wp2_with (first
    | go_skip
    | ((with_reducible show wpList _ _ _ (_ :: _) _ _); (with_reducible apply wpl_bsAny (n := 4) slF _ _ exW); (· rfl); (· rfl); (· decide); (· decide); (· kernel_rfl); (· exact H); (clear H; intro pw _ H); (simp only [Act.put, List.setIfInBounds_toArray, List.set_cons_zero, List.set_cons_succ]))
    | ((with_reducible show wpList _ _ _ (_ :: _) _ _); (with_reducible apply wpl_appendA slF); (· rfl); (· rfl); (· rfl); (· rfl); (· exact H.nilRow 35 3); (· exact H.celRd List.mem_cons_self); (· rfl); (· exact exW_one); (· decide); (· decide); (clear H; intro v1 _ _ H); (simp only [Act.put, List.setIfInBounds_toArray, List.set_cons_zero, List.set_cons_succ]))
    | ((with_reducible show wpList _ _ _ (_ :: _) _ _); (with_reducible apply wpl_bsAny (n := 3) slF _ _ exM); (· rfl); (· rfl); (· decide); (· decide); (· kernel_rfl); (· exact H); (clear H; intro pm _ H); (simp only [Act.put, List.setIfInBounds_toArray, List.set_cons_zero, List.set_cons_succ]))
    | ((with_reducible show wpList _ _ _ (_ :: _) _ _); (with_reducible apply wpl_appendA slF); (· rfl); (· rfl); (· rfl); (· rfl); (· exact H.perm (.swap _ _ _)); (· exact H.celRd List.mem_cons_self); (· rfl); (· exact exM_one); (· decide); (· decide); (clear H; intro v2 _ _ H; obtain ⟨a2, c2, rfl, hc2, hm2⟩ := RowT.form0 (H.ok _ List.mem_cons_self)); (simp only [Act.put, List.setIfInBounds_toArray, List.set_cons_zero, List.set_cons_succ])))
  replace H : Heap W (RowT 35 3 (.slice a2 7 c2) 7 (flwL exQ) :: Cel pm exM 35 :: Cel pw exW 35 :: OwnT 35 3 (.slice ab exQ.length cb) exQ.length (flwL exQ) :: OwnT 35 3 (.slice aa exP.length ca) exP.length (flwL exP) :: Gr p exC :: l) _ := H
  have S1 : AnsH W (RowT 35 3 (.slice a2 7 c2) 7 (flwL exQ) :: Cel pm exM 35 :: Cel pw exW 35 :: OwnT 35 3 (.slice ab exQ.length cb) exQ.length (flwL exQ) :: OwnT 35 3 (.slice aa exP.length ca) exP.length (flwL exP) :: Gr p exC :: l) 23 #[.slice aa exP.length ca, .slice (some ⟨pw, 0, none⟩) 4 4] (.bool true) := by
    have := sameFlows_P (W := W) (l := RowT 35 3 (.slice a2 7 c2) 7 (flwL exQ) :: Cel pm exM 35 :: Cel pw exW 35 :: OwnT 35 3 (.slice ab exQ.length cb) exQ.length (flwL exQ) :: OwnT 35 3 (.slice aa exP.length ca) exP.length (flwL exP) :: Gr p exC :: l) (A := exP) (B := exP) aa (some ⟨pw, 0, none⟩) 4 4 ca 4 rfl rfl (by omega) (by omega) (fun w' h => h.ownRd (List.mem_cons_of_mem _ (List.mem_cons_of_mem _ (List.mem_cons_of_mem _ (List.mem_cons_of_mem _ List.mem_cons_self))))) (fun w' h => h.celRd (List.mem_cons_of_mem _ (List.mem_cons_of_mem _ List.mem_cons_self)))
    rwa [decide_eq_true rfl] at this
  have S2 : AnsH W (RowT 35 3 (.slice a2 7 c2) 7 (flwL exQ) :: Cel pm exM 35 :: Cel pw exW 35 :: OwnT 35 3 (.slice ab exQ.length cb) exQ.length (flwL exQ) :: OwnT 35 3 (.slice aa exP.length ca) exP.length (flwL exP) :: Gr p exC :: l) 23 #[.slice ab exQ.length cb, .slice a2 (0 + 4 + 3) c2] (.bool true) := by
    have := sameFlows_P (W := W) (l := RowT 35 3 (.slice a2 7 c2) 7 (flwL exQ) :: Cel pm exM 35 :: Cel pw exW 35 :: OwnT 35 3 (.slice ab exQ.length cb) exQ.length (flwL exQ) :: OwnT 35 3 (.slice aa exP.length ca) exP.length (flwL exP) :: Gr p exC :: l) (A := exQ) (B := exQ) ab a2 7 7 cb c2 rfl rfl (by omega) (by omega) (fun w' h => h.ownRd (List.mem_cons_of_mem _ (List.mem_cons_of_mem _ (List.mem_cons_of_mem _ List.mem_cons_self)))) (fun w' h => h.rowRd List.mem_cons_self)
    rwa [decide_eq_true rfl] at this
  have HC := Lib.hid hc
  refine (S1 _ H).mono ?_
  clear H S1
  rintro _ _ ⟨rfl, H⟩
  go_wp2_with (go_skip)
  refine (S2 _ H).mono ?_
  clear H S2
  rintro _ _ ⟨rfl, H⟩
  go_wp2_with (go_skip)
  have C := most_H (p := p) exC 1 4 (by omega) (by omega) HC.out (List.mem_cons_of_mem _ (List.mem_cons_of_mem _ (List.mem_cons_of_mem _ (List.mem_cons_of_mem _ (List.mem_cons_of_mem _ List.mem_cons_self))))) H
  clear H
  refine C.mono ?_
  clear C
  rintro e w5 ⟨P, got, rfl, hr, H⟩
  obtain ⟨rfl, rfl⟩ := hr.eq (ex_three _ (by omega))
  clear hr
  go_wp2_with (go_skip)
  go_ret
  exact ⟨rfl, H.tail.tail.tail.tail.tail.tail⟩
end
end Go.Proofs.Ytglehneaphigdaa

/- FlowsRoute: its walk. -/
namespace Go.Proofs.Ytglehneaphigdaa
open Go.RowKit
set_option linter.unusedSimpArgs false
set_option linter.unusedVariables false
section
variable {W w : World} {l : List Thing}
set_option maxRecDepth 100000
set_option maxHeartbeats 4000000
theorem froute_many (a : Option Addr) (n c f t : Nat) (k : Int) (h : 300 < n) (hn : n ≤ 9223372036854775807) (H : Heap W l w) : Calls Try.prog 6 #[.slice a n c, .agg (flow (f : Int) (t : Int) k)] w fun e w' => e = .returned (.bool true) ∧ Heap W l w' := by
  have d1 : decide ((n : Int) > 300) = true := by simp; omega
  have d2 : decide ((300 : Int) < n) = true := by simp; omega
  have L := fun (l : List Thing) (V : World) (H : Heap W l V) => lives07_H (W := W) (l := l) (w := V) H
  go_enter Try.func6, Try.ntmps6
  go_wp2_with (first | go_skip | ((with_reducible show wpList _ _ _ (_ :: _) _ _); (with_reducible apply wpl_boxRH); (· rfl); (· rfl); (· exact H); (clear H; intro pb _ H); (simp only [Act.put, List.setIfInBounds_toArray, List.set_cons_zero, List.set_cons_succ])) | ((with_reducible refine (L _ _ H).mono ?_); clear H; rintro _ _ ⟨rfl, H⟩))
  go_ret
  exact ⟨rfl, H.tail⟩
theorem froute_none (a : Option Addr) (n c0 f t : Nat) (k : Int) (F : List Flw) (h : n ≤ 300) (hl : F.length = n) (hF : ∀ x ∈ F, FlwOk x) (hf : f ≤ 255) (ht : t ≤ 255) (hk : k ≤ 9223372036854775807) (R : ∀ l' w', (∀ x ∈ l, x ∈ l') → Heap W l' w' → Rd w' a (flwL F)) (hG : newG F = none) (H : Heap W l w) : Calls Try.prog 6 #[.slice a n c0, .agg (flow (f : Int) (t : Int) k)] w fun e w' => e = .returned (.bool true) ∧ Heap W l w' := by
  have d1 : decide ((n : Int) > 300) = false := by simp; omega
  have d2 : decide ((300 : Int) < n) = false := by simp; omega
  have L := fun (l : List Thing) (V : World) (H : Heap W l V) => lives07_H (W := W) (l := l) (w := V) H
  have N := fun (x : Thing) (V : World) (H : Heap W (x :: l) V) => new_H (W := W) (l := x :: l) (w := V) a n c0 F hl (by omega) hF (fun w' h => R _ w' (fun y hy => List.mem_cons_of_mem _ hy) h) H
  rw [hG] at N
  have N2 := fun (x : Thing) (V : World) (H : Heap W (x :: l) V) => rnew_H (W := W) (l := x :: l) (w := V) a n c0 F hl (by omega) hF (fun l' w' hs h => R l' w' (fun y hy => hs y (List.mem_cons_of_mem _ hy)) h) H
  have S := fun (l : List Thing) (V : World) (H : Heap W l V) => routeN_H (W := W) (l := l) (w := V) f t k hf ht hk H
  have M := fun (l : List Thing) (V : World) (H : Heap W l V) => most_nil (W := W) (l := l) (w := V) f t hf ht H
  have HG := Lib.hid hG
  clear hl hF R hG
  go_enter Try.func6, Try.ntmps6
  go_wp2_with (first | go_skip | ((with_reducible show wpList _ _ _ (_ :: _) _ _); (with_reducible apply wpl_boxRH); (· rfl); (· rfl); (· exact H); (clear H; intro pb _ H); (simp only [Act.put, List.setIfInBounds_toArray, List.set_cons_zero, List.set_cons_succ])))
  refine (N _ _ H).mono ?_
  clear N H
  rintro _ _ ⟨rfl, H⟩
  go_wp2_with (go_skip)
  refine (N2 _ _ H).mono ?_
  clear H N2
  rintro e w2 (⟨_, rfl, H⟩ | ⟨c, p, hc, _⟩)
  · go_wp2_with (first | go_skip | ((with_reducible show wpList _ _ _ (_ :: _) _ _); (with_reducible apply wpl_loadCH); (· first | exact cell_party | exact cell_i64); (· rfl); (· rfl); (· exact H); (· (repeat (first | (with_reducible exact List.mem_cons_self) | with_reducible apply List.mem_cons_of_mem))); (· (with_reducible first | exact flow_g0 .. | exact flow_g1 .. | exact flow_g2 ..)); (simp only [Act.put, List.setIfInBounds_toArray, List.set_cons_zero, List.set_cons_succ])))
    refine (S _ _ H).mono ?_
    clear H S
    rintro e w2 ⟨rfl, H⟩
    go_wp2_with (first | go_skip | ((with_reducible show wpList _ _ _ (_ :: _) _ _); (with_reducible apply wpl_loadCH); (· first | exact cell_party | exact cell_i64); (· rfl); (· rfl); (· exact H); (· (repeat (first | (with_reducible exact List.mem_cons_self) | with_reducible apply List.mem_cons_of_mem))); (· (with_reducible first | exact flow_g0 .. | exact flow_g1 .. | exact flow_g2 ..)); (simp only [Act.put, List.setIfInBounds_toArray, List.set_cons_zero, List.set_cons_succ])))
    refine (M _ _ H).mono ?_
    clear H M
    rintro e w2 ⟨rfl, H⟩
    go_wp2_with (first | go_skip | ((with_reducible refine (L _ _ H).mono ?_); clear H; rintro _ _ ⟨rfl, H⟩))
    go_ret
    exact ⟨rfl, H.tail⟩
  · rw [HG.out] at hc; cases hc
theorem froute_some (a : Option Addr) (n c0 f t : Nat) (k : Int) (F : List Flw) (c : Caps) (h : n ≤ 300) (hl : F.length = n) (hF : ∀ x ∈ F, FlwOk x) (hf : f ≤ 255) (ht : t ≤ 255) (hk0 : -9223372036854775808 ≤ k) (hk : k ≤ 9223372036854775807) (R : ∀ l' w', (∀ x ∈ l, x ∈ l') → Heap W l' w' → Rd w' a (flwL F)) (hG : newG F = some c) (H : Heap W l w) : Calls Try.prog 6 #[.slice a n c0, .agg (flow (f : Int) (t : Int) k)] w fun e w' => e = .returned (.bool true) ∧ Heap W l w' := by
  have d1 : decide ((n : Int) > 300) = false := by simp; omega
  have d2 : decide ((300 : Int) < n) = false := by simp; omega
  have L := fun (l : List Thing) (V : World) (H : Heap W l V) => lives07_H (W := W) (l := l) (w := V) H
  have N := fun (x : Thing) (V : World) (H : Heap W (x :: l) V) => new_H (W := W) (l := x :: l) (w := V) a n c0 F hl (by omega) hF (fun w' h => R _ w' (fun y hy => List.mem_cons_of_mem _ hy) h) H
  rw [hG] at N
  have N2 := fun (x y : Thing) (V : World) (H : Heap W (x :: y :: l) V) => rnew_H (W := W) (l := x :: y :: l) (w := V) a n c0 F hl (by omega) hF (fun l' w' hs h => R l' w' (fun z hz => hs z (List.mem_cons_of_mem _ (List.mem_cons_of_mem _ hz))) h) H
  have hpc := newG_play hG
  have S := fun (l : List Thing) (p : Nat) (m : Gr p c ∈ l) (V : World) (H : Heap W l V) => routeA_H (W := W) (l := l) (w := V) (p := p) c f t k hf ht hk hpc m H
  have HG := Lib.hid hG
  have HPC := Lib.hid hpc
  clear hl hF R hG hpc
  go_enter Try.func6, Try.ntmps6
  go_wp2_with (first | go_skip | ((with_reducible show wpList _ _ _ (_ :: _) _ _); (with_reducible apply wpl_boxRH); (· rfl); (· rfl); (· exact H); (clear H; intro pb _ H); (simp only [Act.put, List.setIfInBounds_toArray, List.set_cons_zero, List.set_cons_succ])))
  refine (N _ _ H).mono ?_
  clear N H
  rintro _ _ ⟨p, rfl, H⟩
  go_wp2_with (go_skip)
  refine (N2 _ _ _ H).mono ?_
  clear H N2
  rintro e w2 (⟨hno, _⟩ | ⟨c', q, hc, rfl, hgc, hbc, ra, rcc, H⟩)
  · rw [HG.out] at hno; cases hno
  obtain rfl : c = c' := by rw [HG.out] at hc; exact Option.some.inj hc
  obtain ⟨NE, hNE⟩ : ∃ NE, (edgesOf c).length = NE := ⟨_, rfl⟩
  have hlen := edges_len c
  rw [hNE] at H hlen
  have HNE := Lib.hid hNE
  clear hc hNE hgc hbc
  go_wp2_with (first | go_skip | ((with_reducible show wpList _ _ _ (_ :: _) _ _); (with_reducible apply wpl_loadCH); (· first | exact cell_party | exact cell_i64); (· rfl); (· rfl); (· exact H); (· (repeat (first | (with_reducible exact List.mem_cons_self) | with_reducible apply List.mem_cons_of_mem))); (· (with_reducible first | exact flow_g0 .. | exact flow_g1 .. | exact flow_g2 ..)); (simp only [Act.put, List.setIfInBounds_toArray, List.set_cons_zero, List.set_cons_succ])))
  refine (S _ p (by (repeat (first | (with_reducible exact List.mem_cons_self) | with_reducible apply List.mem_cons_of_mem))) _ H).mono ?_
  clear H
  rintro e w3 ⟨va, P, got, rfl, hr, H⟩
  have hle := hr.len HPC.out
  obtain ⟨ln, hln⟩ : ∃ ln, P.length = ln := ⟨_, rfl⟩
  rw [hln] at H hle
  obtain ⟨aa, ca, rfl⟩ := OwnT.form0 (H.ok _ List.mem_cons_self)
  have HL := Lib.hid (And.intro hln hr)
  clear hr hln
  go_wp2_with (first | go_skip | ((with_reducible show wpList _ _ _ (_ :: _) _ _); (with_reducible apply wpl_loadCH); (· first | exact cell_party | exact cell_i64); (· rfl); (· rfl); (· exact H); (· (repeat (first | (with_reducible exact List.mem_cons_self) | with_reducible apply List.mem_cons_of_mem))); (· (with_reducible first | exact flow_g0 .. | exact flow_g1 .. | exact flow_g2 ..)); (simp only [Act.put, List.setIfInBounds_toArray, List.set_cons_zero, List.set_cons_succ])))
  refine (rroute_H (q := q) c f t k hf ht hk0 hk HPC.out HNE.out (by (repeat (first | (with_reducible exact List.mem_cons_self) | with_reducible apply List.mem_cons_of_mem))) (by (repeat (first | (with_reducible exact List.mem_cons_self) | with_reducible apply List.mem_cons_of_mem))) H).mono ?_
  clear H
  rintro e w4 ⟨vb, P2, got2, rfl, hr, H⟩
  obtain ⟨rfl, rfl⟩ := HL.out.2.eq hr
  clear hr
  rw [HL.out.1] at H
  obtain ⟨ab, cb, rfl, _, _⟩ := rowT_form (H.ok _ List.mem_cons_self)
  have gq : (got != got) = false := by simp
  have SP := Lib.hid (show ∀ (l0 : List Thing), OwnT 35 3 (.slice aa ln ca) ln (flwL P) ∈ l0 → FlT (.slice ab ln cb) ln P ∈ l0 → AnsH W l0 23 #[.slice aa ln ca, .slice ab ln cb] (.bool true) from fun l0 mx my => by
    have := sameFlows_P (W := W) (l := l0) (A := P) (B := P) aa ab ln ln ca cb HL.out.1 HL.out.1 (by omega) (by omega) (fun w' h => h.ownRd mx) (fun w' h => h.rowRd my)
    rwa [decide_eq_true rfl] at this)
  have SF := Lib.hid (show ∀ (l' : List Thing) (a2 : Option Addr) (k2 : Nat), FlT (.slice a2 NE k2) NE (edgesOf c) ∈ l' → FlT (.slice ra NE rcc) NE (edgesOf c) ∈ l' → AnsH W l' 23 #[.slice a2 NE NE, .slice ra NE rcc] (.bool true) from fun l' a2 k2 m2 m3 => by
    have := sameFlows_P (W := W) (l := l') (A := edgesOf c) (B := edgesOf c) a2 ra NE NE NE rcc HNE.out HNE.out (by omega) (by omega) (fun w' h => h.rowRd m2) (fun w' h => h.rowRd m3)
    rwa [decide_eq_true rfl] at this)
  have EG := Lib.hid (show ∀ (l' : List Thing) (w' : World), Gr p c ∈ l' → Heap W l' w' → Calls Try.prog 24 #[.pointer (some ⟨p, 0, none⟩)] w' fun e w'' => ∃ a2 k2, e = .returned (.slice a2 NE NE) ∧ Heap W (FlT (.slice a2 NE k2) NE (edgesOf c) :: l') w'' from fun l' w' m hh => by
    have := gedges_H (W := W) (l := l') (w := w') (p := p) (c := c) hh m
    rwa [HNE.out] at this)
  go_wp2_with (go_skip)
  refine wp_region_K0 [15, 21, 26] [0, 1, 2, 3, 4, 5, 6, 7, 8, 9, 10, 11, 12, 13, 14, 16, 17, 18, 19, 20, 15, 21, 22, 23, 24, 25, 27, 28, 29, 30, 26, 31, 32, 33] H (by kernel_rfl) (by kernel_rfl) ?_
  iterate 2 (apply wpK_step; (· rfl); (· rfl); (· rfl); (· exact Nat.le_of_ble_eq_true rfl); (· intro l0 hs0 w0 H0; (first | go_big_quiet_skip | fail | go_big_quiet_step (fail)); (refine wpQuiet_nil ?_); (simp only [Array.getD_eq_getD_getElem?, List.getElem?_toArray, List.getElem?_cons_succ, List.getElem?_cons_zero, Option.getD_some]; rfl)); (simp only [Act.put, List.setIfInBounds_toArray, List.set_cons_zero, List.set_cons_succ]))
  (apply wpK_step; (· rfl); (· rfl); (· rfl); (· exact Nat.le_of_ble_eq_true rfl); (· intro l0 hs0 w0 H0; (first | go_big_quiet_skip | fail | go_big_quiet_step (exact (SP.out l0 (hs0 _ (by (repeat (first | (with_reducible exact List.mem_cons_self) | with_reducible apply List.mem_cons_of_mem)))) (hs0 _ (by (repeat (first | (with_reducible exact List.mem_cons_self) | with_reducible apply List.mem_cons_of_mem))))).quiet)); (refine wpQuiet_nil ?_); (simp only [Array.getD_eq_getD_getElem?, List.getElem?_toArray, List.getElem?_cons_succ, List.getElem?_cons_zero, Option.getD_some]; rfl)); (simp only [Act.put, List.setIfInBounds_toArray, List.set_cons_zero, List.set_cons_succ]))
  iterate 17 (apply wpK_step; (· rfl); (· rfl); (· rfl); (· exact Nat.le_of_ble_eq_true rfl); (· intro l0 hs0 w0 H0; (first | go_big_quiet_skip | ((with_reducible apply wpQ_loadCH); (· first | exact cell_party | exact cell_i64); (· rfl); (· rfl); (· exact hs0 _ (by (repeat (first | (with_reducible exact List.mem_cons_self) | with_reducible apply List.mem_cons_of_mem)))); (· (with_reducible first | exact flow_g0 .. | exact flow_g1 .. | exact flow_g2 ..)); (simp only [Act.put, List.setIfInBounds_toArray, List.set_cons_zero, List.set_cons_succ])) | go_big_quiet_step (fail)); (refine wpQuiet_nil ?_); (simp only [Array.getD_eq_getD_getElem?, List.getElem?_toArray, List.getElem?_cons_succ, List.getElem?_cons_zero, Option.getD_some]; rfl)); (simp only [Act.put, List.setIfInBounds_toArray, List.set_cons_zero, List.set_cons_succ]))
  refine wpK_call (f := 30) (argl := [.pointer (some ⟨p, 0, none⟩), .int .u8 (f : Int), .int .u8 (t : Int)]) rfl rfl rfl Try.call30 rfl ?_
  intro w0 H0
  refine (most_H (p := p) c f t hf ht HPC.out (by (repeat (first | (with_reducible exact List.mem_cons_self) | with_reducible apply List.mem_cons_of_mem))) H0).mono ?_
  clear H0
  rintro e w5 ⟨Q, most, rfl, hm, H1⟩
  refine ⟨_, _, rfl, H1, _, Keeps.refl _, Keeps.refl _, ?_⟩
  clear H1
  (simp only [Act.put, List.setIfInBounds_toArray, List.set_cons_zero, List.set_cons_succ])
  refine wpK_call (f := 34) (argl := [.pointer (some ⟨q, 0, none⟩), .int .u8 (f : Int), .int .u8 (t : Int)]) rfl rfl rfl Try.call34 rfl ?_
  intro w0 H0
  refine (rmost_H (q := q) c f t hf ht HPC.out HNE.out (by (repeat (first | (with_reducible exact List.mem_cons_self) | with_reducible apply List.mem_cons_of_mem))) (by (repeat (first | (with_reducible exact List.mem_cons_self) | with_reducible apply List.mem_cons_of_mem))) H0).mono ?_
  clear H0
  rintro e w6 ⟨Q2, most2, rfl, hm2, H1⟩
  obtain rfl := RouteOut.mosts HPC.out hm2 hm
  have mq : (most2 != most2) = false := by simp
  clear hm hm2
  refine ⟨_, _, rfl, H1, _, Keeps.refl _, Keeps.refl _, ?_⟩
  clear H1
  (simp only [Act.put, List.setIfInBounds_toArray, List.set_cons_zero, List.set_cons_succ])
  iterate 7 (apply wpK_step; (· rfl); (· rfl); (· rfl); (· exact Nat.le_of_ble_eq_true rfl); (· intro l0 hs0 w0 H0; (first | go_big_quiet_skip | fail | go_big_quiet_step (fail)); (refine wpQuiet_nil ?_); (simp only [Array.getD_eq_getD_getElem?, List.getElem?_toArray, List.getElem?_cons_succ, List.getElem?_cons_zero, Option.getD_some]; rfl)); (simp only [Act.put, List.setIfInBounds_toArray, List.set_cons_zero, List.set_cons_succ]))
  (apply wpK_step; (· rfl); (· rfl); (· rfl); (· exact Nat.le_of_ble_eq_true rfl); (· intro l0 hs0 w0 H0; (first | go_big_quiet_skip | ((with_reducible apply wpQ_loadCH); (· exact cell_flows); (· rfl); (· rfl); (· exact hs0 _ (by (repeat (first | (with_reducible exact List.mem_cons_self) | with_reducible apply List.mem_cons_of_mem)))); (· exact rgC_g _); (simp only [Act.put, List.setIfInBounds_toArray, List.set_cons_zero, List.set_cons_succ])) | go_big_quiet_step (fail)); (refine wpQuiet_nil ?_); (simp only [Array.getD_eq_getD_getElem?, List.getElem?_toArray, List.getElem?_cons_succ, List.getElem?_cons_zero, Option.getD_some]; rfl)); (simp only [Act.put, List.setIfInBounds_toArray, List.set_cons_zero, List.set_cons_succ]))
  refine wpK_call (f := 24) (argl := [.pointer (some ⟨p, 0, none⟩)]) rfl rfl rfl Try.call24 rfl ?_
  intro w0 H0
  refine (EG.out _ _ (by (repeat (first | (with_reducible exact List.mem_cons_self) | with_reducible apply List.mem_cons_of_mem))) H0).mono ?_
  clear H0
  rintro e w7 ⟨a2, k2, rfl, H1⟩
  refine ⟨_, _, rfl, H1, _, fun t ht => List.mem_cons_of_mem _ ht, Keeps.refl _, ?_⟩
  clear H1
  (simp only [Act.put, List.setIfInBounds_toArray, List.set_cons_zero, List.set_cons_succ])
  (apply wpK_step; (· rfl); (· rfl); (· rfl); (· exact Nat.le_of_ble_eq_true rfl); (· intro l0 hs0 w0 H0; (first | go_big_quiet_skip | fail | go_big_quiet_step (exact (SF.out _ a2 k2 (hs0 _ (by (repeat (first | (with_reducible exact List.mem_cons_self) | with_reducible apply List.mem_cons_of_mem)))) (hs0 _ (by (repeat (first | (with_reducible exact List.mem_cons_self) | with_reducible apply List.mem_cons_of_mem))))).quiet)); (refine wpQuiet_nil ?_); (simp only [Array.getD_eq_getD_getElem?, List.getElem?_toArray, List.getElem?_cons_succ, List.getElem?_cons_zero, Option.getD_some]; rfl)); (simp only [Act.put, List.setIfInBounds_toArray, List.set_cons_zero, List.set_cons_succ]))
  iterate 2 (apply wpK_step; (· rfl); (· rfl); (· rfl); (· exact Nat.le_of_ble_eq_true rfl); (· intro l0 hs0 w0 H0; (first | go_big_quiet_skip | fail | go_big_quiet_step (fail)); (refine wpQuiet_nil ?_); (simp only [Array.getD_eq_getD_getElem?, List.getElem?_toArray, List.getElem?_cons_succ, List.getElem?_cons_zero, Option.getD_some]; rfl)); (simp only [Act.put, List.setIfInBounds_toArray, List.set_cons_zero, List.set_cons_succ]))
  (refine wpK_nil ?_; clear H; intro _ H)
  replace H := H.tail.tail
  go_wp2_with (first | go_skip | ((with_reducible show wpList _ _ _ (_ :: _) _ _); (with_reducible apply wpl_loadCH); (· first | exact cell_party | exact cell_i64); (· rfl); (· rfl); (· exact H); (· (repeat (first | (with_reducible exact List.mem_cons_self) | with_reducible apply List.mem_cons_of_mem))); (· (with_reducible first | exact flow_g0 .. | exact flow_g1 .. | exact flow_g2 ..)); (simp only [Act.put, List.setIfInBounds_toArray, List.set_cons_zero, List.set_cons_succ])))
  refine (S _ p (by (repeat (first | (with_reducible exact List.mem_cons_self) | with_reducible apply List.mem_cons_of_mem))) _ H).mono ?_
  clear H S
  rintro e w8 ⟨vc, P2, got2, rfl, hr, H⟩
  obtain ⟨rfl, rfl⟩ := HL.out.2.eq hr
  clear hr
  rw [HL.out.1] at H
  obtain ⟨ac, cc, rfl⟩ := OwnT.form0 (H.ok _ List.mem_cons_self)
  go_wp2_with (first
    | go_skip
    | ((with_reducible show wpList _ _ _ (_ :: _) _ _); (with_reducible apply wpl_allocRH row_book); (· rfl); (· exact H); (clear H; intro kb _ H); (simp only [Act.put, List.setIfInBounds_toArray, List.set_cons_zero, List.set_cons_succ]))
    | ((with_reducible show wpList _ _ _ (_ :: _) _ _); (with_reducible apply wpl_storeRH row_book); (· rfl); (· rfl); (· rfl); (· with_reducible exact bookC_cells); (· exact H); (· (repeat (first | (with_reducible exact List.mem_cons_self) | with_reducible apply List.mem_cons_of_mem))); (· (simp only [bookC_sz, Nat.reduceAdd, Nat.reduceLeDiff, Nat.le_refl]; done)); (· with_reducible exact bookC_splice ..); (· (repeat (first | (with_reducible exact Repl.here) | with_reducible apply Repl.there))); (clear H; intro _ H); (simp only [Act.put, List.setIfInBounds_toArray, List.set_cons_zero, List.set_cons_succ])))
  have B := Book.new (H.perm (.cons _ (.swap _ _ _)))
  clear H
  refine (lay_Fl kb [] aa ln ca (by decide) B).mono ?_
  clear B
  rintro e w9 ⟨rfl, p1, B⟩
  go_wp2_with (go_skip)
  refine (lay_Fl kb _ ac ln cc (by simp) B).mono ?_
  clear B
  rintro e w10 ⟨rfl, p2, B⟩
  go_wp2_with (go_skip)
  refine (B.apart (by simp)).mono ?_
  clear B
  rintro e w11 ⟨rfl, H⟩
  go_wp2_with (first | go_skip | ((with_reducible refine (L _ _ H).mono ?_); clear H; rintro _ _ ⟨rfl, H⟩))
  go_ret
  exact ⟨rfl, H.tail.tail.tail.tail⟩
end
end Go.Proofs.Ytglehneaphigdaa

/- PathsLeast: its walk over a graph there is, between two parties. -/
namespace Go.Proofs.Ytglehneaphigdaa
open Go.RowKit
set_option linter.unusedSimpArgs false
set_option linter.unusedVariables false
/-- The table at its end. -/
def leftT (d : Nat → Nat) : Nat → Nat := fun p => if d p < 17 then d p else 99
theorem leftT_in {d : Nat → Nat} {p : Nat} (h : d p < 17) : leftT d p = d p := if_pos h
theorem leftT_out {d : Nat → Nat} {p : Nat} (h : ¬ d p < 17) : leftT d p = 99 := if_neg h
structure LeastT (W : World) (l : List Thing) (d : Nat → Nat) (pt : Nat) (i : Value) (wr : World) : Prop where
  out : ∃ n T, i = .int .i64 ((n : Nat) : Int) ∧ n ≤ 16 ∧ InvN d n T ∧ Heap W (Cel pt (dist17 T) 74 :: l) wr
structure LeastA (W : World) (l : List Thing) (d : Nat → Nat) (n pt : Nat) (i : Value) (wr : World) : Prop where
  out : ∃ a T, i = .int .u8 ((a : Nat) : Int) ∧ 1 ≤ a ∧ a ≤ 17 ∧ InvA d n a T ∧ Heap W (Cel pt (dist17 T) 74 :: l) wr
structure LeastB (W : World) (l : List Thing) (c : Caps) (d : Nat → Nat) (n a pt : Nat) (i : Value) (wr : World) : Prop where
  out : ∃ b T, i = .int .u8 ((b : Nat) : Int) ∧ 1 ≤ b ∧ b ≤ 17 ∧ InvB (edge c) d n a b T ∧ Heap W (Cel pt (dist17 T) 74 :: l) wr
structure LeastI (W : World) (l : List Thing) (m : Nat) (i : Value) (wr : World) : Prop where
  out : ∃ k, i = .int .i64 (((k : Nat) : Int) + 1) ∧ k ≤ m ∧ Heap W l wr
structure LeastP (W : World) (l : List Thing) (q : Nat) (i : Value) (wr : World) : Prop where
  out : ∃ k, i = .int .u8 ((k : Nat) : Int) ∧ 1 ≤ k ∧ k ≤ q ∧ Heap W l wr
theorem Way.at {A : Nat → Nat → Bool} {d : Nat → Nat} {f t : Nat} {L : List Nat} (h : Way A d f t L) : ∀ i x, L[i]? = some x → d x + i = d f
  | 0, x, hx => by rw [h.head] at hx; cases hx; rfl
  | i + 1, x, hx => by
    have hi : i + 1 < L.length := by
      apply Classical.byContradiction
      intro hn
      rw [List.getElem?_eq_none (by omega)] at hx
      cases hx
    have hy : L[i]? = some L[i] := List.getElem?_eq_getElem (by omega)
    have h1 := h.at i _ hy
    have h2 := (h.steps i _ x hy hx).good.1
    omega
theorem Sound.le99 {d T : Nat → Nat} (h : Sound d T) (p : Nat) : T p ≤ 99 := by rcases h p with h | h <;> omega
section
variable {W w : World} {l : List Thing}
set_option maxRecDepth 100000
set_option maxHeartbeats 4000000
theorem least_yes (a : Option Addr) (n c0 f t : Nat) (F : List Flw) (c : Caps) (h : n ≤ 300) (hl : F.length = n) (hF : ∀ x ∈ F, FlwOk x) (hf1 : 1 ≤ f) (hf : f ≤ 16) (ht1 : 1 ≤ t) (ht : t ≤ 16) (hne : f ≠ t) (R : ∀ w', Heap W l w' → Rd w' a (flwL F)) (hG : newG F = some c) (H : Heap W l w) :
    Calls Try.prog 8 #[.slice a n c0, .int .u8 (f : Int), .int .u8 (t : Int)] w fun e w' => e = .returned (.bool true) ∧ Heap W l w' := by
  have L := fun (V : World) (l : List Thing) (H : Heap W l V) => lives06_H (W := W) (l := l) (w := V) H
  have N := new_H (W := W) (l := l) (w := w) a n c0 F hl (by omega) hF R H
  rw [hG] at N
  have S := fun (l : List Thing) (p : Nat) (h : Gr p c ∈ l) (V : World) (H : Heap W l V) => short_H (W := W) (l := l) (w := V) (gv := .pointer (some ⟨p, 0, none⟩)) f t (by omega) (by omega) (CapsOf.gr h) H
  have hle : ∀ p q, edge c p q = true → p ≤ 16 := fun p q h => (edge_le h).1.2
  have h0 : ∀ q, edge c 0 q = false := fun q => edge_no (by rw [capOf_zero]; omega)
  have h00 : ∀ q, edge c q 0 = false := fun q => edge_no (by unfold capOf; rw [if_neg]; · omega
                                                             · rintro ⟨_, h⟩; have := mayP_true h; omega)
  obtain ⟨d, hd⟩ := exists_dist (A := edge c) ht1 ht hle h0
  clear hl hF R hG H
  have e1 : ((f : Int) == (t : Int)) = false := by simp; omega
  have f17 : f < 17 := by omega
  have t17 : t < 17 := by omega
  have HD := Lib.hid (And.intro hd (And.intro hle (And.intro h0 h00)))
  have HNE := Lib.hid hne
  clear hd hle h0 h00 hne
  go_enter Try.func8, Try.ntmps8
  go_wp2_with (first | go_skip | ((with_reducible refine N.mono ?_); clear N; rintro _ _ ⟨p, rfl, H⟩) | ((with_reducible show wpList _ _ _ (_ :: _) _ _); (with_reducible apply wpl_allocRH row_17i); (· rfl); (· exact H); (clear H; intro pt _ H); (simp only [Act.put, List.setIfInBounds_toArray, List.set_cons_zero, List.set_cons_succ])))
  have H0 := H
  clear H
  go_loopw [10] (fun i wr => ∃ k : Nat, k ≤ 17 ∧ i = .int .i64 k ∧ Heap W (Cel pt (row17 fun i => if i < k then 99 else 0) 74 :: Gr p c :: l) wr) (fun i _ => 17 - (intOf i).toNat)
  case atStart => exact ⟨0, by omega, rfl, by simpa using H0⟩
  case round =>
    obtain ⟨k, hk, rfl, H'⟩ := hrel
    clear H0
    have H := H'
    clear H'
    by_cases hlt : k < 17
    · go_wp2_with (first | go_skip | ((with_reducible show wpList _ _ _ (_ :: _) _ _); (with_reducible apply wpl_storeIH); (· exact cell_int); (· rfl); (· rfl); (· rfl); (· exact H); (· (repeat (first | (with_reducible exact List.mem_cons_self) | with_reducible apply List.mem_cons_of_mem))); (· (rw [row17_sz]; omega)); (· exact row17_set _ hlt _); (· (repeat (first | (with_reducible exact Repl.here) | with_reducible apply Repl.there))); (clear H; intro _ H); (simp only [Act.put, List.setIfInBounds_toArray, List.set_cons_zero, List.set_cons_succ])))
      go_roundw
      case rel =>
        refine ⟨k + 1, by omega, by go_num, ?_⟩
        have e : row17 (updN (fun i => if i < k then (99 : Int) else 0) k 99) = row17 fun i => if i < k + 1 then 99 else 0 := by
          apply row17_ext
          intro i hi
          unfold updN
          by_cases e1 : i = k
          · subst e1; simp
          · by_cases e2 : i < k
            · have e3 : i < k + 1 := by omega
              simp [e1, e2, e3]
            · have e3 : ¬ i < k + 1 := by omega
              simp [e1, e2, e3]
        rw [← e]
        exact H
      case measure => simp [intOf]; omega
    · obtain rfl : k = 17 := by omega
      rw [show row17 (fun i => if i < 17 then (99 : Int) else 0) = dist17 (fun _ => 99) from row17_ext fun i hi => by rw [if_pos hi]; rfl] at H
      unfold dist17 at H
      go_wp2_with (first
        | go_skip
        | ((with_reducible show wpList _ _ _ (_ :: _) _ _); (with_reducible apply wpl_storeIH); (· exact cell_int); (· rfl); (· rfl); (· rfl); (· exact H); (· (repeat (first | (with_reducible exact List.mem_cons_self) | with_reducible apply List.mem_cons_of_mem))); (· (rw [row17_sz]; omega)); (· exact row17_set _ t17 _); (· (repeat (first | (with_reducible exact Repl.here) | with_reducible apply Repl.there))); (clear H; intro _ H); (simp only [Act.put, List.setIfInBounds_toArray, List.set_cons_zero, List.set_cons_succ])))
      have H0 := H
      clear H
      rw [show (updN (fun i => (((fun _ => 99 : Nat → Nat) i : Nat) : Int)) t 0) = (updN (fun i => (((fun _ => 99 : Nat → Nat) i : Nat) : Int)) t ((0 : Nat) : Int)) from rfl, dist17_upd] at H0
      go_loopw [11] (fun i wr => LeastT W (Gr p c :: l) d pt i wr) (fun i _ => 16 - (intOf i).toNat)
      case atStart => exact ⟨0, _, rfl, by omega, InvN.start HD.out.1, H0⟩
      case round =>
        obtain ⟨n, T, rfl, hn, hI, H'⟩ := hrel.out
        clear H0 hrel
        have H := H'
        clear H'
        by_cases hlt : n < 16
        · have HI := Lib.hid (InvA.start HD.out.1 hI)
          clear hI
          go_wp2_with (go_skip)
          have H0 := H
          clear H
          go_loopw [12] (fun i wr => LeastA W (Gr p c :: l) d n pt i wr) (fun i _ => 17 - (intOf i).toNat)
          case atStart => exact ⟨1, T, rfl, by omega, by omega, HI.out, H0⟩
          case round =>
            clear HI
            obtain ⟨a, T, rfl, ha1, ha, hI, H'⟩ := hrel.out
            clear H0 hrel
            have H := H'
            clear H'
            by_cases hlt2 : a < 17
            · have HI := Lib.hid (InvB.start (HD.out.2.2.2 a) hI)
              clear hI
              go_wp2_with (go_skip)
              have H0 := H
              clear H
              go_loopw [13] (fun i wr => LeastB W (Gr p c :: l) c d n a pt i wr) (fun i _ => 17 - (intOf i).toNat)
              case atStart => exact ⟨1, T, rfl, by omega, by omega, HI.out, H0⟩
              case round =>
                clear HI
                obtain ⟨b, T, rfl, hb1, hb, hI, H'⟩ := hrel.out
                clear H0 hrel
                have H := H'
                clear H'
                by_cases hlt3 : b < 17
                · have HI := Lib.hid (hI.step HD.out.1 HD.out.2.1 (by omega))
                  have b1 := hI.inv.snd.le99 a
                  have b2 := hI.inv.snd.le99 b
                  clear hI
                  have hw : wrap64 ((T b : Int) + 1) = (T b : Int) + 1 := IntWalk.wrap64_in _ ⟨by omega, by omega⟩
                  have hcap := cap_H (W := W) (l := Cel pt (dist17 T) 74 :: Gr p c :: l) (p := p) (c := c) a b (by omega) (by omega) (List.mem_cons_of_mem _ List.mem_cons_self)
                  by_cases hA : 0 < capOf c a b
                  · have c1 : decide (capOf c a b > 0) = true := by simpa using hA
                    by_cases hT : T b + 1 < T a
                    · have c2 : decide ((T b : Int) + 1 < (T a : Int)) = true := by simp; omega
                      have HR := Lib.hid (show relT (edge c) T a b = updN T a (T b + 1) from if_pos ⟨edge_yes hA, hT⟩)
                      clear hA hT
                      go_wp2_with (go_skip)
                      refine wp_region_H H (by kernel_rfl) (by kernel_rfl) ?_
                      repeat (first | go_big_quiet_skip | ((with_reducible apply wpQ_loadCH); (· exact cell_int); (· rfl); (· rfl); (· (repeat (first | (with_reducible exact List.mem_cons_self) | with_reducible apply List.mem_cons_of_mem))); (· (first | exact dist17_get _ hlt2 | exact dist17_get _ hlt3)); (simp only [Act.put, List.setIfInBounds_toArray, List.set_cons_zero, List.set_cons_succ])) | go_big_quiet_step (exact hcap.quiet))
                      refine wpQuiet_nil ?_
                      clear H
                      intro _ H
                      go_wp2_with (first
                        | go_skip
                        | ((with_reducible show wpList _ _ _ (_ :: _) _ _); (with_reducible apply wpl_loadCH); (· exact cell_int); (· rfl); (· rfl); (· exact H); (· (repeat (first | (with_reducible exact List.mem_cons_self) | with_reducible apply List.mem_cons_of_mem))); (· exact dist17_get _ hlt3); (simp only [Act.put, List.setIfInBounds_toArray, List.set_cons_zero, List.set_cons_succ]))
                        | ((with_reducible show wpList _ _ _ (_ :: _) _ _); (with_reducible apply wpl_storeIH); (· exact cell_int); (· rfl); (· rfl); (· rfl); (· exact H); (· (repeat (first | (with_reducible exact List.mem_cons_self) | with_reducible apply List.mem_cons_of_mem))); (· (rw [dist17_sz]; omega)); (· exact dist17_set _ hlt2 _); (· (repeat (first | (with_reducible exact Repl.here) | with_reducible apply Repl.there))); (clear H; intro _ H); (simp only [Act.put, List.setIfInBounds_toArray, List.set_cons_zero, List.set_cons_succ])))
                      go_roundw
                      case rel => exact ⟨⟨b + 1, _, by go_num, by omega, by omega, HI.out, by rw [HR.out]; exact H⟩⟩
                      case measure => simp [intOf]; omega
                    · have c2 : decide ((T b : Int) + 1 < (T a : Int)) = false := by simp; omega
                      have HR := Lib.hid (show relT (edge c) T a b = T from if_neg (fun h => hT h.2))
                      clear hA hT
                      go_wp2_with (go_skip)
                      refine wp_region_H H (by kernel_rfl) (by kernel_rfl) ?_
                      repeat (first | go_big_quiet_skip | ((with_reducible apply wpQ_loadCH); (· exact cell_int); (· rfl); (· rfl); (· (repeat (first | (with_reducible exact List.mem_cons_self) | with_reducible apply List.mem_cons_of_mem))); (· (first | exact dist17_get _ hlt2 | exact dist17_get _ hlt3)); (simp only [Act.put, List.setIfInBounds_toArray, List.set_cons_zero, List.set_cons_succ])) | go_big_quiet_step (exact hcap.quiet))
                      refine wpQuiet_nil ?_
                      clear H
                      intro _ H
                      go_wp2_with (go_skip)
                      refine ⟨?_, ?measure⟩
                      · exact ⟨⟨b + 1, T, by go_num, by omega, by omega, by rw [← HR.out]; exact HI.out, H⟩⟩
                      case measure => simp [intOf]; omega
                  · have c1 : decide (capOf c a b > 0) = false := by simpa using hA
                    have HR := Lib.hid (show relT (edge c) T a b = T from if_neg (fun h => by rw [edge_no hA] at h; exact absurd h.1 Bool.false_ne_true))
                    clear hA
                    go_wp2_with (go_skip)
                    refine wp_region_H H (by kernel_rfl) (by kernel_rfl) ?_
                    repeat (first | go_big_quiet_skip | ((with_reducible apply wpQ_loadCH); (· exact cell_int); (· rfl); (· rfl); (· (repeat (first | (with_reducible exact List.mem_cons_self) | with_reducible apply List.mem_cons_of_mem))); (· (first | exact dist17_get _ hlt2 | exact dist17_get _ hlt3)); (simp only [Act.put, List.setIfInBounds_toArray, List.set_cons_zero, List.set_cons_succ])) | go_big_quiet_step (exact hcap.quiet))
                    refine wpQuiet_nil ?_
                    clear H
                    intro _ H
                    go_wp2_with (go_skip)
                    refine ⟨?_, ?measure⟩
                    · exact ⟨⟨b + 1, T, by go_num, by omega, by omega, by rw [← HR.out]; exact HI.out, H⟩⟩
                    case measure => simp [intOf]; omega
                · obtain rfl : b = 17 := by omega
                  have HI := Lib.hid (hI.done HD.out.1)
                  clear hI
                  go_wp2_with (go_skip)
                  go_roundw
                  case rel => exact ⟨⟨a + 1, T, by go_num, by omega, by omega, HI.out, H⟩⟩
                  case measure => simp [intOf]; omega
            · obtain rfl : a = 17 := by omega
              have HI := Lib.hid (hI.done HD.out.1)
              clear hI
              go_wp2_with (go_skip)
              go_roundw
              case rel => exact ⟨⟨n + 1, T, by go_num, by omega, HI.out, H⟩⟩
              case measure => simp [intOf]; omega
        · obtain rfl : n = 16 := by omega
          obtain rfl : T = leftT d := funext (hI.end HD.out.1)
          clear hI
          go_wp2_with (go_skip)
          refine (S _ p (by (repeat (first | (with_reducible exact List.mem_cons_self) | with_reducible apply List.mem_cons_of_mem))) _ H).mono ?_
          clear H S
          rintro e w2 ⟨v, Lw, rfl, hs, H⟩
          by_cases hdf : d f < 17
          · have hW : Way (edge c) d f t Lw ∧ ∀ x ∈ Lw, x ≤ 16 := by
              rcases hs with ⟨_, h | h | h | ⟨d', hd', h17⟩⟩ | ⟨_, _, _, d', hd', h17, hw⟩
              · rw [show mayP f = true by simp [mayP]; omega] at h; cases h
              · rw [show mayP t = true by simp [mayP]; omega] at h; cases h
              · exact absurd h HNE.out
              · rw [hd'.eq HD.out.1 f] at h17; omega
              · obtain rfl : d' = d := funext (hd'.eq HD.out.1)
                refine ⟨hw, fun x hx => ?_⟩
                obtain ⟨i, hi⟩ := List.mem_iff_getElem?.1 hx
                have := hw.at i x hi
                have := HD.out.1.ins x (by omega)
                omega
            obtain ⟨m, hm⟩ : ∃ m, d f = m := ⟨_, rfl⟩
            have hm1 : m ≤ 15 := by have := HD.out.1.ins f hdf; omega
            have hlen : Lw.length = m + 1 := by rw [hW.1.len, hm]
            have hTf : leftT d f = m := by rw [leftT_in hdf, hm]
            rw [hlen] at H
            obtain ⟨g, o, cc, rfl, _, _⟩ := OwnT.form (H.ok _ List.mem_cons_self) (by omega)
            have hcx : ∀ (i x : Nat), Lw[i]? = some x → ∀ w', Heap W (OwnT 33 1 (.slice (some ⟨g, o, none⟩) (m + 1) cc) (m + 1) (Lw.map pv) :: Cel pt (dist17 (leftT d)) 74 :: Gr p c :: l) w' → w'.cell? ⟨g, o + i, none⟩ = some (.int .u8 (x : Int)) := fun i x hx w' h => rd_party (h.ownRd List.mem_cons_self) hx
            have c1 : decide (((leftT d f : Nat) : Int) > 16) = false := by rw [hTf]; simp; omega
            have g1 : leftT d f ≤ 15 := by omega
            have c2 : ((((m + 1 : Nat) : Int)) != ((leftT d f : Nat) : Int) + 1) = false := by rw [hTf]; simp
            have c2' : (((m : Int) + 1) != ((leftT d f : Nat) : Int) + 1) = false := by rw [hTf]; simp
            have c3 : ((f : Int) != (f : Int)) = false := by simp
            have c4 : ((t : Int) != (t : Int)) = false := by simp
            have hc0 := hcx 0 f hW.1.head
            have hcl := hcx m t (by have := hW.1.last; rw [hlen] at this; exact this)
            rw [Nat.add_zero] at hc0
            have HC := Lib.hid (And.intro hcx (And.intro hc0 hcl))
            have HW := Lib.hid (And.intro hW (And.intro hm hlen))
            clear hcx hc0 hcl hW hm hlen hTf hs hdf
            go_wp2_with (first
              | go_skip
              | ((with_reducible show wpList _ _ _ (_ :: _) _ _); (with_reducible apply wpl_loadCH); (· exact cell_int); (· rfl); (· rfl); (· exact H); (· (repeat (first | (with_reducible exact List.mem_cons_self) | with_reducible apply List.mem_cons_of_mem))); (· exact dist17_get _ f17); (simp only [Act.put, List.setIfInBounds_toArray, List.set_cons_zero, List.set_cons_succ]))
              | ((with_reducible show wpList _ _ _ (_ :: _) _ _); (with_reducible apply wpl_loadCell); (· exact cell_party); (· rfl); (· rfl); (· first | exact HC.out.2.1 _ H | exact HC.out.2.2 _ H); (simp only [Act.put, List.setIfInBounds_toArray, List.set_cons_zero, List.set_cons_succ])))
            have H0 := H
            clear H
            go_loopw [15] (fun i wr => LeastI W (OwnT 33 1 (.slice (some ⟨g, o, none⟩) (m + 1) cc) (m + 1) (Lw.map pv) :: Cel pt (dist17 (leftT d)) 74 :: Gr p c :: l) m i wr) (fun i _ => m + 1 - (intOf i).toNat)
            case atStart => exact ⟨0, rfl, by omega, H0⟩
            case round =>
              obtain ⟨k, rfl, hk, H'⟩ := hrel.out
              clear H0 hrel
              have H := H'
              clear H'
              by_cases hlt : k < m
              · have hwl := HW.out.2.2
                have hx : Lw[k]? = some Lw[k] := List.getElem?_eq_getElem (by omega)
                have hy : Lw[k + 1]? = some Lw[k + 1] := List.getElem?_eq_getElem (by omega)
                generalize Lw[k] = x at hx
                generalize Lw[k + 1] = y at hy
                have hx16 := HW.out.1.2 x (List.mem_iff_getElem?.2 ⟨_, hx⟩)
                have hy16 := HW.out.1.2 y (List.mem_iff_getElem?.2 ⟨_, hy⟩)
                have hnext := HW.out.1.1.steps k x y hx hy
                have hdx := HW.out.1.1.at k x hx
                have hdy := HW.out.1.1.at (k + 1) y hy
                rw [HW.out.2.1] at hdx hdy
                have hcx := HC.out.1 k x hx
                have hcy := HC.out.1 (k + 1) y hy
                have hTy : leftT d y = d y := leftT_in (by omega)
                have hcap := cap_H (W := W) (l := OwnT 33 1 (.slice (some ⟨g, o, none⟩) (m + 1) cc) (m + 1) (Lw.map pv) :: Cel pt (dist17 (leftT d)) 74 :: Gr p c :: l) (p := p) (c := c) x y (by omega) (by omega) (by (repeat (first | (with_reducible exact List.mem_cons_self) | with_reducible apply List.mem_cons_of_mem)))
                have hcap2 : 1 ≤ capOf c x y := by have := hnext.good.2; unfold edge at this; simp at this; omega
                have d1 : decide (((y : Int)) > 16) = false := by simp; omega
                have d2 : decide (capOf c x y < 1) = false := by simp; omega
                have b1 : leftT d y ≤ 15 := by omega
                have d3 : (((leftT d y : Nat) : Int) != (m : Int) - ((k : Int) + 1)) = false := by rw [hTy]; simp; omega
                have w1 : IntKind.i64.wrap ((k : Int) + 1 - 1) = (k : Int) := by rw [Int.add_sub_cancel]; exact IntWalk.i64_in _ ⟨by omega, by omega⟩
                have w2 : IntKind.i64.wrap ((m : Int) + 1 - 1) = (m : Int) := by rw [Int.add_sub_cancel]; exact IntWalk.i64_in _ ⟨by omega, by omega⟩
                have w3 : IntKind.i64.wrap ((m : Int) - ((k : Int) + 1)) = (m : Int) - ((k : Int) + 1) := IntWalk.i64_in _ ⟨by omega, by omega⟩
                have hy1 := hnext.ge
                have y17 : y < 17 := by omega
                have x17 : x < 17 := by omega
                have HN := Lib.hid (And.intro hnext (And.intro hdx (And.intro hdy hTy)))
                have HCX := Lib.hid (And.intro hcx hcy)
                clear hwl hx hy hnext hdx hdy hcx hcy hTy hcap2
                go_wp2_with (go_skip)
                refine wp_region_H H (by kernel_rfl) (by kernel_rfl) ?_
                repeat (first | go_big_quiet_skip | (first | ((with_reducible apply wpQ_loadCH); (· exact cell_int); (· rfl); (· rfl); (· (repeat (first | (with_reducible exact List.mem_cons_self) | with_reducible apply List.mem_cons_of_mem))); (· exact dist17_get _ y17); (simp only [Act.put, List.setIfInBounds_toArray, List.set_cons_zero, List.set_cons_succ])) | ((with_reducible apply wpQ_loadCell); (· exact cell_party); (· rfl); (· rfl); (· first | exact HCX.out.1 | exact HCX.out.2); (simp only [Act.put, List.setIfInBounds_toArray, List.set_cons_zero, List.set_cons_succ]))) | go_big_quiet_step (exact hcap.quiet))
                refine wpQuiet_nil ?_
                clear H
                intro _ H
                go_wp2_with (go_skip)
                have H0 := H
                clear H
                go_loopw [16] (fun i wr => LeastP W (OwnT 33 1 (.slice (some ⟨g, o, none⟩) (m + 1) cc) (m + 1) (Lw.map pv) :: Cel pt (dist17 (leftT d)) 74 :: Gr p c :: l) y i wr) (fun i _ => 17 - (intOf i).toNat)
                case atStart => exact ⟨1, rfl, by omega, hy1, H0⟩
                case round =>
                  obtain ⟨z, rfl, hz1, hz, H'⟩ := hrel.out
                  clear H0 hrel
                  have H := H'
                  clear H'
                  by_cases hlt2 : z < y
                  · have z17 : z < 17 := by omega
                    have hcap3 := cap_H (W := W) (l := OwnT 33 1 (.slice (some ⟨g, o, none⟩) (m + 1) cc) (m + 1) (Lw.map pv) :: Cel pt (dist17 (leftT d)) 74 :: Gr p c :: l) (p := p) (c := c) x z (by omega) (by omega) (by (repeat (first | (with_reducible exact List.mem_cons_self) | with_reducible apply List.mem_cons_of_mem)))
                    by_cases hA : 0 < capOf c x z
                    · have c5 : decide (capOf c x z > 0) = true := by simpa using hA
                      have hne : leftT d z ≠ leftT d y := by
                        rw [HN.out.2.2.2]
                        intro e
                        have h2 := HN.out.2.2.1
                        have hdz : d z = d y := by
                          by_cases h17 : d z < 17
                          · rw [leftT_in h17] at e; exact e
                          · rw [leftT_out h17] at e; omega
                        have h3 := HN.out.2.1
                        exact HN.out.1.least z hz1 hlt2 ⟨by omega, edge_yes hA⟩
                      have c6 : (((leftT d z : Nat) : Int) == ((leftT d y : Nat) : Int)) = false := by simp; omega
                      clear hA hne
                      go_wp2_with (first
                        | go_skip
                        | ((with_reducible show wpList _ _ _ (_ :: _) _ _); (with_reducible apply wpl_loadCell); (· exact cell_party); (· rfl); (· rfl); (· exact HCX.out.2 _ H); (simp only [Act.put, List.setIfInBounds_toArray, List.set_cons_zero, List.set_cons_succ])))
                      refine wp_region_H H (by kernel_rfl) (by kernel_rfl) ?_
                      repeat (first | go_big_quiet_skip | (first | ((with_reducible apply wpQ_loadCH); (· exact cell_int); (· rfl); (· rfl); (· (repeat (first | (with_reducible exact List.mem_cons_self) | with_reducible apply List.mem_cons_of_mem))); (· first | exact dist17_get _ z17 | exact dist17_get _ y17); (simp only [Act.put, List.setIfInBounds_toArray, List.set_cons_zero, List.set_cons_succ])) | ((with_reducible apply wpQ_loadCell); (· exact cell_party); (· rfl); (· rfl); (· first | exact HCX.out.1 | exact HCX.out.2); (simp only [Act.put, List.setIfInBounds_toArray, List.set_cons_zero, List.set_cons_succ]))) | go_big_quiet_step (exact hcap3.quiet))
                      refine wpQuiet_nil ?_
                      clear H
                      intro _ H
                      go_wp2_with (go_skip)
                      refine ⟨?_, ?measure2⟩
                      · exact ⟨⟨z + 1, by go_num, by omega, by omega, H⟩⟩
                      case measure2 => simp [intOf]; omega
                    · have c5 : decide (capOf c x z > 0) = false := by simpa using hA
                      clear hA
                      go_wp2_with (first
                        | go_skip
                        | ((with_reducible show wpList _ _ _ (_ :: _) _ _); (with_reducible apply wpl_loadCell); (· exact cell_party); (· rfl); (· rfl); (· exact HCX.out.2 _ H); (simp only [Act.put, List.setIfInBounds_toArray, List.set_cons_zero, List.set_cons_succ])))
                      refine wp_region_H H (by kernel_rfl) (by kernel_rfl) ?_
                      repeat (first | go_big_quiet_skip | (first | ((with_reducible apply wpQ_loadCH); (· exact cell_int); (· rfl); (· rfl); (· (repeat (first | (with_reducible exact List.mem_cons_self) | with_reducible apply List.mem_cons_of_mem))); (· first | exact dist17_get _ z17 | exact dist17_get _ y17); (simp only [Act.put, List.setIfInBounds_toArray, List.set_cons_zero, List.set_cons_succ])) | ((with_reducible apply wpQ_loadCell); (· exact cell_party); (· rfl); (· rfl); (· first | exact HCX.out.1 | exact HCX.out.2); (simp only [Act.put, List.setIfInBounds_toArray, List.set_cons_zero, List.set_cons_succ]))) | go_big_quiet_step (exact hcap3.quiet))
                      refine wpQuiet_nil ?_
                      clear H
                      intro _ H
                      go_wp2_with (go_skip)
                      refine ⟨?_, ?measure2⟩
                      · exact ⟨⟨z + 1, by go_num, by omega, by omega, H⟩⟩
                      case measure2 => simp [intOf]; omega
                  · obtain rfl : z = y := by omega
                    go_wp2_with (first
                      | go_skip
                      | ((with_reducible show wpList _ _ _ (_ :: _) _ _); (with_reducible apply wpl_loadCell); (· exact cell_party); (· rfl); (· rfl); (· exact HCX.out.2 _ H); (simp only [Act.put, List.setIfInBounds_toArray, List.set_cons_zero, List.set_cons_succ])))
                    refine ⟨?_, ?measure2⟩
                    · exact ⟨⟨k + 1, by go_num, by omega, H⟩⟩
                    case measure2 => simp [intOf]; omega
              · obtain rfl : k = m := by omega
                go_wp2_with (first
                  | go_skip
                  | ((with_reducible refine (L _ _ H).mono ?_); clear H; rintro _ _ ⟨rfl, H⟩))
                go_ret
                exact ⟨rfl, H.tail.tail.tail⟩
          · have hL : Lw = [] := by
              rcases hs with ⟨h, _⟩ | ⟨_, _, _, d', hd', h17, _⟩
              · exact h
              · rw [hd'.eq HD.out.1 f] at h17; exact absurd h17 hdf
            subst hL
            have hT := leftT_out hdf
            have c1 : decide (((leftT d f : Nat) : Int) > 16) = true := by rw [hT]; rfl
            clear hs hdf hT
            obtain ⟨av, cv, rfl⟩ := OwnT.form0 (H.ok _ List.mem_cons_self)
            go_wp2_with (first
              | go_skip
              | ((with_reducible show wpList _ _ _ (_ :: _) _ _); (with_reducible apply wpl_loadCH); (· exact cell_int); (· rfl); (· rfl); (· exact H); (· (repeat (first | (with_reducible exact List.mem_cons_self) | with_reducible apply List.mem_cons_of_mem))); (· exact dist17_get _ f17); (simp only [Act.put, List.setIfInBounds_toArray, List.set_cons_zero, List.set_cons_succ]))
              | ((with_reducible refine (L _ _ H).mono ?_); clear H; rintro _ _ ⟨rfl, H⟩))
            go_ret
            exact ⟨rfl, H.tail.tail.tail⟩
end
end Go.Proofs.Ytglehneaphigdaa

/- PathsLeast: its arguments. -/
namespace Go.Proofs.Ytglehneaphigdaa
open Go.ChangeShapes Go.WideShapes Go.ChangeAt Go.RowKit

set_option maxRecDepth 100000
def FlowsV (w : World) (v : Value) : Prop := ∃ a n c F, v = .slice a n c ∧ FlowsArg w a n c F
theorem open_flowsV {H : Type} {enc : TypeId × Value → H} {W : World} {held : Bool} {v : Value} {d : DataW H} {p : List MemPlace} {r : Reach} {b0 : Nat}
    (hval : Value.okWide Try.prog W r b0 22 v) (h : DataW.Trod enc Try.prog W 0 (fun _ => true) held 22 v d p) : FlowsV W v := open_flows hval h
theorem mayP_no {a : Nat} (h : mayP a = false) : a < 1 ∨ 16 < a := by
  unfold mayP at h
  by_cases h1 : 1 ≤ a
  · by_cases h2 : a ≤ 16
    · simp [h1, h2] at h
    · omega
  · omega
theorem pathsLeast_law (v : Value) (x1 x2 : Int) (W : World) (o : FlowsV W v) (a1 : 0 ≤ x1) (a2 : x1 ≤ 255) (b1 : 0 ≤ x2) (b2 : x2 ≤ 255) :
    Calls Try.prog 8 #[v, .int .u8 x1, .int .u8 x2] W fun e w' => e = .returned (.bool true) ∧ Below W.heap.size W w' := by
  obtain ⟨a, n, c, F, rfl, hF⟩ := o
  obtain ⟨f, rfl⟩ : ∃ f : Nat, x1 = f := ⟨x1.toNat, by omega⟩
  obtain ⟨t, rfl⟩ : ∃ t : Nat, x2 = t := ⟨x2.toNat, by omega⟩
  have hn := hF.cap
  have hm := hF.max
  unfold maxLen at hm
  have H := Heap.start W
  have R : ∀ w', Heap W [] w' → Rd w' a (flwL F) := fun w' H => H.rd hF.rd
  by_cases h300 : 300 < n
  · exact (least_many a n c f t h300 (by omega) H).mono fun e w' ⟨he, hh⟩ => ⟨he, hh.low⟩
  · cases hG : newG F with
    | none => exact (least_none a n c f t F (by omega) hF.len hF.ok (by omega) (by omega) R hG H).mono fun e w' ⟨he, hh⟩ => ⟨he, hh.low⟩
    | some cc =>
      by_cases hb : mayP f = false ∨ mayP t = false ∨ f = t
      · refine (least_bad a n c f t F cc (by omega) hF.len hF.ok (by omega) (by omega) R hG hb ?_ H).mono fun e w' ⟨he, hh⟩ => ⟨he, hh.low⟩
        by_cases e : f = t
        · exact .inl (by simp [e])
        · have e1 : ((f : Int) == (t : Int)) = false := by simp; omega
          refine .inr ?_
          by_cases f1 : f < 1
          · exact .inl ⟨e1, f1⟩
          · by_cases f2 : 16 < f
            · exact .inr (.inl ⟨e1, by omega, f2⟩)
            · by_cases t1 : t < 1
              · exact .inr (.inr (.inl ⟨e1, by omega, by omega, t1⟩))
              · by_cases t2 : 16 < t
                · exact .inr (.inr (.inr ⟨e1, by omega, by omega, by omega, t2⟩))
                · rcases hb with h | h | h
                  · have := mayP_no h; omega
                  · have := mayP_no h; omega
                  · exact absurd h e
      · have hf : mayP f = true := by
          cases e : mayP f
          · exact absurd (.inl e) hb
          · rfl
        have ht : mayP t = true := by
          cases e : mayP t
          · exact absurd (.inr (.inl e)) hb
          · rfl
        exact (least_yes a n c f t F cc (by omega) hF.len hF.ok (mayP_true hf).1 (mayP_true hf).2 (mayP_true ht).1 (mayP_true ht).2 (fun e => hb (.inr (.inr e))) R hG H).mono fun e w' ⟨he, hh⟩ => ⟨he, hh.low⟩
end Go.Proofs.Ytglehneaphigdaa
