/- FlowsMost: part 12 of its proof: Route7, Reverse, HeapClear. -/
import Derived.Test.YtglehneaphigdaaFlowsMostPart11
import Derived.WalkKit
import Derived.OwnWalkIn
import Derived.TacticsInMore
import Derived.LoopNIn
import Derived.LoopIn
/- flows.Route. -/
namespace Go.Proofs.Ytglehneaphigdaa
open Go.RowKit
attribute [local go_sem] Oper.semAt_some
set_option linter.unusedSimpArgs false
set_option linter.unusedVariables false
theorem cell_pg7 : CellTy 25 := ⟨⟨_, Try.underlying25, rfl⟩, by kernel_rfl⟩
abbrev one (v : Value) : Array Value := #[v]
theorem one_g (v : Value) : (one v)[0]? = some v := rfl
section
variable {ops : Array Oper} {rest : List Oper} {a : Act} {w W : World} {l : List Thing} {Q : Exit → Act → World → Prop}
theorem wpl_boxIH {T : TypeId} {dst : Option Tmp} {ty : TypeId} {pos : String} {after : Array Edge} {guard : Option (Nat × Bool)} {x : Operand} {k : IntKind} {n : Int} (hw : Region.wanted ⟨dst, .box T x, ty, pos, after, guard⟩ (yielded ops a.tmps) = true) (hx : a.eval x = .int k n)
    (H : Heap W l w) (h : ∀ p w', Heap W (Cel p #[.int k n] T :: l) w' → wpList Try.prog ops Q rest (a.put dst (.pointer (some ⟨p, 0, none⟩))) w') : wpList Try.prog ops Q (⟨dst, .box T x, ty, pos, after, guard⟩ :: rest) a w :=
  wpl_boxCH hw hx rfl H h
theorem wpl_allocS {dst : Option Tmp} {ty : TypeId} {pos : String} {after : Array Edge} {guard : Option (Nat × Bool)} (hw : Region.wanted ⟨dst, .alloc 22, ty, pos, after, guard⟩ (yielded ops a.tmps) = true)
    (H : Heap W l w) (h : ∀ p w', Heap W (Cel p #[.slice none 0 0] 22 :: l) w' → wpList Try.prog ops Q rest (a.put dst (.pointer (some ⟨p, 0, none⟩))) w') : wpList Try.prog ops Q (⟨dst, .alloc 22, ty, pos, after, guard⟩ :: rest) a w :=
  wpl_allocCH ⟨by kernel_rfl, rfl⟩ hw H h
theorem wpl_allocI {dst : Option Tmp} {ty : TypeId} {pos : String} {after : Array Edge} {guard : Option (Nat × Bool)} (hw : Region.wanted ⟨dst, .alloc 2, ty, pos, after, guard⟩ (yielded ops a.tmps) = true)
    (H : Heap W l w) (h : ∀ p w', Heap W (Cel p #[.int .i64 0] 2 :: l) w' → wpList Try.prog ops Q rest (a.put dst (.pointer (some ⟨p, 0, none⟩))) w') : wpList Try.prog ops Q (⟨dst, .alloc 2, ty, pos, after, guard⟩ :: rest) a w :=
  wpl_allocCH ⟨by kernel_rfl, rfl⟩ hw H h
end
/-- What lies there while the ways come, but the loop's record. -/
abbrev RtL (l : List Thing) (D b1 b2 b3 q f t bg bw bp bo : Nat) (want : Int) (c : Caps) (n : Int) (v : Value) (P : List Flw) : List Thing :=
  ObjT D (.deferred (some [])) :: Cel b3 #[.int .u8 (t : Int)] 33 :: Cel b2 #[.int .u8 (f : Int)] 33 :: Cel b1 #[.pointer (some ⟨q, 0, none⟩)] 25 :: Gr q c :: Cel bo #[.int .i64 (want - n)] 2 :: Cel bp #[v] 22 :: Cel bw #[.int .i64 want] 2 :: Cel bg #[.pointer (some ⟨q, 0, none⟩)] 25 :: FlT v P.length P :: l
structure RtIt (W : World) (l : List Thing) (r0 : Loop) (D b1 b2 b3 q f t bg bw bp bo : Nat) (want : Int) (c0 : Caps) (wr : World) : Prop where
  out : ∃ (k : Nat) (c : Caps) (n : Int) (v : Value) (P : List Flw), Tr f t c0 want k c n P ∧ 0 < n ∧ Heap W (ObjT (D + 1) (.loop r0) :: RtL l D b1 b2 b3 q f t bg bw bp bo want c n v P) wr
structure RtPush (W : World) (l : List Thing) (o : Obj) (D b1 b2 b3 q f t bg bw bp bo : Nat) (want n : Int) (c : Caps) (P : List Flw) (L : List Nat) (m : Int) (a2 : Option Addr) (ln c2 : Nat) (i : Value) (wr : World) : Prop where
  out : ∃ (k : Nat) (c1 : Caps) (v1 : Value) (P1 : List Flw), i = .int .i64 (k : Int) ∧ k + 1 ≤ ln ∧ PlayC c1 ∧ psW c1 (L.drop k) m = psW c L m ∧ P1 ++ flW (L.drop k) m = P ++ flW L m ∧ P1.length ≤ P.length + k ∧ Heap W (ObjT (D + 1) o :: OwnT 33 1 (.slice a2 ln c2) ln (L.map pv) :: RtL l D b1 b2 b3 q f t bg bw bp bo want c1 n v1 P1) wr
def gotM (bo : Nat) (want : Int) (wr : World) : Nat := match wr.cell? ⟨bo, 0, none⟩ with
  | some (.int _ g) => (want - g).toNat
  | _ => 0
theorem run_varC {T : TypeId} (CT : CellTy T) {w : World} {b off : Nat} {c : Array Value} {t : TypeId} {f : Nat × Nat} {v : Value} (hb : w.heap[b]? = some (.cells c t f)) (hv : c[off]? = some v) :
    (loadVar T ⟨b, off, none⟩).run Try.prog w = .ok v w := by
  obtain ⟨d, hu, hd⟩ := CT.und
  have hagg : (isAgg T).run Try.prog w = .ok false w := by
    unfold isAgg
    rw [Sem.run_bind, run_underlying hu w]
    cases d <;> simp_all [TypeDesc.isRow]
  have hc : w.cell? ⟨b, off, none⟩ = some v := by rw [cell_of_row w b off c t f hb]; exact hv
  simp [loadVar, Sem.run_bind, hagg, go_sem, hc]
theorem results_cc {W w : World} {l : List Thing} {T1 T2 : TypeId} (C1 : CellTy T1) (C2 : CellTy T2) {fn : Func} {p q : Tmp} (hf : fn.results = #[.cell p T1, .cell q T2]) {tmps : Array Value} {b1 b2 : Nat} (hp : tmps.getD p undef = .pointer (some ⟨b1, 0, none⟩)) (hq : tmps.getD q undef = .pointer (some ⟨b2, 0, none⟩))
    (H : Heap W l w) {v1 v2 : Value} {t1 t2 : TypeId} (m1 : Cel b1 #[v1] t1 ∈ l) (m2 : Cel b2 #[v2] t2 ∈ l) : (results fn tmps).run Try.prog w = .ok (.tuple #[v1, v2]) w := by
  have hp' : tmps[p]?.getD undef = .pointer (some ⟨b1, 0, none⟩) := by simpa using hp
  have hq' : tmps[q]?.getD undef = .pointer (some ⟨b2, 0, none⟩) := by simpa using hq
  have e1 := run_varC C1 (H.blk m1) (show (#[v1] : Array Value)[0]? = some v1 from rfl)
  have e2 := run_varC C2 (H.blk m2) (show (#[v2] : Array Value)[0]? = some v2 from rfl)
  simp [results, hf, hp', hq', asAddr, e1, e2]
theorem RowT.nil7 {w : World} {e size n : Nat} {v : Value} {xs : List Value} (h : (RowT e size v n xs).ok w) : ∀ n' c', v = .slice none n' c' → n' = 0 ∧ c' = 0 := by
  intro n' c' e
  rcases h.2 with ⟨h1, _⟩ | ⟨g, cap, cur, h1, _⟩
  · rw [h1] at e; cases e; exact ⟨rfl, rfl⟩
  · rw [h1] at e; cases e
theorem clipFA (a : Option Addr) (n c : Nat) (hn : n ≤ c) (hm : c ≤ maxLen) (h0 : a = none → n = 0 ∧ c = 0) : Ans 49 #[.slice a n c] (.slice a n n) := by
  cases a with
  | none => obtain ⟨rfl, rfl⟩ := h0 rfl; exact clipF_nil
  | some a => exact clipF a n c hn hm
theorem gotM_of {W w : World} {L : List Thing} {bo : Nat} {g want : Int} {T : TypeId} (H : Heap W L w) (m : Cel bo #[.int .i64 g] T ∈ L) : gotM bo want w = (want - g).toNat := by
  have hb : w.heap[bo]? = some (.cells #[.int .i64 g] T (0, 0)) := H.blk m
  unfold gotM
  simp [World.cell?, hb]
section
variable {W w : World} {l : List Thing} {p : Nat}
set_option maxRecDepth 100000
set_option maxHeartbeats 4000000
theorem route_H (c0 : Caps) (f t : Nat) (want : Int) (hf : f ≤ 255) (ht : t ≤ 255) (hw : 0 < want) (h1 : want ≤ 9223372036854775807) (hc : PlayC c0) (m1 : Gr p c0 ∈ l) (H : Heap W l w) :
    Calls Try.prog 29 #[.pointer (some ⟨p, 0, none⟩), .int .u8 (f : Int), .int .u8 (t : Int), .int .i64 want] w fun e w' => ∃ v P got, e = .returned (.tuple #[v, .int .i64 got]) ∧ RouteOut f t c0 want P got ∧ Heap W (OwnT 35 3 v P.length (flwL P) :: l) w' := by
  have g1 : decide (want ≤ 0) = false := by simp; omega
  have HC := Lib.hid hc
  have M := Lib.hid m1
  clear hc m1
  refine (callsIn_wide (n := 3)).1 (callsIn_of_wp_marks Try.func29 rfl trivial ?_)
  refine (wpIn_wide (n := 3)).2 ?_
  simp only [Try.ntmps29, List.size_toArray, List.length_cons, List.length_nil, Nat.reduceAdd, Nat.reduceSub, Array.replicate_succ, Array.replicate_zero, List.push_toArray, List.append_toArray, List.nil_append, List.cons_append]
  go_wp2_with (first
    | go_skip
    | ((with_reducible show wpList _ _ _ (_ :: _) _ _); (with_reducible apply wpl_boxPH); (· rfl); (· rfl); (· exact H); (clear H; intro bg _ H); (simp only [Act.put, List.setIfInBounds_toArray, List.set_cons_zero, List.set_cons_succ]))
    | ((with_reducible show wpList _ _ _ (_ :: _) _ _); (with_reducible apply wpl_boxIH); (· rfl); (· rfl); (· exact H); (clear H; intro bw _ H); (simp only [Act.put, List.setIfInBounds_toArray, List.set_cons_zero, List.set_cons_succ]))
    | ((with_reducible show wpList _ _ _ (_ :: _) _ _); (with_reducible apply wpl_allocS); (· rfl); (· exact H); (clear H; intro bp _ H); (simp only [Act.put, List.setIfInBounds_toArray, List.set_cons_zero, List.set_cons_succ]))
    | ((with_reducible show wpList _ _ _ (_ :: _) _ _); (with_reducible apply wpl_allocI); (· rfl); (· exact H); (clear H; intro bo _ H); (simp only [Act.put, List.setIfInBounds_toArray, List.set_cons_zero, List.set_cons_succ]))
    | ((with_reducible show wpList _ _ _ (_ :: _) _ _); (with_reducible apply wpl_loadCH); (· first | exact cell_i64 | exact cell_pg7); (· rfl); (· rfl); (· exact H); (· (repeat (first | (with_reducible exact List.mem_cons_self) | with_reducible apply List.mem_cons_of_mem))); (· exact one_g _); (simp only [Act.put, List.setIfInBounds_toArray, List.set_cons_zero, List.set_cons_succ])))
  refine (copy_H (p := p) (c := c0) H (List.mem_cons_of_mem _ (List.mem_cons_of_mem _ (List.mem_cons_of_mem _ (List.mem_cons_of_mem _ M.out))))).mono ?_
  clear H
  rintro e w1 ⟨q, rfl, H⟩
  go_wp2_with (first
    | go_skip
    | ((with_reducible show wpList _ _ _ (_ :: _) _ _); (with_reducible apply wpl_loadCH); (· first | exact cell_i64 | exact cell_pg7); (· rfl); (· rfl); (· exact H); (· (repeat (first | (with_reducible exact List.mem_cons_self) | with_reducible apply List.mem_cons_of_mem))); (· exact one_g _); (simp only [Act.put, List.setIfInBounds_toArray, List.set_cons_zero, List.set_cons_succ]))
    | ((with_reducible show wpList _ _ _ (_ :: _) _ _); (with_reducible apply wpl_storePH); (· exact cell_pg7); (· rfl); (· rfl); (· rfl); (· exact H); (· (repeat (first | (with_reducible exact List.mem_cons_self) | with_reducible apply List.mem_cons_of_mem))); (· exact Nat.le_refl 1); (· rfl); (· (repeat (first | (with_reducible exact Repl.here) | with_reducible apply Repl.there))); (clear H; intro _ H); (simp only [Act.put, List.setIfInBounds_toArray, List.set_cons_zero, List.set_cons_succ])))
  refine (ways_H q f t H).mono ?_
  clear H
  rintro e w2 ⟨b1, b2, b3, rfl, H⟩
  go_wp2_with (go_skip)
  refine rangeP (fun D w' => ∃ c' n' v' P', RouteOut f t c0 want P' (want - n') ∧ Heap W (RtL l D b1 b2 b3 q f t bg bw bp bo want c' n' v' P') w') (gf := 68) (lb := #[.pointer (some ⟨b1, 0, none⟩), .pointer (some ⟨b2, 0, none⟩), .pointer (some ⟨b3, 0, none⟩)]) rfl Try.call68 H ?tail ?loop
  case tail =>
    clear H
    rintro D w3 ⟨c', n', v', P', hr, H⟩
    have HRO := Lib.hid hr
    clear hr
    obtain ⟨N6, hN6⟩ : ∃ N6, P'.length = N6 := ⟨_, rfl⟩
    unfold RtL at H
    rw [hN6] at H
    have hrow := H.ok (FlT v' N6 P') (by (repeat (first | (with_reducible exact List.mem_cons_self) | with_reducible apply List.mem_cons_of_mem)))
    have hnil := RowT.nil7 hrow
    obtain ⟨a6, c6, rfl, hn6, hm6⟩ := rowT_form hrow
    have CL := clipFA a6 N6 c6 hn6 hm6 (fun e => hnil _ _ (by rw [e]))
    have HN6 := Lib.hid hN6
    clear hrow hnil hN6
    go_wp2_with (go_skip)
    refine wp_region_F [3, 4] [3, 4] [0, 1, 2, 3, 4] (Keeps [Cel bo #[.int .i64 (want - n')] 2]) (Keeps [Cel bp #[.slice a6 N6 c6] 22]) H (by kernel_rfl) (by kernel_rfl) ?_
    (apply wpF_early; (· rfl); (· rfl); (· kernel_rfl); (· rfl); (· exact Nat.le_of_ble_eq_true rfl); (· exact keeps1 (by (repeat (first | (with_reducible exact List.mem_cons_self) | with_reducible apply List.mem_cons_of_mem)))); (· intro l0 hs0 w0 H0; (first | ((with_reducible apply wpQ_loadCH); (· exact cell_flows); (· rfl); (· rfl); (· exact hs0 _ List.mem_cons_self); (· exact one_g _); (simp only [Act.put, List.setIfInBounds_toArray, List.set_cons_zero, List.set_cons_succ]))); (refine wpQuiet_nil ?_); (simp only [Array.getD_eq_getD_getElem?, List.getElem?_toArray, List.getElem?_cons_succ, List.getElem?_cons_zero, Option.getD_some]; rfl)); (simp only [Act.put, List.setIfInBounds_toArray, List.set_cons_zero, List.set_cons_succ]))
    (apply wpF_step; (· rfl); (· rfl); (· rfl); (· exact Nat.le_of_ble_eq_true rfl); (· exact keeps1 (by (repeat (first | (with_reducible exact List.mem_cons_self) | with_reducible apply List.mem_cons_of_mem)))); (· intro l0 hs0 w0 H0; (first | go_big_quiet_skip | fail | go_big_quiet_step (exact CL.quietH)); (refine wpQuiet_nil ?_); (simp only [Array.getD_eq_getD_getElem?, List.getElem?_toArray, List.getElem?_cons_succ, List.getElem?_cons_zero, Option.getD_some]; rfl)); (simp only [Act.put, List.setIfInBounds_toArray, List.set_cons_zero, List.set_cons_succ]))
    (apply wpF_step; (· rfl); (· rfl); (· rfl); (· exact Nat.le_of_ble_eq_true rfl); (· exact keeps1 (by (repeat (first | (with_reducible exact List.mem_cons_self) | with_reducible apply List.mem_cons_of_mem)))); (· intro l0 hs0 w0 H0; (first | go_big_quiet_skip | ((with_reducible apply wpQ_loadCH); (· exact cell_i64); (· rfl); (· rfl); (· exact hs0 _ List.mem_cons_self); (· exact one_g _); (simp only [Act.put, List.setIfInBounds_toArray, List.set_cons_zero, List.set_cons_succ])) | go_big_quiet_step (fail)); (refine wpQuiet_nil ?_); (simp only [Array.getD_eq_getD_getElem?, List.getElem?_toArray, List.getElem?_cons_succ, List.getElem?_cons_zero, Option.getD_some]; rfl)); (simp only [Act.put, List.setIfInBounds_toArray, List.set_cons_zero, List.set_cons_succ]))
    refine wpF_storeS (v := .slice a6 N6 N6) cell_flows rfl rfl rfl rfl rfl ⟨rfl, rfl⟩ (by (repeat (first | (with_reducible exact List.mem_cons_self) | with_reducible apply List.mem_cons_of_mem))) (by (repeat (first | (with_reducible exact Repl.here) | with_reducible apply Repl.there))) rfl (keeps1 (by (repeat (first | (with_reducible exact List.mem_cons_self) | with_reducible apply List.mem_cons_of_mem)))) ?_
    (simp only [Act.put, List.setIfInBounds_toArray, List.set_cons_zero, List.set_cons_succ])
    refine wpF_storeS (v := .int .i64 (want - n')) cell_i64 rfl rfl rfl rfl rfl ⟨rfl, rfl⟩ (by (repeat (first | (with_reducible exact List.mem_cons_self) | with_reducible apply List.mem_cons_of_mem))) (by (repeat (first | (with_reducible exact Repl.here) | with_reducible apply Repl.there))) rfl (keeps1 (by (repeat (first | (with_reducible exact List.mem_cons_self) | with_reducible apply List.mem_cons_of_mem)))) ?_
    (simp only [Act.put, List.setIfInBounds_toArray, List.set_cons_zero, List.set_cons_succ])
    (refine wpF_nil ?_; clear H; intro _ H)
    go_wp2_with (go_skip)
    have hK : _ = some (Obj.deferred (some [])) := H.ok (ObjT D (.deferred (some []))) (by (repeat (first | (with_reducible exact List.mem_cons_self) | with_reducible apply List.mem_cons_of_mem)))
    have H5 := (H.pull .here).putO (o' := .deferred none)
    refine ⟨by simp, .inl ⟨_, _, rfl, run_takeDeferred hK, ?_⟩⟩
    refine ⟨_, results_cc cell_flows cell_i64 rfl rfl rfl H5 (v1 := .slice a6 N6 N6) (v2 := .int .i64 (want - n')) (by (repeat (first | (with_reducible exact List.mem_cons_self) | with_reducible apply List.mem_cons_of_mem))) (by (repeat (first | (with_reducible exact List.mem_cons_self) | with_reducible apply List.mem_cons_of_mem))), ?_⟩
    refine ⟨_, P', _, rfl, HRO.out, ?_⟩
    rw [HN6.out]
    have H6 := H5.tail.tail.tail.tail.tail.tail.tail.tail.tail
    exact H6.slide.clipOwn
  case loop =>
  intro fn D w3 r0 hr0 H
  have HR0 := Lib.hid hr0
  clear hr0
  refine callsIn_of_wp Try.func68 rfl trivial ?_ rfl
  simp only [Try.ntmps68, List.size_toArray, List.length_cons, List.length_nil, Nat.reduceAdd, Nat.reduceSub, Array.replicate_succ, Array.replicate_zero, List.push_toArray, List.append_toArray, List.nil_append, List.cons_append]
  gi_wp2
  have H0 : RtIt W l r0 D b1 b2 b3 q f t bg bw bp bo want c0 w3 := ⟨0, c0, want, .slice none 0 0, [], .nil, hw, by
    simp only [RtL, Int.sub_self]
    have H2 := (H.nilRow 35 3)
    exact H2.push (.there (.there (.there (.there (.there (.there (.there (.there (.there (.there .here))))))))))⟩
  clear H
  gi_loopw [5] (fun _ wr => RtIt W l r0 D b1 b2 b3 q f t bg bw bp bo want c0 wr) (fun _ wr => gotM bo want wr)
  case atStart => exact H0
  case round =>
    obtain ⟨k, c, n, v, P, hT, hpos, H⟩ := hrel.out
    clear H0 hrel
    have hgm : gotM bo want wr = n.toNat := by
      have := gotM_of (want := want) H (show Cel bo #[.int .i64 (want - n)] 2 ∈ _ by (repeat (first | (with_reducible exact List.mem_cons_self) | with_reducible apply List.mem_cons_of_mem)))
      rw [this]
      congr 1
      omega
    refine wpIn_block ?_
    refine wpIn_seq ?_
    refine (wpIn_wide (n := 2)).2 ?_
    go_wp2_with (first
      | go_skip
      | ((with_reducible show wpList _ _ _ (_ :: _) _ _); (with_reducible apply wpl_loadCH); (· first | exact cell_party | exact cell_pg7); (· rfl); (· rfl); (· exact H); (· (repeat (first | (with_reducible exact List.mem_cons_self) | with_reducible apply List.mem_cons_of_mem))); (· exact one_g _); (simp only [Act.put, List.setIfInBounds_toArray, List.set_cons_zero, List.set_cons_succ])))
    refine (short_H (gv := .pointer (some ⟨q, 0, none⟩)) f t hf ht (CapsOf.gr (p := q) (c := c) (by (repeat (first | (with_reducible exact List.mem_cons_self) | with_reducible apply List.mem_cons_of_mem)))) H).mono ?_
    clear H
    rintro e w4 ⟨v2, L, rfl, hs, H⟩
    obtain ⟨ln, hln⟩ : ∃ ln, L.length = ln := ⟨_, rfl⟩
    rw [hln] at H
    obtain ⟨a2, c2, rfl⟩ := OwnT.form0 (H.ok _ List.mem_cons_self)
    by_cases hL : L = []
    · subst hL
      obtain rfl : 0 = ln := hln
      have HS := Lib.hid (And.intro hs hT)
      clear hs hT
      go_wp2_with (go_skip)
      gi_wp2
      refine ⟨fun _ h => (by cases h), ?_⟩
      gi_wp2
      refine bodyPost_ret (results_none rfl _ _ _) rfl ?_
      exact ⟨_, r0, RtL l D b1 b2 b3 q f t bg bw bp bo want c n v P, rfl, (by rw [HR0.out]; exact fun h => by cases h), .inl (by rw [HR0.out]), H.tail, fun w' H' => ⟨c, n, v, P, ⟨k, c, n, HS.out.2, .inr HS.out.1, by omega⟩, H'⟩⟩
    · have hle := hs.le
      have hl1 : 1 ≤ ln := by rw [← hln]; exact List.length_pos_iff.2 hL
      rw [hln] at hle
      have hl16 := hle.1
      have g3 : ((ln : Int) == 0) = false := by simp; omega
      have HL := Lib.hid (And.intro hs (And.intro hL (And.intro hln (And.intro hle.2 hT))))
      clear hs hL hln hle hT
      go_wp2_with (go_skip)
      gi_wp2
      refine upon_yield (a1 := ?a1) HR0.out rfl (H.pull (.there .here)) ?hassign (fun l' => ∃ c' n' v' P', Tr f t c0 want (k + 1) c' n' P' ∧ 0 < n' ∧ n' < n ∧ l' = RtL l D b1 b2 b3 q f t bg bw bp bo want c' n' v' P') (fun id l' => id = 0 ∧ ∃ c' v' P', Tr f t c0 want (k + 1) c' 0 P' ∧ l' = RtL l D b1 b2 b3 q f t bg bw bp bo want c' 0 v' P') ?hbody ?hgo ?hleave
      case hassign =>
        intro K hK
        gi_wp2
        exact hK
      case hgo =>
        clear H
        rintro l' w' ⟨c', n', v', P', hT', h0', hlt', rfl⟩ H
        have hgm2 : gotM bo want w' = n'.toNat := by
          have := gotM_of (want := want) H (show Cel bo #[.int .i64 (want - n')] 2 ∈ _ by (repeat (first | (with_reducible exact List.mem_cons_self) | with_reducible apply List.mem_cons_of_mem)))
          rw [this]
          congr 1
          omega
        gi_wp2
        exact ⟨⟨k + 1, c', n', v', P', hT', h0', H⟩, by rw [hgm2, hgm]; omega⟩
      case hleave =>
        clear H
        rintro id l' w' ⟨rfl, c', v', P', hT', rfl⟩ H
        have HT3 := Lib.hid hT'
        clear hT'
        gi_wp2
        refine bodyPost_ret (results_none rfl _ _ _) rfl ?_
        exact ⟨_, _, _, rfl, (fun h => by cases h), .inr rfl, H, fun w' H' => ⟨c', 0, v', P', ⟨k + 1, c', 0, HT3.out, .inl (by omega), by omega⟩, H'⟩⟩
      case hbody =>
        clear H
        generalize loopR LoopState.busy none fn _ #[21] _ _ D = r1
        intro w5 H
        have hpc := HL.out.2.2.2.2.play HC.out
        have htop := HL.out.2.2.2.2.top HC.out
        have hpot := HL.out.2.2.2.2.pot HC.out
        have LE := least_H (W := W) (l := ObjT (D + 1) (.loop r1) :: OwnT 33 1 (.slice a2 ln c2) ln (L.map pv) :: RtL l D b1 b2 b3 q f t bg bw bp bo want c n v P) (p := q) c L n ln a2 c2 HL.out.2.1 HL.out.2.2.1 hl16 HL.out.2.2.2.1 hpc.good (by (repeat (first | (with_reducible exact List.mem_cons_self) | with_reducible apply List.mem_cons_of_mem))) (by (repeat (first | (with_reducible exact List.mem_cons_self) | with_reducible apply List.mem_cons_of_mem)))
        obtain ⟨m, hm⟩ : ∃ m, mnW c L n = m := ⟨_, rfl⟩
        rw [hm] at LE
        have hml := mnW_le c L n
        have hmp : 0 < mnW c L n := by
          obtain ⟨d, hwy⟩ := HL.out.1.way hpc.good HL.out.2.1
          exact mnW_pos c L n hpos hwy.cap
        rw [hm] at hml hmp
        have HM := Lib.hid (And.intro hm hpc)
        have hPl := hpot.2.2
        have hk := hpot.2.1
        clear hm hpc hpot
        have hs1 : wrap64 (want - (want - n)) = n := by rw [show want - (want - n) = n by omega]; exact IntWalk.wrap64_in _ ⟨by omega, by omega⟩
        refine wpIn_block ?_
        refine wpIn_seq ?_
        refine region_in (by kernel_rfl) (fun ⟨_, _, h⟩ => h) ?_
        go_wp2_with (first
          | go_skip
          | ((with_reducible show wpList _ _ _ (_ :: _) _ _); (with_reducible apply wpl_loadCH); (· first | exact cell_i64 | exact cell_pg7); (· rfl); (· rfl); (· exact H); (· (repeat (first | (with_reducible exact List.mem_cons_self) | with_reducible apply List.mem_cons_of_mem))); (· exact one_g _); (simp only [Act.put, List.setIfInBounds_toArray, List.set_cons_zero, List.set_cons_succ])))
        rw [show want - (want - n) = n by omega]
        refine (LE _ H).mono ?_
        clear H LE hs1
        rintro e w6 ⟨rfl, H⟩
        go_wp2_with (go_skip)
        gi_wp2
        have H0 := H
        clear H
        gi_loopw [31] (fun i wr => RtPush W l (Obj.loop r1) D b1 b2 b3 q f t bg bw bp bo want n c P L m a2 ln c2 i wr) (fun i _ => ln - (intOf i).toNat)
        case atStart => exact ⟨0, c, v, P, rfl, by omega, HM.out.2, rfl, rfl, by omega, H0⟩
        case round =>
          obtain ⟨i, c1, v1, P1, rfl, hi, hpc1, hps, hfl, hlen, H⟩ := hrel.out
          clear H0 hrel
          by_cases hlt : i + 1 < ln
          · have g4 : decide ((i : Int) < (ln : Int) - 1) = true := by simp; omega
            have x1 : L[i]? = some (L[i]'(by rw [HL.out.2.2.1]; omega)) := List.getElem?_eq_getElem _
            have x2 : L[i + 1]? = some (L[i + 1]'(by rw [HL.out.2.2.1]; omega)) := List.getElem?_eq_getElem _
            generalize L[i]'(by rw [HL.out.2.2.1]; omega) = x at x1
            generalize L[i + 1]'(by rw [HL.out.2.2.1]; omega) = y at x2
            have hx16 := HL.out.2.2.2.1 x (List.mem_iff_getElem?.2 ⟨_, x1⟩)
            have hy16 := HL.out.2.2.2.1 y (List.mem_iff_getElem?.2 ⟨_, x2⟩)
            obtain ⟨M2, e1, e2⟩ := drop_two x1 x2
            rw [e1, psW, ← e2] at hps
            rw [e1, flW, ← e2] at hfl
            obtain ⟨g, o, c3, e, _, _⟩ := OwnT.form (H.ok _ (List.mem_cons_of_mem _ List.mem_cons_self)) (by omega)
            simp only [Value.slice.injEq, true_and] at e
            obtain ⟨rfl, rfl⟩ := e
            have RX := Lib.hid (show ∀ (l' : List Thing) (w' : World), OwnT 33 1 (.slice (some ⟨g, o, none⟩) ln c2) ln (L.map pv) ∈ l' → Heap W l' w' → w'.cell? ⟨g, o + i, none⟩ = some (.int .u8 (x : Int)) ∧ w'.cell? ⟨g, o + (i + 1), none⟩ = some (.int .u8 (y : Int)) from fun l' w' hm h => ⟨rd_party (h.ownRd hm) x1, rd_party (h.ownRd hm) x2⟩)
            have HN := Lib.hid (And.intro hps hfl)
            have GP := Lib.hid (show ∀ (l' : List Thing) (w' : World), Heap W (Gr q c1 :: l') w' → _ from fun l' w' hh => gpush_H (W := W) (l := l') (w := w') (p := q) (c := c1) x y m (by omega) (by omega) hpc1 hh)
            have HPP := Lib.hid (hpc1.push x y m)
            have hn1 : P1.length + 1 ≤ maxLen := by unfold maxLen; omega
            have hn2 : (P1.length + 1) * 16 ≤ 140737488355328 := by omega
            clear hps hfl e1 e2 x1 x2 hpc1
            gi_wp2
            refine region_in_K [11] [0, 1, 2, 3, 4, 5, 6, 7, 8, 9, 10, 11] [OwnT 33 1 (.slice (some ⟨g, o, none⟩) ln c2) ln (L.map pv), Cel bg #[.pointer (some ⟨q, 0, none⟩)] 25] H (keeps2 (by (repeat (first | (with_reducible exact List.mem_cons_self) | with_reducible apply List.mem_cons_of_mem))) (by (repeat (first | (with_reducible exact List.mem_cons_self) | with_reducible apply List.mem_cons_of_mem)))) (by kernel_rfl) (by kernel_rfl) (fun ⟨_, _, h⟩ => h) (by kernel_rfl) ?_
            iterate 11 (apply wpK_step; (· rfl); (· rfl); (· rfl); (· exact Nat.le_of_ble_eq_true rfl); (· intro l0 hs0 w0 H0; (first | go_big_quiet_skip | first | ((with_reducible apply wpQ_loadAt); (· exact cell_party); (· rfl); (· rfl); (· first | exact fun w' h => (RX.out _ w' (hs0 _ List.mem_cons_self) h).1 | exact fun w' h => (RX.out _ w' (hs0 _ List.mem_cons_self) h).2); (simp only [Act.put, List.setIfInBounds_toArray, List.set_cons_zero, List.set_cons_succ])) | ((with_reducible apply wpQ_loadCH); (· exact cell_pg7); (· rfl); (· rfl); (· exact hs0 _ (by (repeat (first | (with_reducible exact List.mem_cons_self) | with_reducible apply List.mem_cons_of_mem)))); (· exact one_g _); (simp only [Act.put, List.setIfInBounds_toArray, List.set_cons_zero, List.set_cons_succ])) | go_big_quiet_step (fail)); (refine wpQuiet_nil ?_); (simp only [Array.getD_eq_getD_getElem?, List.getElem?_toArray, List.getElem?_cons_succ, List.getElem?_cons_zero, Option.getD_some]; rfl)); (simp only [Act.put, List.setIfInBounds_toArray, List.set_cons_zero, List.set_cons_succ]))
            refine wpK_call (f := 19) (argl := [.pointer (some ⟨q, 0, none⟩), .int .u8 (x : Int), .int .u8 (y : Int), .int .i64 m]) rfl rfl rfl Try.call19 rfl ?_
            intro w0 H0
            refine (GP.out _ _ (H0.pull (.there (.there (.there (.there (.there (.there .here)))))))).mono ?_
            clear H0
            rintro e w7 ⟨rfl, H1⟩
            have H2 : Heap W (ObjT (D + 1) (.loop r1) :: OwnT 33 1 (.slice (some ⟨g, o, none⟩) ln c2) ln (L.map pv) :: RtL l D b1 b2 b3 q f t bg bw bp bo want (pushT c1 x y m) n v1 P1) w7 := H1.push (.there (.there (.there (.there (.there (.there .here))))))
            refine ⟨_, _, rfl, H2, _, Keeps.refl _, keeps2 (by (repeat (first | (with_reducible exact List.mem_cons_self) | with_reducible apply List.mem_cons_of_mem))) (by (repeat (first | (with_reducible exact List.mem_cons_self) | with_reducible apply List.mem_cons_of_mem))), ?_⟩
            clear H1 H2
            (simp only [Act.put, List.setIfInBounds_toArray, List.set_cons_zero, List.set_cons_succ])
            (refine wpK_nil ?_; clear H; intro _ H)
            gi_wp2
            refine region_in_F [12, 13, 14] [13, 14] [0, 1, 2, 3, 4, 5, 6, 7, 8, 9, 10, 11, 12, 13, 14] (Keeps [OwnT 33 1 (.slice (some ⟨g, o, none⟩) ln c2) ln (L.map pv)]) (Keeps [Cel bp #[v1] 22]) H (by kernel_rfl) (by kernel_rfl) (fun ⟨_, _, h⟩ => h) (by kernel_rfl) ?_
            (apply wpF_early; (· rfl); (· rfl); (· kernel_rfl); (· rfl); (· exact Nat.le_of_ble_eq_true rfl); (· exact keeps1 (by (repeat (first | (with_reducible exact List.mem_cons_self) | with_reducible apply List.mem_cons_of_mem)))); (· intro l0 hs0 w0 H0; (first | ((with_reducible apply wpQ_loadCH); (· exact cell_flows); (· rfl); (· rfl); (· exact hs0 _ List.mem_cons_self); (· exact one_g _); (simp only [Act.put, List.setIfInBounds_toArray, List.set_cons_zero, List.set_cons_succ]))); (refine wpQuiet_nil ?_); (simp only [Array.getD_eq_getD_getElem?, List.getElem?_toArray, List.getElem?_cons_succ, List.getElem?_cons_zero, Option.getD_some]; rfl)); (simp only [Act.put, List.setIfInBounds_toArray, List.set_cons_zero, List.set_cons_succ]))
            iterate 11 (apply wpF_step; (· rfl); (· rfl); (· rfl); (· exact Nat.le_of_ble_eq_true rfl); (· exact keeps1 (by (repeat (first | (with_reducible exact List.mem_cons_self) | with_reducible apply List.mem_cons_of_mem)))); (· intro l0 hs0 w0 H0; (first | go_big_quiet_skip | ((with_reducible apply wpQ_loadAt); (· exact cell_party); (· rfl); (· rfl); (· first | exact fun w' h => (RX.out _ w' (hs0 _ List.mem_cons_self) h).1 | exact fun w' h => (RX.out _ w' (hs0 _ List.mem_cons_self) h).2); (simp only [Act.put, List.setIfInBounds_toArray, List.set_cons_zero, List.set_cons_succ])) | go_big_quiet_step (fail)); (refine wpQuiet_nil ?_); (simp only [Array.getD_eq_getD_getElem?, List.getElem?_toArray, List.getElem?_cons_succ, List.getElem?_cons_zero, Option.getD_some]; rfl)); (simp only [Act.put, List.setIfInBounds_toArray, List.set_cons_zero, List.set_cons_succ]))
            refine wpF_bsR rfl rfl rfl bs_flow rfl (fun _ => keeps1 (by (repeat (first | (with_reducible exact List.mem_cons_self) | with_reducible apply List.mem_cons_of_mem)))) (fun _ _ => keeps1 (by (repeat (first | (with_reducible exact List.mem_cons_self) | with_reducible apply List.mem_cons_of_mem)))) ?_
            intro pf
            (simp only [Act.put, List.setIfInBounds_toArray, List.set_cons_zero, List.set_cons_succ])
            refine wpF_append slF rfl rfl rfl rfl (.there (.there (.there (.there (.there (.there (.there (.there (.there (.there (.there (.there .here)))))))))))) List.mem_cons_self rfl rfl (flowC_one _ _ _) hn1 hn2 rfl (fun _ => keeps1 (by (repeat (first | (with_reducible exact List.mem_cons_self) | with_reducible apply List.mem_cons_of_mem)))) ?_
            intro a5 c5
            (simp only [Act.put, List.setIfInBounds_toArray, List.set_cons_zero, List.set_cons_succ])
            refine wpF_storeS (v := .slice a5 (P1.length + 1) c5) cell_flows rfl rfl rfl rfl rfl ⟨rfl, rfl⟩ (by (repeat (first | (with_reducible exact List.mem_cons_self) | with_reducible apply List.mem_cons_of_mem))) (by (repeat (first | (with_reducible exact Repl.here) | with_reducible apply Repl.there))) rfl (keeps1 (by (repeat (first | (with_reducible exact List.mem_cons_self) | with_reducible apply List.mem_cons_of_mem)))) ?_
            (simp only [Act.put, List.setIfInBounds_toArray, List.set_cons_zero, List.set_cons_succ])
            (refine wpF_nil ?_; clear H; intro _ H)
            gi_wp2
            replace H := H.drop (.there .here)
            have eF : FlT (.slice a5 (P1.length + 1) c5) (P1 ++ [(⟨x, y, m⟩ : Flw)]).length (P1 ++ [(⟨x, y, m⟩ : Flw)]) = RowT 35 3 (.slice a5 (P1.length + 1) c5) (P1.length + 1) (flwL P1 ++ [.int .u8 (x : Int), .int .u8 (y : Int), .int .i64 m]) := flT_snoc _ _ _ _ _
            rw [← eF] at H
            have H2 := Heap.push (l := ObjT (D + 1) (.loop r1) :: OwnT 33 1 (.slice (some ⟨g, o, none⟩) ln c2) ln (L.map pv) :: RtL l D b1 b2 b3 q f t bg bw bp bo want (pushT c1 x y m) n (.slice a5 (P1.length + 1) c5) (P1 ++ [⟨x, y, m⟩])) H (.there (.there (.there (.there (.there (.there (.there (.there (.there (.there (.there .here)))))))))))
            go_roundw
            case rel => exact ⟨i + 1, _, _, _, by go_num, by omega, HPP.out, HN.out.1, by rw [List.append_assoc]; exact HN.out.2, by rw [List.length_append, List.length_singleton]; omega, H2⟩
            case measure => simp [intOf]; omega
          · obtain rfl : ln = i + 1 := by omega
            have g4 : decide ((i : Int) < ((i + 1 : Nat) : Int) - 1) = false := by simp
            obtain ⟨x, hx⟩ := drop_last HL.out.2.1
            rw [HL.out.2.2.1, Nat.add_sub_cancel] at hx
            rw [hx, psW_end] at hps
            rw [hx, flW_end, List.append_nil] at hfl
            have HT2 := HL.out.2.2.2.2.snoc hpos HL.out.1 HL.out.2.1
            rw [HM.out.1, ← hps, ← hfl] at HT2
            have HT3 := Lib.hid HT2
            have hsum : wrap64 (want - n + m) = want - n + m := IntWalk.wrap64_in _ ⟨by omega, by omega⟩
            clear hps hfl hpc1 hx HT2
            have eq1 : want - n + m = want - (n - m) := by omega
            by_cases hmn : m = n
            · have g6 : ((want - n + m) == want) = true := by simp; omega
              gi_wp2_with (refine wpList_in (fun ⟨_, _, h⟩ => h) _ _ _ (by kernel_rfl) ?_; go_wp2_with (first | go_skip | ((with_reducible show wpList _ _ _ (_ :: _) _ _); (with_reducible apply wpl_loadCH); (· first | exact cell_i64 | exact cell_pg7); (· rfl); (· rfl); (· exact H); (· (repeat (first | (with_reducible exact List.mem_cons_self) | with_reducible apply List.mem_cons_of_mem))); (· exact one_g _); (simp only [Act.put, List.setIfInBounds_toArray, List.set_cons_zero, List.set_cons_succ])) | ((with_reducible show wpList _ _ _ (_ :: _) _ _); (with_reducible apply wpl_storeIH); (· exact cell_i64); (· rfl); (· rfl); (· rfl); (· exact H); (· (repeat (first | (with_reducible exact List.mem_cons_self) | with_reducible apply List.mem_cons_of_mem))); (· exact Nat.le_refl 1); (· rfl); (· (repeat (first | (with_reducible exact Repl.here) | with_reducible apply Repl.there))); (clear H; intro _ H); (simp only [Act.put, List.setIfInBounds_toArray, List.set_cons_zero, List.set_cons_succ]))))
              refine ⟨RtL l D b1 b2 b3 q f t bg bw bp bo want c1 0 v1 P1, ?_, rfl, c1, v1, P1, ?_, rfl⟩
              · unfold RtL; rw [Int.sub_zero]; exact H.drop (.there .here)
              · have := HT3.out
                rwa [show n - m = 0 by omega] at this
            · have g6 : ((want - n + m) == want) = false := by simp; omega
              gi_wp2_with (refine wpList_in (fun ⟨_, _, h⟩ => h) _ _ _ (by kernel_rfl) ?_; go_wp2_with (first | go_skip | ((with_reducible show wpList _ _ _ (_ :: _) _ _); (with_reducible apply wpl_loadCH); (· first | exact cell_i64 | exact cell_pg7); (· rfl); (· rfl); (· exact H); (· (repeat (first | (with_reducible exact List.mem_cons_self) | with_reducible apply List.mem_cons_of_mem))); (· exact one_g _); (simp only [Act.put, List.setIfInBounds_toArray, List.set_cons_zero, List.set_cons_succ])) | ((with_reducible show wpList _ _ _ (_ :: _) _ _); (with_reducible apply wpl_storeIH); (· exact cell_i64); (· rfl); (· rfl); (· rfl); (· exact H); (· (repeat (first | (with_reducible exact List.mem_cons_self) | with_reducible apply List.mem_cons_of_mem))); (· exact Nat.le_refl 1); (· rfl); (· (repeat (first | (with_reducible exact Repl.here) | with_reducible apply Repl.there))); (clear H; intro _ H); (simp only [Act.put, List.setIfInBounds_toArray, List.set_cons_zero, List.set_cons_succ]))))
              refine ⟨RtL l D b1 b2 b3 q f t bg bw bp bo want c1 (n - m) v1 P1, ?_, c1, n - m, v1, P1, HT3.out, by omega, by omega, rfl⟩
              unfold RtL; exact H.drop (.there .here)
end
end Go.Proofs.Ytglehneaphigdaa

/- slices.Reverse of parties. -/
namespace Go.Proofs.Ytglehneaphigdaa
open Go.RowKit
set_option linter.unusedSimpArgs false
set_option linter.unusedVariables false
/-- A block that begins with these parties. -/
def pc (L : List Nat) (r : List Value) : Array Value := (L.map pv ++ r).toArray
theorem pc_sz (L : List Nat) (r : List Value) : (pc L r).size = L.length + r.length := by simp [pc]
theorem pc_get {L : List Nat} {r : List Value} {k x : Nat} (h : L[k]? = some x) : (pc L r)[k]? = some (.int .u8 (x : Int)) := by
  obtain ⟨hk, hx⟩ := List.getElem?_eq_some_iff.1 h
  unfold pc
  rw [List.getElem?_toArray, List.getElem?_append_left (by simpa using hk), List.getElem?_map, h]
  rfl
theorem pc_set {L : List Nat} {r : List Value} {k : Nat} (x : Nat) (h : k < L.length) : (pc L r).setIfInBounds k (.int .u8 (x : Int)) = pc (L.set k x) r := by
  unfold pc
  rw [List.setIfInBounds_toArray, List.set_append_left _ _ (by simpa using h)]
  congr 2
  rw [List.map_set]
  rfl
/-- Amid the turning: i from each end are changed. -/
def Turned (L M : List Nat) (i : Nat) : Prop := M.length = L.length ∧ ∀ k, k < L.length → M[k]? = if k < i ∨ L.length < k + 1 + i then L[L.length - 1 - k]? else L[k]?
theorem Turned.start (L : List Nat) : Turned L L 0 := ⟨rfl, fun k hk => by rw [if_neg (by omega)]⟩
theorem Turned.low {L M : List Nat} {i : Nat} (h : Turned L M i) (hi : i + i + 1 < L.length) : M[i]? = L[i]? := by
  rw [h.2 i (by omega), if_neg (by omega)]
theorem Turned.high {L M : List Nat} {i : Nat} (h : Turned L M i) (hi : i + i + 1 < L.length) : M[L.length - 1 - i]? = L[L.length - 1 - i]? := by
  rw [h.2 _ (by omega), if_neg (by omega)]
theorem Turned.step {L M : List Nat} {i x y : Nat} (h : Turned L M i) (hi : i + i + 1 < L.length) (hx : L[i]? = some x) (hy : L[L.length - 1 - i]? = some y) : Turned L ((M.set i y).set (L.length - 1 - i) x) (i + 1) := by
  refine ⟨by simp [h.1], fun k hk => ?_⟩
  by_cases e1 : k = L.length - 1 - i
  · subst e1
    rw [List.getElem?_set_self (by simp [h.1]; omega), if_pos (by omega), show L.length - 1 - (L.length - 1 - i) = i by omega, hx]
  · rw [List.getElem?_set_ne (Ne.symm e1)]
    by_cases e2 : k = i
    · subst e2
      rw [List.getElem?_set_self (by rw [h.1]; omega), if_pos (by omega), hy]
    · rw [List.getElem?_set_ne (Ne.symm e2), h.2 k hk]
      by_cases e3 : k < i ∨ L.length < k + 1 + i
      · rw [if_pos e3, if_pos (by omega)]
      · rw [if_neg e3, if_neg (by omega)]
theorem Turned.done {L M : List Nat} {i : Nat} (h : Turned L M i) (hi : L.length ≤ i + i + 1) : M = L.reverse := by
  apply List.ext_getElem?
  intro k
  by_cases hk : k < L.length
  · rw [h.2 k hk, List.getElem?_reverse hk]
    by_cases e : k < i ∨ L.length < k + 1 + i
    · rw [if_pos e]
    · rw [if_neg e, show L.length - 1 - k = k by omega]
  · rw [List.getElem?_eq_none (by rw [h.1]; omega), List.getElem?_eq_none (by simp; omega)]
structure RevLoop (W : World) (l : List Thing) (g : Nat) (L : List Nat) (r : List Value) (vi vj : Value) (wr : World) : Prop where
  out : ∃ (i : Nat) (M : List Nat), i + i ≤ L.length ∧ vi = .int .i64 (i : Int) ∧ vj = .int .i64 ((L.length : Int) - 1 - i) ∧ Turned L M i ∧ Heap W (Cel g (pc M r) 33 :: l) wr
section
variable {W w : World} {l : List Thing}
set_option maxRecDepth 100000
set_option maxHeartbeats 2000000
theorem reverse_H (g n c : Nat) (L : List Nat) (r : List Value) (hl : L.length = n) (hn : n ≤ 1000000) (H : Heap W (Cel g (pc L r) 33 :: l) w) :
    Calls Try.prog 59 #[.slice (some ⟨g, 0, none⟩) n c] w fun e w' => e = .returned (.tuple #[]) ∧ Heap W (Cel g (pc L.reverse r) 33 :: l) w' := by
  subst hl
  go_enter Try.func59, Try.ntmps59
  go_wp2_with (go_skip)
  have H0 := H
  clear H
  go_loopw [2, 3] (fun vi vj wr => RevLoop W l g L r vi vj wr) (fun vi _ _ => L.length - (intOf vi).toNat)
  case atStart => exact ⟨0, L, Nat.zero_le _, rfl, by simp, Turned.start L, H0⟩
  case round =>
    obtain ⟨i, M, hi, rfl, rfl, hT, H'⟩ := hrel.out
    clear H0 hrel
    have H := H'
    clear H'
    by_cases hlt : i + i + 1 < L.length
    · obtain ⟨j, hj⟩ : ∃ j : Nat, j + i + 1 = L.length := ⟨L.length - 1 - i, by omega⟩
      have ej : L.length - 1 - i = j := by omega
      have h0 : i < L.length := by omega
      have h1 : j < L.length := by omega
      have hx : L[i]? = some L[i] := List.getElem?_eq_getElem h0
      have hy : L[j]? = some L[j] := List.getElem?_eq_getElem h1
      generalize L[i] = x at *
      generalize L[j] = y at *
      have HX := Lib.hid ((hT.low hlt).trans hx)
      have HY := Lib.hid (show M[j]? = some y by have := hT.high hlt; rw [ej] at this; exact this.trans hy)
      have HS := Lib.hid (show Turned L ((M.set i y).set j x) (i + 1) by have := hT.step hlt hx (by rw [ej]; exact hy); rw [ej] at this; exact this)
      have HM := Lib.hid hT.1
      clear hT hx hy ej
      have hj2 : (L.length : Int) - 1 - (i : Int) = (j : Int) := by omega
      rw [hj2]
      clear hj2
      have hn2 : j < L.length := h1
      go_wp2_with (go_skip)
      refine wp_region_E [13, 15] [0, 1, 2, 3, 4, 5, 6, 7, 8, 9, 10, 11, 12, 13, 14, 15] (fun _ => True) H (by kernel_rfl) (by kernel_rfl) ?_
      iterate 7 (apply wpE_step; (· rfl); (· rfl); (· rfl); (· exact Nat.le_of_ble_eq_true rfl); (· intro l0 _ w0 H0; (first | go_big_quiet_skip | go_big_quiet_step (fail)); (refine wpQuiet_nil ?_); (simp only [Array.getD_eq_getD_getElem?, List.getElem?_toArray, List.getElem?_cons_succ, List.getElem?_cons_zero, Option.getD_some]; rfl)); (simp only [Act.put, List.setIfInBounds_toArray, List.set_cons_zero, List.set_cons_succ]))
      (apply wpE_early; (· rfl); (· rfl); (· kernel_rfl); (· rfl); (· exact Nat.le_of_ble_eq_true rfl); (· intro w0 H0; (first | (with_reducible apply wpQ_loadCH); (· exact cell_party); (· rfl); (· rfl); (· exact List.mem_cons_self); (· exact pc_get HY.out); (simp only [Act.put, List.setIfInBounds_toArray, List.set_cons_zero, List.set_cons_succ])); (refine wpQuiet_nil ?_); (simp only [Array.getD_eq_getD_getElem?, List.getElem?_toArray, List.getElem?_cons_succ, List.getElem?_cons_zero, Option.getD_some]; rfl)); (simp only [Act.put, List.setIfInBounds_toArray, List.set_cons_zero, List.set_cons_succ]))
      iterate 3 (apply wpE_step; (· rfl); (· rfl); (· rfl); (· exact Nat.le_of_ble_eq_true rfl); (· intro l0 _ w0 H0; (first | go_big_quiet_skip | go_big_quiet_step (fail)); (refine wpQuiet_nil ?_); (simp only [Array.getD_eq_getD_getElem?, List.getElem?_toArray, List.getElem?_cons_succ, List.getElem?_cons_zero, Option.getD_some]; rfl)); (simp only [Act.put, List.setIfInBounds_toArray, List.set_cons_zero, List.set_cons_succ]))
      (apply wpE_early; (· rfl); (· rfl); (· kernel_rfl); (· rfl); (· exact Nat.le_of_ble_eq_true rfl); (· intro w0 H0; (first | (with_reducible apply wpQ_loadCH); (· exact cell_party); (· rfl); (· rfl); (· exact List.mem_cons_self); (· exact pc_get HX.out); (simp only [Act.put, List.setIfInBounds_toArray, List.set_cons_zero, List.set_cons_succ])); (refine wpQuiet_nil ?_); (simp only [Array.getD_eq_getD_getElem?, List.getElem?_toArray, List.getElem?_cons_succ, List.getElem?_cons_zero, Option.getD_some]; rfl)); (simp only [Act.put, List.setIfInBounds_toArray, List.set_cons_zero, List.set_cons_succ]))
      (apply wpE_step; (· rfl); (· rfl); (· rfl); (· exact Nat.le_of_ble_eq_true rfl); (· intro l0 _ w0 H0; (first | go_big_quiet_skip | go_big_quiet_step (fail)); (refine wpQuiet_nil ?_); (simp only [Array.getD_eq_getD_getElem?, List.getElem?_toArray, List.getElem?_cons_succ, List.getElem?_cons_zero, Option.getD_some]; rfl)); (simp only [Act.put, List.setIfInBounds_toArray, List.set_cons_zero, List.set_cons_succ]))
      ((with_reducible apply wpE_storeI); (· exact cell_party); (· rfl); (· rfl); (· rfl); (· rfl); (· rfl); (· (repeat (first | (with_reducible exact List.mem_cons_self) | with_reducible apply List.mem_cons_of_mem))); (· (rw [pc_sz, HM.out]; omega)); (· exact pc_set _ (by rw [HM.out]; exact h0)); (· (repeat (first | (with_reducible exact Repl.here) | with_reducible apply Repl.there))); (simp only [Act.put, List.setIfInBounds_toArray, List.set_cons_zero, List.set_cons_succ]))
      (apply wpE_step; (· rfl); (· rfl); (· rfl); (· exact Nat.le_of_ble_eq_true rfl); (· intro l0 _ w0 H0; (first | go_big_quiet_skip | go_big_quiet_step (fail)); (refine wpQuiet_nil ?_); (simp only [Array.getD_eq_getD_getElem?, List.getElem?_toArray, List.getElem?_cons_succ, List.getElem?_cons_zero, Option.getD_some]; rfl)); (simp only [Act.put, List.setIfInBounds_toArray, List.set_cons_zero, List.set_cons_succ]))
      ((with_reducible apply wpE_storeI); (· exact cell_party); (· rfl); (· rfl); (· rfl); (· rfl); (· rfl); (· (repeat (first | (with_reducible exact List.mem_cons_self) | with_reducible apply List.mem_cons_of_mem))); (· (rw [pc_sz, List.length_set, HM.out]; omega)); (· exact pc_set _ (by rw [List.length_set, HM.out]; exact h1)); (· (repeat (first | (with_reducible exact Repl.here) | with_reducible apply Repl.there))); (simp only [Act.put, List.setIfInBounds_toArray, List.set_cons_zero, List.set_cons_succ]))
      (refine wpE_nil ?_; clear H; intro _ H)
      go_wp2_with (go_skip)
      refine ⟨⟨i + 1, _, by omega, by go_num, ?_, HS.out, H⟩, ?measure⟩
      · congr 1; omega
      case measure => simp [intOf]; omega
    · have HS := Lib.hid (hT.done (by omega))
      clear hT
      go_wp2_with (go_skip)
      rw [← HS.out]
      exact ⟨rfl, .tuple #[], by simp [results, show Try.f59.results = #[] from rfl], rfl, H⟩
end
end Go.Proofs.Ytglehneaphigdaa

/- clear of a slice; []T{}. -/
namespace Go.Proofs.Ytglehneaphigdaa
open Go.RowKit
set_option linter.unusedSimpArgs false
set_option linter.unusedVariables false
section
variable {ops : Array Oper} {rest : List Oper} {o : Oper} {a : Act} {w W : World} {l : List Thing} {Q : Exit → Act → World → Prop}
theorem wpl_clearC {t e size bytes : Nat} {z : Value} (T : SlTy Try.prog t e size bytes z) (hz1 : ∀ u ∈ z.cells, u.oneCell' = true) (hgd : o.guard = none) {x : Operand}
    (ho : o.op = .call { callee := .builtin .clear, args := #[x], argTypes := #[t] }) {g off n c e' : Nat} (hx : a.eval x = .slice (some ⟨g, off, none⟩) n c)
    {cur : Array Value} (H : Heap W (Cel g cur e' :: l) w) (hfit : off + n * size ≤ cur.size)
    (h : ∀ c1 w', c1.size = cur.size → c1.toList.take off = cur.toList.take off → Heap W (Cel g c1 e' :: l) w' → wpList Try.prog ops Q rest (a.put o.dst (.tuple #[])) w') : wpList Try.prog ops Q (o :: rest) a w := by
  refine wpList_plain hgd fun K hK => ?_
  have hg := H.blk List.mem_cons_self
  obtain ⟨i, hi, hz, hsi, hbi⟩ := T.inf
  have r2 : ∀ w, (zeroValue e).run Try.prog w = .ok z w := fun w => by simp [zeroValue, typeInfo, hi, hz, go_sem]
  rcases n with _ | n
  · have hr : (Builtin.clear_ #[t] o.type #[.slice (some ⟨g, off, none⟩) 0 c]).run Try.prog w = .ok (.tuple #[]) w := by
      simp [Builtin.clear_, run_underlying T.und]
    unfold Oper.wp execOp
    simp only [ho, resolve, invoke, builtin, Sem.run_bind, Sem.run_pure, Result.andThen_ok, List.map_toArray, List.map_cons, List.map_nil, hx, hr]
    exact hK _ _ (h _ _ rfl rfl H)
  · have hs : (Builtin.zeroCells z.cells (n + 1)).size = (n + 1) * size := by simp [Builtin.zeroCells, T.zc]
    have h1 : ∀ v ∈ (Builtin.zeroCells z.cells (n + 1)).toList, v.oneCell' = true := by
      intro v hv
      simp only [Builtin.zeroCells, Array.toList_map, Array.toList_range, List.mem_map, List.mem_range] at hv
      obtain ⟨j, hj, rfl⟩ := hv
      have hp : 0 < z.cells.size := by rw [T.zc]; exact T.pos
      have hlt : j % z.cells.size < z.cells.size := Nat.mod_lt _ hp
      rw [getElem!_pos z.cells _ hlt]
      exact hz1 _ (Array.getElem_mem hlt)
    have hst := run_storeCells_at Try.prog g off e' (Builtin.zeroCells z.cells (n + 1)).toList 0 cur w hg (by simp [hs]; exact hfit) h1
    simp only [Nat.add_zero] at hst
    have hr : (Builtin.clear_ #[t] o.type #[.slice (some ⟨g, off, none⟩) (n + 1) c]).run Try.prog w = .ok (.tuple #[]) (w.setRow g (cur.toList.take off ++ (Builtin.zeroCells z.cells (n + 1)).toList ++ cur.toList.drop (off + (Builtin.zeroCells z.cells (n + 1)).toList.length)).toArray) := by
      simp only [Builtin.clear_]
      simp [run_underlying T.und, r2, hst]
    unfold Oper.wp execOp
    simp only [ho, resolve, invoke, builtin, Sem.run_bind, Sem.run_pure, Result.andThen_ok, List.map_toArray, List.map_cons, List.map_nil, hx, hr]
    refine hK _ _ (h _ _ ?_ ?_ (H.head ⟨rfl, rfl, rfl, by simp, fun k _ hk => setRow_other w g k _ (fun e => hk (by show some k = some g; rw [e]))⟩ (setRow_heap w g cur _ e' _ hg) (.inl rfl)))
    · simp [hs]; omega
    · have hA : (cur.toList.take off).length = off := by simp; omega
      simp only [List.append_assoc]
      rw [List.take_append_of_le_length (by rw [hA]; exact Nat.le_refl _), List.take_of_length_le (by rw [hA]; exact Nat.le_refl _)]
theorem wpl_bs0 {dst : Option Tmp} {ty : TypeId} {pos : String} {after : Array Edge} {guard : Option (Nat × Bool)} {t e : Nat} (hw : Region.wanted ⟨dst, .buildSlice t 0 #[], ty, pos, after, guard⟩ (yielded ops a.tmps) = true)
    {size bytes : Nat} {z : Value} (T : SlTy Try.prog t e size bytes z) (H : Heap W l w)
    (h : ∀ p w', Heap W (Cel p #[] e :: l) w' → wpList Try.prog ops Q rest (a.put dst (.slice (some ⟨p, 0, none⟩) 0 0)) w') : wpList Try.prog ops Q (⟨dst, .buildSlice t 0 #[], ty, pos, after, guard⟩ :: rest) a w := by
  obtain ⟨i, hi, hz, hsi, hbi⟩ := T.inf
  have r1 : ∀ w, (sizeOf e).run Try.prog w = .ok i.size w := fun w => by simp [sizeOf, typeInfo, hi, go_sem]
  have r2 : ∀ w, (zeroValue e).run Try.prog w = .ok z w := fun w => by simp [zeroValue, typeInfo, hi, hz, go_sem]
  refine BigFrame.wpList_want hw fun K hK => ?_
  have hrun : (Instr.buildSlice t 0 (#[].map fun ((i, x) : Nat × Operand) => (i, a.eval x))).run Try.prog w = .ok (.slice (some ⟨w.heap.size, 0, none⟩) 0 0) (w.alloc (.cells #[] e)) := by
    unfold Instr.buildSlice
    rw [Sem.run_bind, run_underlying T.und]
    simp only [Result.andThen_ok]
    rw [Sem.run_bind, r1]
    simp only [Result.andThen_ok]
    simp [Sem.run_bind, r2, newRow, go_sem, Instr.fill]
  unfold Oper.wp execOp
  simp only [Sem.run_bind, hrun, Result.andThen_ok, Sem.run_pure]
  exact hK _ _ (h _ _ (H.alloc _ _))
end
end Go.Proofs.Ytglehneaphigdaa
