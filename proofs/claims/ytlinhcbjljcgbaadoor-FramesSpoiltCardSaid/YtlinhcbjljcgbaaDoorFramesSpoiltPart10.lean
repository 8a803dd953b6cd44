/- FramesSpoilt: part 10 of its proof: FrIter2, Lives18, QCell, BkBy, LawFramesPut. -/
import Derived.Test.YtlinhcbjljcgbaaDoorFramesSpoiltPart9
/- frames.Read: all frames. -/
namespace Go.Proofs.YtlinhcbjljcgbaaDoor
open Go.RowKit
attribute [local go_sem] Oper.semAt_some
set_option linter.unusedSimpArgs false
set_option linter.unusedVariables false
abbrev RwL (l : List Thing) (D bx pl pk : Nat) (a : Option Addr) (n c : Nat) (v : Value) (k : Nat) (L : List (Value × Bs)) : List Thing :=
  ObjT D (.deferred (some [])) :: Cel bx #[.slice a n c] 22 :: Cel pk #[.int .i64 (k : Int)] 3 :: Cel pl #[v] 40 :: LsT v L :: (L.map bT ++ l)
theorem getOf_all0 {zs : Bs} (h : (getOf zs).e ≠ 0) : (getOf zs).all = 0 := by
  unfold getOf at *
  split
  · rfl
  · split
    · rfl
    · split
      · rfl
      · split
        · rfl
        · rename_i a b c d
          rw [if_neg a, if_neg b, if_neg c, if_neg d] at h
          exact absurd rfl h
structure RwIt (W : World) (l : List Thing) (r0 : Loop) (D bx pl pk : Nat) (a : Option Addr) (n c : Nat) (zs : Bs) (i : Value) (wr : World) : Prop where
  out : ∃ (L : List (Value × Bs)) (k : Nat) (v : Value), i = .int .i64 (k : Int) ∧ Fw zs (L.map (·.2)) k ∧ SlV L ∧ Heap W (ObjT (D + 1) (.loop r0) :: RwL l D bx pl pk a n c v k L) wr
section
variable {W w : World} {l : List Thing}
set_option maxRecDepth 100000
set_option maxHeartbeats 4000000
theorem fread_H (a : Option Addr) (n c : Nat) (zs : Bs) (hn : zs.length = n) (hl : n ≤ 100000) (hc : n ≤ c) (hm : c ≤ maxLen) (T : TabAt W) (R : RdE W l a zs) (H : Heap W l w) : Calls Tryd.prog 28 #[.slice a n c] w (ReadPost W l zs) := by
  have HN := Lib.hid hn
  have HR := Lib.hid R
  clear hn R
  refine (callsIn_wide (n := 3)).1 (callsIn_of_wp_marks Tryd.func28 rfl trivial ?_)
  refine (wpIn_wide (n := 3)).2 ?_
  simp only [Tryd.ntmps28, List.size_toArray, List.length_cons, List.length_nil, Nat.reduceAdd, Nat.reduceSub, Array.replicate_succ, Array.replicate_zero, List.push_toArray, List.append_toArray, List.nil_append, List.cons_append]
  go_wp2_with (first
    | go_skip
    | ((with_reducible show wpList _ _ _ (_ :: _) _ _); (with_reducible apply wpl_allocLs); (· rfl); (· exact H); (clear H; intro pl _ H); (simp only [Act.put, List.setIfInBounds_toArray, List.set_cons_zero, List.set_cons_succ]))
    | ((with_reducible show wpList _ _ _ (_ :: _) _ _); (with_reducible apply wpl_allocInt); (· rfl); (· exact H); (clear H; intro pk _ H); (simp only [Act.put, List.setIfInBounds_toArray, List.set_cons_zero, List.set_cons_succ])))
  refine (frames_H a n c H).mono ?_
  clear H
  rintro e w1 ⟨bx, rfl, H⟩
  go_wp2_with (go_skip)
  refine rangeP (fun D w' => ∃ L k v, ReadOf zs (L.map (·.2)) k ∧ SlV L ∧ Heap W (RwL l D bx pl pk a n c v k L) w') (gf := 53) (lb := #[.pointer (some ⟨bx, 0, none⟩)]) rfl Tryd.call53 H ?tail ?loop
  case tail =>
    clear H
    rintro D w3 ⟨L, k, v, hr, hS, H⟩
    have HRO := Lib.hid (And.intro hr hS)
    clear hr hS
    obtain ⟨N6, hN6⟩ : ∃ N6, L.length = N6 := ⟨_, rfl⟩
    have HN6 := Lib.hid hN6
    have H9 : Heap W (ObjT D (.deferred (some [])) :: Cel bx #[.slice a n c] 22 :: Cel pk #[.int .i64 (k : Int)] 3 :: Cel pl #[v] 40 :: RowT 22 1 v N6 (L.map (·.1)) :: (L.map bT ++ l)) w3 := by rw [← hN6]; exact H
    clear H
    have H := H9
    clear H9 hN6
    obtain ⟨a6, c6, rfl, hn6, hm6⟩ := RowT.form0 (H.ok (RowT 22 1 v N6 (L.map (·.1))) (by (repeat (first | (with_reducible exact List.mem_cons_self) | with_reducible apply List.mem_cons_of_mem))))
    have CL := clipL_H a6 N6 c6 hn6 hm6
    go_wp2_with (go_skip)
    refine wp_region_F [3, 4] [3, 4] [0, 1, 2, 3, 4] (Keeps [Cel pk #[.int .i64 (k : Int)] 3]) (Keeps [Cel pl #[.slice a6 N6 c6] 40]) H (by kernel_rfl) (by kernel_rfl) ?_
    (apply wpF_early; (· rfl); (· rfl); (· kernel_rfl); (· rfl); (· exact Nat.le_of_ble_eq_true rfl); (· exact keeps1 (by (repeat (first | (with_reducible exact List.mem_cons_self) | with_reducible apply List.mem_cons_of_mem)))); (· intro l0 hs0 w0 H0; (first | ((with_reducible apply wpQ_loadCH); (· exact cell_ls); (· rfl); (· rfl); (· exact hs0 _ List.mem_cons_self); (· exact one_g _); (simp only [Act.put, List.setIfInBounds_toArray, List.set_cons_zero, List.set_cons_succ]))); (refine wpQuiet_nil ?_); (simp only [Array.getD_eq_getD_getElem?, List.getElem?_toArray, List.getElem?_cons_succ, List.getElem?_cons_zero, Option.getD_some]; rfl)); (simp only [Act.put, List.setIfInBounds_toArray, List.set_cons_zero, List.set_cons_succ]))
    (apply wpF_step; (· rfl); (· rfl); (· rfl); (· exact Nat.le_of_ble_eq_true rfl); (· exact keeps1 (by (repeat (first | (with_reducible exact List.mem_cons_self) | with_reducible apply List.mem_cons_of_mem)))); (· intro l0 hs0 w0 H0; (first | go_big_quiet_skip | fail | go_big_quiet_step (exact CL.quietH)); (refine wpQuiet_nil ?_); (simp only [Array.getD_eq_getD_getElem?, List.getElem?_toArray, List.getElem?_cons_succ, List.getElem?_cons_zero, Option.getD_some]; rfl)); (simp only [Act.put, List.setIfInBounds_toArray, List.set_cons_zero, List.set_cons_succ]))
    (apply wpF_step; (· rfl); (· rfl); (· rfl); (· exact Nat.le_of_ble_eq_true rfl); (· exact keeps1 (by (repeat (first | (with_reducible exact List.mem_cons_self) | with_reducible apply List.mem_cons_of_mem)))); (· intro l0 hs0 w0 H0; (first | go_big_quiet_skip | ((with_reducible apply wpQ_loadCH); (· exact cell_int); (· rfl); (· rfl); (· exact hs0 _ List.mem_cons_self); (· exact one_g _); (simp only [Act.put, List.setIfInBounds_toArray, List.set_cons_zero, List.set_cons_succ])) | go_big_quiet_step (fail)); (refine wpQuiet_nil ?_); (simp only [Array.getD_eq_getD_getElem?, List.getElem?_toArray, List.getElem?_cons_succ, List.getElem?_cons_zero, Option.getD_some]; rfl)); (simp only [Act.put, List.setIfInBounds_toArray, List.set_cons_zero, List.set_cons_succ]))
    refine wpF_storeS (v := .slice a6 N6 N6) cell_ls rfl rfl rfl rfl rfl ⟨rfl, rfl⟩ (by (repeat (first | (with_reducible exact List.mem_cons_self) | with_reducible apply List.mem_cons_of_mem))) (by (repeat (first | (with_reducible exact Repl.here) | with_reducible apply Repl.there))) rfl (keeps1 (by (repeat (first | (with_reducible exact List.mem_cons_self) | with_reducible apply List.mem_cons_of_mem)))) ?_
    (simp only [Act.put, List.setIfInBounds_toArray, List.set_cons_zero, List.set_cons_succ])
    refine wpF_storeS (v := .int .i64 (k : Int)) cell_int rfl rfl rfl rfl rfl ⟨rfl, rfl⟩ (by (repeat (first | (with_reducible exact List.mem_cons_self) | with_reducible apply List.mem_cons_of_mem))) (by (repeat (first | (with_reducible exact Repl.here) | with_reducible apply Repl.there))) rfl (keeps1 (by (repeat (first | (with_reducible exact List.mem_cons_self) | with_reducible apply List.mem_cons_of_mem)))) ?_
    (simp only [Act.put, List.setIfInBounds_toArray, List.set_cons_zero, List.set_cons_succ])
    (refine wpF_nil ?_; clear H; intro _ H)
    go_wp2_with (go_skip)
    have hK : _ = some (Obj.deferred (some [])) := H.ok (ObjT D (.deferred (some []))) (by (repeat (first | (with_reducible exact List.mem_cons_self) | with_reducible apply List.mem_cons_of_mem)))
    have H5 := (H.pull .here).putO (o' := .deferred none)
    refine ⟨by simp, .inl ⟨_, _, rfl, run_takeDeferred hK, ?_⟩⟩
    refine ⟨_, results_cc cell_ls cell_int rfl rfl rfl H5 (v1 := .slice a6 N6 N6) (v2 := .int .i64 (k : Int)) (by (repeat (first | (with_reducible exact List.mem_cons_self) | with_reducible apply List.mem_cons_of_mem))) (by (repeat (first | (with_reducible exact List.mem_cons_self) | with_reducible apply List.mem_cons_of_mem))), ?_⟩
    have H6 := H5.tail.tail.tail.tail.slide.clipOwn
    refine ⟨L, k, a6, N6, by rw [HN6.out], HRO.out.1, HRO.out.2, ?_⟩
    unfold LoT
    rw [HN6.out]
    exact H6
  case loop =>
  intro fn D w3 r0 hr0 H
  have HR0 := Lib.hid hr0
  clear hr0
  refine callsIn_of_wp Tryd.func53 rfl trivial ?_ rfl
  simp only [Tryd.ntmps53, List.size_toArray, List.length_cons, List.length_nil, Nat.reduceAdd, Nat.reduceSub, Array.replicate_succ, Array.replicate_zero, List.push_toArray, List.append_toArray, List.nil_append, List.cons_append]
  gi_wp2
  have H0 : RwIt W l r0 D bx pl pk a n c zs (.int .i64 0) w3 := ⟨[], 0, .slice none 0 0, rfl, .nil, (fun x hx => by cases hx), (H.nilRow 22 1).push (.there (.there (.there (.there (.there .here)))))⟩
  clear H
  gi_loopw [3] (fun i wr => RwIt W l r0 D bx pl pk a n c zs i wr) (fun i _ => n - (intOf i).toNat)
  case atStart => exact H0
  case round =>
    obtain ⟨L, k, v, rfl, hF, hS, H⟩ := hrel.out
    clear H0 hrel
    have hle := hF.le
    rw [HN.out] at hle
    have hkn := hle.1
    have hkl := hle.2.1
    rw [List.length_map] at hkl
    have G := fun (l' : List Thing) (hs : ∀ x ∈ l, x ∈ l') (V : World) (H : Heap W l' V) => get_H (W := W) (l := l') (w := V) (cutA a c k 1) (n - k) (c - k) (zs.drop k) (by rw [List.length_drop, HN.out]) (by omega) (by omega) (by omega) T (fun w' H2 => by
      have := rdCut (HR.out l' w' (fun x hx => hs x hx) H2) c k n hc
      rwa [List.take_of_length_le (by rw [List.length_drop, HN.out]; omega)] at this) H
    have HF := Lib.hid (And.intro hF (And.intro hS hle))
    clear hF hS hle
    refine wpIn_block ?_
    refine wpIn_seq ?_
    refine (wpIn_wide (n := 2)).2 ?_
    go_wp2_with (first
      | go_skip
      | ((with_reducible show wpList _ _ _ (_ :: _) _ _); (with_reducible apply wpl_loadCH); (· exact cell_sl); (· rfl); (· rfl); (· exact H); (· (repeat (first | (with_reducible exact List.mem_cons_self) | with_reducible apply List.mem_cons_of_mem))); (· exact one_g _); (simp only [Act.put, List.setIfInBounds_toArray, List.set_cons_zero, List.set_cons_succ]))
      | ((with_reducible show wpList _ _ _ (_ :: _) _ _); (with_reducible apply wpl_cutFrom slB); (· rfl); (· rfl); (· rfl); (· exact hkn); (simp only [Act.put, List.setIfInBounds_toArray, List.set_cons_zero, List.set_cons_succ])))
    refine (G _ (fun x hx => List.mem_cons_of_mem _ (List.mem_cons_of_mem _ (List.mem_cons_of_mem _ (List.mem_cons_of_mem _ (List.mem_cons_of_mem _ (List.mem_cons_of_mem _ (List.mem_append_right _ hx))))))) _ H).mono ?_
    clear G H
    rintro e w4 ⟨v1, rfl, H⟩
    by_cases he : (getOf (zs.drop k)).e = 0
    · have hok := getOf_ok he
      rw [List.length_drop, HN.out] at hok
      have f1 : ((getOf (zs.drop k)).e != 0) = false := by rw [he]; rfl
      have h2 := HF.out.1.snoc he
      obtain ⟨a1, c1, hv1⟩ := OwnT.form1 (H.ok _ List.mem_cons_self)
      generalize getOf (zs.drop k) = x at *
      obtain ⟨body, all, ee⟩ := x
      simp only at *
      subst hv1
      have H2 := Lib.hid (And.intro h2 he)
      clear h2 he
      have h3 : L.length + 1 ≤ maxLen := by unfold maxLen; omega
      have h4 : (L.length + 1) * 24 ≤ 140737488355328 := by omega
      go_wp2_with (go_skip)
      gi_wp2
      refine upon_yield2 (a1 := ?a1) HR0.out rfl (H.pull (.there .here)) ?hassign (fun l' => ∃ v', l' = RwL l D bx pl pk a n c v' (k + all) (L ++ [(.slice a1 body.length c1, body)])) (fun _ _ => False) ?hbody ?hgo ?hleave
      case hassign =>
        intro K hK
        gi_wp2
        exact hK
      case hgo =>
        clear H
        rintro l' w' ⟨v', rfl⟩ H
        gi_wp2
        refine ⟨⟨L ++ [(.slice a1 body.length c1, body)], k + all, v', by go_num, by rw [List.map_append]; exact H2.out.1, HF.out.2.1.snoc, H⟩, by simp [intOf]; omega⟩
      case hleave =>
        rintro id l' w' h
        exact h.elim
      case hbody =>
        clear H
        generalize loopR LoopState.busy none fn _ #[8, 9] _ _ D = r1
        intro w5 H
        refine wpIn_block ?_
        refine region_in (by kernel_rfl) (fun ⟨_, _, h⟩ => h) ?_
        go_wp2_with (first
          | ((with_reducible show wpList _ _ _ (_ :: _) _ _); (with_reducible apply wpl_bsOnes _ [.slice a1 body.length c1]); (· rfl); (· rfl); (· rfl); (· decide); (· decide); (· exact fun v hv => by rw [List.mem_singleton.1 hv]; rfl); (· exact bs_lists); (· rfl); (· exact H); (clear H; intro plit _ H); (simp only [Act.put, List.setIfInBounds_toArray, List.set_cons_zero, List.set_cons_succ]))
          | ((with_reducible show wpList _ _ _ (_ :: _) _ _); (with_reducible apply wpl_appendA slL); (· rfl); (· rfl); (· rfl); (· rfl); (· exact H.pull (.there (.there (.there (.there (.there (.there (.there .here))))))) ); (· exact H.celRd List.mem_cons_self); (· rfl); (· exact fun u hu => by rw [List.mem_singleton.1 hu]; rfl); (· exact h3); (· exact h4); (clear H; intro v2 _ _ H; obtain ⟨a2, c2, rfl, _, _⟩ := RowT.form0 (H.ok _ List.mem_cons_self)); (simp only [Act.put, List.setIfInBounds_toArray, List.set_cons_zero, List.set_cons_succ]))
          | go_skip
          | ((with_reducible show wpList _ _ _ (_ :: _) _ _); (with_reducible apply wpl_loadCH); (· first | exact cell_ls | exact cell_int); (· rfl); (· rfl); (· exact H); (· (repeat (first | (with_reducible exact List.mem_cons_self) | with_reducible apply List.mem_cons_of_mem))); (· exact one_g _); (simp only [Act.put, List.setIfInBounds_toArray, List.set_cons_zero, List.set_cons_succ]))
          | ((with_reducible show wpList _ _ _ (_ :: _) _ _); (with_reducible apply wpl_storeSH); (· exact cell_ls); (· rfl); (· rfl); (· rfl); (· exact H); (· (repeat (first | (with_reducible exact List.mem_cons_self) | with_reducible apply List.mem_cons_of_mem))); (· exact Nat.le_refl 1); (· rfl); (· (repeat (first | (with_reducible exact Repl.here) | with_reducible apply Repl.there))); (clear H; intro _ H); (simp only [Act.put, List.setIfInBounds_toArray, List.set_cons_zero, List.set_cons_succ]))
          | ((with_reducible show wpList _ _ _ (_ :: _) _ _); (with_reducible apply wpl_storeIH); (· exact cell_int); (· rfl); (· rfl); (· rfl); (· exact H); (· (repeat (first | (with_reducible exact List.mem_cons_self) | with_reducible apply List.mem_cons_of_mem))); (· exact Nat.le_refl 1); (· rfl); (· (repeat (first | (with_reducible exact Repl.here) | with_reducible apply Repl.there))); (clear H; intro _ H); (simp only [Act.put, List.setIfInBounds_toArray, List.set_cons_zero, List.set_cons_succ])))
        refine ⟨RwL l D bx pl pk a n c (.slice a2 (L.length + 1) c2) (k + all) (L ++ [(.slice a1 body.length c1, body)]), ?_, _, rfl⟩
        have e1 : LsT (.slice a2 (L.length + 1) c2) (L ++ [(.slice a1 body.length c1, body)]) = RowT 22 1 (.slice a2 (L.length + 1) c2) (L.length + 1) (L.map (·.1) ++ [.slice a1 body.length c1]) := by
          unfold LsT
          rw [List.length_append, List.map_append]
          rfl
        unfold RwL
        rw [e1, show ((k + all : Nat) : Int) = (k : Int) + all by omega]
        have G1 := (H.drop (.there .here)).pull (.there (.there .here))
        have G2 := Heap.push (l := _ :: _ :: _ :: _ :: _ :: _ :: OwnB (.slice a1 body.length c1) body.length body :: (L.map bT ++ l)) G1 (.there (.there (.there (.there (.there (.there .here))))))
        have G3 := G2.perm (List.Perm.cons _ (List.Perm.cons _ (List.Perm.cons _ (List.Perm.cons _ (List.Perm.cons _ (List.Perm.cons _ (bT_snoc L (.slice a1 body.length c1, body) l)))))))
        exact G3.push (.there (.there (.there (.there (.there .here)))))
    · have f1 : ((getOf (zs.drop k)).e != 0) = true := by simpa using he
      have HE := Lib.hid he
      rw [getOf_all0 he] at *
      clear he
      generalize (getOf (zs.drop k)).e = E at f1
      go_wp2_with (go_skip)
      gi_wp2
      refine ⟨fun _ h => (by cases h), ?_⟩
      gi_wp2
      refine bodyPost_ret (results_none rfl _ _ _) rfl ?_
      exact ⟨_, r0, RwL l D bx pl pk a n c v k L, rfl, (by rw [HR0.out]; exact fun h => by cases h), .inl (by rw [HR0.out]), H.tail, fun w' H' => ⟨L, k, v, ⟨HF.out.1, HE.out⟩, HF.out.2.1, H'⟩⟩
end
end Go.Proofs.YtlinhcbjljcgbaaDoor

/- The chapter's example of frames answers true. -/
namespace Go.Proofs.YtlinhcbjljcgbaaDoor
open Go.RowKit
attribute [local go_sem] Oper.semAt_some
set_option linter.unusedSimpArgs false
set_option linter.unusedVariables false
def f7 : Bs := frameOf [7#8]
theorem f7_len : f7.length = 6 := by rw [f7, frameOf_len]; rfl
theorem f7_01 : f7[0]? = some 1#8 ∧ f7[1]? = some 7#8 := ⟨rfl, rfl⟩
theorem f7_read {l : List Bs} {k : Nat} (h : ReadOf (f7 ++ [1#8]) l k) : l = [[7#8]] ∧ k = 6 := by
  have h1 : ReadOf (f7 ++ [1#8]) [[7#8]] 6 := by
    have h2 := Fw.all [[7#8]] [1#8] (by intro x hx; rw [List.mem_singleton.1 hx]; decide)
    rw [frs_one] at h2
    have h3 : (frameOf [7#8]).length = 6 := f7_len
    rw [h3] at h2
    refine ⟨h2, ?_⟩
    have h4 : (f7 ++ [1#8]).drop 6 = [1#8] := by rw [← f7_len, List.drop_left]
    rw [h4]
    decide
  exact h1.eq h
section
variable {W w : World} {l : List Thing}
set_option maxRecDepth 100000
set_option maxHeartbeats 2000000
theorem lives18_H (T : TabAt W) (H : Heap W l w) : Calls Tryd.prog 23 #[] w fun e w' => e = .returned (.bool true) ∧ Heap W l w' := by
  go_enter Tryd.func23, Tryd.ntmps23
  go_wp2_with (go_skip)
  have C := put_H (W := W) (l := Cel w.heap.size #[.int .u8 7] 5 :: l) none (some ⟨w.heap.size, 0, none⟩) 0 1 0 1 [] [7#8] (by omega) rfl rfl (by omega) T (fun _ _ _ _ => Rd.nil _ _) (fun l' w' hs H' => H'.celRd (hs _ List.mem_cons_self)) (H.alloc #[.int .u8 7] 5)
  clear H
  refine C.mono ?_
  clear C
  rintro e w1 ⟨a1, c1, rfl, H⟩
  rw [show ([] : Bs) ++ frameOf [7#8] = f7 from rfl, show 0 + (frameOf [7#8]).length = 6 from by rw [Nat.zero_add]; exact f7_len] at H
  rw [show 0 + (frameOf [7#8]).length = 6 from by rw [Nat.zero_add]; exact f7_len]
  have hl7 : (f7.map B8).length = 6 * 1 := by rw [List.length_map, f7_len]
  go_wp2_with (first
    | ((with_reducible show wpList _ _ _ (_ :: _) _ _); (with_reducible apply wpl_bsOnes _ [.int .u8 1]); (· rfl); (· rfl); (· rfl); (· decide); (· decide); (· exact fun v hv => by rw [List.mem_singleton.1 hv]; rfl); (· exact bs_byte); (· rfl); (· exact H); (clear H; intro p1 _ H); (simp only [Act.put, List.setIfInBounds_toArray, List.set_cons_zero, List.set_cons_succ]))
    | ((with_reducible show wpList _ _ _ (_ :: _) _ _); (with_reducible apply wpl_appendA slB); (· rfl); (· rfl); (· rfl); (· rfl); (· exact H.nilRow 5 1); (· exact H.ownRd List.mem_cons_self); (· exact hl7); (· exact oneCell_B8 _); (· decide); (· decide); (clear H; intro v2 _ _ H); (simp only [Act.put, List.setIfInBounds_toArray, List.set_cons_zero, List.set_cons_succ]))
    | ((with_reducible show wpList _ _ _ (_ :: _) _ _); (with_reducible apply wpl_appendA slB); (· rfl); (· rfl); (· rfl); (· rfl); (· exact H.pull (.there .here)); (· exact H.celRd List.mem_cons_self); (· rfl); (· exact fun u hu => by rw [List.mem_singleton.1 hu]; rfl); (· decide); (· decide); (clear H; intro v3 _ _ H; obtain ⟨a3, c3, rfl, hc3, hm3⟩ := RowT.form0 (H.ok _ List.mem_cons_self)); (simp only [Act.put, List.setIfInBounds_toArray, List.set_cons_zero, List.set_cons_succ]))
    | go_skip)
  rw [show ([] ++ f7.map B8 ++ [Value.int .u8 1]) = (f7 ++ [1#8]).map B8 by rw [List.map_append]; rfl] at H
  simp only [Nat.zero_add, Nat.reduceAdd] at H hc3
  refine (fread_H a3 7 c3 (f7 ++ [1#8]) (by rw [List.length_append, f7_len]; rfl) (by omega) hc3 hm3 T (fun l' w' hs H' => H'.rowRd (hs _ List.mem_cons_self)) H).mono ?_
  clear H hc3 hm3
  rintro e w3 ⟨L, k, a4, c4, rfl, hr, hS, H⟩
  obtain ⟨hL, rfl⟩ := f7_read hr
  clear hr
  obtain ⟨v5, hv5⟩ : ∃ v5, L = [(v5, [7#8])] := by
    match L, hL with
    | [(v, b)], h => simp at h; exact ⟨v, by rw [h]⟩
  subst hv5
  obtain ⟨a5, c5, h5⟩ := hS _ List.mem_cons_self
  simp only at h5
  subst h5
  clear hL hS
  replace H : Heap W (OwnT 22 1 (.slice a4 1 c4) 1 [.slice a5 1 c5] :: OwnB (.slice a5 1 c5) 1 [7#8] :: RowT 5 1 (.slice a3 7 c3) 7 ((f7 ++ [1#8]).map B8) :: Cel p1 #[.int .u8 1] 5 :: OwnB (.slice a1 6 c1) 6 f7 :: Cel w.heap.size #[.int .u8 7] 5 :: l) w3 := H
  have R1 := H.ownRd (a := a1) (by (repeat (first | (with_reducible exact List.mem_cons_self) | with_reducible apply List.mem_cons_of_mem)))
  have R4 := H.ownRd (a := a4) List.mem_cons_self
  have R5 := H.ownRd (a := a5) (xs := [7#8].map B8) (by (repeat (first | (with_reducible exact List.mem_cons_self) | with_reducible apply List.mem_cons_of_mem)))
  obtain ⟨g1, o1, rfl, _⟩ := R1.lt (by rw [List.length_map, f7_len]; omega)
  obtain ⟨g4, o4, rfl, _⟩ := R4.lt (by simp)
  obtain ⟨g5, o5, rfl, _⟩ := R5.lt (by simp)
  have k0 : w3.cell? ⟨g1, o1, none⟩ = some (.int .u8 1) := by
    have := R1.get (i := 0) (by rw [List.length_map, f7_len]; omega)
    rw [Nat.add_zero] at this
    rw [this]
    rfl
  have k1 : w3.cell? ⟨g1, o1 + 1, none⟩ = some (.int .u8 7) := by
    have := R1.get (i := 1) (by rw [List.length_map, f7_len]; omega)
    rw [this]
    rfl
  have k4 : w3.cell? ⟨g4, o4, none⟩ = some (.slice (some ⟨g5, o5, none⟩) 1 c5) := by
    have := R4.get (i := 0) (by simp)
    rw [Nat.add_zero] at this
    rw [this]
    rfl
  have k5 : w3.cell? ⟨g5, o5, none⟩ = some (.int .u8 7) := by
    have := R5.get (i := 0) (by simp)
    rw [Nat.add_zero] at this
    rw [this]
    rfl
  clear R1 R4 R5
  go_wp2_with (first
    | go_skip
    | ((with_reducible show wpList _ _ _ (_ :: _) _ _); (with_reducible apply wpl_loadCell (by first | exact cell_byte | exact cell_sl)); (· rfl); (· rfl); (· first | exact k0 | exact k1 | exact k4 | exact k5); (simp only [Act.put, List.setIfInBounds_toArray, List.set_cons_zero, List.set_cons_succ]))
    | ((with_reducible show wpList _ _ _ (_ :: _) _ _); (with_reducible apply wpl_loadCell cell_byte); (· rfl); (· rfl); (· first | exact k0 | exact k1 | exact k5); (simp only [Act.put, List.setIfInBounds_toArray, List.set_cons_zero, List.set_cons_succ]))
    | ((with_reducible show wpList _ _ _ (_ :: _) _ _); (with_reducible apply wpl_loadCell cell_sl); (· rfl); (· rfl); (· exact k4); (simp only [Act.put, List.setIfInBounds_toArray, List.set_cons_zero, List.set_cons_succ])))
  go_ret
  exact ⟨rfl, H.tail.tail.tail.tail.tail.tail⟩
end
end Go.Proofs.YtlinhcbjljcgbaaDoor

/- A quiet read of one cell. -/
namespace Go.Proofs.YtlinhcbjljcgbaaDoor
open Go.RowKit
set_option linter.unusedVariables false
section
variable {ops : Array Oper} {rest : List Oper} {a : Act} {w W : World} {l : List Thing}
theorem wpQ_loadCell {T : TypeId} {dst : Option Tmp} {ty : TypeId} {pos : String} {after : Array Edge} {guard : Option (Nat × Bool)} {x : Operand} {b off : Nat} {K : Act → Prop} {H : Heap W l w} (CT : CellTy T) (hw : Region.wanted ⟨dst, .load T x, ty, pos, after, guard⟩ (yielded ops a.tmps) = true) (hx : a.eval x = .pointer (some ⟨b, off, none⟩))
    {v : Value} (hc : ∀ w', Heap W l w' → w'.cell? ⟨b, off, none⟩ = some v)
    (h : wpQuiet Tryd.prog ops (fun w' => ∃ d, w' = H.any d) K rest (a.put dst v)) : wpQuiet Tryd.prog ops (fun w' => ∃ d, w' = H.any d) K (⟨dst, .load T x, ty, pos, after, guard⟩ :: rest) a := by
  refine BigFrame.wpQuiet_want hw fun K hK => ⟨v, ?_, hK _ h⟩
  rintro _ ⟨d, rfl⟩
  have hv := hc _ (H.any_heap d)
  simp only [World.cell?, if_true] at hv
  cases hb : (H.any d).heap[b]? with
  | none => rw [hb] at hv; cases hv
  | some o =>
    rw [hb] at hv
    cases o <;> first | (cases hv; done) | skip
    rename_i cs t f
    unfold Oper.quietAt execOp
    simp only [hx, Sem.run_bind, run_loadC CT hb hv]
    exact ⟨rfl, rfl⟩
end
section
variable {W w : World} {l : List Thing}
set_option maxRecDepth 100000
set_option maxHeartbeats 2000000
end
end Go.Proofs.YtlinhcbjljcgbaaDoor

/- A book's pages of uint8: what write, writeBehind, stands and the book's method do. -/
namespace Go.Proofs.YtlinhcbjljcgbaaDoor
open Go.RowKit
set_option linter.unusedSimpArgs false
set_option linter.unusedVariables false
theorem cell_slBy : CellTy 22 := ⟨⟨_, Tryd.underlying22, rfl⟩, by kernel_rfl⟩
def browBy (sl : Value) (m b : Int) : Array Value := #[sl, .int .u8 m, .int .u8 b]
theorem browBy_g0 (sl : Value) (m b : Int) : (browBy sl m b)[0]? = some sl := rfl
theorem browBy_g1 (sl : Value) (m b : Int) : (browBy sl m b)[1]? = some (.int .u8 m) := rfl
theorem browBy_g2 (sl : Value) (m b : Int) : (browBy sl m b)[2]? = some (.int .u8 b) := rfl
structure WLoopBy (W : World) (l : List Thing) (pb : Nat) (a : Option Addr) (n c lo hi : Nat) (m b v : Int) (P : Nat → List Value → Prop) (i : Value) (wr : World) : Prop where
  out : ∃ (k : Nat) (xs : List Value), i = .int .i64 (k : Int) ∧ lo ≤ k ∧ k ≤ hi ∧ P k xs ∧ Heap W (OwnT 5 1 (.slice a c c) c xs :: Cel pb (browBy (.slice a n c) m b) 61 :: l) wr
def MarksBy (m : Int) (lo hi : Nat) (xs : List Value) : Prop := ∀ i, lo ≤ i → i < hi → xs[i]? = some (.int .u8 m)
theorem MarksBy.step {m : Int} {lo k : Nat} {xs : List Value} (h : MarksBy m lo k xs) (hk : k < xs.length) : MarksBy m lo (k + 1) (xs.set k (.int .u8 m)) := by
  intro i h1 h2
  rw [List.getElem?_set]
  by_cases e : k = i
  · subst e; rw [if_pos rfl, if_pos hk]
  · rw [if_neg e]; exact h i h1 (by omega)
theorem MarksBy.off {m v : Int} {lo hi k : Nat} {xs : List Value} (h : MarksBy m lo hi xs) (hk : hi ≤ k) : MarksBy m lo hi (xs.set k (.int .u8 v)) := by
  intro i h1 h2
  rw [List.getElem?_set, if_neg (by omega)]
  exact h i h1 h2
section
variable {W w : World} {l : List Thing}
set_option maxRecDepth 100000
set_option maxHeartbeats 4000000
theorem write_By (a : Option Addr) (n c : Nat) (m b : Int) (H : Heap W (FullT 5 1 a n c (fun _ => True) :: l) w) :
    Calls Tryd.prog 73 #[.agg (browBy (.slice a n c) m b)] w fun e w' => e = .returned (.tuple #[]) ∧ Heap W (FullT 5 1 a n c (MarksBy m 0 n) :: l) w' := by
  obtain ⟨xs0, -, hn, hc, hl, ha, H'⟩ := H.openFull
  clear H
  have H := H'
  clear H'
  have hcm := hc
  unfold maxLen at hcm
  have HA := Lib.hid ha
  have HC := Lib.hid hc
  clear ha hc hl
  go_enter Tryd.func73, Tryd.ntmps73
  go_wp2_with (first | go_skip | ((with_reducible show wpList _ _ _ (_ :: _) _ _); (with_reducible apply wpl_boxRH); (· rfl); (· rfl); (· exact H); (clear H; intro pb _ H); (simp only [Act.put, List.setIfInBounds_toArray, List.set_cons_zero, List.set_cons_succ])))
  have H0 := H.perm (.swap _ _ _)
  clear H
  go_loopw [2] (fun i wr => WLoopBy W l pb a n c 0 n m b m (fun k xs => xs.length = c ∧ MarksBy m 0 k xs) i wr) (fun i _ => n - (intOf i).toNat)
  case atStart => exact ⟨0, xs0, rfl, by omega, by omega, ⟨by have := OwnT.len (H0.ok _ List.mem_cons_self); omega, fun i h1 h2 => by omega⟩, H0⟩
  case round =>
    obtain ⟨k, xs, rfl, -, hk, ⟨hlen, hmk⟩, H'⟩ := hrel.out
    clear H0 hrel
    have H := H'
    clear H'
    by_cases hlt : k < n
    · obtain ⟨g, o, c', e, _, _⟩ := OwnT.form (H.ok _ List.mem_cons_self) (by omega)
      simp only [Value.slice.injEq, true_and] at e
      obtain ⟨rfl, rfl⟩ := e
      have HM := Lib.hid (And.intro hlen (hmk.step (by omega)))
      have hkl : k < xs.length := by omega
      clear hmk hlen
      go_wp2_with (first
        | go_skip
        | ((with_reducible show wpList _ _ _ (_ :: _) _ _); (with_reducible apply wpl_loadCH); (· exact cell_slBy); (· rfl); (· rfl); (· exact H); (· (repeat (first | (with_reducible exact List.mem_cons_self) | with_reducible apply List.mem_cons_of_mem))); (· exact browBy_g0 ..); (simp only [Act.put, List.setIfInBounds_toArray, List.set_cons_zero, List.set_cons_succ]))
        | ((with_reducible show wpList _ _ _ (_ :: _) _ _); (with_reducible apply wpl_loadCH); (· exact cell_byte); (· rfl); (· rfl); (· exact H); (· (repeat (first | (with_reducible exact List.mem_cons_self) | with_reducible apply List.mem_cons_of_mem))); (· exact browBy_g1 ..); (simp only [Act.put, List.setIfInBounds_toArray, List.set_cons_zero, List.set_cons_succ]))
        | ((with_reducible show wpList _ _ _ (_ :: _) _ _); (with_reducible apply wpl_storeOwnC); (· exact cell_byte); (· rfl); (· rfl); (· rfl); (· exact ⟨rfl, rfl⟩); (· exact H); (· (repeat (first | (with_reducible exact List.mem_cons_self) | with_reducible apply List.mem_cons_of_mem))); (· rfl); (· exact hkl); (· (repeat (first | (with_reducible exact Repl.here) | with_reducible apply Repl.there))); (clear H; intro _ H); (simp only [Act.put, List.setIfInBounds_toArray, List.set_cons_zero, List.set_cons_succ])))
      refine ⟨?_, ?_⟩
      · exact ⟨⟨k + 1, _, by go_num, by omega, by omega, ⟨by rw [List.length_set]; exact HM.out.1, HM.out.2⟩, H⟩⟩
      · simp [intOf]; omega
    · obtain rfl : n = k := by omega
      have HM := Lib.hid hmk
      clear hmk
      go_wp2_with (first
        | go_skip
        | ((with_reducible show wpList _ _ _ (_ :: _) _ _); (with_reducible apply wpl_loadCH); (· exact cell_slBy); (· rfl); (· rfl); (· exact H); (· (repeat (first | (with_reducible exact List.mem_cons_self) | with_reducible apply List.mem_cons_of_mem))); (· exact browBy_g0 ..); (simp only [Act.put, List.setIfInBounds_toArray, List.set_cons_zero, List.set_cons_succ])))
      go_end0
      exact ⟨rfl, (H.drop (.there .here)).shutFull hn HC.out HM.out⟩
theorem behind_By (a : Option Addr) (n c : Nat) (m b : Int) (H : Heap W (FullT 5 1 a n c (MarksBy m 0 n) :: l) w) :
    Calls Tryd.prog 74 #[.agg (browBy (.slice a n c) m b)] w fun e w' => e = .returned (.tuple #[]) ∧ Heap W (FullT 5 1 a n c (fun xs => MarksBy m 0 n xs ∧ MarksBy b n c xs) :: l) w' := by
  obtain ⟨xs0, hm0, hn, hc, hl, ha, H'⟩ := H.openFull
  clear H
  have H := H'
  clear H'
  have hsl := fun wx => run_cutTo slB a n c c .i64 (Nat.le_refl _) wx
  have hcm := hc
  unfold maxLen at hcm
  have HA := Lib.hid ha
  have HC := Lib.hid hc
  have HM0 := Lib.hid hm0
  clear ha hc hl hm0
  go_enter Tryd.func74, Tryd.ntmps74
  go_wp2_with (first
    | go_skip
    | ((with_reducible show wpList _ _ _ (_ :: _) _ _); (with_reducible apply wpl_boxRH); (· rfl); (· rfl); (· exact H); (clear H; intro pb _ H); (simp only [Act.put, List.setIfInBounds_toArray, List.set_cons_zero, List.set_cons_succ]))
    | ((with_reducible show wpList _ _ _ (_ :: _) _ _); (with_reducible apply wpl_loadCH); (· exact cell_slBy); (· rfl); (· rfl); (· exact H); (· (repeat (first | (with_reducible exact List.mem_cons_self) | with_reducible apply List.mem_cons_of_mem))); (· exact browBy_g0 ..); (simp only [Act.put, List.setIfInBounds_toArray, List.set_cons_zero, List.set_cons_succ])))
  clear hsl
  have H0 := H.perm (.swap _ _ _)
  clear H
  go_loopw [3] (fun i wr => WLoopBy W l pb a n c n c m b b (fun k xs => xs.length = c ∧ MarksBy m 0 n xs ∧ MarksBy b n k xs) i wr) (fun i _ => c - (intOf i).toNat)
  case atStart => exact ⟨n, xs0, rfl, by omega, hn, ⟨by have := OwnT.len (H0.ok _ List.mem_cons_self); omega, HM0.out, fun i h1 h2 => by omega⟩, H0⟩
  case round =>
    obtain ⟨k, xs, rfl, hnk, hk, ⟨hlen, hm1, hmk⟩, H'⟩ := hrel.out
    clear H0 hrel HM0
    have H := H'
    clear H'
    by_cases hlt : k < c
    · obtain ⟨g, o, c', e, _, _⟩ := OwnT.form (H.ok _ List.mem_cons_self) (by omega)
      simp only [Value.slice.injEq, true_and] at e
      obtain ⟨rfl, rfl⟩ := e
      have HM := Lib.hid (And.intro hlen (And.intro (hm1.off (v := b) hnk) (hmk.step (by omega))))
      have hkl : k < xs.length := by omega
      clear hmk hlen hm1
      go_wp2_with (first
        | go_skip
        | ((with_reducible show wpList _ _ _ (_ :: _) _ _); (with_reducible apply wpl_loadCH); (· exact cell_byte); (· rfl); (· rfl); (· exact H); (· (repeat (first | (with_reducible exact List.mem_cons_self) | with_reducible apply List.mem_cons_of_mem))); (· exact browBy_g2 ..); (simp only [Act.put, List.setIfInBounds_toArray, List.set_cons_zero, List.set_cons_succ]))
        | ((with_reducible show wpList _ _ _ (_ :: _) _ _); (with_reducible apply wpl_storeOwnC); (· exact cell_byte); (· rfl); (· rfl); (· rfl); (· exact ⟨rfl, rfl⟩); (· exact H); (· (repeat (first | (with_reducible exact List.mem_cons_self) | with_reducible apply List.mem_cons_of_mem))); (· rfl); (· exact hkl); (· (repeat (first | (with_reducible exact Repl.here) | with_reducible apply Repl.there))); (clear H; intro _ H); (simp only [Act.put, List.setIfInBounds_toArray, List.set_cons_zero, List.set_cons_succ])))
      refine ⟨?_, ?_⟩
      · exact ⟨⟨k + 1, _, by go_num, by omega, by omega, ⟨by rw [List.length_set]; exact HM.out.1, HM.out.2⟩, H⟩⟩
      · simp [intOf]; omega
    · obtain rfl : c = k := by omega
      have HM := Lib.hid (And.intro hm1 hmk)
      clear hmk hm1
      go_wp2_with (go_skip)
      go_end0
      exact ⟨rfl, (H.drop (.there .here)).shutFull hn HC.out HM.out⟩
structure SLoopBy (W : World) (l : List Thing) (c : Nat) (i : Value) (wr : World) : Prop where
  out : ∃ k : Nat, i = .int .i64 (k : Int) ∧ k ≤ c ∧ Heap W l wr
theorem stands_By (a : Option Addr) (n c : Nat) (m b : Int) (H : Heap W (FullT 5 1 a n c (fun xs => MarksBy m 0 n xs ∧ MarksBy b n c xs) :: l) w) :
    Calls Tryd.prog 72 #[.agg (browBy (.slice a n c) m b)] w fun e w' => e = .returned (.bool true) ∧ Heap W (FullT 5 1 a n c (fun xs => MarksBy m 0 n xs ∧ MarksBy b n c xs) :: l) w' := by
  obtain ⟨xs, hm0, hn, hc, hl, ha, H'⟩ := H.openFull
  clear H
  have H := H'
  clear H'
  have hsl := fun wx => run_cutTo slB a n c c .i64 (Nat.le_refl _) wx
  have hcm := hc
  unfold maxLen at hcm
  have HC := Lib.hid hc
  have HM := Lib.hid hm0
  have HL := Lib.hid hl
  clear ha hc hl hm0
  go_enter Tryd.func72, Tryd.ntmps72
  go_wp2_with (first
    | go_skip
    | ((with_reducible show wpList _ _ _ (_ :: _) _ _); (with_reducible apply wpl_boxRH); (· rfl); (· rfl); (· exact H); (clear H; intro pb _ H); (simp only [Act.put, List.setIfInBounds_toArray, List.set_cons_zero, List.set_cons_succ]))
    | ((with_reducible show wpList _ _ _ (_ :: _) _ _); (with_reducible apply wpl_loadCH); (· exact cell_slBy); (· rfl); (· rfl); (· exact H); (· (repeat (first | (with_reducible exact List.mem_cons_self) | with_reducible apply List.mem_cons_of_mem))); (· exact browBy_g0 ..); (simp only [Act.put, List.setIfInBounds_toArray, List.set_cons_zero, List.set_cons_succ])))
  clear hsl
  have H0 := H
  clear H
  go_loopw [4] (fun i wr => SLoopBy W (Cel pb (browBy (.slice a n c) m b) 61 :: OwnT 5 1 (.slice a c c) c xs :: l) c i wr) (fun i _ => c - (intOf i).toNat)
  case atStart => exact ⟨0, rfl, by omega, H0⟩
  case round =>
    obtain ⟨k, rfl, hk, H'⟩ := hrel.out
    clear H0 hrel
    have H := H'
    clear H'
    by_cases hlt : k < c
    · obtain ⟨g, o, c', e, _, _⟩ := OwnT.form (H.ok _ (List.mem_cons_of_mem _ List.mem_cons_self)) (by omega)
      simp only [Value.slice.injEq, true_and] at e
      obtain ⟨rfl, rfl⟩ := e
      have hkl : k < xs.length := by rw [HL.out]; omega
      by_cases hkn : k < n
      · have hx := HM.out.1 k (by omega) hkn
        have hcell : ∀ w', Heap W (Cel pb (browBy (.slice (some ⟨g, o, none⟩) n c) m b) 61 :: OwnT 5 1 (.slice (some ⟨g, o, none⟩) c c) c xs :: l) w' → w'.cell? ⟨g, o + k, none⟩ = some (.int .u8 m) := fun w' h => by
          have h2 := (h.ownRd (List.mem_cons_of_mem _ List.mem_cons_self)).get hkl
          rw [h2]
          rw [List.getElem?_eq_getElem hkl] at hx
          exact hx
        have HX := Lib.hid hcell
        clear hx hcell
        have hd1 : decide ((k : Int) < n) = true := by simp; omega
        have hd3 : decide (n ≤ k) = false := by simp; omega
        have hd4 : decide (k < n) = true := by simp; omega
        have hmm : (m != m) = false := by simp
        go_wp2_with (go_skip)
        refine wp_region_H H (by kernel_rfl) (by kernel_rfl) ?_
        repeat (first | go_big_quiet_skip | (first | ((with_reducible apply wpQ_loadCH); (· exact cell_slBy); (· rfl); (· rfl); (· (repeat (first | (with_reducible exact List.mem_cons_self) | with_reducible apply List.mem_cons_of_mem))); (· exact browBy_g0 ..); (simp only [Act.put, List.setIfInBounds_toArray, List.set_cons_zero, List.set_cons_succ])) | ((with_reducible apply wpQ_loadCH); (· exact cell_byte); (· rfl); (· rfl); (· (repeat (first | (with_reducible exact List.mem_cons_self) | with_reducible apply List.mem_cons_of_mem))); (· exact browBy_g1 ..); (simp only [Act.put, List.setIfInBounds_toArray, List.set_cons_zero, List.set_cons_succ])) | ((with_reducible apply wpQ_loadCH); (· exact cell_byte); (· rfl); (· rfl); (· (repeat (first | (with_reducible exact List.mem_cons_self) | with_reducible apply List.mem_cons_of_mem))); (· exact browBy_g2 ..); (simp only [Act.put, List.setIfInBounds_toArray, List.set_cons_zero, List.set_cons_succ])) | ((with_reducible apply wpQ_loadCell); (· exact cell_byte); (· rfl); (· rfl); (· exact HX.out); (simp only [Act.put, List.setIfInBounds_toArray, List.set_cons_zero, List.set_cons_succ]))) | go_big_quiet_step (fail))
        refine wpQuiet_nil ?_
        clear H
        intro _ H
        go_wp2_with (go_skip)
        refine ⟨?_, ?_⟩
        · exact ⟨⟨k + 1, by go_num, by omega, H⟩⟩
        · simp [intOf]; omega
      · have hx := HM.out.2 k (by omega) hlt
        have hcell : ∀ w', Heap W (Cel pb (browBy (.slice (some ⟨g, o, none⟩) n c) m b) 61 :: OwnT 5 1 (.slice (some ⟨g, o, none⟩) c c) c xs :: l) w' → w'.cell? ⟨g, o + k, none⟩ = some (.int .u8 b) := fun w' h => by
          have h2 := (h.ownRd (List.mem_cons_of_mem _ List.mem_cons_self)).get hkl
          rw [h2]
          rw [List.getElem?_eq_getElem hkl] at hx
          exact hx
        have HX := Lib.hid hcell
        clear hx hcell
        have hd1 : decide ((k : Int) < n) = false := by simp; omega
        have hd3 : decide (n ≤ k) = true := by simp; omega
        have hd4 : decide (k < n) = false := by simp; omega
        have hmm : (b != b) = false := by simp
        go_wp2_with (go_skip)
        refine wp_region_H H (by kernel_rfl) (by kernel_rfl) ?_
        repeat (first | go_big_quiet_skip | (first | ((with_reducible apply wpQ_loadCH); (· exact cell_slBy); (· rfl); (· rfl); (· (repeat (first | (with_reducible exact List.mem_cons_self) | with_reducible apply List.mem_cons_of_mem))); (· exact browBy_g0 ..); (simp only [Act.put, List.setIfInBounds_toArray, List.set_cons_zero, List.set_cons_succ])) | ((with_reducible apply wpQ_loadCH); (· exact cell_byte); (· rfl); (· rfl); (· (repeat (first | (with_reducible exact List.mem_cons_self) | with_reducible apply List.mem_cons_of_mem))); (· exact browBy_g1 ..); (simp only [Act.put, List.setIfInBounds_toArray, List.set_cons_zero, List.set_cons_succ])) | ((with_reducible apply wpQ_loadCH); (· exact cell_byte); (· rfl); (· rfl); (· (repeat (first | (with_reducible exact List.mem_cons_self) | with_reducible apply List.mem_cons_of_mem))); (· exact browBy_g2 ..); (simp only [Act.put, List.setIfInBounds_toArray, List.set_cons_zero, List.set_cons_succ])) | ((with_reducible apply wpQ_loadCell); (· exact cell_byte); (· rfl); (· rfl); (· exact HX.out); (simp only [Act.put, List.setIfInBounds_toArray, List.set_cons_zero, List.set_cons_succ]))) | go_big_quiet_step (fail))
        refine wpQuiet_nil ?_
        clear H
        intro _ H
        go_wp2_with (go_skip)
        refine ⟨?_, ?_⟩
        · exact ⟨⟨k + 1, by go_num, by omega, H⟩⟩
        · simp [intOf]; omega
    · obtain rfl : c = k := by omega
      go_wp2_with (go_skip)
      go_ret
      exact ⟨rfl, H.tail.shutFull hn HC.out HM.out⟩
/-- A page of such a list. -/
def pageBy (a : Option Addr) (n c : Nat) (m b : Int) : PageT := ⟨61, .agg (browBy (.slice a n c) m b), FullT 5 1 a n c (fun _ => True), FullT 5 1 a n c (MarksBy m 0 n), FullT 5 1 a n c (fun xs => MarksBy m 0 n xs ∧ MarksBy b n c xs)⟩
theorem pageBy_ok (a : Option Addr) (n c : Nat) (m b : Int) : PageOk (pageBy a n c m b) :=
  ⟨⟨73, ⟨fun _ _ => by kernel_rfl, Tryd.call73⟩, fun W l w H => write_By a n c m b H⟩,
   ⟨74, ⟨fun _ _ => by kernel_rfl, Tryd.call74⟩, fun W l w H => behind_By a n c m b H⟩,
   ⟨72, ⟨fun _ _ => by kernel_rfl, Tryd.call72⟩, fun W l w H => stands_By a n c m b H⟩⟩
theorem lay_By (kb : Nat) (ps : List PageT) (a : Option Addr) (n c : Nat) {xs : List Value} (hp : ps.length < 120) (B : Book W (OwnT 5 1 (.slice a n c) n xs :: l) kb ps w) :
    Calls Tryd.prog 21 #[.pointer (some ⟨kb, 0, none⟩), .slice a n c] w fun e w' => e = .returned (.tuple #[]) ∧ ∃ p, Book W l kb (ps ++ [p]) w' := by
  obtain ⟨ba, bc, H, hok⟩ := B
  obtain ⟨N, hN⟩ : ∃ N, ps.length = N := ⟨_, rfl⟩
  rw [hN] at H
  have hn1 : N + 1 ≤ maxLen := by unfold maxLen; omega
  have hn2 : (N + 1) * 16 ≤ 140737488355328 := by omega
  have hNB := number_H (W := W) (l := BkT kb (.slice ba N bc) :: PgsT (.slice ba N bc) N (ps.map PageT.v) :: (ps.map PageT.t0 ++ OwnT 5 1 (.slice a n c) n xs :: l)) kb ba N bc (by omega) List.mem_cons_self
  have HO := Lib.hid (And.intro hok hN)
  have hN120 : N < 120 := by omega
  clear hok hN hp
  go_enter Tryd.func21, Tryd.ntmps21
  go_wp2_with (first
    | go_skip
    | ((with_reducible refine AnsH.call (by assumption) H ?_); clear H; intro _ H)
    | ((with_reducible show wpList _ _ _ (_ :: _) _ _); (with_reducible apply wpl_loadCH); (· exact cell_pages); (· rfl); (· rfl); (· exact H); (· (repeat (first | (with_reducible exact List.mem_cons_self) | with_reducible apply List.mem_cons_of_mem))); (· exact bookC_g _); (simp only [Act.put, List.setIfInBounds_toArray, List.set_cons_zero, List.set_cons_succ]))
    | ((with_reducible show wpList _ _ _ (_ :: _) _ _); (with_reducible apply wpl_bsOnes _ [(pageBy a n c ((N : Int) + 1) (bits .xor .u8 ((N : Int) + 1) 128)).v]); (· rfl); (· rfl); (· rfl); (· decide); (· decide); (· intro v hv; rw [List.mem_singleton.1 hv]; rfl); (· exact bs_page); (· rfl); (· exact H); (clear H; intro pk _ H); (simp only [Act.put, List.setIfInBounds_toArray, List.set_cons_zero, List.set_cons_succ]))
    | ((with_reducible show wpList _ _ _ (_ :: _) _ _); (with_reducible apply wpl_appendH slPage); (· rfl); (· rfl); (· rfl); (· rfl); (· exact H.top2 (.there (.there .here)) .here); (· exact H.celRd List.mem_cons_self); (· rfl); (· intro u hu; rw [List.mem_singleton.1 hu]; rfl); (· exact hn1); (· exact hn2); (clear H; intro v2 _ H; obtain ⟨a2, c2, rfl, _, _⟩ := RowT.form0 (H.ok _ List.mem_cons_self)); (simp only [Act.put, List.setIfInBounds_toArray, List.set_cons_zero, List.set_cons_succ]))
    | ((with_reducible show wpList _ _ _ (_ :: _) _ _); (with_reducible apply wpl_storeSH); (· exact cell_pages); (· rfl); (· rfl); (· rfl); (· exact H); (· (repeat (first | (with_reducible exact List.mem_cons_self) | with_reducible apply List.mem_cons_of_mem))); (· exact Nat.le_refl 1); (· rfl); (· (repeat (first | (with_reducible exact Repl.here) | with_reducible apply Repl.there))); (clear H; intro _ H); (simp only [Act.put, List.setIfInBounds_toArray, List.set_cons_zero, List.set_cons_succ])))
  go_end0
  refine ⟨rfl, pageBy a n c ((N : Int) + 1) (bits .xor .u8 ((N : Int) + 1) 128), a2, c2, ?_, fun p hp => ?_⟩
  · rw [List.length_append, List.length_singleton, HO.out.2, List.map_append, List.map_append]
    have H2 := H.drop (.there .here)
    have p1 : (RowT 63 1 (.slice a2 (N + 1) c2) (N + 1) (ps.map PageT.v ++ [(pageBy a n c ((N : Int) + 1) (bits .xor .u8 ((N : Int) + 1) 128)).v]) :: BkT kb (.slice a2 (N + 1) c2) :: (ps.map PageT.t0 ++ OwnT 5 1 (.slice a n c) n xs :: l)).Perm
        (OwnT 5 1 (.slice a n c) n xs :: BkT kb (.slice a2 (N + 1) c2) :: PgsT (.slice a2 (N + 1) c2) (N + 1) (ps.map PageT.v ++ [(pageBy a n c ((N : Int) + 1) (bits .xor .u8 ((N : Int) + 1) 128)).v]) :: (ps.map PageT.t0 ++ l)) :=
      (List.Perm.swap _ _ _).trans (((List.Perm.cons _ (List.Perm.cons _ List.perm_middle)).trans (List.Perm.cons _ (.swap _ _ _))).trans (.swap _ _ _))
    have H3 := (H2.perm p1).toFull
    refine H3.perm ?_
    exact (List.Perm.swap _ _ _).trans (List.Perm.cons _ ((List.Perm.swap _ _ _).trans (List.Perm.cons _ (by rw [List.append_assoc]; exact List.perm_middle.symm))))
  · rcases List.mem_append.1 hp with h | h
    · exact HO.out.1 p h
    · rw [List.mem_singleton.1 h]; exact pageBy_ok ..
end
end Go.Proofs.YtlinhcbjljcgbaaDoor

/- FramesPut: its walk. -/
namespace Go.Proofs.YtlinhcbjljcgbaaDoor
open Go.RowKit
attribute [local go_sem] Oper.semAt_some
set_option linter.unusedSimpArgs false
set_option linter.unusedVariables false
section
variable {W w : World} {l : List Thing}
theorem TwB.own {g n : Nat} {zs : Bs} (hn : zs.length = n) (hm : n ≤ 1000000) (H : Heap W (TwB g zs :: l) w) : Heap W (OwnB (.slice (some ⟨g, 0, none⟩) n (n + 2)) n zs :: l) w := by
  refine H.head (World.grownBy.refl _ _) ⟨by simp [hn], .inr ⟨g, 0, n + 2, _, rfl, Nat.zero_le _, H.blk List.mem_cons_self, by omega, by unfold maxLen; omega, by simp [hn], ?_⟩⟩ (.inl rfl)
  rw [List.drop_zero, List.toList_toArray, Nat.mul_one]
  have : (zs.map B8).length = n := by simp [hn]
  rw [← this, List.take_left]
set_option maxRecDepth 100000
set_option maxHeartbeats 2000000
theorem fput_many (a b : Option Addr) (n m ca cb : Nat) (h : 9000 < n ∨ 9000 < m) (hn : n ≤ 9223372036854775807) (hm : m ≤ 9223372036854775807) (T : TabAt W) (H : Heap W l w) : Calls Tryd.prog 6 #[.slice a n ca, .slice b m cb] w fun e w' => e = .returned (.bool true) ∧ Heap W l w' := by
  have L := fun (V : World) (H : Heap W l V) => lives18_H (W := W) (l := l) (w := V) T H
  by_cases h1 : 9000 < n
  · have d1 : decide ((n : Int) > 9000) = true := by simp; omega
    have d2 : decide ((9000 : Int) < n) = true := by simp; omega
    go_enter Tryd.func6, Tryd.ntmps6
    go_wp2_with (first | go_skip | ((with_reducible refine (L _ H).mono ?_); clear H; rintro _ _ ⟨rfl, H⟩))
    go_ret
    exact ⟨rfl, H⟩
  · have d1 : decide ((n : Int) > 9000) = false := by simp; omega
    have d2 : decide ((9000 : Int) < n) = false := by simp; omega
    have d3 : decide ((m : Int) > 9000) = true := by simp; omega
    have d4 : decide ((9000 : Int) < m) = true := by simp; omega
    go_enter Tryd.func6, Tryd.ntmps6
    go_wp2_with (first | go_skip | ((with_reducible refine (L _ H).mono ?_); clear H; rintro _ _ ⟨rfl, H⟩))
    go_ret
    exact ⟨rfl, H⟩
theorem fput_H (a b : Option Addr) (n m ca cb : Nat) (bs body : Bs) (h1 : n ≤ 9000) (h2 : m ≤ 9000) (hn : bs.length = n) (hm : body.length = m) (T : TabAt W) (RA : RdE W l a bs) (RB : RdE W l b body) (H : Heap W l w) : Calls Tryd.prog 6 #[.slice a n ca, .slice b m cb] w fun e w' => e = .returned (.bool true) ∧ Heap W l w' := by
  have d1 : decide ((n : Int) > 9000) = false := by simp; omega
  have d2 : decide ((9000 : Int) < n) = false := by simp; omega
  have d3 : decide ((m : Int) > 9000) = false := by simp; omega
  have d4 : decide ((9000 : Int) < m) = false := by simp; omega
  have L := fun (V : World) (H : Heap W l V) => lives18_H (W := W) (l := l) (w := V) T H
  have HN := Lib.hid (And.intro hn hm)
  have HRA := Lib.hid RA
  have HRB := Lib.hid RB
  clear hn hm RA RB
  go_enter Tryd.func6, Tryd.ntmps6
  go_wp2_with (go_skip)
  refine (twinB_H a n ca bs HN.out.1.symm (by omega) (fun w' H' => HRA.out _ w' (fun x hx => hx) H') H).mono ?_
  clear H
  rintro e w1 ⟨g1, rfl, H⟩
  go_wp2_with (go_skip)
  refine (twinB_H b m cb body HN.out.2.symm (by omega) (fun w' H' => HRB.out _ w' (fun x hx => List.mem_cons_of_mem _ hx) H') H).mono ?_
  clear H
  rintro e w2 ⟨g2, rfl, H⟩
  have LA := Lib.hid (show ∀ l', TwB g1 bs ∈ l' → (∀ x ∈ l, x ∈ l') → AnsH W l' 20 #[.slice (some ⟨g1, 0, none⟩) n (n + 2), .slice a n ca] (.bool true) from fun l' m1 hs => by
    have := leftB_H (W := W) (l := l') g1 n ca a n bs bs HN.out.1.symm (by omega) HN.out.1.symm m1 (fun w' H' => HRA.out _ w' hs H')
    rwa [decide_eq_true rfl] at this)
  have LB := Lib.hid (show ∀ l', TwB g2 body ∈ l' → (∀ x ∈ l, x ∈ l') → AnsH W l' 20 #[.slice (some ⟨g2, 0, none⟩) m (m + 2), .slice b m cb] (.bool true) from fun l' m1 hs => by
    have := leftB_H (W := W) (l := l') g2 m cb b m body body HN.out.2.symm (by omega) HN.out.2.symm m1 (fun w' H' => HRB.out _ w' hs H')
    rwa [decide_eq_true rfl] at this)
  by_cases hbig : 8192 < m
  · go_wp2_with (go_skip)
    refine (put_no (some ⟨g1, 0, none⟩) (some ⟨g2, 0, none⟩) n m (n + 2) (m + 2) hbig (by omega) H).mono ?_
    clear H
    rintro e w3 ⟨rfl, H⟩
    go_wp2_with (go_skip)
    refine (rput_no a b n m ca cb hbig (by omega) H).mono ?_
    clear H
    rintro e w4 ⟨rfl, H⟩
    have SB := sameB_H (W := W) (l := TwB g2 body :: TwB g1 bs :: l) none none 0 0 0 0 [] [] rfl rfl (by unfold maxLen; omega) (fun _ _ => Rd.nil _ _) (fun _ _ => Rd.nil _ _)
    rw [decide_eq_true rfl] at SB
    have LA1 := LA.out (TwB g2 body :: TwB g1 bs :: l) (by (repeat (first | (with_reducible exact List.mem_cons_self) | with_reducible apply List.mem_cons_of_mem))) (fun x hx => List.mem_cons_of_mem _ (List.mem_cons_of_mem _ hx))
    have LB1 := LB.out (TwB g2 body :: TwB g1 bs :: l) (by (repeat (first | (with_reducible exact List.mem_cons_self) | with_reducible apply List.mem_cons_of_mem))) (fun x hx => List.mem_cons_of_mem _ (List.mem_cons_of_mem _ hx))
    go_wp2_with (first
      | go_skip
      | ((with_reducible refine AnsH.call (by assumption) H ?_); clear H; intro _ H)
      | ((with_reducible show wpList _ _ _ (_ :: _) _ _); (with_reducible apply wpl_allocRH row_book); (· rfl); (· exact H); (clear H; intro kb _ H); (simp only [Act.put, List.setIfInBounds_toArray, List.set_cons_zero, List.set_cons_succ]))
      | ((with_reducible show wpList _ _ _ (_ :: _) _ _); (with_reducible apply wpl_storeRH row_book); (· rfl); (· rfl); (· rfl); (· with_reducible exact bookC_cells); (· exact H); (· (repeat (first | (with_reducible exact List.mem_cons_self) | with_reducible apply List.mem_cons_of_mem))); (· (simp only [bookC_sz, Nat.reduceAdd, Nat.reduceLeDiff, Nat.le_refl]; done)); (· with_reducible exact bookC_splice ..); (· (repeat (first | (with_reducible exact Repl.here) | with_reducible apply Repl.there))); (clear H; intro _ H); (simp only [Act.put, List.setIfInBounds_toArray, List.set_cons_zero, List.set_cons_succ])))
    clear SB LA1 LB1
    have H0 := (H.nilRow 5 1).slide
    have H1 := TwB.own HN.out.2 (by omega) (H0.pull (.there (.there .here)))
    have H2 := TwB.own HN.out.1 (by omega) (H1.pull (.there (.there (.there .here))))
    have B := Book.new (H2.pull (.there (.there (.there .here))))
    clear H H0 H1 H2
    refine (lay_By kb [] (some ⟨g1, 0, none⟩) n (n + 2) (by decide) B).mono ?_
    clear B
    rintro e w5 ⟨rfl, p1, B⟩
    go_wp2_with (go_skip)
    refine (lay_By kb _ (some ⟨g2, 0, none⟩) m (m + 2) (by simp) B).mono ?_
    clear B
    rintro e w6 ⟨rfl, p2, B⟩
    go_wp2_with (go_skip)
    refine (lay_By kb _ none 0 0 (by simp) B).mono ?_
    clear B
    rintro e w7 ⟨rfl, p3, B⟩
    go_wp2_with (go_skip)
    refine (B.apart (by simp)).mono ?_
    clear B
    rintro e w8 ⟨rfl, H⟩
    go_wp2_with (first | go_skip | ((with_reducible refine (L _ H).mono ?_); clear H; rintro _ _ ⟨rfl, H⟩))
    go_ret
    exact ⟨rfl, H⟩
  · go_wp2_with (go_skip)
    refine (put_H (some ⟨g1, 0, none⟩) (some ⟨g2, 0, none⟩) n m (n + 2) (m + 2) bs body (by omega) HN.out.1 HN.out.2 (by omega) T (fun l' w' hs H' => TwB.rd H' (hs _ (by (repeat (first | (with_reducible exact List.mem_cons_self) | with_reducible apply List.mem_cons_of_mem))))) (fun l' w' hs H' => TwB.rd H' (hs _ (by (repeat (first | (with_reducible exact List.mem_cons_self) | with_reducible apply List.mem_cons_of_mem))))) H).mono ?_
    clear H
    rintro e w3 ⟨a3, c3, rfl, H⟩
    go_wp2_with (go_skip)
    refine (rput18_H a b n m ca cb bs body (by omega) HN.out.1 HN.out.2 (by omega) (fun l' w' hs H' => HRA.out _ w' (fun x hx => hs _ (by (repeat (first | (with_reducible exact hx) | with_reducible apply List.mem_cons_of_mem)))) H') (fun l' w' hs H' => HRB.out _ w' (fun x hx => hs _ (by (repeat (first | (with_reducible exact hx) | with_reducible apply List.mem_cons_of_mem)))) H') H).mono ?_
    clear H
    rintro e w4 ⟨a4, c4, rfl, H⟩
    have hfl := frameOf_len body
    have hnl := num2_len body.length
    have hN : (bs ++ frameOf body).length = n + (frameOf body).length := by rw [List.length_append, HN.out.1]
    have hfb : (frameOf body).length ≤ 9100 := by
      rw [hfl, hnl, HN.out.2]; split <;> omega
    obtain ⟨N, hNN⟩ : ∃ N, n + (frameOf body).length = N := ⟨_, rfl⟩
    rw [hNN] at H hN
    rw [hNN]
    have hNb : N ≤ 100000 := by omega
    have HNL := Lib.hid hN
    clear hfl hnl hN hfb hNN
    have SB := sameB_H (W := W) (l := OwnB (.slice a4 N c4) N (bs ++ frameOf body) :: OwnB (.slice a3 N c3) N (bs ++ frameOf body) :: TwB g2 body :: TwB g1 bs :: l) a3 a4 N N c3 c4 (bs ++ frameOf body) (bs ++ frameOf body) HNL.out.symm HNL.out.symm (by unfold maxLen; omega) (fun _ H' => H'.ownRd (List.mem_cons_of_mem _ List.mem_cons_self)) (fun _ H' => H'.ownRd List.mem_cons_self)
    rw [decide_eq_true rfl] at SB
    have LA1 := LA.out (OwnB (.slice a4 N c4) N (bs ++ frameOf body) :: OwnB (.slice a3 N c3) N (bs ++ frameOf body) :: TwB g2 body :: TwB g1 bs :: l) (by (repeat (first | (with_reducible exact List.mem_cons_self) | with_reducible apply List.mem_cons_of_mem))) (fun x hx => by (repeat (first | (with_reducible exact hx) | with_reducible apply List.mem_cons_of_mem)))
    have LB1 := LB.out (OwnB (.slice a4 N c4) N (bs ++ frameOf body) :: OwnB (.slice a3 N c3) N (bs ++ frameOf body) :: TwB g2 body :: TwB g1 bs :: l) (by (repeat (first | (with_reducible exact List.mem_cons_self) | with_reducible apply List.mem_cons_of_mem))) (fun x hx => by (repeat (first | (with_reducible exact hx) | with_reducible apply List.mem_cons_of_mem)))
    go_wp2_with (first
      | go_skip
      | ((with_reducible refine AnsH.call (by assumption) H ?_); clear H; intro _ H)
      | ((with_reducible show wpList _ _ _ (_ :: _) _ _); (with_reducible apply wpl_allocRH row_book); (· rfl); (· exact H); (clear H; intro kb _ H); (simp only [Act.put, List.setIfInBounds_toArray, List.set_cons_zero, List.set_cons_succ]))
      | ((with_reducible show wpList _ _ _ (_ :: _) _ _); (with_reducible apply wpl_storeRH row_book); (· rfl); (· rfl); (· rfl); (· with_reducible exact bookC_cells); (· exact H); (· (repeat (first | (with_reducible exact List.mem_cons_self) | with_reducible apply List.mem_cons_of_mem))); (· (simp only [bookC_sz, Nat.reduceAdd, Nat.reduceLeDiff, Nat.le_refl]; done)); (· with_reducible exact bookC_splice ..); (· (repeat (first | (with_reducible exact Repl.here) | with_reducible apply Repl.there))); (clear H; intro _ H); (simp only [Act.put, List.setIfInBounds_toArray, List.set_cons_zero, List.set_cons_succ])))
    clear SB LA1 LB1
    have H0 := H.drop (.there .here)
    have H1 := TwB.own HN.out.2 (by omega) (H0.pull (.there (.there .here)))
    have H2 := TwB.own HN.out.1 (by omega) (H1.pull (.there (.there (.there .here))))
    have B := Book.new (H2.pull (.there (.there .here)))
    clear H H0 H1 H2
    refine (lay_By kb [] (some ⟨g1, 0, none⟩) n (n + 2) (by decide) B).mono ?_
    clear B
    rintro e w5 ⟨rfl, p1, B⟩
    go_wp2_with (go_skip)
    refine (lay_By kb _ (some ⟨g2, 0, none⟩) m (m + 2) (by simp) B).mono ?_
    clear B
    rintro e w6 ⟨rfl, p2, B⟩
    go_wp2_with (go_skip)
    refine (lay_By kb _ a3 N c3 (by simp) B).mono ?_
    clear B
    rintro e w7 ⟨rfl, p3, B⟩
    go_wp2_with (go_skip)
    refine (B.apart (by simp)).mono ?_
    clear B
    rintro e w8 ⟨rfl, H⟩
    go_wp2_with (first | go_skip | ((with_reducible refine (L _ H).mono ?_); clear H; rintro _ _ ⟨rfl, H⟩))
    go_ret
    exact ⟨rfl, H⟩
end
end Go.Proofs.YtlinhcbjljcgbaaDoor
