/- countinghouseref06: reach, Short. -/
import Derived.Test.YtglehneaphigdaaReach
import Derived.Test.YtglehneaphigdaaRef05c
import Derived.Test.YtglehneaphigdaaLeft
namespace Go.Proofs.Ytglehneaphigdaa
open Go.RowKit
set_option linter.unusedSimpArgs false
set_option linter.unusedVariables false
def boolT (f : Nat → Bool) : Array Value := tab 17 fun i => .bool (f i)
theorem boolT_sz (f : Nat → Bool) : (boolT f).size = 17 := tab_size ..
theorem boolT_get (f : Nat → Bool) {i : Nat} (h : i < 17) : (boolT f)[i]? = some (.bool (f i)) := tab_get _ h
theorem boolT_set (f : Nat → Bool) {i : Nat} (h : i < 17) (b : Bool) : (boolT f).setIfInBounds i (.bool b) = boolT (updN f i b) := by
  unfold boolT
  rw [tab_set _ _ h]
  apply tab_congr
  intro j hj
  unfold updN
  by_cases e : j = i
  · rw [if_pos e, if_pos e]
  · rw [if_neg e, if_neg e]
theorem boolT_ext {f g : Nat → Bool} (h : ∀ i, i < 17 → f i = g i) : boolT f = boolT g := tab_congr fun i hi => by rw [h i hi]
theorem boolT_all (f : Nat → Bool) : (boolT f).extract 0 (0 + 17) = boolT f := by
  have := boolT_sz f
  simp [← this]
theorem boolT_cells (f : Nat → Bool) : Cells 17 (boolT f) := tab_cells fun i _ => rfl
theorem boolT_splice (f g : Nat → Bool) : splice (boolT f) 0 (boolT g) = boolT g := splice_all (by rw [boolT_sz, boolT_sz])
theorem row_boolT : RowTy 87 17 (boolT fun _ => false) := ⟨⟨_, Try.underlying87, rfl⟩, by kernel_rfl, by kernel_rfl⟩
theorem part_bool (f : Nat → Bool) (i : Nat) (hi : i < 17) (w : World) : (part 4 (boolT f) i).run Try.prog w = .ok (.bool (f i)) w := by
  have hu := Try.underlying4
  have e := boolT_get f hi
  simp [part, isAgg, run_underlying hu, e]
section
variable {ops : Array Oper} {rest : List Oper} {a : Act} {w : World} {Q : Exit → Act → World → Prop} {dst : Option Tmp} {ty : TypeId} {pos : String} {after : Array Edge} {guard : Option (Nat × Bool)} {p q : Operand}
theorem wpl_indexBool {f : Nat → Bool} {k : IntKind} {i : Nat} (hw : Region.wanted ⟨dst, .index 87 p q, ty, pos, after, guard⟩ (yielded ops a.tmps) = true) (hp : a.eval p = .agg (boolT f)) (hq : a.eval q = .int k (i : Int)) (hi : i < 17)
    (h : wpList Try.prog ops Q rest (a.put dst (.bool (f i))) w) : wpList Try.prog ops Q (⟨dst, .index 87 p q, ty, pos, after, guard⟩ :: rest) a w := by
  refine wpl_pure hw _ (fun w => ?_) h
  have hu := Try.underlying87
  have hs : (sizeOf 4).run Try.prog w = .ok 1 w := by kernel_rfl
  have hp17 := part_bool f i hi w
  unfold execOp
  simp only [hp, hq]
  simp [Instr.index, asIntOf, run_underlying hu, Sem.run_bind, hs, hi, hp17]
end
structure ReA (W : World) (l : List Thing) (F : List Flw) (f n pi : Nat) (i : Value) (wr : World) : Prop where
  out : ∃ k : Nat, i = .int .i64 (k : Int) ∧ k ≤ n ∧ Heap W (Cel pi (boolT (reachF F f k)) 87 :: l) wr
structure ReB (W : World) (l : List Thing) (F : List Flw) (f k n pi : Nat) (i : Value) (wr : World) : Prop where
  out : ∃ j : Nat, i = .int .i64 (j : Int) ∧ j ≤ n ∧ Heap W (Cel pi (boolT fun p => reachF F f k p || (F.take j).any fun x => reachF F f k x.f && (x.t == p)) 87 :: l) wr
section
variable {W w : World} {l : List Thing} {p n : Nat} {a : Option Addr} {cc : Nat} {F : List Flw}
set_option maxRecDepth 100000
set_option maxHeartbeats 4000000
theorem reach_H (f s : Nat) (hf : f ≤ 16) (hs : s ≤ 16) (m1 : RgT p (.slice a n cc) ∈ l) (m2 : FlT (.slice a n cc) n F ∈ l) (hl : F.length = n) (hn : n ≤ 1000000) (hF : ∀ x ∈ F, x.f < 17 ∧ x.t < 17) :
    AnsH W l 65 #[.pointer (some ⟨p, 0, none⟩), .int .u8 (f : Int), .int .i64 (s : Int)] (.agg (boolT (reachF F f s))) := by
  intro w H
  have HL := Lib.hid hl
  have HF := Lib.hid hF
  have HR := Lib.hid (show ∀ l' w', (∀ x ∈ l, x ∈ l') → Heap W l' w' → Rd w' a (flwL F) from fun l' w' hs h => rowT_rd h (hs _ m2))
  have f17 : f < 17 := by omega
  clear hl hF
  go_enter Try.func65, Try.ntmps65
  have tok1 : True := trivial
  go_wp2_with (first
    | go_skip
    | (have _t := tok1; ((with_reducible show wpList _ _ _ (_ :: _) _ _); (with_reducible apply wpl_allocRH row_boolT); (· rfl); (· exact H); (clear H; intro pr _ H); (simp only [Act.put, List.setIfInBounds_toArray, List.set_cons_zero, List.set_cons_succ])); clear tok1 _t)
    | ((with_reducible show wpList _ _ _ (_ :: _) _ _); (with_reducible apply wpl_allocRH row_boolT); (· rfl); (· exact H); (clear H; intro pi _ H); (simp only [Act.put, List.setIfInBounds_toArray, List.set_cons_zero, List.set_cons_succ]))
    | ((with_reducible show wpList _ _ _ (_ :: _) _ _); (with_reducible apply wpl_storeBH); (· exact cell_bool); (· rfl); (· rfl); (· rfl); (· exact H); (· (repeat (first | (with_reducible exact List.mem_cons_self) | with_reducible apply List.mem_cons_of_mem))); (· (rw [boolT_sz]; omega)); (· exact boolT_set _ f17 _); (· (repeat (first | (with_reducible exact Repl.here) | with_reducible apply Repl.there))); (clear H; intro _ H); (simp only [Act.put, List.setIfInBounds_toArray, List.set_cons_zero, List.set_cons_succ])))
  have H0 := H
  clear H
  go_loopw [8] (fun i wr => ReA W (Cel pr (boolT fun _ => false) 87 :: l) F f s pi i wr) (fun i _ => s - (intOf i).toNat)
  case atStart => exact ⟨0, rfl, by omega, by rw [show boolT (reachF F f 0) = boolT (updN (fun _ => false) f true) from boolT_ext fun i _ => by by_cases e : i = f <;> simp [reachF, updN, e]]; exact H0⟩
  case round =>
    obtain ⟨k, rfl, hk, H'⟩ := hrel.out
    clear H0 hrel
    have H := H'
    clear H'
    by_cases hlt : k < s
    · go_wp2_with (first
        | go_skip
        | ((with_reducible show wpList _ _ _ (_ :: _) _ _); (with_reducible apply wpl_allocRH row_boolT); (· rfl); (· exact H); (clear H; intro pw _ H); (simp only [Act.put, List.setIfInBounds_toArray, List.set_cons_zero, List.set_cons_succ]))
        | ((with_reducible show wpList _ _ _ (_ :: _) _ _); (with_reducible apply wpl_loadRH row_boolT); (· rfl); (· rfl); (· exact H); (· (repeat (first | (with_reducible exact List.mem_cons_self) | with_reducible apply List.mem_cons_of_mem))); (· (simp only [boolT_sz, Nat.reduceAdd, Nat.reduceLeDiff, Nat.le_refl]; done)); (· with_reducible exact boolT_all ..); (simp only [Act.put, List.setIfInBounds_toArray, List.set_cons_zero, List.set_cons_succ]))
        | ((with_reducible show wpList _ _ _ (_ :: _) _ _); (with_reducible apply wpl_storeRH row_boolT); (· rfl); (· rfl); (· rfl); (· with_reducible exact boolT_cells ..); (· exact H); (· (repeat (first | (with_reducible exact List.mem_cons_self) | with_reducible apply List.mem_cons_of_mem))); (· (simp only [boolT_sz, Nat.reduceAdd, Nat.reduceLeDiff, Nat.le_refl]; done)); (· with_reducible exact boolT_splice ..); (· (repeat (first | (with_reducible exact Repl.here) | with_reducible apply Repl.there))); (clear H; intro _ H); (simp only [Act.put, List.setIfInBounds_toArray, List.set_cons_zero, List.set_cons_succ])))
      have H0 := H.perm (.swap _ _ _)
      clear H
      go_loopw [10] (fun i wr => ReB W (Cel pw (boolT (reachF F f k)) 87 :: Cel pr (boolT fun _ => false) 87 :: l) F f k n pi i wr) (fun i _ => n - (intOf i).toNat)
      case atStart => exact ⟨0, rfl, by omega, by rw [show boolT (fun p => reachF F f k p || (F.take 0).any fun x => reachF F f k x.f && (x.t == p)) = boolT (reachF F f k) from boolT_ext fun i _ => by simp]; exact H0⟩
      case round =>
        obtain ⟨j, rfl, hj, H'⟩ := hrel.out
        clear H0 hrel
        have H := H'
        clear H'
        by_cases hlt2 : j < n
        · have hjF : j < F.length := by rw [HL.out]; exact hlt2
          have hx : F[j]? = some F[j] := List.getElem?_eq_getElem hjF
          have hok := HF.out _ (List.getElem_mem hjF)
          have htk : F.take (j + 1) = F.take j ++ [F[j]] := by rw [List.take_add_one, hx]; rfl
          generalize F[j] = x at *
          obtain ⟨b, o, rfl, _⟩ := (HR.out _ _ (fun x hx => by (repeat (first | (with_reducible exact hx) | with_reducible apply List.mem_cons_of_mem))) H).lt (by rw [flwL_len]; omega)
          have HX := Lib.hid (show ∀ l' w', (∀ x ∈ l, x ∈ l') → Heap W l' w' → _ from fun l' w' hs h => flwL_rd (HR.out l' w' hs h) hx)
          have HTK := Lib.hid htk
          clear htk hx hjF
          obtain ⟨xf, xt, xn⟩ := x
          obtain ⟨o1, o2⟩ := hok
          simp only at o1 o2
          have HXH := HX.out _ _ (fun x hx => by (repeat (first | (with_reducible exact hx) | with_reducible apply List.mem_cons_of_mem))) H
          have HY := Lib.hid HXH
          clear HXH
          cases hb : reachF F f k xf
          · have HB := Lib.hid hb
            have hget := boolT_get (reachF F f k) o1
            rw [hb] at hget
            clear hb
            have HS := Lib.hid (show boolT (fun p => reachF F f k p || (F.take (j + 1)).any fun x => reachF F f k x.f && (x.t == p)) = boolT (fun p => reachF F f k p || (F.take j).any fun x => reachF F f k x.f && (x.t == p)) from boolT_ext fun i _ => by
              rw [HTK.out, List.any_append]
              simp [HB.out])
            go_wp2_with (first
              | go_skip
              | ((with_reducible show wpList _ _ _ (_ :: _) _ _); (with_reducible apply wpl_loadCH); (· exact cell_flows); (· rfl); (· rfl); (· exact H); (· exact List.mem_cons_of_mem _ (List.mem_cons_of_mem _ (List.mem_cons_of_mem _ m1))); (· exact rgC_g _); (simp only [Act.put, List.setIfInBounds_toArray, List.set_cons_zero, List.set_cons_succ]))
              | ((with_reducible show wpList _ _ _ (_ :: _) _ _); (with_reducible apply wpl_loadCell); (· first | exact cell_party | exact cell_i64); (· rfl); (· rfl); (· first | exact HY.out.1 | exact HY.out.2.1); (simp only [Act.put, List.setIfInBounds_toArray, List.set_cons_zero, List.set_cons_succ]))
              | ((with_reducible show wpList _ _ _ (_ :: _) _ _); (with_reducible apply wpl_loadCH); (· exact cell_bool); (· rfl); (· rfl); (· exact H); (· (repeat (first | (with_reducible exact List.mem_cons_self) | with_reducible apply List.mem_cons_of_mem))); (· exact hget); (simp only [Act.put, List.setIfInBounds_toArray, List.set_cons_zero, List.set_cons_succ])))
            refine ⟨?_, ?_⟩
            · exact ⟨⟨j + 1, by go_num, by omega, by rw [HS.out]; exact H⟩⟩
            · simp [intOf]; omega
          · have HB := Lib.hid hb
            have hget := boolT_get (reachF F f k) o1
            rw [hb] at hget
            clear hb
            have HS := Lib.hid (show boolT (fun p => reachF F f k p || (F.take (j + 1)).any fun x => reachF F f k x.f && (x.t == p)) = boolT (updN (fun p => reachF F f k p || (F.take j).any fun x => reachF F f k x.f && (x.t == p)) xt true) from boolT_ext fun i _ => by
              rw [HTK.out, List.any_append]
              unfold updN
              by_cases e : i = xt
              · subst e; simp [HB.out]
              · have : (xt == i) = false := by simp; omega
                simp [HB.out, e, this])
            go_wp2_with (first
              | go_skip
              | ((with_reducible show wpList _ _ _ (_ :: _) _ _); (with_reducible apply wpl_loadCH); (· exact cell_flows); (· rfl); (· rfl); (· exact H); (· exact List.mem_cons_of_mem _ (List.mem_cons_of_mem _ (List.mem_cons_of_mem _ m1))); (· exact rgC_g _); (simp only [Act.put, List.setIfInBounds_toArray, List.set_cons_zero, List.set_cons_succ]))
              | ((with_reducible show wpList _ _ _ (_ :: _) _ _); (with_reducible apply wpl_loadCell); (· first | exact cell_party | exact cell_i64); (· rfl); (· rfl); (· first | exact HY.out.1 | exact HY.out.2.1); (simp only [Act.put, List.setIfInBounds_toArray, List.set_cons_zero, List.set_cons_succ]))
              | ((with_reducible show wpList _ _ _ (_ :: _) _ _); (with_reducible apply wpl_loadCH); (· exact cell_bool); (· rfl); (· rfl); (· exact H); (· (repeat (first | (with_reducible exact List.mem_cons_self) | with_reducible apply List.mem_cons_of_mem))); (· exact hget); (simp only [Act.put, List.setIfInBounds_toArray, List.set_cons_zero, List.set_cons_succ]))
              | ((with_reducible show wpList _ _ _ (_ :: _) _ _); (with_reducible apply wpl_storeBH); (· exact cell_bool); (· rfl); (· rfl); (· rfl); (· exact H); (· (repeat (first | (with_reducible exact List.mem_cons_self) | with_reducible apply List.mem_cons_of_mem))); (· (rw [boolT_sz]; omega)); (· exact boolT_set _ o2 _); (· (repeat (first | (with_reducible exact Repl.here) | with_reducible apply Repl.there))); (clear H; intro _ H); (simp only [Act.put, List.setIfInBounds_toArray, List.set_cons_zero, List.set_cons_succ])))
            refine ⟨?_, ?_⟩
            · exact ⟨⟨j + 1, by go_num, by omega, by rw [HS.out]; exact H⟩⟩
            · simp [intOf]; omega
        · obtain rfl : n = j := by omega
          have HS := Lib.hid (show boolT (fun p => reachF F f k p || (F.take n).any fun x => reachF F f k x.f && (x.t == p)) = boolT (reachF F f (k + 1)) from by rw [List.take_of_length_le (by rw [HL.out]; exact Nat.le_refl _)]; rfl)
          go_wp2_with (first
            | go_skip
            | ((with_reducible show wpList _ _ _ (_ :: _) _ _); (with_reducible apply wpl_loadCH); (· exact cell_flows); (· rfl); (· rfl); (· exact H); (· exact List.mem_cons_of_mem _ (List.mem_cons_of_mem _ (List.mem_cons_of_mem _ m1))); (· exact rgC_g _); (simp only [Act.put, List.setIfInBounds_toArray, List.set_cons_zero, List.set_cons_succ])))
          refine ⟨?_, ?_⟩
          · exact ⟨⟨k + 1, by go_num, by omega, by rw [← HS.out]; exact H.drop (.there .here)⟩⟩
          · simp [intOf]; omega
    · obtain rfl : s = k := by omega
      go_wp2_with (first
        | go_skip
        | ((with_reducible show wpList _ _ _ (_ :: _) _ _); (with_reducible apply wpl_loadRH row_boolT); (· rfl); (· rfl); (· exact H); (· (repeat (first | (with_reducible exact List.mem_cons_self) | with_reducible apply List.mem_cons_of_mem))); (· (simp only [boolT_sz, Nat.reduceAdd, Nat.reduceLeDiff, Nat.le_refl]; done)); (· with_reducible exact boolT_all ..); (simp only [Act.put, List.setIfInBounds_toArray, List.set_cons_zero, List.set_cons_succ]))
        | ((with_reducible show wpList _ _ _ (_ :: _) _ _); (with_reducible apply wpl_storeRH row_boolT); (· rfl); (· rfl); (· rfl); (· with_reducible exact boolT_cells ..); (· exact H); (· (repeat (first | (with_reducible exact List.mem_cons_self) | with_reducible apply List.mem_cons_of_mem))); (· (simp only [boolT_sz, Nat.reduceAdd, Nat.reduceLeDiff, Nat.le_refl]; done)); (· with_reducible exact boolT_splice ..); (· (repeat (first | (with_reducible exact Repl.here) | with_reducible apply Repl.there))); (clear H; intro _ H); (simp only [Act.put, List.setIfInBounds_toArray, List.set_cons_zero, List.set_cons_succ])))
      exact ret_row1H row_boolT rfl rfl rfl H (by (repeat (first | (with_reducible exact List.mem_cons_self) | with_reducible apply List.mem_cons_of_mem))) (boolT_sz _) ⟨rfl, H.tail.tail⟩
structure RsA (W : World) (l : List Thing) (c : Caps) (f t : Nat) (d : Nat → Nat) (m : Nat) (i v : Value) (wr : World) : Prop where
  out : ∃ (a : Nat) (L : List Nat), i = .int .u8 (a : Int) ∧ d a < 17 ∧ d a ≤ m ∧ WayTo (edge c) d f a L ∧ Heap W (OwnT 33 1 v L.length (L.map pv) :: l) wr
structure RsB (W : World) (l : List Thing) (da : Nat) (i : Value) (wr : World) : Prop where
  out : ∃ k : Nat, i = .int .i64 (k : Int) ∧ k ≤ da ∧ Heap W l wr
structure RsC (W : World) (l : List Thing) (c : Caps) (a : Nat) (d : Nat → Nat) (i j : Value) (wr : World) : Prop where
  out : ∃ k : Nat, i = .int .u8 (a : Int) ∧ j = .int .u8 (k : Int) ∧ 1 ≤ k ∧ k ≤ 17 ∧ (∀ q, 1 ≤ q → q < k → ¬ GoodP (edge c) d a q) ∧ Heap W l wr
theorem rshort_not (c : Caps) (f t : Nat) (hf : f ≤ 255) (ht : t ≤ 255) (hc : GoodC c) (m1 : RgT p (.slice a (edgesOf c).length cc) ∈ l) (m2 : FlT (.slice a (edgesOf c).length cc) (edgesOf c).length (edgesOf c) ∈ l)
    (hn : mayP f = false ∨ mayP t = false ∨ f = t ∨ (mayP f = true ∧ mayP t = true ∧ reachF (edgesOf c) f 16 t = false)) : AnsH W l 41 #[.pointer (some ⟨p, 0, none⟩), .int .u8 (f : Int), .int .u8 (t : Int)] (.slice none 0 0) := by
  intro w H
  have hcase : (decide ((f : Int) < 1) = true) ∨ (decide ((f : Int) < 1) = false ∧ decide ((f : Int) > 16) = true) ∨ (decide ((f : Int) < 1) = false ∧ decide ((f : Int) > 16) = false ∧ decide ((t : Int) < 1) = true) ∨ (decide ((f : Int) < 1) = false ∧ decide ((f : Int) > 16) = false ∧ decide ((t : Int) < 1) = false ∧ decide ((t : Int) > 16) = true) ∨ (decide ((f : Int) < 1) = false ∧ decide ((f : Int) > 16) = false ∧ decide ((t : Int) < 1) = false ∧ decide ((t : Int) > 16) = false ∧ ((f : Int) == (t : Int)) = true) ∨
      (decide ((f : Int) < 1) = false ∧ decide ((f : Int) > 16) = false ∧ decide ((t : Int) < 1) = false ∧ decide ((t : Int) > 16) = false ∧ ((f : Int) == (t : Int)) = false ∧ f ≤ 16 ∧ t < 17 ∧ reachF (edgesOf c) f 16 t = false) := by
    by_cases e1 : f < 1
    · exact .inl (by simp; omega)
    · by_cases e2 : 16 < f
      · exact .inr (.inl ⟨by simp; omega, by simp; omega⟩)
      · by_cases e3 : t < 1
        · exact .inr (.inr (.inl ⟨by simp; omega, by simp; omega, by simp; omega⟩))
        · by_cases e4 : 16 < t
          · exact .inr (.inr (.inr (.inl ⟨by simp; omega, by simp; omega, by simp; omega, by simp; omega⟩)))
          · by_cases e5 : f = t
            · exact .inr (.inr (.inr (.inr (.inl ⟨by simp; omega, by simp; omega, by simp; omega, by simp; omega, by simp [e5]⟩))))
            · refine .inr (.inr (.inr (.inr (.inr ⟨by simp; omega, by simp; omega, by simp; omega, by simp; omega, by simp; omega, by omega, by omega, ?_⟩))))
              have hmf : mayP f = true := by unfold mayP; simp; omega
              have hmt : mayP t = true := by unfold mayP; simp; omega
              rcases hn with h | h | h | h
              · rw [hmf] at h; cases h
              · rw [hmt] at h; cases h
              · exact absurd h e5
              · exact h.2.2
  have hE : ∀ x ∈ edgesOf c, x.f < 17 ∧ x.t < 17 := fun x hx => by have := matE_mem 17 hx; omega
  have hlen := edges_len c
  have hre := fun h16 => reach_H (W := W) (l := l) (p := p) f 16 h16 (by omega) m1 m2 rfl (by omega) hE
  clear hn hE m1 m2
  rcases hcase with g1 | ⟨g1, g2⟩ | ⟨g1, g2, g3⟩ | ⟨g1, g2, g3, g4⟩ | ⟨g1, g2, g3, g4, g5⟩ | ⟨g1, g2, g3, g4, g5, g6, g7, g8⟩
  · clear hre
    go_enter Try.func41, Try.ntmps41
    go_wp2_with (go_skip)
    go_ret
    exact ⟨rfl, H⟩
  · clear hre
    go_enter Try.func41, Try.ntmps41
    go_wp2_with (go_skip)
    go_ret
    exact ⟨rfl, H⟩
  · clear hre
    go_enter Try.func41, Try.ntmps41
    go_wp2_with (go_skip)
    go_ret
    exact ⟨rfl, H⟩
  · clear hre
    go_enter Try.func41, Try.ntmps41
    go_wp2_with (go_skip)
    go_ret
    exact ⟨rfl, H⟩
  · clear hre
    go_enter Try.func41, Try.ntmps41
    go_wp2_with (go_skip)
    go_ret
    exact ⟨rfl, H⟩
  · have hr : AnsH W l 65 #[.pointer (some ⟨p, 0, none⟩), .int .u8 (f : Int), .int .i64 16] (.agg (boolT (reachF (edgesOf c) f 16))) := hre g6
    have HG := Lib.hid g8
    clear hre g8
    go_enter Try.func41, Try.ntmps41
    go_wp2_with (first | go_skip | ((with_reducible refine AnsH.call (by assumption) H ?_); clear H; intro _ H) | ((with_reducible show wpList _ _ _ (_ :: _) _ _); (with_reducible apply wpl_indexBool); (· rfl); (· rfl); (· rfl); (· exact g7); (rw [HG.out]); (simp only [Act.put, List.setIfInBounds_toArray, List.set_cons_zero, List.set_cons_succ])))
    go_ret
    exact ⟨rfl, H⟩
theorem rshort_H (c : Caps) (f t : Nat) (hf : f ≤ 255) (ht : t ≤ 255) (hc : GoodC c) (hb : BndC c) (m1 : RgT p (.slice a (edgesOf c).length cc) ∈ l) (m2 : FlT (.slice a (edgesOf c).length cc) (edgesOf c).length (edgesOf c) ∈ l) (H : Heap W l w) :
    Calls Try.prog 41 #[.pointer (some ⟨p, 0, none⟩), .int .u8 (f : Int), .int .u8 (t : Int)] w (ShortPost W l c f t) := by
  by_cases hn : mayP f = false ∨ mayP t = false ∨ f = t ∨ (mayP f = true ∧ mayP t = true ∧ reachF (edgesOf c) f 16 t = false)
  · refine (rshort_not c f t hf ht hc m1 m2 hn w H).mono ?_
    rintro e w1 ⟨rfl, H⟩
    refine ⟨_, [], rfl, .inl ⟨rfl, ?_⟩, (H.nilRow _ _).slide⟩
    rcases hn with h | h | h | ⟨h1, h2, h⟩
    · exact .inl h
    · exact .inr (.inl h)
    · exact .inr (.inr (.inl h))
    · have h2' := mayP_true h2
      obtain ⟨d, hd⟩ := exists_dist (A := edge c) h2'.1 h2'.2 (fun p q h => (edge_le h).1.2) (fun q => edge_no (by rw [capOf_zero]; omega))
      refine .inr (.inr (.inr ⟨d, hd, ?_⟩))
      rw [reach_iff hc hd (by omega)] at h
      have h3 : ¬ d f ≤ 16 := by simpa using h
      have := hd.le f
      omega
  · have hmf : mayP f = true := by
      cases e : mayP f
      · exact absurd (.inl e) hn
      · rfl
    have hmt : mayP t = true := by
      cases e : mayP t
      · exact absurd (.inr (.inl e)) hn
      · rfl
    have hne : f ≠ t := fun e => hn (.inr (.inr (.inl e)))
    have hre : reachF (edgesOf c) f 16 t = true := by
      cases e : reachF (edgesOf c) f 16 t
      · exact absurd (.inr (.inr (.inr ⟨hmf, hmt, e⟩))) hn
      · rfl
    have hf2 := mayP_true hmf
    have ht2 := mayP_true hmt
    obtain ⟨d, hd⟩ := exists_dist (A := edge c) ht2.1 ht2.2 (fun p q h => (edge_le h).1.2) (fun q => edge_no (by rw [capOf_zero]; omega))
    have hdf : d f < 17 := by
      rw [reach_iff hc hd (by omega)] at hre
      have : d f ≤ 16 := by simpa using hre
      omega
    have hE : ∀ x ∈ edgesOf c, x.f < 17 ∧ x.t < 17 := fun x hx => by have := matE_mem 17 hx; omega
    have hlen := edges_len c
    have hR := fun (l' : List Thing) (hs : ∀ x ∈ l, x ∈ l') (x s : Nat) (hx : x ≤ 16) (hs16 : s ≤ 16) => reach_H (W := W) (l := l') (p := p) x s hx hs16 (hs _ m1) (hs _ m2) rfl (by omega) hE
    have hC := fun (l' : List Thing) (hs : ∀ x ∈ l, x ∈ l') (x y : Nat) (hx : x ≤ 255) (hy : y ≤ 255) => rcap_H (W := W) (l := l') (p := p) x y hx hy (hs _ m1) (hs _ m2) rfl (by omega) (edges_ok hb)
    simp only [hc.cap] at hC
    have ht17 : t < 17 := by omega
    have g1 : decide ((f : Int) < 1) = false := by simp; omega
    have g2 : decide ((f : Int) > 16) = false := by simp; omega
    have g3 : decide ((t : Int) < 1) = false := by simp; omega
    have g4 : decide ((t : Int) > 16) = false := by simp; omega
    have g5 : ((f : Int) == (t : Int)) = false := by simp; omega
    have hr : AnsH W l 65 #[.pointer (some ⟨p, 0, none⟩), .int .u8 (f : Int), .int .i64 16] (.agg (boolT (reachF (edgesOf c) f 16))) := hR l (fun _ h => h) f 16 (by omega) (by omega)
    have HD := Lib.hid (And.intro hd (And.intro hne (And.intro hmf (And.intro hmt hc))))
    have HRE := Lib.hid hre
    have HR := Lib.hid hR
    have HC := Lib.hid hC
    clear hn hmf hmt hre hd hE hR hC m1 m2 hb hc hne
    go_enter Try.func41, Try.ntmps41
    go_wp2_with (first
      | go_skip
      | ((with_reducible refine AnsH.call (by assumption) H ?_); clear H; intro _ H)
      | ((with_reducible show wpList _ _ _ (_ :: _) _ _); (with_reducible apply wpl_indexBool); (· rfl); (· rfl); (· rfl); (· exact ht17); (rw [HRE.out]); (simp only [Act.put, List.setIfInBounds_toArray, List.set_cons_zero, List.set_cons_succ]))
      | ((with_reducible show wpList _ _ _ (_ :: _) _ _); (with_reducible apply wpl_bsOnes _ [.int .u8 (f : Int)]); (· rfl); (· rfl); (· rfl); (· decide); (· decide); (· exact pv_ones f); (· exact bs_party); (· rfl); (· exact H); (clear H; intro pq _ H); (simp only [Act.put, List.setIfInBounds_toArray, List.set_cons_zero, List.set_cons_succ])))
    clear hr
    have H0 := H.celOwn (n := 1) (size := 1) rfl (by unfold maxLen; omega)
    clear H
    go_loopg [1, 7] (d f) (fun m i v wr => RsA W l c f t d m i v wr)
    case atStart => exact ⟨f, [f], rfl, hdf, Nat.le_refl _, WayTo.start .., H0⟩
    case round =>
      obtain ⟨x, L, rfl, hdx, hdm, hway, H'⟩ := hrel.out
      clear H0 hrel
      have H := H'
      clear H'
      by_cases hxt : x = t
      · subst hxt
        have e1 : ((x : Int) != (x : Int)) = false := by simp
        go_wp2_with (go_skip)
        go_ret
        exact ⟨_, L, rfl, .inr ⟨HD.out.2.2.1, HD.out.2.2.2.1, HD.out.2.1, d, HD.out.1, hdf, hway.done HD.out.1.top⟩, H⟩
      · have hxi := HD.out.1.ins x hdx
        have e1 : ((x : Int) != (t : Int)) = true := by simp; omega
        have e2 : ((x : Int) == (t : Int)) = false := by simp; omega
        have hz : d x ≠ 0 := fun e => hxt (HD.out.1.zero e)
        have HW := Lib.hid hway
        have hLl := Lib.hid hway.len
        have hLb : L.length + 1 ≤ maxLen := by have := hway.len; unfold maxLen; omega
        have hLb2 : (L.length + 1) * 1 ≤ 140737488355328 := by have := hway.len; omega
        clear hway
        go_wp2_with (go_skip)
        have H0 := H
        clear H
        go_loopw [8] (fun i wr => RsB W (OwnT 33 1 u7 L.length (L.map pv) :: l) (d x) i wr) (fun i _ => 17 - (intOf i).toNat)
        case atStart => exact ⟨0, rfl, by omega, H0⟩
        case round =>
          obtain ⟨k, rfl, hk, H'⟩ := hrel.out
          clear H0 hrel
          have H := H'
          clear H'
          have hr := HR.out (OwnT 33 1 u7 L.length (L.map pv) :: l) (fun x hx => List.mem_cons_of_mem _ hx) x k (by omega) (by omega)
          by_cases hlt : k < d x
          · have HRX := Lib.hid (show reachF (edgesOf c) x k t = false by
              rw [reach_iff HD.out.2.2.2.2 HD.out.1 (by omega)]
              simp; omega)
            go_wp2_with (first
              | go_skip
              | ((with_reducible refine AnsH.call (by assumption) H ?_); clear H; intro _ H)
              | ((with_reducible show wpList _ _ _ (_ :: _) _ _); (with_reducible apply wpl_indexBool); (· rfl); (· rfl); (· rfl); (· exact ht17); (rw [HRX.out]); (simp only [Act.put, List.setIfInBounds_toArray, List.set_cons_zero, List.set_cons_succ])))
            refine ⟨?_, ?_⟩
            · exact ⟨⟨k + 1, by go_num, by omega, H⟩⟩
            · simp [intOf]; omega
          · obtain rfl : k = d x := by omega
            have HRX := Lib.hid (show reachF (edgesOf c) x (d x) t = true by
              rw [reach_iff HD.out.2.2.2.2 HD.out.1 (by omega)]
              simp)
            have hw1 : wrap64 ((d x : Int) - 1) = (d x : Int) - 1 := IntWalk.wrap64_in _ ⟨by omega, by omega⟩
            go_wp2_with (first
              | go_skip
              | ((with_reducible refine AnsH.call (by assumption) H ?_); clear H; intro _ H)
              | ((with_reducible show wpList _ _ _ (_ :: _) _ _); (with_reducible apply wpl_indexBool); (· rfl); (· rfl); (· rfl); (· exact ht17); (rw [HRX.out]); (simp only [Act.put, List.setIfInBounds_toArray, List.set_cons_zero, List.set_cons_succ])))
            clear hr
            have hnx := HD.out.1.next hdx hxt
            have H0 := H
            clear H
            go_loopw [1, 9] (fun i j wr => RsC W (OwnT 33 1 u7 L.length (L.map pv) :: l) c x d i j wr) (fun _ j _ => 17 - (intOf j).toNat)
            case atStart => exact ⟨1, rfl, rfl, by omega, by omega, (fun q h1 h2 => by omega), H0⟩
            case round =>
              obtain ⟨k, rfl, rfl, hk1, hk17, hno, H'⟩ := hrel.out
              clear H0 hrel
              have H := H'
              clear H'
              by_cases hlt : k < 17
              · have g16 : decide ((k : Int) ≤ 16) = true := by simp; omega
                have hcap := HC.out (OwnT 33 1 u7 L.length (L.map pv) :: l) (fun x hx => List.mem_cons_of_mem _ hx) x k (by omega) (by omega)
                by_cases hA : 0 < c x k
                · have c1 : decide (c x k > 0) = true := by simpa using hA
                  have hA2 : edge c x k = true := HD.out.2.2.2.2.edge.2 hA
                  have hstep := HD.out.1.step x k hA2
                  have hr2 : AnsH W (OwnT 33 1 u7 L.length (L.map pv) :: l) 65 #[.pointer (some ⟨p, 0, none⟩), .int .u8 (k : Int), .int .i64 ((d x : Int) - 1)] (.agg (boolT (reachF (edgesOf c) k (d x - 1)))) := by
                    have := HR.out (OwnT 33 1 u7 L.length (L.map pv) :: l) (fun x hx => List.mem_cons_of_mem _ hx) k (d x - 1) (by omega) (by omega)
                    rwa [show ((d x - 1 : Nat) : Int) = (d x : Int) - 1 by omega] at this
                  by_cases hg : d k + 1 = d x
                  · have HRK := Lib.hid (show reachF (edgesOf c) k (d x - 1) t = true by
                      rw [reach_iff HD.out.2.2.2.2 HD.out.1 (by omega)]
                      simp; omega)
                    have HN := Lib.hid (⟨hk1, by omega, ⟨hg, hA2⟩, hno⟩ : IsNext (edge c) d x k)
                    have HG := Lib.hid hg
                    clear hno hnx hg hA hA2
                    go_wp2_with (first
                      | go_skip
                      | ((with_reducible refine AnsH.call (by assumption) H ?_); clear H; intro _ H)
                      | ((with_reducible show wpList _ _ _ (_ :: _) _ _); (with_reducible apply wpl_indexBool); (· rfl); (· rfl); (· rfl); (· exact ht17); (rw [HRK.out]); (simp only [Act.put, List.setIfInBounds_toArray, List.set_cons_zero, List.set_cons_succ]))
                      | ((with_reducible show wpList _ _ _ (_ :: _) _ _); (with_reducible apply wpl_bsOnes _ [.int .u8 (k : Int)]); (· rfl); (· rfl); (· rfl); (· decide); (· decide); (· exact pv_ones k); (· exact bs_party); (· rfl); (· exact H); (clear H; intro pk _ H); (simp only [Act.put, List.setIfInBounds_toArray, List.set_cons_zero, List.set_cons_succ]))
                      | ((with_reducible show wpList _ _ _ (_ :: _) _ _); (with_reducible apply wpl_appendO slP); (· rfl); (· rfl); (· rfl); (· rfl); (· exact H.perm (.swap _ _ _)); (· exact H.celRd List.mem_cons_self); (· rfl); (· exact pv_one k); (· exact hLb); (· exact hLb2); (clear H; intro v2 _ H); (simp only [Act.put, List.setIfInBounds_toArray, List.set_cons_zero, List.set_cons_succ])))
                    go_roundg (d k)
                    case measure => have := HG.out; omega
                    case rel =>
                      refine ⟨⟨k, L ++ [k], rfl, by have := HG.out; omega, Nat.le_refl _, HW.out.snoc HN.out, ?_⟩⟩
                      rw [List.length_append, List.map_append]
                      exact H.drop (.there .here)
                  · have HRK := Lib.hid (show reachF (edgesOf c) k (d x - 1) t = false by
                      rw [reach_iff HD.out.2.2.2.2 HD.out.1 (by omega)]
                      simp; omega)
                    have HN := Lib.hid (show ∀ q, 1 ≤ q → q < k + 1 → ¬ GoodP (edge c) d x q from fun q h1 h2 => by
                      by_cases e : q = k
                      · subst e; intro hG; exact hg hG.1
                      · exact hno q h1 (by omega))
                    clear hno hnx hg hA hA2
                    go_wp2_with (first
                      | go_skip
                      | ((with_reducible refine AnsH.call (by assumption) H ?_); clear H; intro _ H)
                      | ((with_reducible show wpList _ _ _ (_ :: _) _ _); (with_reducible apply wpl_indexBool); (· rfl); (· rfl); (· rfl); (· exact ht17); (rw [HRK.out]); (simp only [Act.put, List.setIfInBounds_toArray, List.set_cons_zero, List.set_cons_succ])))
                    refine ⟨?_, ?_⟩
                    · exact ⟨⟨k + 1, rfl, by go_num, by omega, by omega, HN.out, H⟩⟩
                    · simp [intOf]; omega
                · have c1 : decide (c x k > 0) = false := by simpa using hA
                  have HN := Lib.hid (show ∀ q, 1 ≤ q → q < k + 1 → ¬ GoodP (edge c) d x q from fun q h1 h2 => by
                    by_cases e : q = k
                    · subst e; intro hG; exact hA (HD.out.2.2.2.2.edge.1 hG.2)
                    · exact hno q h1 (by omega))
                  clear hno hnx hA
                  go_wp2_with (first | go_skip | ((with_reducible refine AnsH.call (by assumption) H ?_); clear H; intro _ H))
                  refine ⟨?_, ?_⟩
                  · exact ⟨⟨k + 1, rfl, by go_num, by omega, by omega, HN.out, H⟩⟩
                  · simp [intOf]; omega
              · exact absurd (fun q h1 h2 => hno q h1 (by omega)) hnx
end
end Go.Proofs.Ytglehneaphigdaa
