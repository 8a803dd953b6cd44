/- books: Of, Copy; two lists of offers that are the same. -/
import Derived.Test.YtacglcpjbepfnaaBok11
namespace Go.Proofs.Ytacglcpjbepfnaa
open Go.RowKit
set_option linter.unusedSimpArgs false
set_option linter.unusedVariables false
set_option maxRecDepth 100000
/-- May these stand behind such a number? -/
def okO (nx : Int) : Int → List Ofr → Bool
  | last, [] => decide (last < nx)
  | last, o :: L => mayO o && decide (last < o.sq) && okO nx o.sq L
theorem okO_iff {nx : Int} : ∀ {L : List Ofr} {last : Int}, okO nx last L = true ↔ (∀ o ∈ L, mayO o = true ∧ last < o.sq ∧ o.sq < nx) ∧ L.Pairwise (fun x y => x.sq < y.sq) ∧ last < nx
  | [], last => by simp [okO]
  | a :: L, last => by
    rw [okO, Bool.and_eq_true, Bool.and_eq_true, decide_eq_true_eq, okO_iff, List.pairwise_cons]
    constructor
    · rintro ⟨⟨h1, h2⟩, h3, h4, h5⟩
      refine ⟨fun o ho => ?_, ⟨fun o ho => (h3 o ho).2.1, h4⟩, by omega⟩
      rcases List.mem_cons.1 ho with rfl | ho
      · exact ⟨h1, h2, h5⟩
      · have := h3 o ho; exact ⟨this.1, by omega, this.2.2⟩
    · rintro ⟨h1, ⟨h2, h3⟩, h4⟩
      have ha := h1 a List.mem_cons_self
      exact ⟨⟨ha.1, ha.2.1⟩, fun o ho => ⟨(h1 o (List.mem_cons_of_mem _ ho)).1, h2 o ho, (h1 o (List.mem_cons_of_mem _ ho)).2.2⟩, h3, ha.2.2⟩
theorem ofE_ok (L : List Ofr) (nx : Int) : ofE L nx = if 32 < L.length then 9 else if okO nx 0 L = true then 0 else 1 := by
  unfold ofE
  split
  · rfl
  · have h : okO nx 0 L = true ↔ (∀ o ∈ L, mayO o = true ∧ 1 ≤ o.sq ∧ o.sq < nx) ∧ L.Pairwise (fun x y => x.sq < y.sq) ∧ 1 ≤ nx := by
      rw [okO_iff]
      constructor
      · rintro ⟨h1, h2, h3⟩
        exact ⟨fun o ho => by have := h1 o ho; exact ⟨this.1, by omega, this.2.2⟩, h2, by omega⟩
      · rintro ⟨h1, h2, h3⟩
        exact ⟨fun o ho => by have := h1 o ho; exact ⟨this.1, by omega, this.2.2⟩, h2, by omega⟩
    by_cases h2 : okO nx 0 L = true
    · rw [if_pos h2, if_pos (h.1 h2)]
    · rw [if_neg h2, if_neg (fun h3 => h2 (h.2 h3))]
theorem run_buildBk2 (a : Option Addr) (n c : Nat) (x : Int) (w : World) : (Instr.build 99 #[(0, .slice a n c), (1, .int .u64 x)]).run Try.prog w = .ok (.agg (bkb (.slice a n c) x)) w := by kernel_rfl
section
variable {ops : Array Oper} {rest : List Oper} {a : Act} {W w : World} {l : List Thing} {Q : Exit → Act → World → Prop} {dst : Option Tmp} {ty : TypeId} {pos : String} {after : Array Edge} {guard : Option (Nat × Bool)}
theorem wpl_buildBk2 {x y : Operand} {ao : Option Addr} {m c : Nat} {n : Int} (hw : Region.wanted ⟨dst, .build 99 #[(0, x), (1, y)], ty, pos, after, guard⟩ (yielded ops a.tmps) = true) (hx : a.eval x = .slice ao m c) (hy : a.eval y = .int .u64 n)
    (h : wpList Try.prog ops Q rest (a.put dst (.agg (bkb (.slice ao m c) n))) w) : wpList Try.prog ops Q (⟨dst, .build 99 #[(0, x), (1, y)], ty, pos, after, guard⟩ :: rest) a w := by
  refine wpl_pure hw _ (fun w => ?_) h
  unfold execOp
  simp only [List.map_toArray, List.map_cons, List.map_nil, hx, hy, Sem.run_bind, run_buildBk2, Result.andThen_ok, Sem.run_pure]
end
/-- What Of answers. -/
def OfPost (W : World) (l : List Thing) (L : List Ofr) (n : Nat) (nx : Int) (e : Ending) (w' : World) : Prop :=
  (ofE L nx = 0 ∧ ∃ p v, e = .returned (.tuple #[.pointer (some ⟨p, 0, none⟩), .int .i64 0]) ∧ Heap W (BkB p v nx :: OfT v n L :: l) w') ∨ (ofE L nx ≠ 0 ∧ e = .returned (.tuple #[.pointer none, .int .i64 (ofE L nx)]) ∧ Heap W l w')
structure OfR (W : World) (l : List Thing) (L : List Ofr) (nx : Int) (n : Nat) (last i : Value) (wr : World) : Prop where
  out : ∃ (k : Nat) (z : Int), k ≤ n ∧ i = .int .i64 (k : Int) ∧ last = .int .u64 z ∧ okO nx 0 L = okO nx z (L.drop k) ∧ Heap W l wr
section
variable {W w : World} {l : List Thing}
set_option maxHeartbeats 8000000
theorem of4_H (ea : Option Addr) (n ec : Nat) (L : List Ofr) (nx : Int) (hl : L.length = n) (hn : n ≤ 1000000) (hL : ∀ o ∈ L, OfrOk o) (R : ∀ l' w', (∀ x ∈ l, x ∈ l') → Heap W l' w' → Rd w' ea (ofrL L)) (H : Heap W l w) :
    Calls Try.prog 63 #[.slice ea n ec, .int .u64 nx] w (OfPost W l L n nx) := by
  have HE := Lib.hid (ofE_ok L nx)
  have HL := Lib.hid hl
  have HK := Lib.hid hL
  have HR := Lib.hid R
  have hl2 := hl
  clear hL R hl
  by_cases hbig : 32 < n
  · have d1 : decide ((n : Int) > 32) = true := decide_eq_true (by omega)
    have d2 : decide (32 < (n : Int)) = true := decide_eq_true (by omega)
    go_enter Try.func63, Try.ntmps63
    go_wp2_with (go_skip)
    go_ret2
    have e1 : ofE L nx = 9 := by rw [HE.out, if_pos (by rw [HL.out]; exact hbig)]
    exact .inr ⟨by rw [e1]; decide, by rw [e1]; rfl, H⟩
  · have d1 : decide ((n : Int) > 32) = false := decide_eq_false (by omega)
    have d2 : decide (32 < (n : Int)) = false := decide_eq_false (by omega)
    have HE2 := Lib.hid (show ofE L nx = if okO nx 0 L = true then 0 else 1 by rw [HE.out, if_neg (by rw [HL.out]; exact hbig)])
    clear hbig hl2 HE
    go_enter Try.func63, Try.ntmps63
    go_wp2_with (go_skip)
    have H0 := H
    clear H
    go_loopw [6, 14] (fun last i wr => OfR W l L nx n last i wr) (fun _ i _ => n - (intOf i).toNat)
    case atStart => exact ⟨0, 0, Nat.zero_le _, rfl, rfl, rfl, H0⟩
    case round =>
      obtain ⟨k, z, hk, rfl, rfl, hz, H⟩ := hrel.out
      clear H0 hrel
      by_cases hlt : k < n
      · have hkL : k < L.length := by rw [HL.out]; exact hlt
        have hrow := ofrL_get L k hkL
        have hlen : k * 7 + 7 ≤ (ofrL L).length := by rw [ofrL_len]; omega
        have hok := HK.out L[k] (List.getElem_mem hkL)
        rw [List.drop_eq_getElem_cons hkL, okO] at hz
        generalize L[k] = x at *
        have M := fun l' => bmay_H (W := W) (l := l') x hok
        obtain ⟨ba, oa, rfl, _⟩ := (HR.out _ _ (fun _ h => h) H).lt (by omega)
        cases hb : mayO x with
        | false =>
          rw [hb] at M hz
          have HZ := Lib.hid (show okO nx 0 L = false from hz)
          clear hz hb hok
          go_wp2_with (first
            | ((with_reducible show wpList _ _ _ (_ :: _) _ _); (with_reducible apply wpl_allocRH row_ofr); (· rfl); (· exact H); (clear H; intro px _ H); (simp only [Act.put, List.setIfInBounds_toArray, List.set_cons_zero, List.set_cons_succ]))
            | go_skip
            | ((with_reducible show wpList _ _ _ (_ :: _) _ _); (with_reducible apply wpl_loadRdR row_ofr); (· rfl); (· rfl); (· exact HR.out _ _ (fun _ h => h) H); (· first | rfl | exact (Nat.add_zero _).symm); (· exact hlen); (· decide); (· exact hrow); (simp only [Act.put, List.setIfInBounds_toArray, List.set_cons_zero, List.set_cons_succ]))
            | ((with_reducible show wpList _ _ _ (_ :: _) _ _); (with_reducible apply wpl_storeRH row_ofr); (· rfl); (· rfl); (· rfl); (· with_reducible exact ofr_cells ..); (· exact H); (· (repeat (first | (with_reducible exact List.mem_cons_self) | with_reducible apply List.mem_cons_of_mem))); (· (simp only [ofrA_sz, Nat.reduceAdd, Nat.reduceLeDiff, Nat.le_refl]; done)); (· with_reducible exact ofr_splice ..); (· (repeat (first | (with_reducible exact Repl.here) | with_reducible apply Repl.there))); (clear H; intro _ H); (simp only [Act.put, List.setIfInBounds_toArray, List.set_cons_zero, List.set_cons_succ]))
            | ((with_reducible show wpList _ _ _ (_ :: _) _ _); (with_reducible apply wpl_loadRH row_ofr); (· rfl); (· rfl); (· exact H); (· (repeat (first | (with_reducible exact List.mem_cons_self) | with_reducible apply List.mem_cons_of_mem))); (· (simp only [ofrA_sz, Nat.reduceAdd, Nat.reduceLeDiff, Nat.le_refl]; done)); (· with_reducible exact ofrA_all ..); (simp only [Act.put, List.setIfInBounds_toArray, List.set_cons_zero, List.set_cons_succ]))
            | ((with_reducible refine AnsH.call (M _) H ?_); clear H; intro _ H))
          go_ret2
          have e1 : ofE L nx = 1 := by rw [HE2.out, HZ.out]; rfl
          exact .inr ⟨by rw [e1]; decide, by rw [e1]; rfl, H.tail⟩
        | true =>
          rw [hb] at M hz
          by_cases hs : x.sq ≤ z
          · have d3 : decide (x.sq ≤ z) = true := decide_eq_true hs
            have HZ := Lib.hid (show okO nx 0 L = false by rw [hz, decide_eq_false (by omega)]; rfl)
            clear hz hb hok hs
            go_wp2_with (first
              | ((with_reducible show wpList _ _ _ (_ :: _) _ _); (with_reducible apply wpl_allocRH row_ofr); (· rfl); (· exact H); (clear H; intro px _ H); (simp only [Act.put, List.setIfInBounds_toArray, List.set_cons_zero, List.set_cons_succ]))
              | go_skip
              | ((with_reducible show wpList _ _ _ (_ :: _) _ _); (with_reducible apply wpl_loadRdR row_ofr); (· rfl); (· rfl); (· exact HR.out _ _ (fun _ h => h) H); (· first | rfl | exact (Nat.add_zero _).symm); (· exact hlen); (· decide); (· exact hrow); (simp only [Act.put, List.setIfInBounds_toArray, List.set_cons_zero, List.set_cons_succ]))
              | ((with_reducible show wpList _ _ _ (_ :: _) _ _); (with_reducible apply wpl_storeRH row_ofr); (· rfl); (· rfl); (· rfl); (· with_reducible exact ofr_cells ..); (· exact H); (· (repeat (first | (with_reducible exact List.mem_cons_self) | with_reducible apply List.mem_cons_of_mem))); (· (simp only [ofrA_sz, Nat.reduceAdd, Nat.reduceLeDiff, Nat.le_refl]; done)); (· with_reducible exact ofr_splice ..); (· (repeat (first | (with_reducible exact Repl.here) | with_reducible apply Repl.there))); (clear H; intro _ H); (simp only [Act.put, List.setIfInBounds_toArray, List.set_cons_zero, List.set_cons_succ]))
              | ((with_reducible show wpList _ _ _ (_ :: _) _ _); (with_reducible apply wpl_loadRH row_ofr); (· rfl); (· rfl); (· exact H); (· (repeat (first | (with_reducible exact List.mem_cons_self) | with_reducible apply List.mem_cons_of_mem))); (· (simp only [ofrA_sz, Nat.reduceAdd, Nat.reduceLeDiff, Nat.le_refl]; done)); (· with_reducible exact ofrA_all ..); (simp only [Act.put, List.setIfInBounds_toArray, List.set_cons_zero, List.set_cons_succ]))
              | ((with_reducible show wpList _ _ _ (_ :: _) _ _); (with_reducible apply wpl_loadCH); (· first | exact cell_u64 | exact cell_party | exact cell_cur | exact cell_i64); (· rfl); (· rfl); (· exact H); (· (repeat (first | (with_reducible exact List.mem_cons_self) | with_reducible apply List.mem_cons_of_mem))); (· with_reducible first | exact ofr_g0 .. | exact ofr_g1 .. | exact ofr_g2 .. | exact ofr_g3 .. | exact ofr_g4 ..); (simp only [Act.put, List.setIfInBounds_toArray, List.set_cons_zero, List.set_cons_succ]))
              | ((with_reducible refine AnsH.call (M _) H ?_); clear H; intro _ H))
            go_ret2
            have e1 : ofE L nx = 1 := by rw [HE2.out, HZ.out]; rfl
            exact .inr ⟨by rw [e1]; decide, by rw [e1]; rfl, H.tail⟩
          · have d3 : decide (x.sq ≤ z) = false := decide_eq_false hs
            have HZ := Lib.hid (show okO nx 0 L = okO nx x.sq (L.drop (k + 1)) by rw [hz, decide_eq_true (by omega)]; rfl)
            clear hz hb hok hs
            go_wp2_with (first
              | ((with_reducible show wpList _ _ _ (_ :: _) _ _); (with_reducible apply wpl_allocRH row_ofr); (· rfl); (· exact H); (clear H; intro px _ H); (simp only [Act.put, List.setIfInBounds_toArray, List.set_cons_zero, List.set_cons_succ]))
              | go_skip
              | ((with_reducible show wpList _ _ _ (_ :: _) _ _); (with_reducible apply wpl_loadRdR row_ofr); (· rfl); (· rfl); (· exact HR.out _ _ (fun _ h => h) H); (· first | rfl | exact (Nat.add_zero _).symm); (· exact hlen); (· decide); (· exact hrow); (simp only [Act.put, List.setIfInBounds_toArray, List.set_cons_zero, List.set_cons_succ]))
              | ((with_reducible show wpList _ _ _ (_ :: _) _ _); (with_reducible apply wpl_storeRH row_ofr); (· rfl); (· rfl); (· rfl); (· with_reducible exact ofr_cells ..); (· exact H); (· (repeat (first | (with_reducible exact List.mem_cons_self) | with_reducible apply List.mem_cons_of_mem))); (· (simp only [ofrA_sz, Nat.reduceAdd, Nat.reduceLeDiff, Nat.le_refl]; done)); (· with_reducible exact ofr_splice ..); (· (repeat (first | (with_reducible exact Repl.here) | with_reducible apply Repl.there))); (clear H; intro _ H); (simp only [Act.put, List.setIfInBounds_toArray, List.set_cons_zero, List.set_cons_succ]))
              | ((with_reducible show wpList _ _ _ (_ :: _) _ _); (with_reducible apply wpl_loadRH row_ofr); (· rfl); (· rfl); (· exact H); (· (repeat (first | (with_reducible exact List.mem_cons_self) | with_reducible apply List.mem_cons_of_mem))); (· (simp only [ofrA_sz, Nat.reduceAdd, Nat.reduceLeDiff, Nat.le_refl]; done)); (· with_reducible exact ofrA_all ..); (simp only [Act.put, List.setIfInBounds_toArray, List.set_cons_zero, List.set_cons_succ]))
              | ((with_reducible show wpList _ _ _ (_ :: _) _ _); (with_reducible apply wpl_loadCH); (· first | exact cell_u64 | exact cell_party | exact cell_cur | exact cell_i64); (· rfl); (· rfl); (· exact H); (· (repeat (first | (with_reducible exact List.mem_cons_self) | with_reducible apply List.mem_cons_of_mem))); (· with_reducible first | exact ofr_g0 .. | exact ofr_g1 .. | exact ofr_g2 .. | exact ofr_g3 .. | exact ofr_g4 ..); (simp only [Act.put, List.setIfInBounds_toArray, List.set_cons_zero, List.set_cons_succ]))
              | ((with_reducible refine AnsH.call (M _) H ?_); clear H; intro _ H))
            refine ⟨⟨k + 1, x.sq, by omega, by go_num, rfl, HZ.out, H.tail⟩, ?measure⟩
            case measure => simp [intOf]; omega
      · obtain rfl : k = n := by omega
        rw [List.drop_of_length_le (by rw [HL.out]; exact Nat.le_refl _), okO] at hz
        by_cases hs : nx ≤ z
        · have d3 : decide (nx ≤ z) = true := decide_eq_true hs
          have HZ := Lib.hid (show okO nx 0 L = false by rw [hz, decide_eq_false (by omega)])
          clear hz hs
          go_wp2_with (go_skip)
          go_ret2
          have e1 : ofE L nx = 1 := by rw [HE2.out, HZ.out]; rfl
          exact .inr ⟨by rw [e1]; decide, by rw [e1]; rfl, H⟩
        · have d3 : decide (nx ≤ z) = false := decide_eq_false hs
          have HZ := Lib.hid (show okO nx 0 L = true by rw [hz, decide_eq_true (by omega)])
          clear hz hs
          go_wp2_with (go_skip)
          refine (cloneO_H ea k ec L HL.out hn HR.out H).mono ?_
          clear H
          rintro e w2 ⟨v2, rfl, H⟩
          obtain ⟨a2, c2, rfl, _, _⟩ := RowT.form0 (H.ok _ List.mem_cons_self)
          go_wp2_with (first
            | ((with_reducible show wpList _ _ _ (_ :: _) _ _); (with_reducible apply wpl_buildBk2); (· rfl); (· rfl); (· rfl); (simp only [Act.put, List.setIfInBounds_toArray, List.set_cons_zero, List.set_cons_succ]))
            | ((with_reducible show wpList _ _ _ (_ :: _) _ _); (with_reducible apply wpl_boxRH); (· rfl); (· rfl); (· exact H); (clear H; intro pb _ H); (simp only [Act.put, List.setIfInBounds_toArray, List.set_cons_zero, List.set_cons_succ]))
            | go_skip)
          go_ret2
          exact .inl ⟨by rw [HE2.out, HZ.out]; rfl, _, _, rfl, H⟩
theorem sameOffers_P {L : List Ofr} (a b : Option Addr) (n c d : Nat) (hA : L.length = n) (hn : n ≤ 1000000) (RA : ∀ w', Heap W l w' → Rd w' a (ofrL L)) (RB : ∀ w', Heap W l w' → Rd w' b (ofrL L)) :
    AnsH W l 67 #[.slice a n c, .slice b n d] (.bool true) := by
  intro w H
  have S := sameO_P (W := W) (l := l) a b n c d hA hn RA RB
  clear RA RB
  go_enter Try.func67, Try.ntmps67
  go_wp2_with (first | go_skip | ((with_reducible refine AnsH.call (by assumption) H ?_); clear H; intro _ H))
  go_ret
  exact ⟨rfl, H⟩
end
end Go.Proofs.Ytacglcpjbepfnaa
