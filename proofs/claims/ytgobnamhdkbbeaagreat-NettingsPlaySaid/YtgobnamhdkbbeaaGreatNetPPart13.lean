/- Part 13 of what ProofNettingsPlay stands on: Rnd10, Rnd11, NetN, Ref08m. -/
import Derived.Test.YtgobnamhdkbbeaaGreatNetPPart12
/- rounds: one round. -/
namespace Go.Proofs.YtgobnamhdkbbeaaGreat
open Go.RowKit
set_option linter.unusedSimpArgs false
set_option linter.unusedVariables false
theorem slSt8 : SlTy Tryz.prog 152 154 2 16 (.agg #[.pointer none, .bool false]) := slTy_mk Tryz.underlying152 (by kernel_rfl) rfl (by decide)
theorem stp0_sz : stp0.size = 2 := rfl
theorem stp_len (p : Nat) (b : Bool) : (stp p b).toList.length = 2 := rfl
theorem stp_size (p : Nat) (b : Bool) : (stp p b).size = 2 := rfl
/-- What the row of steps holds so far. -/
def StpIn (S : List (Nat × Bool)) (ps : List Nat) (xs : List Value) (k : Nat) : Prop := ∀ (j i : Nat) (b : Bool) (p : Nat), j < k → S[j]? = some (i, b) → ps[i]? = some p → ((xs.drop (j * 2)).take 2).toArray = stp p b
def putS (xs : List Value) (k p : Nat) (b : Bool) : List Value := xs.take (k * 2) ++ (stp p b).toList ++ xs.drop (k * 2 + 2)
theorem putS_len {xs : List Value} {k p : Nat} {b : Bool} (h : k * 2 + 2 ≤ xs.length) : (putS xs k p b).length = xs.length := by
  unfold putS
  rw [List.length_append, List.length_append, stp_len]
  simp
  omega
theorem putS_at {xs : List Value} {k p : Nat} {b : Bool} (h : k * 2 + 2 ≤ xs.length) : (((putS xs k p b).drop (k * 2)).take 2).toArray = stp p b := by
  unfold putS
  rw [List.append_assoc, List.drop_append_of_le_length (by simp; omega), List.drop_of_length_le (by simp; omega), List.nil_append, List.take_append_of_le_length (by rw [stp_len]; omega)]
  rfl
theorem StpIn.put {S : List (Nat × Bool)} {ps : List Nat} {xs : List Value} {k i p : Nat} {b : Bool} (h : StpIn S ps xs k) (hl : k * 2 + 2 ≤ xs.length) (hs : S[k]? = some (i, b)) (hp : ps[i]? = some p) : StpIn S ps (putS xs k p b) (k + 1) := by
  intro j i' b' p' hj h1 h2
  by_cases e : j = k
  · subst e
    rw [hs] at h1
    cases h1
    rw [hp] at h2
    cases h2
    exact putS_at hl
  · rw [← h j i' b' p' (by omega) h1 h2]
    congr 1
    apply List.ext_getElem?
    intro q
    rw [List.getElem?_take, List.getElem?_take]
    by_cases hq : q < 2
    · rw [if_pos hq, if_pos hq, List.getElem?_drop, List.getElem?_drop]
      unfold putS
      rw [List.append_assoc, List.getElem?_append_left (by simp; omega), List.getElem?_take, if_pos (by omega)]
    · rw [if_neg hq, if_neg hq]
structure RnA (W : World) (l : List Thing) (F : List Flw) (N : List Int) (ps : List Nat) (S : List (Nat × Bool)) (sg n : Nat) (m i : Value) (wr : World) : Prop where
  out : ∃ (k : Nat) (xs : List Value), k ≤ n ∧ i = .int .i64 (k : Int) ∧ m = .int .i64 (minS F N 1099511627776 (S.take k)) ∧ xs.length = n * 2 ∧ StpIn S ps xs k ∧ Heap W (OwnT 154 2 (.slice (some ⟨sg, 0, none⟩) n n) n xs :: l) wr
structure RnB (W : World) (l : List Thing) (F : List Flw) (N : List Int) (ps : List Nat) (S : List (Nat × Bool)) (v : Int) (sg n : Nat) (xs : List Value) (i : Value) (wr : World) : Prop where
  out : ∃ (k : Nat), k ≤ n ∧ i = .int .i64 (k : Int) ∧ Heap W (OwnT 154 2 (.slice (some ⟨sg, 0, none⟩) n n) n xs :: (dbs ps F (goS v (S.take k) N) ++ l)) wr
theorem nodup_before {S : List (Nat × Bool)} (h : (S.map Prod.fst).Nodup) {k i : Nat} {b : Bool} (hk : S[k]? = some (i, b)) : ∀ x ∈ S.take k, x.1 ≠ i := by
  intro x hx he
  obtain ⟨j, hj, rfl⟩ := List.mem_iff_getElem.1 hx
  rw [List.length_take] at hj
  have h1 : (S.map Prod.fst)[j]? = some i := by
    rw [List.getElem?_map, List.getElem?_eq_getElem (by omega)]
    simp only [List.getElem_take] at he
    simp [he]
  have h2 : (S.map Prod.fst)[k]? = some i := by rw [List.getElem?_map, hk]; rfl
  have hl : j < (S.map Prod.fst).length := by simp; omega
  have hl2 : k < (S.map Prod.fst).length := by rw [List.length_map]; exact (List.getElem?_eq_some_iff.1 hk).1
  rw [List.getElem?_eq_getElem hl] at h1
  rw [List.getElem?_eq_getElem hl2] at h2
  exact List.pairwise_iff_getElem.1 h j k hl hl2 (by omega) (Option.some.inj (h1.trans h2.symm))
section
variable {W w : World} {l : List Thing}
set_option maxRecDepth 100000
set_option maxHeartbeats 8000000
theorem mostS_H (p : Nat) (x : Flw) (m : Int) (b : Bool) {F : List Flw} {N : List Int} {i : Nat} (hx : F[i]? = some x) (hm : N[i]? = some m) (h : debtT p x m ∈ l) : AnsH W l 95 #[.agg (stp p b)] (.int .i64 (mostS F N i b)) := by
  have A := most8_H (W := W) p x.f x.t m (x.n - m) b h
  unfold mostS
  simp only [List.getD_eq_getElem?_getD, List.getElem?_map, hx, hm, Option.map_some, Option.getD_some]
  exact A
attribute [local go_sem high] run_min2
theorem round8_H (ea : Option Addr) (n c : Nat) (ps : List Nat) (F : List Flw) (N : List Int) (hM : MayD F) (I : InvN F N) (hp : ps.length = n) (hf : F.length = n) (hn : n ≤ 1000)
    (R : ∀ l' w', (∀ x ∈ l, x ∈ l') → Heap W l' w' → Rd w' ea (ptrL ps)) (ta : Option Addr) (tn tc : Nat) (T : List Nat) (S : List (Nat × Bool)) (hS : StepsAre F N T S) (h2 : ∀ x ∈ S, x.1 < F.length ∧ 1 ≤ mostS F N x.1 x.2) (h3 : (S.map Prod.fst).Nodup)
    (hT : T.length = tn) (hT1 : 1 ≤ tn) (hT2 : tn ≤ 16) (RT : ∀ l' w', (∀ x ∈ l, x ∈ l') → Heap W l' w' → Rd w' ta (T.map pv)) (H : Heap W (dbs ps F N ++ l) w) :
    Calls Tryz.prog 63 #[.slice ea n c, .slice ta tn tc] w fun e w' => e = .returned (.tuple #[]) ∧ Heap W (dbs ps F (goS (minS F N 1099511627776 S) S N) ++ l) w' := by
  have hN : N.length = n := I.len.trans hf
  have RW := RT _ _ (fun x hx => List.mem_append_right _ hx) H
  obtain ⟨tb, to, rfl, _⟩ := RW.lt (by simp; omega)
  have HI := Lib.hid I
  have HM := Lib.hid hM
  have HP := Lib.hid (And.intro hp (And.intro hf hN))
  have HR := Lib.hid R
  have HT := Lib.hid RT
  have HTL := Lib.hid hT
  have HS := Lib.hid hS
  have H2 := Lib.hid h2
  have H3 := Lib.hid h3
  have hSl : S.length = tn := hS.1.trans hT
  have v1 := minS_pos F N S 1099511627776 (by omega) fun x hx => (h2 x hx).2
  have v2 := (minS_le F N S 1099511627776).1
  have HV := Lib.hid (And.intro v1 v2)
  clear v1 v2 hp hf hN R RT hS h2 h3 hM I RW hT
  have hSL := Lib.hid hSl
  clear hSl
  go_enter Tryz.func63, Tryz.ntmps63
  go_wp2_with (first
    | go_skip
    | ((with_reducible show wpList _ _ _ (_ :: _) _ _); (with_reducible apply wpl_makeC slSt8 (n := tn) (m := tn)); (· rfl); (· rfl); (· rfl); (· rfl); (· exact Nat.le_refl _); (· omega); (· omega); (· exact H); (clear H; intro sg _ H); (simp only [Act.put, List.setIfInBounds_toArray, List.set_cons_zero, List.set_cons_succ])))
  replace H := H.celOwn (n := tn) (size := 2) (by rw [size_madeCells]) (by unfold maxLen; omega)
  obtain ⟨xs0, hx0⟩ : ∃ xs0, (madeCells (Value.cells (.agg #[.pointer none, .bool false])) (tn * 2)).toList = xs0 := ⟨_, rfl⟩
  have hx0l : xs0.length = tn * 2 := by rw [← hx0]; simp [size_madeCells]
  rw [hx0] at H
  clear hx0
  have H0 := H
  clear H
  go_loopw [5, 15] (fun m i wr => RnA W (dbs ps F N ++ l) F N ps S sg tn m i wr) (fun _ i _ => tn - (intOf i).toNat)
  case atStart => exact ⟨0, xs0, Nat.zero_le _, rfl, rfl, hx0l, (fun j i b p hj => absurd hj (by omega)), H0⟩
  case round =>
    obtain ⟨k, xs, hk, rfl, rfl, hxl, hin, H⟩ := hrel.out
    clear H0 hrel hx0l
    have HIN := Lib.hid hin
    clear hin
    by_cases hlt : k < tn
    · have hmn : k % tn = k := Nat.mod_eq_of_lt hlt
      have hk1 : (k + 1) % tn < tn := Nat.mod_lt _ (by omega)
      obtain ⟨i, b, s1, s2⟩ := HS.out.2 k (by rw [HTL.out]; exact hlt)
      rw [HTL.out] at s2
      obtain ⟨ta1, hta⟩ : ∃ x, T.getD k 0 = x := ⟨_, rfl⟩
      obtain ⟨tb1, htb⟩ : ∃ x, T.getD ((k + 1) % tn) 0 = x := ⟨_, rfl⟩
      rw [hta, htb] at s2
      have Rw := HT.out _ _ (fun x hx => List.mem_cons_of_mem _ (List.mem_append_right _ hx)) H
      have hTm : (T.map pv).length = tn := by simp [HTL.out]
      have c1 : wr.cell? ⟨tb, to + k, none⟩ = some (.int .u8 (ta1 : Int)) := by
        rw [Rw.get (i := k) (by omega)]
        subst hta
        simp [pv, List.getD_eq_getElem?_getD, HTL.out, hlt]
      have c2 : wr.cell? ⟨tb, to + (k + 1) % tn, none⟩ = some (.int .u8 (tb1 : Int)) := by
        rw [Rw.get (i := (k + 1) % tn) (by omega)]
        subst htb
        simp [pv, List.getD_eq_getElem?_getD, HTL.out, hk1]
      have hi := (H2.out _ (List.mem_of_getElem? s1)).1
      simp only at hi
      rw [HP.out.2.1] at hi
      have hpi : ps[i]? = some (ps[i]'(by rw [HP.out.1]; exact hi)) := List.getElem?_eq_getElem _
      have hfi : F[i]? = some (F[i]'(by rw [HP.out.2.1]; exact hi)) := List.getElem?_eq_getElem _
      have hni : N[i]? = some (N[i]'(by rw [HP.out.2.2]; exact hi)) := List.getElem?_eq_getElem _
      generalize ps[i]'(by rw [HP.out.1]; exact hi) = p at *
      generalize F[i]'(by rw [HP.out.2.1]; exact hi) = x at *
      generalize N[i]'(by rw [HP.out.2.2]; exact hi) = m at *
      have hle : k * 2 + 2 ≤ xs.length := by omega
      have hle2 : k * 2 + 2 ≤ (putS xs k p b).length := by rw [putS_len hle]; exact hle
      have A1 := fun ys => step8_H (W := W) (l := OwnT 154 2 (.slice (some ⟨sg, 0, none⟩) tn tn) tn ys :: (dbs ps F N ++ l)) ea n c ps F N HM.out HP.out.1 HP.out.2.1 HP.out.2.2 hn (fun l' w' hh H' => HR.out l' w' (fun x hx => hh x (List.mem_cons_of_mem _ (List.mem_append_right _ hx))) H') (fun i p x m g1 g2 g3 => List.mem_cons_of_mem _ (dbs_mem g1 g2 g3)) ta1 tb1 i p b s2 hpi
      have A2 := fun ys => mostS_H (W := W) (l := OwnT 154 2 (.slice (some ⟨sg, 0, none⟩) tn tn) tn ys :: (dbs ps F N ++ l)) p x m b hfi hni (List.mem_cons_of_mem _ (dbs_mem hpi hfi hni))
      obtain ⟨kk, hkk⟩ : ∃ kk, (k + 1) % tn = kk := ⟨_, rfl⟩
      have hmod : ((k : Int) + 1) % (tn : Int) = (kk : Int) := by rw [← hkk, Int.natCast_emod]; rfl
      rw [hkk] at c2 hk1
      clear hkk
      have HPI := Lib.hid (And.intro hpi s1)
      clear hfi hni hpi s2 s1 Rw hta htb
      go_wp2_with (first
        | go_skip
        | ((with_reducible refine AnsH.call (A1 _) H ?_); clear H; intro _ H) | ((with_reducible refine AnsH.call (A2 _) H ?_); clear H; intro _ H)
        | ((with_reducible show wpList _ _ _ (_ :: _) _ _); (with_reducible apply wpl_storeOwnR row_stp); (· rfl); (· rfl); (· rfl); (· exact stp_cells2 ..); (· exact H); (· exact List.mem_cons_self); (· exact (Nat.zero_add _).symm); (· exact hle); (· exact (rfl : _ = putS xs k p b)); (· exact Repl.here); (clear H; intro _ H); (simp only [Act.put, List.setIfInBounds_toArray, List.set_cons_zero, List.set_cons_succ]))
        | ((with_reducible show wpList _ _ _ (_ :: _) _ _); (with_reducible apply wpl_loadRdR row_stp); (· rfl); (· rfl); (· exact H.ownRd List.mem_cons_self); (· exact (Nat.zero_add _).symm); (· exact hle2); (· decide); (· exact putS_at hle); (simp only [Act.put, List.setIfInBounds_toArray, List.set_cons_zero, List.set_cons_succ])))
      refine ⟨⟨k + 1, _, by omega, by go_num, ?_, ?_, HIN.out.put hle HPI.out.2 HPI.out.1, H⟩, ?measure1⟩
      case measure1 => simp [intOf]; omega
      · rw [List.take_add_one, HPI.out.2, Option.toList_some, minS_snoc]
      · rw [putS_len hle, hxl]
    · obtain rfl : k = tn := by omega
      rw [List.take_of_length_le (by rw [hSL.out]; exact Nat.le_refl _)]
      have HXL := Lib.hid hxl
      clear hxl
      go_wp2_with (go_skip)
      have H0 := H
      clear H
      go_loopw [44] (fun i wr => RnB W l F N ps S (minS F N 1099511627776 S) sg k xs i wr) (fun i _ => k - (intOf i).toNat)
      case atStart => exact ⟨0, Nat.zero_le _, rfl, H0⟩
      case round =>
        obtain ⟨j, hj, rfl, H⟩ := hrel.out
        clear H0 hrel
        by_cases hlt2 : j < k
        · obtain ⟨i, b, s1, s2⟩ := HS.out.2 j (by rw [HTL.out]; exact hlt2)
          clear s2
          have hmem := List.mem_of_getElem? s1
          have hi := (H2.out _ hmem).1
          simp only at hi
          rw [HP.out.2.1] at hi
          have hpi : ps[i]? = some (ps[i]'(by rw [HP.out.1]; exact hi)) := List.getElem?_eq_getElem _
          have hfi : F[i]? = some (F[i]'(by rw [HP.out.2.1]; exact hi)) := List.getElem?_eq_getElem _
          have hni : N[i]? = some (N[i]'(by rw [HP.out.2.2]; exact hi)) := List.getElem?_eq_getElem _
          generalize ps[i]'(by rw [HP.out.1]; exact hi) = p at *
          generalize F[i]'(by rw [HP.out.2.1]; exact hi) = x at *
          generalize N[i]'(by rw [HP.out.2.2]; exact hi) = m at *
          have hb := HI.out.bnd i x m hfi hni
          have hx := (HM.out.okX hfi).2.2.2.2.2.2
          have hgo : (goS (minS F N 1099511627776 S) (S.take j) N)[i]? = some m := by
            rw [goS_other _ _ _ _ (nodup_before H3.out s1)]; exact hni
          have hsn : goS (minS F N 1099511627776 S) (S.take (j + 1)) N = (goS (minS F N 1099511627776 S) (S.take j) N).set i (m + if b then minS F N 1099511627776 S else -minS F N 1099511627776 S) := by
            rw [List.take_add_one, s1, Option.toList_some, goS_snoc, List.getD_eq_getElem?_getD, hgo]; rfl
          have HSN := Lib.hid hsn
          have HV1 := HV.out.1
          have HV2 := HV.out.2
          generalize minS F N 1099511627776 S = v at *
          obtain ⟨r, g1, g2⟩ := dbs_pull (l := l) hpi hfi hgo
          have hst := HIN.out j i b p (by omega) s1 hpi
          have hle : j * 2 + 2 ≤ xs.length := by rw [HXL.out]; omega
          have HX := Lib.hid hx
          clear hsn hfi hni hmem hpi s1 hx
          have C := fun q w' (H' : Heap W (DbC p x.f x.t m (x.n - m) :: Cel q (stp p b) 154 :: OwnT 154 2 (.slice (some ⟨sg, 0, none⟩) k k) k xs :: r) w') => goes8_H p x.f x.t m (x.n - m) v b (by have := HX.out; omega) (by have := HX.out; omega) (by omega) H'
          go_wp2_with (first
            | go_skip
            | ((with_reducible show wpList _ _ _ (_ :: _) _ _); (with_reducible apply wpl_allocRH row_stp); (· rfl); (· exact H); (clear H; intro q _ H); (simp only [Act.put, List.setIfInBounds_toArray, List.set_cons_zero, List.set_cons_succ]))
            | ((with_reducible show wpList _ _ _ (_ :: _) _ _); (with_reducible apply wpl_loadRdR row_stp); (· rfl); (· rfl); (· exact H.ownRd List.mem_cons_self); (· exact (Nat.zero_add _).symm); (· exact hle); (· decide); (· exact hst); (simp only [Act.put, List.setIfInBounds_toArray, List.set_cons_zero, List.set_cons_succ]))
            | ((with_reducible show wpList _ _ _ (_ :: _) _ _); (with_reducible apply wpl_storeRH row_stp); (· rfl); (· rfl); (· rfl); (· with_reducible exact stp_cells2 ..); (· exact H); (· (repeat (first | (with_reducible exact List.mem_cons_self) | with_reducible apply List.mem_cons_of_mem))); (· (simp only [stp0_sz, Nat.reduceAdd, Nat.reduceLeDiff, Nat.le_refl]; done)); (· with_reducible exact splice_all rfl); (· (repeat (first | (with_reducible exact Repl.here) | with_reducible apply Repl.there))); (clear H; intro _ H); (simp only [Act.put, List.setIfInBounds_toArray, List.set_cons_zero, List.set_cons_succ]))
            | ((with_reducible show wpList _ _ _ (_ :: _) _ _); (with_reducible apply wpl_loadRH row_stp); (· rfl); (· rfl); (· exact H); (· (repeat (first | (with_reducible exact List.mem_cons_self) | with_reducible apply List.mem_cons_of_mem))); (· (simp only [stp_size, Nat.reduceAdd, Nat.reduceLeDiff, Nat.le_refl]; done)); (· with_reducible exact stp_all ..); (simp only [Act.put, List.setIfInBounds_toArray, List.set_cons_zero, List.set_cons_succ]))
            | (refine (C _ _ (H.pull (.there (.there g1)))).mono ?_; clear C H; rintro _ _ ⟨rfl, H⟩))
          refine ⟨⟨j + 1, by omega, by go_num, ?_⟩, ?measure2⟩
          case measure2 => simp [intOf]; omega
          rw [HSN.out]
          replace H := H.drop (.there .here)
          refine H.perm ?_
          refine (List.Perm.swap _ _ _).trans (.cons _ ?_)
          have := (g2 (m + if b = true then v else -v)).perm.symm
          unfold debtT at this
          rw [show x.n - (m + if b = true then v else -v) = x.n - m - if b = true then v else -v by omega] at this
          exact this
        · obtain rfl : j = k := by omega
          rw [List.take_of_length_le (by rw [hSL.out]; exact Nat.le_refl _)] at H
          go_wp2_with (go_skip)
          go_end0
          exact ⟨rfl, H.tail⟩
end
end Go.Proofs.YtgobnamhdkbbeaaGreat

/- rounds.Least. -/
namespace Go.Proofs.YtgobnamhdkbbeaaGreat
open Go.RowKit
set_option linter.unusedSimpArgs false
set_option linter.unusedVariables false
theorem slDb8 : SlTy Tryz.prog 108 109 1 8 (.pointer none) := slTy_mk Tryz.underlying108 (by kernel_rfl) rfl (by decide)
theorem dbs_app : ∀ (ps : List Nat) (F : List Flw) (N : List Int) (p : Nat) (x : Flw) (m : Int), ps.length = F.length → N.length = F.length → dbs (ps ++ [p]) (F ++ [x]) (N ++ [m]) = dbs ps F N ++ [debtT p x m]
  | [], [], [], p, x, m, _, _ => rfl
  | [], y :: F, _, p, x, m, h, _ => by simp at h
  | [], [], k :: N, p, x, m, _, h => by simp at h
  | q :: ps, [], _, p, x, m, h, _ => by simp at h
  | q :: ps, y :: F, [], p, x, m, _, h => by simp at h
  | q :: ps, y :: F, k :: N, p, x, m, h1, h2 => by
    show debtT q y k :: dbs (ps ++ [p]) (F ++ [x]) (N ++ [m]) = _
    rw [dbs_app ps F N p x m (by simpa using h1) (by simpa using h2)]
    rfl
theorem leftL_app : ∀ (F : List Flw) (N : List Int) (x : Flw) (m : Int), N.length = F.length → leftL (F ++ [x]) (N ++ [m]) = leftL F N ++ if 0 < m then [⟨x.f, x.t, m⟩] else []
  | [], [], x, m, _ => by simp [leftL]
  | [], k :: N, x, m, h => by simp at h
  | y :: F, [], x, m, h => by simp at h
  | y :: F, k :: N, x, m, h => by
    show _ ++ leftL (F ++ [x]) (N ++ [m]) = (_ ++ leftL F N) ++ _
    rw [leftL_app F N x m (by simpa using h), List.append_assoc]
theorem leftL_take {F : List Flw} {N : List Int} (h : N.length = F.length) {k : Nat} {x : Flw} {m : Int} (hx : F[k]? = some x) (hm : N[k]? = some m) : leftL (F.take (k + 1)) (N.take (k + 1)) = leftL (F.take k) (N.take k) ++ if 0 < m then [⟨x.f, x.t, m⟩] else [] := by
  rw [List.take_add_one, hx, List.take_add_one, hm]
  exact leftL_app _ _ _ _ (by simp; omega)
theorem leftL_len : ∀ (F : List Flw) (N : List Int), (leftL F N).length ≤ F.length
  | [], N => by simp [leftL]
  | x :: F, [] => by simp [leftL]
  | x :: F, m :: N => by
    have := leftL_len F N
    rw [leftL, List.length_append, List.length_cons]
    split <;> simp <;> omega
theorem dbt_flow (a b n k : Int) : (dbt a b n k).extract 0 (0 + 3) = flow a b n := by simp [dbt, flow]
theorem bd8 (a b n : Int) : Array.foldl (fun (cs : Array Value) (x : Value × Nat) => cs.setIfInBounds x.2 x.1) #[.int .u8 0, .int .u8 0, .int .i64 0, .int .i64 0] (flow a b n).zipIdx 0 (flow a b n).size = dbt a b n 0 := by simp [flow, dbt]
theorem bd8b (a b n : Int) : Array.foldl (fun (cs : Array Value) (x : Value × Nat) => cs.setIfInBounds x.2 x.1) #[.int .u8 0, .int .u8 0, .int .i64 0, .int .i64 0] (flow a b n).zipIdx 0 3 = dbt a b n 0 := by simp [flow, dbt]
theorem OwnT.form0 {w : World} {e size n : Nat} {v : Value} {xs : List Value} (h : (OwnT e size v n xs).ok w) : ∃ a c, v = .slice a n c ∧ n ≤ c ∧ c ≤ maxLen := by
  obtain ⟨_, ⟨h1, h2⟩ | ⟨g, off, cap, cur, h1, _, _, h2, h3, _⟩⟩ := h
  · exact ⟨none, 0, by rw [h1, h2], by omega, by unfold maxLen; omega⟩
  · exact ⟨_, cap, h1, h2, h3⟩
/-- The pointers so far. -/
def PtrIn (ps : List Nat) (xs : List Value) (k : Nat) : Prop := ps.length = k ∧ xs.take k = ptrL ps
theorem PtrIn.put {ps : List Nat} {xs : List Value} {k : Nat} (h : PtrIn ps xs k) (hk : k < xs.length) (p : Nat) : PtrIn (ps ++ [p]) (xs.set k (.pointer (some ⟨p, 0, none⟩))) (k + 1) := by
  refine ⟨by simp [h.1], ?_⟩
  rw [List.take_add_one, List.take_set_of_le (Nat.le_refl k), h.2, List.getElem?_set_self hk]
  simp [ptrL]
structure LsA (W : World) (l : List Thing) (F : List Flw) (g n : Nat) (i : Value) (wr : World) : Prop where
  out : ∃ (k : Nat) (ps : List Nat) (xs : List Value), k ≤ n ∧ i = .int .i64 (k : Int) ∧ xs.length = n ∧ PtrIn ps xs k ∧ Heap W (OwnT 109 1 (.slice (some ⟨g, 0, none⟩) n n) n xs :: (dbs ps (F.take k) ((F.take k).map Flw.n) ++ l)) wr
structure LsB (W : World) (l : List Thing) (F : List Flw) (ps : List Nat) (g n : Nat) (q : Int) (v j : Value) (wr : World) : Prop where
  out : ∃ (k : Nat) (N : List Int), v = .slice none 0 0 ∧ j = .int .i64 (k : Int) ∧ RdTr F k N ∧ (k : Int) ≤ q ∧ Heap W (dbs ps F N ++ (OwnT 109 1 (.slice (some ⟨g, 0, none⟩) n n) n (ptrL ps) :: l)) wr
structure LsC (W : World) (l : List Thing) (F : List Flw) (N : List Int) (n : Nat) (v i : Value) (wr : World) : Prop where
  out : ∃ (k : Nat), k ≤ n ∧ i = .int .i64 (k : Int) ∧ Heap W (RowT 53 3 v (leftL (F.take k) (N.take k)).length (flwL (leftL (F.take k) (N.take k))) :: l) wr
def LeastPost (W : World) (l : List Thing) (q0 : Int) (F : List Flw) (q : Int) (e : Ending) (w' : World) : Prop := ∃ v L k er, e = .returned (.tuple #[v, .int .i64 k, .int .i64 er]) ∧ LeastOut q0 F q L k er ∧ Heap W (OwnT 53 3 v L.length (flwL L) :: l) w'
section
variable {W w : World} {l : List Thing}
set_option maxRecDepth 100000
set_option maxHeartbeats 8000000
theorem Heap.nilOwn (e size : Nat) (H : Heap W l w) : Heap W (OwnT e size (.slice none 0 0) 0 [] :: l) w := (H.nilRow e size).slide
theorem wpl_storeOwnP {ops : Array Oper} {rest : List Oper} {a : Act} {l' : List Thing} {Q : Exit → Act → World → Prop} {T e : TypeId} {dst : Option Tmp} {ty : TypeId} {pos : String} {after : Array Edge} {guard : Option (Nat × Bool)} {x y : Operand} {g ad off n c size j : Nat} {q : Option Addr} {xs : List Value} (CT : CellTy T) (hw : Region.wanted ⟨dst, .store T x y, ty, pos, after, guard⟩ (yielded ops a.tmps) = true) (hx : a.eval x = .pointer (some ⟨g, ad, none⟩)) (hy : a.eval y = .pointer q)
    (H : Heap W l w) (m : OwnT e size (.slice (some ⟨g, off, none⟩) n c) n xs ∈ l) (hk : ad = off + j) (hj : j < xs.length) (r : Repl l (OwnT e size (.slice (some ⟨g, off, none⟩) n c) n xs) (OwnT e size (.slice (some ⟨g, off, none⟩) n c) n (xs.set j (.pointer q))) l')
    (h : ∀ w', Heap W l' w' → wpList Tryz.prog ops Q rest (a.put dst undef) w') : wpList Tryz.prog ops Q (⟨dst, .store T x y, ty, pos, after, guard⟩ :: rest) a w := wpl_storeOwnC CT hw hx hy ⟨rfl, rfl⟩ H m hk hj r h
theorem Heap.sub {l' : List Thing} (H : Heap W l w) (h : l'.Sublist l) : Heap W l' w := ⟨H.low, fun x hx => H.ok x (h.subset hx), fun x hx => H.fp x (h.subset hx), H.apart.sublist h⟩
theorem edround_H {F : List Flw} {N : List Int} (hM : MayD F) (hl : F.length ≤ 1000) (ea : Option Addr) (ec : Nat) (H : Heap W (RowT 141 3 (.slice ea (edD F N).length ec) (edD F N).length (edgL (edD F N)) :: l) w) :
    Calls Tryz.prog 61 #[.slice ea (edD F N).length ec] w fun e w' => ∃ a c, e = .returned (.slice a (roundOf (edD F N)).length c) ∧ Heap W (OwnT 30 1 (.slice a (roundOf (edD F N)).length c) (roundOf (edD F N)).length ((roundOf (edD F N)).map pv) :: RowT 141 3 (.slice ea (edD F N).length ec) (edD F N).length (edgL (edD F N)) :: l) w' := by
  have h1 := edD_len F N
  have C := round_H (W := W) ea _ ec (edD F N) rfl (by omega) (fun e he => by have := edD_ok hM e he; exact ⟨by omega, by omega, by omega, by omega⟩) (fun w' H' => H'.rowRd List.mem_cons_self) H
  refine C.mono ?_
  rintro e w' ⟨v, rfl, H'⟩
  rw [edD_keep hM] at H'
  obtain ⟨a, c, rfl, _, _⟩ := OwnT.form0 (H'.ok _ List.mem_cons_self)
  exact ⟨a, c, rfl, H'⟩
attribute [local go_sem high] bd8 bd8b flow_sz
open Classical in
theorem least8_H (a : Option Addr) (n c : Nat) (F : List Flw) (q : Int) (hl : F.length = n) (hn : n ≤ 1000) (hF : ∀ x ∈ F, FlwOk x) (h63 : q ≤ 9223372036854775807) (R : ∀ l' w', (∀ x ∈ l, x ∈ l') → Heap W l' w' → Rd w' a (flwL F)) (H : Heap W l w) :
    Calls Tryz.prog 36 #[.slice a n c, .int .i64 q] w (LeastPost W l 13 F q) := by
  have M := may8_H (W := W) a n c F hl (by omega) hF R
  have HL := Lib.hid hl
  have HR := Lib.hid R
  have HF := Lib.hid hF
  clear hl R hF
  go_enter Tryz.func36, Tryz.ntmps36
  by_cases hM : MayD F
  · by_cases hq : 0 ≤ q
    · have d1 : decide (MayD F) = true := decide_eq_true hM
      have d2 : decide (q < 0) = false := decide_eq_false (by omega)
      rw [d1] at M
      have HM := Lib.hid hM
      have hn1 : n ≤ 65536 := by omega
      have hn2 : 8 * n ≤ 281474976710656 := by omega
      clear hM d1
      go_wp2_with (first
        | go_skip
        | ((with_reducible refine AnsH.call (by assumption) H ?_); clear H; intro _ H)
        | ((with_reducible show wpList _ _ _ (_ :: _) _ _); (with_reducible apply wpl_makeC slDb8 (n := n) (m := n)); (· rfl); (· rfl); (· rfl); (· rfl); (· exact Nat.le_refl _); (· exact hn1); (· exact hn2); (· exact H); (clear H; intro g _ H); (simp only [Act.put, List.setIfInBounds_toArray, List.set_cons_zero, List.set_cons_succ])))
      replace H := H.celOwn (n := n) (size := 1) (by rw [size_madeCells]) (by unfold maxLen; omega)
      obtain ⟨xs0, hx0⟩ : ∃ xs0, (madeCells (Value.cells (.pointer none)) (n * 1)).toList = xs0 := ⟨_, rfl⟩
      have hx0l : xs0.length = n := by rw [← hx0]; simp [size_madeCells]
      rw [hx0] at H
      clear hx0 hn1 hn2 M
      have H0 := H
      clear H
      go_loopw [25] (fun i wr => LsA W l F g n i wr) (fun i _ => n - (intOf i).toNat)
      case atStart => exact ⟨0, [], xs0, Nat.zero_le _, rfl, hx0l, ⟨rfl, rfl⟩, by simpa [dbs] using H0⟩
      case round =>
        obtain ⟨k, ps, xs, hk, rfl, hxl, hps, H⟩ := hrel.out
        clear H0 hrel hx0l
        by_cases hlt : k < n
        · have Rw := HR.out _ wr (fun x hx => List.mem_cons_of_mem _ (List.mem_append_right _ hx)) H
          obtain ⟨eb, eo, rfl, _⟩ := Rw.lt (by rw [flwL_len, HL.out]; omega)
          have hfk : F[k]? = some (F[k]'(by rw [HL.out]; exact hlt)) := List.getElem?_eq_getElem _
          have hrow := flwL_at F k (by rw [HL.out]; exact hlt)
          have hlen : k * 3 + 3 ≤ (flwL F).length := by rw [flwL_len, HL.out]; omega
          generalize F[k]'(by rw [HL.out]; exact hlt) = x at *
          have hrw : (((flwL F).drop (k * 3)).take 3).toArray = flow (x.f : Int) (x.t : Int) x.n := by rw [hrow]; rfl
          have HFK := Lib.hid hfk
          have HPS := Lib.hid hps
          clear hrow hfk hps
          have hkx : k < xs.length := by omega
          go_wp2_with (first
            | ((with_reducible show wpList _ _ _ (_ :: _) _ _); (with_reducible apply wpl_boxRH); (· rfl); (· rfl); (· exact H); (clear H; intro pd _ H); (simp only [Act.put, List.setIfInBounds_toArray, List.set_cons_zero, List.set_cons_succ]))
            | go_skip
            | ((with_reducible show wpList _ _ _ (_ :: _) _ _); (with_reducible apply wpl_storeOwnP cell_pdbt); (· rfl); (· rfl); (· rfl); (· exact H); (· (repeat (first | (with_reducible exact List.mem_cons_self) | with_reducible apply List.mem_cons_of_mem))); (· exact (Nat.zero_add _).symm); (· exact hkx); (· (repeat (first | (with_reducible exact Repl.here) | with_reducible apply Repl.there))); (clear H; intro _ H); (simp only [Act.put, List.setIfInBounds_toArray, List.set_cons_zero, List.set_cons_succ]))
            | ((with_reducible show wpList _ _ _ (_ :: _) _ _); (with_reducible apply wpl_loadRdR row_flow); (· rfl); (· rfl); (· exact Rw); (· rfl); (· exact hlen); (· decide); (· exact hrw); (simp only [Act.put, List.setIfInBounds_toArray, List.set_cons_zero, List.set_cons_succ]))
            | ((with_reducible show wpList _ _ _ (_ :: _) _ _); (with_reducible apply wpl_allocRH row_flow); (· rfl); (· exact H); (clear H; intro px _ H); (simp only [Act.put, List.setIfInBounds_toArray, List.set_cons_zero, List.set_cons_succ]))
            | ((with_reducible show wpList _ _ _ (_ :: _) _ _); (with_reducible apply wpl_storeRH row_flow); (· rfl); (· rfl); (· rfl); (· with_reducible exact flow_cells ..); (· exact H); (· (repeat (first | (with_reducible exact List.mem_cons_self) | with_reducible apply List.mem_cons_of_mem))); (· (simp only [flow_sz, Nat.reduceAdd, Nat.reduceLeDiff, Nat.le_refl]; done)); (· with_reducible exact flow_splice ..); (· (repeat (first | (with_reducible exact Repl.here) | with_reducible apply Repl.there))); (clear H; intro _ H); (simp only [Act.put, List.setIfInBounds_toArray, List.set_cons_zero, List.set_cons_succ]))
            | ((with_reducible show wpList _ _ _ (_ :: _) _ _); (with_reducible apply wpl_loadRH row_flow); (· rfl); (· rfl); (· exact H); (· (repeat (first | (with_reducible exact List.mem_cons_self) | with_reducible apply List.mem_cons_of_mem))); (· (simp only [flow_sz, Nat.reduceAdd, Nat.reduceLeDiff, Nat.le_refl]; done)); (· with_reducible exact flow_all ..); (simp only [Act.put, List.setIfInBounds_toArray, List.set_cons_zero, List.set_cons_succ])))
          refine ⟨⟨k + 1, ps ++ [pd], _, by omega, by go_num, by rw [List.length_set]; exact hxl, HPS.out.put hkx pd, ?_⟩, ?measure1⟩
          case measure1 => simp [intOf]; omega
          rw [List.take_add_one, HFK.out, Option.toList_some, List.map_append, List.map_cons, List.map_nil, dbs_app _ _ _ _ _ _ (by rw [HPS.out.1, List.length_take, HL.out]; omega) (by simp), List.append_assoc, List.cons_append, List.nil_append]
          replace H := H.drop (.there .here)
          have e : DbC pd x.f x.t x.n 0 = debtT pd x x.n := by unfold debtT; rw [Int.sub_self]
          rw [show (Cel pd (dbt (x.f : Int) (x.t : Int) x.n 0) 111) = debtT pd x x.n from e] at H
          refine H.perm ((List.Perm.swap _ _ _).trans (.cons _ ?_))
          exact List.perm_middle.symm
        · obtain rfl : k = n := by omega
          rw [List.take_of_length_le (by rw [HL.out]; exact Nat.le_refl _)] at H
          have hx2 : xs = ptrL ps := by rw [← hps.2, List.take_of_length_le (by omega)]
          subst hx2
          have hp := hps.1
          clear hps hxl hlt hk
          go_wp2_with (go_skip)
          replace H : Heap W (dbs ps F (F.map Flw.n) ++ (OwnT 109 1 (.slice (some ⟨g, 0, none⟩) k k) k (ptrL ps) :: l)) wr := H.perm List.perm_middle.symm
          have HP := Lib.hid hp
          have H0 := H
          clear H hp
          go_loopw [4, 5] (fun v j wr => LsB W l F ps g k q v j wr) (fun _ j _ => (q - intOf j).toNat)
          case atStart => exact ⟨0, _, rfl, rfl, .nil, by omega, H0⟩
          case round =>
            obtain ⟨j, N, rfl, rfl, ht, hjq, H⟩ := hrel.out
            clear H0 hrel
            have HRT := Lib.hid ht
            have hI := (ht.inv HM.out).1
            have HI := Lib.hid hI
            have hN : N.length = k := hI.len.trans HL.out
            have HN := Lib.hid hN
            clear ht hI hN
            have C1 := edges8_H (some ⟨g, 0, none⟩) k k ps F N HP.out HL.out HN.out (by omega) (fun l' w' hh H' => H'.ownRd (hh _ (List.mem_append_right _ List.mem_cons_self))) (fun i p x m g1 g2 g3 => dbs_mem g1 g2 g3) H
            have C2 := fun ea ec w' (H' : Heap W (RowT 141 3 (.slice ea (edD F N).length ec) (edD F N).length (edgL (edD F N)) :: (dbs ps F N ++ (OwnT 109 1 (.slice (some ⟨g, 0, none⟩) k k) k (ptrL ps) :: l))) w') => edround_H HM.out (by rw [HL.out]; exact hn) ea ec H'
            obtain ⟨T, hT⟩ : ∃ T, roundOf (edD F N) = T := ⟨_, rfl⟩
            have HT := Lib.hid hT
            rw [hT] at C2
            obtain ⟨tn, htn⟩ : ∃ tn, T.length = tn := ⟨_, rfl⟩
            have HTN := Lib.hid htn
            rw [htn] at C2
            clear hT htn
            by_cases hr : tn = 0
            · have e1 : ((tn : Int) == 0) = true := by simp; omega
              go_wp2_with (first
                | go_skip
                | (refine C1.mono ?_; clear C1 H; rintro _ _ ⟨_, rfl, H⟩; obtain ⟨ea, ec, rfl, _, _⟩ := RowT.form0 (H.ok _ List.mem_cons_self))
                | (refine (C2 _ _ _ H).mono ?_; clear C2 H; rintro _ _ ⟨ta, tc, rfl, H⟩))
              subst hr
              have H0 := H.nilRow 53 3
              clear H
              go_loopw [4, 46] (fun v i wr => LsC W (OwnT 30 1 (.slice ta 0 tc) 0 (T.map pv) :: RowT 141 3 (.slice ea (edD F N).length ec) (edD F N).length (edgL (edD F N)) :: (dbs ps F N ++ (OwnT 109 1 (.slice (some ⟨g, 0, none⟩) k k) k (ptrL ps) :: l))) F N k v i wr) (fun _ i _ => k - (intOf i).toNat)
              case atStart => exact ⟨0, Nat.zero_le _, rfl, by simpa [leftL, flwL] using H0⟩
              case round =>
                obtain ⟨i, hi, rfl, H⟩ := hrel.out
                clear H0 hrel
                by_cases hlt : i < k
                · have hpk : ps[i]? = some (ps[i]'(by rw [HP.out]; exact hlt)) := List.getElem?_eq_getElem _
                  have hfk : F[i]? = some (F[i]'(by rw [HL.out]; exact hlt)) := List.getElem?_eq_getElem _
                  have hnk : N[i]? = some (N[i]'(by rw [HN.out]; exact hlt)) := List.getElem?_eq_getElem _
                  generalize ps[i]'(by rw [HP.out]; exact hlt) = p at *
                  generalize F[i]'(by rw [HL.out]; exact hlt) = x at *
                  generalize N[i]'(by rw [HN.out]; exact hlt) = m at *
                  have hm : debtT p x m ∈ OwnT 30 1 (.slice ta 0 tc) 0 (T.map pv) :: RowT 141 3 (.slice ea (edD F N).length ec) (edD F N).length (edgL (edD F N)) :: (dbs ps F N ++ (OwnT 109 1 (.slice (some ⟨g, 0, none⟩) k k) k (ptrL ps) :: l)) := List.mem_cons_of_mem _ (List.mem_cons_of_mem _ (dbs_mem hpk hfk hnk))
                  have hc : wr.cell? ⟨g, i, none⟩ = some (.pointer (some ⟨p, 0, none⟩)) := by
                    have := (H.ownRd (List.mem_cons_of_mem _ (List.mem_cons_of_mem _ (List.mem_cons_of_mem _ (List.mem_append_right _ List.mem_cons_self))))).get (i := i) (by rw [ptrL_len, HP.out]; exact hlt)
                    simpa [ptrL, List.getElem_map, (List.getElem?_eq_some_iff.1 hpk).2] using this
                  have htk := leftL_take (by rw [HN.out, HL.out]) hfk hnk
                  have HTK := Lib.hid htk
                  have hlen := leftL_len (F.take i) (N.take i)
                  have hlk : (F.take i).length ≤ 1000 := by simp; omega
                  clear htk hpk hfk hnk
                  generalize leftL (F.take i) (N.take i) = E at *
                  generalize OwnT 30 1 (.slice ta 0 tc) 0 (T.map pv) :: RowT 141 3 (.slice ea (edD F N).length ec) (edD F N).length (edgL (edD F N)) :: (dbs ps F N ++ (OwnT 109 1 (.slice (some ⟨g, 0, none⟩) k k) k (ptrL ps) :: l)) = l2 at *
                  obtain ⟨f, t, y⟩ := x
                  unfold debtT at hm
                  simp only at hm
                  obtain ⟨kk, hkk⟩ : ∃ kk, y - m = kk := ⟨_, rfl⟩
                  rw [hkk] at hm
                  obtain ⟨ne, hne⟩ : ∃ ne, E.length = ne := ⟨_, rfl⟩
                  have HNE := Lib.hid hne
                  rw [hne] at H hlen
                  clear hne hkk
                  have h1 : ne + 1 ≤ maxLen := by unfold maxLen; omega
                  have h2 : (ne + 1) * 16 ≤ 140737488355328 := by omega
                  by_cases h0 : 0 < m
                  · have d0 : decide (m > 0) = true := decide_eq_true h0
                    have hX : (if 0 < m then [(⟨f, t, m⟩ : Flw)] else []) = [⟨f, t, m⟩] := if_pos h0
                    have HX := Lib.hid hX
                    clear hX h0
                    go_wp2_with (first
                      | go_skip
                      | ((with_reducible show wpList _ _ _ (_ :: _) _ _); (with_reducible apply wpl_loadCell cell_pdbt); (· rfl); (· rfl); (· exact hc); (simp only [Act.put, List.setIfInBounds_toArray, List.set_cons_zero, List.set_cons_succ]))
                      | ((with_reducible show wpList _ _ _ (_ :: _) _ _); (with_reducible apply wpl_loadCH); (· exact cell_i64); (· rfl); (· rfl); (· exact H); (· exact List.mem_cons_of_mem _ hm); (· (with_reducible first | exact dbt_g0 .. | exact dbt_g1 .. | exact dbt_g2 .. | exact dbt_g3 ..)); (simp only [Act.put, List.setIfInBounds_toArray, List.set_cons_zero, List.set_cons_succ]))
                      | ((with_reducible show wpList _ _ _ (_ :: _) _ _); (with_reducible apply wpl_loadRH row_flow); (· rfl); (· rfl); (· exact H); (· exact List.mem_cons_of_mem _ hm); (· (simp only [dbt_sz, Nat.reduceAdd, Nat.reduceLeDiff]; done)); (· exact dbt_flow ..); (simp only [Act.put, List.setIfInBounds_toArray, List.set_cons_zero, List.set_cons_succ]))
                      | ((with_reducible show wpList _ _ _ (_ :: _) _ _); (with_reducible apply wpl_bsRH); (· rfl); (· rfl); (· exact bs_flow); (· exact rfl); (· exact H); (clear H; intro pf _ H); (simp only [Act.put, List.setIfInBounds_toArray, List.set_cons_zero, List.set_cons_succ]))
                      | ((with_reducible show wpList _ _ _ (_ :: _) _ _); (with_reducible apply wpl_appendH slF); (· rfl); (· rfl); (· rfl); (· rfl); (· exact H.perm (.swap _ _ _)); (· exact H.celRd List.mem_cons_self); (· rfl); (· exact flowC_one _ _ _); (· exact h1); (· exact h2); (clear H; intro v2 _ H); (simp only [Act.put, List.setIfInBounds_toArray, List.set_cons_zero, List.set_cons_succ])))
                    refine ⟨⟨i + 1, by omega, by go_num, ?_⟩, ?measure2⟩
                    case measure2 => simp [intOf]; omega
                    rw [HTK.out, HX.out, flwL_app, List.length_append, HNE.out]
                    exact H.drop (.there .here)
                  · have d0 : decide (m > 0) = false := decide_eq_false h0
                    have hX : (if 0 < m then [(⟨f, t, m⟩ : Flw)] else []) = [] := if_neg h0
                    have HX := Lib.hid hX
                    clear hX h0
                    go_wp2_with (first
                      | go_skip
                      | ((with_reducible show wpList _ _ _ (_ :: _) _ _); (with_reducible apply wpl_loadCell cell_pdbt); (· rfl); (· rfl); (· exact hc); (simp only [Act.put, List.setIfInBounds_toArray, List.set_cons_zero, List.set_cons_succ]))
                      | ((with_reducible show wpList _ _ _ (_ :: _) _ _); (with_reducible apply wpl_loadCH); (· exact cell_i64); (· rfl); (· rfl); (· exact H); (· exact List.mem_cons_of_mem _ hm); (· (with_reducible first | exact dbt_g0 .. | exact dbt_g1 .. | exact dbt_g2 .. | exact dbt_g3 ..)); (simp only [Act.put, List.setIfInBounds_toArray, List.set_cons_zero, List.set_cons_succ])))
                    refine ⟨⟨i + 1, by omega, by go_num, ?_⟩, ?measure3⟩
                    case measure3 => simp [intOf]; omega
                    rw [HTK.out, HX.out, List.append_nil, HNE.out]
                    exact H
                · obtain rfl : i = k := by omega
                  rw [List.take_of_length_le (by rw [HL.out]; exact Nat.le_refl _), List.take_of_length_le (by rw [HN.out]; exact Nat.le_refl _)] at H
                  rename_i v _ _
                  obtain ⟨va, vc, rfl, hv1, hv2⟩ := RowT.form0 (H.ok _ List.mem_cons_self)
                  have K := clipFA va (leftL F N).length vc hv1 hv2 (fun e => RowT.nil7 (H.ok _ List.mem_cons_self) _ _ (by rw [e]))
                  go_wp2_with (first | go_skip | ((with_reducible refine Ans.callH (by assumption) H ?_); clear H; intro _ H))
                  go_ret3
                  refine ⟨_, leftL F N, j, 0, rfl, .inr ⟨HM.out, hq, j, N, HRT.out, hjq, .inl ⟨?_, rfl, rfl, rfl⟩⟩, ?_⟩
                  · rw [HT.out]; exact List.length_eq_zero_iff.1 HTN.out
                  · exact (H.sub (.cons_cons _ (.cons _ (.cons _ ((List.sublist_cons_self _ _).trans (List.sublist_append_right _ _)))))).slide.clipOwn
            · have e1 : ((tn : Int) == 0) = false := by simp; omega
              by_cases hq2 : (j : Int) = q
              · have e2 : ((j : Int) == q) = true := by simp; omega
                go_wp2_with (first
                  | go_skip
                  | (refine C1.mono ?_; clear C1 H; rintro _ _ ⟨_, rfl, H⟩; obtain ⟨ea, ec, rfl, _, _⟩ := RowT.form0 (H.ok _ List.mem_cons_self))
                  | (refine (C2 _ _ _ H).mono ?_; clear C2 H; rintro _ _ ⟨ta, tc, rfl, H⟩))
                go_ret3
                refine ⟨_, [], 0, 13, rfl, .inr ⟨HM.out, hq, j, N, HRT.out, hjq, .inr ⟨?_, hq2, rfl, rfl, rfl⟩⟩, ?_⟩
                · rw [HT.out]; intro h; apply hr; rw [← HTN.out, h]; rfl
                · exact Heap.nilOwn _ _ (H.sub (.cons _ (.cons _ ((List.sublist_cons_self _ _).trans (List.sublist_append_right _ _)))))
              · have e2 : ((j : Int) == q) = false := by simp; omega
                have hN0 : roundOf (edD F N) ≠ [] := fun h => hr (by rw [← HTN.out, ← HT.out, h]; rfl)
                obtain ⟨S, hS, s2, s3, _⟩ := round_go HM.out HI.out hN0
                obtain ⟨tf, Cf, hR⟩ := edD_rnd HM.out hN0
                have hN0' := Lib.hid hN0
                have hr1 := hR.pos
                have hr2 := hR.max
                have HS := Lib.hid hS
                rw [HT.out] at hr1 hr2 hS
                rw [HTN.out] at hr1 hr2
                have C3 := fun ea ec ta tc w' (H' : Heap W (dbs ps F N ++ (OwnT 30 1 (.slice ta tn tc) tn (T.map pv) :: RowT 141 3 (.slice ea (edD F N).length ec) (edD F N).length (edgL (edD F N)) :: OwnT 109 1 (.slice (some ⟨g, 0, none⟩) k k) k (ptrL ps) :: l)) w') =>
                  round8_H (some ⟨g, 0, none⟩) k k ps F N HM.out HI.out HP.out HL.out hn (fun l' w' hh H' => H'.ownRd (hh _ (List.mem_cons_of_mem _ (List.mem_cons_of_mem _ List.mem_cons_self)))) ta tn tc T S hS s2 s3 HTN.out hr1 hr2 (fun l' w' hh H' => H'.ownRd (hh _ List.mem_cons_self)) H'
                clear hS s2 s3 hR hN0
                go_wp2_with (first
                  | go_skip
                  | (refine C1.mono ?_; clear C1 H; rintro _ _ ⟨_, rfl, H⟩; obtain ⟨ea, ec, rfl, _, _⟩ := RowT.form0 (H.ok _ List.mem_cons_self))
                  | (refine (C2 _ _ _ H).mono ?_; clear C2 H; rintro _ _ ⟨ta, tc, rfl, H⟩)
                  | (refine (C3 _ _ _ _ _ (H.perm ((List.Perm.cons _ List.perm_middle.symm).trans List.perm_middle.symm))).mono ?_; clear C3 H; rintro _ _ ⟨rfl, H⟩))
                refine ⟨⟨j + 1, _, rfl, by go_num, .step HRT.out hN0'.out ⟨S, HS.out, rfl⟩, by omega, H.sub (.append (.refl _) (.cons _ (.cons _ (.refl _))))⟩, ?measure4⟩
                case measure4 => simp [intOf]; omega
    · have d1 : decide (MayD F) = true := decide_eq_true hM
      have d2 : decide (q < 0) = true := decide_eq_true (by omega)
      rw [d1] at M
      have HM := Lib.hid hM
      have HQ := Lib.hid hq
      clear hM d1 hq
      go_wp2_with (first | go_skip | ((with_reducible refine AnsH.call (by assumption) H ?_); clear H; intro _ H))
      go_ret3
      exact ⟨_, [], 0, 1, rfl, .inl ⟨.inr (by have := HQ.out; omega), rfl, rfl, rfl⟩, Heap.nilOwn _ _ H⟩
  · have d1 : decide (MayD F) = false := decide_eq_false hM
    rw [d1] at M
    have HM := Lib.hid hM
    clear hM d1
    go_wp2_with (first | go_skip | ((with_reducible refine AnsH.call (by assumption) H ?_); clear H; intro _ H))
    go_ret3
    exact ⟨_, [], 0, 1, rfl, .inl ⟨.inl HM.out, rfl, rfl, rfl⟩, Heap.nilOwn _ _ H⟩
end
end Go.Proofs.YtgobnamhdkbbeaaGreat

/- nettings: Net. -/
namespace Go.Proofs.YtgobnamhdkbbeaaGreat
open Go.RowKit Go.Sort
set_option linter.unusedSimpArgs false
set_option linter.unusedVariables false
set_option maxRecDepth 100000
structure IdxR (W : World) (l : List Thing) (L : List Flw) (f t n : Nat) (i : Value) (wr : World) : Prop where
  out : ∃ k : Nat, k ≤ fIdx L f t ∧ k ≤ n ∧ i = .int .i64 (k : Int) ∧ Heap W l wr
structure NetR (W : World) (l : List Thing) (p q c : Nat) (S : Lgr) (Q : List Flw) (g i : Value) (wr : World) : Prop where
  out : ∃ k : Nat, k ≤ (dbtS S.L c).length ∧ i = .int .i64 (k : Int) ∧ g = .int .i64 (totL S.L c - totL (forgL S c Q ((dbtS S.L c).take k)).L c) ∧
    Heap W (LdC p S.P (some q) :: LdM q (forgL S c Q ((dbtS S.L c).take k)).L :: l) wr
theorem NetOut.gone_of {S : Lgr} {c : Nat} {q k0 : Int} {Q : List Flw} (h : 1 ≤ c ∧ c ≤ 8) (ho : LeastOut 13 (dbtS S.L c) q Q k0 0) : NetOut S c q (totL S.L c - totL (forgL S c Q (dbtS S.L c)).L c) k0 0 (forgL S c Q (dbtS S.L c)) := .inr ⟨h, Q, k0, ho, .inr ⟨rfl, rfl, rfl, rfl⟩⟩
section
variable {W w : World} {l : List Thing}
set_option maxHeartbeats 8000000
theorem ends13_H (x y : Flw) (px : Nat) (m : Cel px (flow (x.f : Int) (x.t : Int) x.n) 53 ∈ l) :
    AnsH W l 38 #[.agg (flow (y.f : Int) (y.t : Int) y.n), .pointer (some ⟨px, 0, none⟩)] (.bool (endsB x.f x.t y)) := by
  intro w H
  obtain ⟨xf, xt, xn⟩ := x
  obtain ⟨yf, yt, yn⟩ := y
  simp only at m ⊢
  by_cases h1 : yf = xf
  · have e1 : ((yf : Int) == (xf : Int)) = true := by simp; omega
    by_cases h2 : yt = xt
    · have e2 : ((yt : Int) == (xt : Int)) = true := by simp; omega
      have hr : endsB xf xt ⟨yf, yt, yn⟩ = true := endsB_iff.2 ⟨h1, h2⟩
      rw [hr]
      clear h1 h2 hr
      go_enter Tryz.func38, Tryz.ntmps38
      go_wp2_with (first | go_skip | ((with_reducible show wpList _ _ _ (_ :: _) _ _); (with_reducible apply wpl_boxRH); (· rfl); (· rfl); (· exact H); (clear H; intro py _ H); (simp only [Act.put, List.setIfInBounds_toArray, List.set_cons_zero, List.set_cons_succ])) | ((with_reducible show wpList _ _ _ (_ :: _) _ _); (with_reducible apply wpl_loadCH); (· exact cell_party); (· rfl); (· rfl); (· exact H); (· (repeat (first | (with_reducible exact List.mem_cons_self) | with_reducible apply List.mem_cons_of_mem))); (· (with_reducible first | exact flow_g0 .. | exact flow_g1 .. | exact flow_g2 ..)); (simp only [Act.put, List.setIfInBounds_toArray, List.set_cons_zero, List.set_cons_succ])) | ((with_reducible show wpList _ _ _ (_ :: _) _ _); (with_reducible apply wpl_loadCH); (· exact cell_party); (· rfl); (· rfl); (· exact H); (· exact List.mem_cons_of_mem _ m); (· (with_reducible first | exact flow_g0 .. | exact flow_g1 .. | exact flow_g2 ..)); (simp only [Act.put, List.setIfInBounds_toArray, List.set_cons_zero, List.set_cons_succ])))
      go_ret
      exact ⟨rfl, H.tail⟩
    · have e2 : ((yt : Int) == (xt : Int)) = false := by simp; omega
      have hr : endsB xf xt ⟨yf, yt, yn⟩ = false := by rw [Bool.eq_false_iff]; intro h; exact h2 (endsB_iff.1 h).2
      rw [hr]
      clear h1 h2 hr
      go_enter Tryz.func38, Tryz.ntmps38
      go_wp2_with (first | go_skip | ((with_reducible show wpList _ _ _ (_ :: _) _ _); (with_reducible apply wpl_boxRH); (· rfl); (· rfl); (· exact H); (clear H; intro py _ H); (simp only [Act.put, List.setIfInBounds_toArray, List.set_cons_zero, List.set_cons_succ])) | ((with_reducible show wpList _ _ _ (_ :: _) _ _); (with_reducible apply wpl_loadCH); (· exact cell_party); (· rfl); (· rfl); (· exact H); (· (repeat (first | (with_reducible exact List.mem_cons_self) | with_reducible apply List.mem_cons_of_mem))); (· (with_reducible first | exact flow_g0 .. | exact flow_g1 .. | exact flow_g2 ..)); (simp only [Act.put, List.setIfInBounds_toArray, List.set_cons_zero, List.set_cons_succ])) | ((with_reducible show wpList _ _ _ (_ :: _) _ _); (with_reducible apply wpl_loadCH); (· exact cell_party); (· rfl); (· rfl); (· exact H); (· exact List.mem_cons_of_mem _ m); (· (with_reducible first | exact flow_g0 .. | exact flow_g1 .. | exact flow_g2 ..)); (simp only [Act.put, List.setIfInBounds_toArray, List.set_cons_zero, List.set_cons_succ])))
      go_ret
      exact ⟨rfl, H.tail⟩
  · have e1 : ((yf : Int) == (xf : Int)) = false := by simp; omega
    have hr : endsB xf xt ⟨yf, yt, yn⟩ = false := by rw [Bool.eq_false_iff]; intro h; exact h1 (endsB_iff.1 h).1
    rw [hr]
    clear h1 hr
    go_enter Tryz.func38, Tryz.ntmps38
    go_wp2_with (first | go_skip | ((with_reducible show wpList _ _ _ (_ :: _) _ _); (with_reducible apply wpl_boxRH); (· rfl); (· rfl); (· exact H); (clear H; intro py _ H); (simp only [Act.put, List.setIfInBounds_toArray, List.set_cons_zero, List.set_cons_succ])) | ((with_reducible show wpList _ _ _ (_ :: _) _ _); (with_reducible apply wpl_loadCH); (· exact cell_party); (· rfl); (· rfl); (· exact H); (· (repeat (first | (with_reducible exact List.mem_cons_self) | with_reducible apply List.mem_cons_of_mem))); (· (with_reducible first | exact flow_g0 .. | exact flow_g1 .. | exact flow_g2 ..)); (simp only [Act.put, List.setIfInBounds_toArray, List.set_cons_zero, List.set_cons_succ])) | ((with_reducible show wpList _ _ _ (_ :: _) _ _); (with_reducible apply wpl_loadCH); (· exact cell_party); (· rfl); (· rfl); (· exact H); (· exact List.mem_cons_of_mem _ m); (· (with_reducible first | exact flow_g0 .. | exact flow_g1 .. | exact flow_g2 ..)); (simp only [Act.put, List.setIfInBounds_toArray, List.set_cons_zero, List.set_cons_succ])))
    go_ret
    exact ⟨rfl, H.tail⟩
theorem flwL_row (F : List Flw) (k : Nat) (h : k < F.length) : (((flwL F).drop (k * 3)).take 3).toArray = flow (F[k].f : Int) (F[k].t : Int) F[k].n := by rw [flwL_at F k h]; rfl
def idxV (L : List Flw) (f t : Nat) : Int := if fIdx L f t < L.length then (fIdx L f t : Int) else -1
theorem index13_H (a : Option Addr) (n c px : Nat) (L : List Flw) (x : Flw) (hl : L.length = n) (hn : n ≤ 1000000) (m : Cel px (flow (x.f : Int) (x.t : Int) x.n) 53 ∈ l) (R : ∀ w', Heap W l w' → Rd w' a (flwL L)) :
    AnsH W l 37 #[.slice a n c, .func (.func 38) #[] #[.pointer (some ⟨px, 0, none⟩)]] (.int .i64 (idxV L x.f x.t)) := by
  intro w H
  have HL := Lib.hid hl
  have HR := Lib.hid R
  have HLE := Lib.hid (fIdx_le L x.f x.t)
  have E := fun y => ends13_H (W := W) (l := l) x y px m
  have HE := Lib.hid E
  clear hl R E m
  go_enter Tryz.func37, Tryz.ntmps37
  go_wp2_with (go_skip)
  have H0 := H
  clear H
  go_loopw [8] (fun i wr => IdxR W l L x.f x.t n i wr) (fun i _ => n - (intOf i).toNat)
  case atStart => exact ⟨0, Nat.zero_le _, Nat.zero_le _, rfl, H0⟩
  case round =>
    obtain ⟨k, hk, hkn, rfl, H⟩ := hrel.out
    clear H0 hrel
    by_cases hlt : k < n
    · have hkL : k < L.length := by rw [HL.out]; exact hlt
      have hrow := flwL_row L k hkL
      have hlen : k * 3 + 3 ≤ (flwL L).length := by rw [flwL_len]; omega
      obtain ⟨ba, oa, rfl, _⟩ := (HR.out _ H).lt (by omega)
      have Rw := HR.out _ H
      by_cases he : k = fIdx L x.f x.t
      · have hd : endsB x.f x.t L[k] = true := by
          have := fIdx_at (L := L) (f := x.f) (t := x.t) (by omega)
          subst he
          exact this
        have D := HE.out L[k]
        rw [hd] at D
        have HX := Lib.hid (show idxV L x.f x.t = (k : Int) by unfold idxV; rw [← he, if_pos hkL])
        generalize L[k] = y at *
        clear hd he
        go_wp2_with (first
          | go_skip
          | ((with_reducible show wpList _ _ _ (_ :: _) _ _); (with_reducible apply wpl_loadRdR row_flow); (· rfl); (· rfl); (· exact Rw); (· rfl); (· exact hlen); (· decide); (· exact hrow); (simp only [Act.put, List.setIfInBounds_toArray, List.set_cons_zero, List.set_cons_succ]))
          | ((with_reducible refine AnsH.call (by assumption) H ?_); clear H; intro _ H))
        go_ret
        rw [HX.out]
        exact ⟨rfl, H⟩
      · have hd : endsB x.f x.t L[k] = false := fIdx_before (by omega) (List.getElem?_eq_getElem hkL)
        have D := HE.out L[k]
        rw [hd] at D
        have HK := Lib.hid (show k + 1 ≤ fIdx L x.f x.t by omega)
        generalize L[k] = y at *
        clear hd he
        go_wp2_with (first
          | go_skip
          | ((with_reducible show wpList _ _ _ (_ :: _) _ _); (with_reducible apply wpl_loadRdR row_flow); (· rfl); (· rfl); (· exact Rw); (· rfl); (· exact hlen); (· decide); (· exact hrow); (simp only [Act.put, List.setIfInBounds_toArray, List.set_cons_zero, List.set_cons_succ]))
          | ((with_reducible refine AnsH.call (by assumption) H ?_); clear H; intro _ H))
        refine ⟨⟨k + 1, HK.out, by omega, by go_num, H⟩, ?measure1⟩
        case measure1 => simp [intOf]; omega
    · obtain rfl : k = n := by omega
      have HX := Lib.hid (show idxV L x.f x.t = -1 by unfold idxV; rw [if_neg (by rw [HL.out]; omega)])
      go_wp2_with (go_skip)
      go_ret
      rw [HX.out]
      exact ⟨rfl, H⟩
theorem net13_H {p q : Nat} {S : Lgr} (c : Nat) (quota : Int) (hc : c ≤ 255) (hq : -9223372036854775808 ≤ quota ∧ quota ≤ 9223372036854775807) (G : S.Good) (H : Heap W (LdC p S.P (some q) :: LdM q S.L :: l) w) :
    Calls Tryz.prog 12 #[.pointer (some ⟨p, 0, none⟩), .int .u8 (c : Int), .int .i64 quota] w fun e w' => ∃ n k er S', e = .returned (.tuple #[.int .i64 n, .int .i64 k, .int .i64 er]) ∧ NetOut S c quota n k er S' ∧ Heap W (LdC p S'.P (some q) :: LdM q S'.L :: l) w' := by
  have HG := Lib.hid G
  have hmf : ∀ (fn : Fn) (first cap : Array Value) (w : World), (Instr.makeFunc fn first cap).run Tryz.prog w = .ok (.func fn first cap) w := fun _ _ _ _ => rfl
  clear G
  go_enter Tryz.func12, Tryz.ntmps12
  go_wp2_with (go_skip)
  refine (lcopy_H (S := S) (P := S.P) (p := p) (q := q) H List.mem_cons_self (List.mem_cons_of_mem _ List.mem_cons_self)).mono ?_
  clear H
  rintro e w1 ⟨p', q', rfl, H⟩
  replace H := H.tail.tail
  by_cases hbad : c < 1 ∨ 8 < c
  · by_cases h1 : c < 1
    · have d1 : decide ((c : Int) < 1) = true := decide_eq_true (by omega)
      go_wp2_with (go_skip)
      go_ret3
      exact ⟨0, 0, 1, S, rfl, .inl ⟨hbad, rfl, rfl, rfl, rfl⟩, H⟩
    · have d1 : decide ((c : Int) < 1) = false := decide_eq_false (by omega)
      have d2 : decide ((c : Int) > 8) = true := decide_eq_true (by omega)
      have d3 : decide (8 < (c : Int)) = true := decide_eq_true (by omega)
      go_wp2_with (go_skip)
      go_ret3
      exact ⟨0, 0, 1, S, rfl, .inl ⟨hbad, rfl, rfl, rfl, rfl⟩, H⟩
  · have d1 : decide ((c : Int) < 1) = false := decide_eq_false (by omega)
    have d2 : decide ((c : Int) > 8) = false := decide_eq_false (by omega)
    have d3 : decide (8 < (c : Int)) = false := decide_eq_false (by omega)
    have hfine : 1 ≤ c ∧ c ≤ 8 := by omega
    clear hbad
    go_wp2_with (go_skip)
    refine (debts13_H c hc HG.out .here .here H).mono ?_
    clear H
    rintro e w2 ⟨vD, rfl, H⟩
    have hdf := HG.out.dbt_few c
    have hMD := HG.out.dbt c
    have hbnd := hMD.bnd
    have OK : ∀ x ∈ dbtS S.L c, FlwOk x := fun x hx => by have := hbnd x hx; exact ⟨by omega, by omega, by omega, by omega⟩
    obtain ⟨aD, cD, rfl, hD1, hD2⟩ := OwnT.form0 (H.ok _ List.mem_cons_self)
    go_wp2_with (go_skip)
    refine (least8_H aD (dbtS S.L c).length cD (dbtS S.L c) quota rfl (by omega) OK hq.2 (fun l' w' hh H' => H'.ownRd (hh _ List.mem_cons_self)) H).mono ?_
    clear H OK
    rintro e w3 ⟨vL, Q, k0, er, rfl, ho, H⟩
    by_cases he : er = 0
    · subst he
      have hle : ∀ f t, 0 ≤ ofF Q f t ∧ ofF Q f t ≤ 1099511627776 := by
        rcases id ho with ⟨_, _, _, h⟩ | ⟨_, _, j, N, ht, _, ⟨_, rfl, _, _⟩ | ⟨_, _, _, _, h⟩⟩
        · omega
        · intro f t
          have I := (ht.inv hMD).1
          have hML := leftL_may hMD I
          by_cases hex : ∃ y ∈ leftL (dbtS S.L c) N, y.f = f ∧ y.t = t
          · obtain ⟨y, hy, rfl, rfl⟩ := hex
            obtain ⟨i, hi, rfl⟩ := List.mem_iff_getElem.1 hy
            rw [ofF_uniq hML (List.getElem?_eq_getElem hi)]
            have := hML.bnd _ hy
            omega
          · rw [ofF_no fun y hy h => hex ⟨y, hy, h⟩]
            omega
        · omega
      have hlq : Q.length ≤ 64 := by
        rcases id ho with ⟨_, _, _, h⟩ | ⟨_, _, j, N, ht, _, ⟨_, rfl, _, _⟩ | ⟨_, _, _, _, h⟩⟩
        · omega
        · have := leftL_len (dbtS S.L c) N; omega
        · omega
      obtain ⟨aL, cL, rfl, hL1, hL2⟩ := OwnT.form0 (H.ok _ List.mem_cons_self)
      have HO := Lib.hid (NetOut.gone_of hfine ho)
      have HLE := Lib.hid hle
      have HB := Lib.hid hbnd
      clear ho hle hbnd hMD
      go_wp2_with (go_skip)
      have H0 := H.top2 (.there (.there .here)) (.there (.there .here))
      clear H
      go_loopw [6, 41] (fun g i wr => NetR W (FlT (.slice aL Q.length cL) Q.length Q :: FlT (.slice aD (dbtS S.L c).length cD) (dbtS S.L c).length (dbtS S.L c) :: l) p q c S Q g i wr) (fun _ i _ => (dbtS S.L c).length - (intOf i).toNat)
      case atStart => exact ⟨0, Nat.zero_le _, rfl, by simp [forgL], H0⟩
      case round =>
        obtain ⟨k, hk, rfl, rfl, H⟩ := hrel.out
        clear H0 hrel
        have Gk := forgL_good HG.out c Q ((dbtS S.L c).take k)
        have hPk := forgL_par c Q ((dbtS S.L c).take k) S
        have ht0 := HG.out.totB c
        have ht1 := Gk.totB c
        by_cases hlt : k < (dbtS S.L c).length
        · have hx : (dbtS S.L c)[k]? = some (dbtS S.L c)[k] := List.getElem?_eq_getElem hlt
          have hrow := flwL_row (dbtS S.L c) k hlt
          have hlen : k * 3 + 3 ≤ (flwL (dbtS S.L c)).length := by rw [flwL_len]; omega
          have HS := Lib.hid (net_step HG.out c Q hx (HLE.out _ _).1)
          have HT := Lib.hid (forgL_take S c Q hx)
          have HPOS := Lib.hid (dbtS_mem.1 (List.mem_of_getElem? hx)).2.2.1
          have hbx := HB.out _ (List.mem_of_getElem? hx)
          have hlx := HLE.out (dbtS S.L c)[k].f (dbtS S.L c)[k].t
          have G2 := forgL_good HG.out c Q ((dbtS S.L c).take (k + 1))
          have ht2 := G2.totB c
          rw [HT.out] at ht2
          clear G2 hx
          generalize (dbtS S.L c)[k] = x at *
          generalize forgL S c Q ((dbtS S.L c).take k) = Sk at *
          generalize hrx : ofF Q x.f x.t = rx at *
          have HRX := Lib.hid hrx
          generalize ht00 : totL S.L c = t0 at *
          have HT0 := Lib.hid ht00
          generalize htk : totL Sk.L c = tk at *
          have HTK := Lib.hid htk
          have HPK := Lib.hid hPk
          have HGK := Lib.hid Gk
          obtain ⟨ba, oa, rfl, _⟩ := (H.ownRd (by (repeat (first | (with_reducible exact List.mem_cons_self) | with_reducible apply List.mem_cons_of_mem)) : FlT (.slice aD (dbtS S.L c).length cD) (dbtS S.L c).length (dbtS S.L c) ∈ _)).lt (by omega)
          have Rw := H.ownRd (by (repeat (first | (with_reducible exact List.mem_cons_self) | with_reducible apply List.mem_cons_of_mem)) : FlT (.slice (some ⟨ba, oa, none⟩) (dbtS S.L c).length cD) (dbtS S.L c).length (dbtS S.L c) ∈ _)
          clear hrx htk hPk Gk ht00
          go_wp2_with (first
            | go_skip
            | ((with_reducible show wpList _ _ _ (_ :: _) _ _); (with_reducible apply wpl_loadRdR row_flow); (· rfl); (· rfl); (· exact Rw); (· rfl); (· exact hlen); (· decide); (· exact hrow); (simp only [Act.put, List.setIfInBounds_toArray, List.set_cons_zero, List.set_cons_succ]))
            | ((with_reducible show wpList _ _ _ (_ :: _) _ _); (with_reducible apply wpl_allocRH row_flow); (· rfl); (· exact H); (clear H; intro px _ H); (simp only [Act.put, List.setIfInBounds_toArray, List.set_cons_zero, List.set_cons_succ]))
            | ((with_reducible show wpList _ _ _ (_ :: _) _ _); (with_reducible apply wpl_storeRH row_flow); (· rfl); (· rfl); (· rfl); (· with_reducible exact flow_cells ..); (· exact H); (· (repeat (first | (with_reducible exact List.mem_cons_self) | with_reducible apply List.mem_cons_of_mem))); (· (simp only [flow_sz, Nat.reduceAdd, Nat.reduceLeDiff, Nat.le_refl]; done)); (· with_reducible exact flow_splice ..); (· (repeat (first | (with_reducible exact Repl.here) | with_reducible apply Repl.there))); (clear H; intro _ H); (simp only [Act.put, List.setIfInBounds_toArray, List.set_cons_zero, List.set_cons_succ]))
            | ((with_reducible show wpList _ _ _ (_ :: _) _ _); (with_reducible apply wpl_loadCH); (· first | exact cell_party | exact cell_i64); (· rfl); (· rfl); (· exact H); (· (repeat (first | (with_reducible exact List.mem_cons_self) | with_reducible apply List.mem_cons_of_mem))); (· (with_reducible first | exact flow_g0 .. | exact flow_g1 .. | exact flow_g2 ..)); (simp only [Act.put, List.setIfInBounds_toArray, List.set_cons_zero, List.set_cons_succ])))
          refine (index13_H aL Q.length cL px Q x rfl (by omega) List.mem_cons_self (fun w' h => h.ownRd (by (repeat (first | (with_reducible exact List.mem_cons_self) | with_reducible apply List.mem_cons_of_mem)))) _ H).mono ?_
          clear H Rw
          rintro e w4 ⟨rfl, H⟩
          by_cases hf : fIdx Q x.f x.t < Q.length
          · have HI := Lib.hid (show idxV Q x.f x.t = (fIdx Q x.f x.t : Int) by unfold idxV; rw [if_pos hf])
            obtain ⟨y, hy, hyn⟩ := ofF_find hf
            rw [HRX.out] at hyn
            rw [HI.out]
            generalize fIdx Q x.f x.t = ii at *
            have d1 : decide ((ii : Int) ≥ 0) = true := decide_eq_true (by omega)
            obtain ⟨bq, oq, rfl, _⟩ := (H.ownRd (by (repeat (first | (with_reducible exact List.mem_cons_self) | with_reducible apply List.mem_cons_of_mem)) : FlT (.slice aL Q.length cL) Q.length Q ∈ _)).lt (by rw [flwL_len]; omega)
            have hcq := (rd_flow (H.ownRd (by (repeat (first | (with_reducible exact List.mem_cons_self) | with_reducible apply List.mem_cons_of_mem)) : FlT (.slice (some ⟨bq, oq, none⟩) Q.length cL) Q.length Q ∈ _)) hy).2.2
            rw [hyn] at hcq
            clear hy hyn
            by_cases hpos : 0 < x.n - rx
            · have d2 : decide (x.n - rx > 0) = true := decide_eq_true (by omega)
              have d3 : decide (0 < x.n - rx) = true := decide_eq_true (by omega)
              have d4 : decide (rx < x.n) = true := decide_eq_true (by omega)
              have HS2 := Lib.hid (HS.out.2 hpos)
              clear hpos
              go_wp2_with (first | go_skip | ((with_reducible show wpList _ _ _ (_ :: _) _ _); (with_reducible apply wpl_loadCell cell_i64); (· rfl); (· rfl); (· exact hcq); (simp only [Act.put, List.setIfInBounds_toArray, List.set_cons_zero, List.set_cons_succ])) | ((with_reducible show wpList _ _ _ (_ :: _) _ _); (with_reducible apply wpl_loadCH); (· first | exact cell_party | exact cell_i64); (· rfl); (· rfl); (· exact H); (· (repeat (first | (with_reducible exact List.mem_cons_self) | with_reducible apply List.mem_cons_of_mem))); (· (with_reducible first | exact flow_g0 .. | exact flow_g1 .. | exact flow_g2 ..)); (simp only [Act.put, List.setIfInBounds_toArray, List.set_cons_zero, List.set_cons_succ])))
              rw [← HPK.out] at H
              refine (lforg_H (p := p) (q := q) (S := Sk) x.t x.f c (x.n - rx) (by omega) (by omega) hc (by omega) HGK.out (H.top2 (.there .here) (.there .here))).mono ?_
              clear H
              rintro e w5 ⟨rfl, H⟩
              rw [HPK.out] at H
              go_wp2_with (go_skip)
              refine ⟨⟨k + 1, by omega, by go_num, ?_, ?_⟩, ?measure2⟩
              · rw [HT.out, HS2.out, HT0.out]
                congr 1
                omega
              · rw [HT.out]
                exact H.drop (.there (.there .here))
              case measure2 => simp [intOf]; omega
            · have d2 : decide (x.n - rx > 0) = false := decide_eq_false (by omega)
              have d3 : decide (0 < x.n - rx) = false := decide_eq_false (by omega)
              have d4 : decide (rx < x.n) = false := decide_eq_false (by omega)
              have HS2 := Lib.hid (HS.out.1 (by omega))
              clear hpos
              go_wp2_with (first | go_skip | ((with_reducible show wpList _ _ _ (_ :: _) _ _); (with_reducible apply wpl_loadCell cell_i64); (· rfl); (· rfl); (· exact hcq); (simp only [Act.put, List.setIfInBounds_toArray, List.set_cons_zero, List.set_cons_succ])) | ((with_reducible show wpList _ _ _ (_ :: _) _ _); (with_reducible apply wpl_loadCH); (· first | exact cell_party | exact cell_i64); (· rfl); (· rfl); (· exact H); (· (repeat (first | (with_reducible exact List.mem_cons_self) | with_reducible apply List.mem_cons_of_mem))); (· (with_reducible first | exact flow_g0 .. | exact flow_g1 .. | exact flow_g2 ..)); (simp only [Act.put, List.setIfInBounds_toArray, List.set_cons_zero, List.set_cons_succ])))
              refine ⟨⟨k + 1, by omega, by go_num, ?_, ?_⟩, ?measure3⟩
              · rw [HT.out, HS2.out, HTK.out, HT0.out]
              · rw [HT.out, HS2.out]
                exact H.tail
              case measure3 => simp [intOf]; omega
          · have hr0 := ofF_nofind hf
            rw [HRX.out] at hr0
            subst hr0
            have HI := Lib.hid (show idxV Q x.f x.t = -1 by unfold idxV; rw [if_neg hf])
            rw [HI.out]
            clear hf
            simp only [Int.sub_zero] at HS HT ht2
            have hpos : 0 < x.n := HPOS.out
            have d2 : decide (x.n > 0) = true := decide_eq_true (by omega)
            have d3 : decide (0 < x.n) = true := decide_eq_true (by omega)
            have HS2 := Lib.hid (HS.out.2 hpos)
            go_wp2_with (first | go_skip | ((with_reducible show wpList _ _ _ (_ :: _) _ _); (with_reducible apply wpl_loadCH); (· first | exact cell_party | exact cell_i64); (· rfl); (· rfl); (· exact H); (· (repeat (first | (with_reducible exact List.mem_cons_self) | with_reducible apply List.mem_cons_of_mem))); (· (with_reducible first | exact flow_g0 .. | exact flow_g1 .. | exact flow_g2 ..)); (simp only [Act.put, List.setIfInBounds_toArray, List.set_cons_zero, List.set_cons_succ])))
            rw [← HPK.out] at H
            refine (lforg_H (p := p) (q := q) (S := Sk) x.t x.f c x.n (by omega) (by omega) hc (by omega) HGK.out (H.top2 (.there .here) (.there .here))).mono ?_
            clear H
            rintro e w5 ⟨rfl, H⟩
            rw [HPK.out] at H
            go_wp2_with (go_skip)
            refine ⟨⟨k + 1, by omega, by go_num, ?_, ?_⟩, ?measure4⟩
            · rw [HT.out, HS2.out, HT0.out]
              congr 1
              omega
            · rw [HT.out]
              exact H.drop (.there (.there .here))
            case measure4 => simp [intOf]; omega
        · obtain rfl : k = (dbtS S.L c).length := by omega
          rw [← hPk] at H
          have HTL := Lib.hid (List.take_length (l := dbtS S.L c))
          go_wp2_with (go_skip)
          go_ret3
          rw [HTL.out] at H ⊢
          exact ⟨_, k0, 0, _, rfl, HO.out, (H.drop (.there (.there .here))).drop (.there (.there .here))⟩
    · have HO := Lib.hid (show NetOut S c quota 0 0 er S from .inr ⟨hfine, Q, k0, ho, .inl ⟨he, rfl, rfl, rfl⟩⟩)
      have e1 : (er != 0) = true := by simpa using he
      clear ho hbnd hMD he
      go_wp2_with (go_skip)
      go_ret3
      exact ⟨0, 0, er, S, rfl, HO.out, H.tail.tail⟩
end
end Go.Proofs.YtgobnamhdkbbeaaGreat

/- countinghouseref08.May: may debts be? -/
namespace Go.Proofs.YtgobnamhdkbbeaaGreat
open Go.RowKit
set_option linter.unusedSimpArgs false
set_option linter.unusedVariables false
theorem okD_iff {x : Flw} : okD x = true ↔ ¬ x.f < 1 ∧ ¬ 16 < x.f ∧ ¬ x.t < 1 ∧ ¬ 16 < x.t ∧ x.f ≠ x.t ∧ ¬ x.n < 1 ∧ ¬ 1099511627776 < x.n := by
  simp [okD, mayP]
  omega
section
variable {W w : World} {l : List Thing}
set_option maxRecDepth 100000
set_option maxHeartbeats 4000000
open Classical in
theorem rmay8_H (a : Option Addr) (n c : Nat) (F : List Flw) (hl : F.length = n) (hn : n ≤ 1000000) (hF : ∀ x ∈ F, FlwOk x) (R : ∀ l' w', (∀ x ∈ l, x ∈ l') → Heap W l' w' → Rd w' a (flwL F)) :
    AnsH W l 64 #[.slice a n c] (.bool (decide (MayD F))) := by
  intro w H
  have HL := Lib.hid hl
  have HF := Lib.hid hF
  have HR := Lib.hid R
  clear hl hF R
  go_enter Tryz.func64, Tryz.ntmps64
  go_wp2_with (go_skip)
  have H0 := H
  clear H
  go_loopw [3] (fun i wr => M8R W l F n i wr) (fun i _ => n - (intOf i).toNat)
  case atStart => exact ⟨0, Nat.zero_le _, rfl, fun i x hi => absurd hi (by omega), H0⟩
  case round =>
    obtain ⟨k, hk, rfl, hO, H⟩ := hrel.out
    clear H0 hrel
    have HO := Lib.hid hO
    clear hO
    by_cases hlt : k < n
    · have hkF : k < F.length := by rw [HL.out]; exact hlt
      have hx : F[k]? = some F[k] := List.getElem?_eq_getElem hkF
      have hok := HF.out F[k] (List.getElem_mem hkF)
      have hat := flwL_at F k hkF
      have hlen : k * 3 + 3 ≤ (flwL F).length := by rw [flwL_len]; omega
      generalize F[k] = x at *
      have HMAY := Lib.hid (fun (h : MayD F) => h.at hx)
      have HX := Lib.hid hx
      obtain ⟨f, t, m⟩ := x
      obtain ⟨o1, o2, o3, o4⟩ := hok
      simp only at o1 o2 o3 o4
      have hrow : (((flwL F).drop (k * 3)).take 3).toArray = flow (f : Int) (t : Int) m := by rw [hat]; rfl
      obtain ⟨eb, eo, rfl, _⟩ := (HR.out l _ (fun _ h => h) H).lt (by omega)
      have HRd := Lib.hid (HR.out l _ (fun _ h => h) H)
      have HOK := Lib.hid (okD_iff (x := ⟨f, t, m⟩))
      clear hat hx hkF
      by_cases q0 : f < 1
      · have d0 : decide ((f : Int) < 1) = true := by simp; omega
        have HN := Lib.hid (show ¬ MayD F from fun h => by have := HOK.out.1 (HMAY.out h).1; simp only at this; omega)
        clear q0
        go_wp2_with (first
          | go_skip
          | ((with_reducible show wpList _ _ _ (_ :: _) _ _); (with_reducible apply wpl_loadRdR row_flow); (· rfl); (· rfl); (· exact HRd.out); (· rfl); (· exact hlen); (· decide); (· exact hrow); (simp only [Act.put, List.setIfInBounds_toArray, List.set_cons_zero, List.set_cons_succ]))
          | ((with_reducible show wpList _ _ _ (_ :: _) _ _); (with_reducible apply wpl_allocRH row_flow); (· rfl); (· exact H); (clear H; intro px _ H); (simp only [Act.put, List.setIfInBounds_toArray, List.set_cons_zero, List.set_cons_succ]))
          | ((with_reducible show wpList _ _ _ (_ :: _) _ _); (with_reducible apply wpl_storeRH row_flow); (· rfl); (· rfl); (· rfl); (· with_reducible exact flow_cells ..); (· exact H); (· (repeat (first | (with_reducible exact List.mem_cons_self) | with_reducible apply List.mem_cons_of_mem))); (· (simp only [flow_sz, Nat.reduceAdd, Nat.reduceLeDiff, Nat.le_refl]; done)); (· with_reducible exact flow_splice ..); (· (repeat (first | (with_reducible exact Repl.here) | with_reducible apply Repl.there))); (clear H; intro _ H); (simp only [Act.put, List.setIfInBounds_toArray, List.set_cons_zero, List.set_cons_succ]))
          | ((with_reducible show wpList _ _ _ (_ :: _) _ _); (with_reducible apply wpl_loadCH); (· first | exact cell_party | exact cell_i64); (· rfl); (· rfl); (· exact H); (· (repeat (first | (with_reducible exact List.mem_cons_self) | with_reducible apply List.mem_cons_of_mem))); (· (with_reducible first | exact flow_g0 .. | exact flow_g1 .. | exact flow_g2 ..)); (simp only [Act.put, List.setIfInBounds_toArray, List.set_cons_zero, List.set_cons_succ])))
        go_ret
        exact ⟨by rw [decide_eq_false HN.out]; rfl, H.tail⟩
      · have d0 : decide ((f : Int) < 1) = false := by simp; omega
        by_cases q1 : 16 < f
        · have d1 : decide ((f : Int) > 16) = true := by simp; omega
          have HN := Lib.hid (show ¬ MayD F from fun h => by have := HOK.out.1 (HMAY.out h).1; simp only at this; omega)
          clear q0 q1
          go_wp2_with (first
            | go_skip
            | ((with_reducible show wpList _ _ _ (_ :: _) _ _); (with_reducible apply wpl_loadRdR row_flow); (· rfl); (· rfl); (· exact HRd.out); (· rfl); (· exact hlen); (· decide); (· exact hrow); (simp only [Act.put, List.setIfInBounds_toArray, List.set_cons_zero, List.set_cons_succ]))
            | ((with_reducible show wpList _ _ _ (_ :: _) _ _); (with_reducible apply wpl_allocRH row_flow); (· rfl); (· exact H); (clear H; intro px _ H); (simp only [Act.put, List.setIfInBounds_toArray, List.set_cons_zero, List.set_cons_succ]))
            | ((with_reducible show wpList _ _ _ (_ :: _) _ _); (with_reducible apply wpl_storeRH row_flow); (· rfl); (· rfl); (· rfl); (· with_reducible exact flow_cells ..); (· exact H); (· (repeat (first | (with_reducible exact List.mem_cons_self) | with_reducible apply List.mem_cons_of_mem))); (· (simp only [flow_sz, Nat.reduceAdd, Nat.reduceLeDiff, Nat.le_refl]; done)); (· with_reducible exact flow_splice ..); (· (repeat (first | (with_reducible exact Repl.here) | with_reducible apply Repl.there))); (clear H; intro _ H); (simp only [Act.put, List.setIfInBounds_toArray, List.set_cons_zero, List.set_cons_succ]))
            | ((with_reducible show wpList _ _ _ (_ :: _) _ _); (with_reducible apply wpl_loadCH); (· first | exact cell_party | exact cell_i64); (· rfl); (· rfl); (· exact H); (· (repeat (first | (with_reducible exact List.mem_cons_self) | with_reducible apply List.mem_cons_of_mem))); (· (with_reducible first | exact flow_g0 .. | exact flow_g1 .. | exact flow_g2 ..)); (simp only [Act.put, List.setIfInBounds_toArray, List.set_cons_zero, List.set_cons_succ])))
          go_ret
          exact ⟨by rw [decide_eq_false HN.out]; rfl, H.tail⟩
        · have d1 : decide ((f : Int) > 16) = false := by simp; omega
          by_cases q2 : t < 1
          · have d2 : decide ((t : Int) < 1) = true := by simp; omega
            have HN := Lib.hid (show ¬ MayD F from fun h => by have := HOK.out.1 (HMAY.out h).1; simp only at this; omega)
            clear q0 q1 q2
            go_wp2_with (first
              | go_skip
              | ((with_reducible show wpList _ _ _ (_ :: _) _ _); (with_reducible apply wpl_loadRdR row_flow); (· rfl); (· rfl); (· exact HRd.out); (· rfl); (· exact hlen); (· decide); (· exact hrow); (simp only [Act.put, List.setIfInBounds_toArray, List.set_cons_zero, List.set_cons_succ]))
              | ((with_reducible show wpList _ _ _ (_ :: _) _ _); (with_reducible apply wpl_allocRH row_flow); (· rfl); (· exact H); (clear H; intro px _ H); (simp only [Act.put, List.setIfInBounds_toArray, List.set_cons_zero, List.set_cons_succ]))
              | ((with_reducible show wpList _ _ _ (_ :: _) _ _); (with_reducible apply wpl_storeRH row_flow); (· rfl); (· rfl); (· rfl); (· with_reducible exact flow_cells ..); (· exact H); (· (repeat (first | (with_reducible exact List.mem_cons_self) | with_reducible apply List.mem_cons_of_mem))); (· (simp only [flow_sz, Nat.reduceAdd, Nat.reduceLeDiff, Nat.le_refl]; done)); (· with_reducible exact flow_splice ..); (· (repeat (first | (with_reducible exact Repl.here) | with_reducible apply Repl.there))); (clear H; intro _ H); (simp only [Act.put, List.setIfInBounds_toArray, List.set_cons_zero, List.set_cons_succ]))
              | ((with_reducible show wpList _ _ _ (_ :: _) _ _); (with_reducible apply wpl_loadCH); (· first | exact cell_party | exact cell_i64); (· rfl); (· rfl); (· exact H); (· (repeat (first | (with_reducible exact List.mem_cons_self) | with_reducible apply List.mem_cons_of_mem))); (· (with_reducible first | exact flow_g0 .. | exact flow_g1 .. | exact flow_g2 ..)); (simp only [Act.put, List.setIfInBounds_toArray, List.set_cons_zero, List.set_cons_succ])))
            go_ret
            exact ⟨by rw [decide_eq_false HN.out]; rfl, H.tail⟩
          · have d2 : decide ((t : Int) < 1) = false := by simp; omega
            by_cases q3 : 16 < t
            · have d3 : decide ((t : Int) > 16) = true := by simp; omega
              have HN := Lib.hid (show ¬ MayD F from fun h => by have := HOK.out.1 (HMAY.out h).1; simp only at this; omega)
              clear q0 q1 q2 q3
              go_wp2_with (first
                | go_skip
                | ((with_reducible show wpList _ _ _ (_ :: _) _ _); (with_reducible apply wpl_loadRdR row_flow); (· rfl); (· rfl); (· exact HRd.out); (· rfl); (· exact hlen); (· decide); (· exact hrow); (simp only [Act.put, List.setIfInBounds_toArray, List.set_cons_zero, List.set_cons_succ]))
                | ((with_reducible show wpList _ _ _ (_ :: _) _ _); (with_reducible apply wpl_allocRH row_flow); (· rfl); (· exact H); (clear H; intro px _ H); (simp only [Act.put, List.setIfInBounds_toArray, List.set_cons_zero, List.set_cons_succ]))
                | ((with_reducible show wpList _ _ _ (_ :: _) _ _); (with_reducible apply wpl_storeRH row_flow); (· rfl); (· rfl); (· rfl); (· with_reducible exact flow_cells ..); (· exact H); (· (repeat (first | (with_reducible exact List.mem_cons_self) | with_reducible apply List.mem_cons_of_mem))); (· (simp only [flow_sz, Nat.reduceAdd, Nat.reduceLeDiff, Nat.le_refl]; done)); (· with_reducible exact flow_splice ..); (· (repeat (first | (with_reducible exact Repl.here) | with_reducible apply Repl.there))); (clear H; intro _ H); (simp only [Act.put, List.setIfInBounds_toArray, List.set_cons_zero, List.set_cons_succ]))
                | ((with_reducible show wpList _ _ _ (_ :: _) _ _); (with_reducible apply wpl_loadCH); (· first | exact cell_party | exact cell_i64); (· rfl); (· rfl); (· exact H); (· (repeat (first | (with_reducible exact List.mem_cons_self) | with_reducible apply List.mem_cons_of_mem))); (· (with_reducible first | exact flow_g0 .. | exact flow_g1 .. | exact flow_g2 ..)); (simp only [Act.put, List.setIfInBounds_toArray, List.set_cons_zero, List.set_cons_succ])))
              go_ret
              exact ⟨by rw [decide_eq_false HN.out]; rfl, H.tail⟩
            · have d3 : decide ((t : Int) > 16) = false := by simp; omega
              by_cases q4 : f = t
              · have d4 : ((f : Int) == (t : Int)) = true := by simp; omega
                have HN := Lib.hid (show ¬ MayD F from fun h => by have := HOK.out.1 (HMAY.out h).1; simp only at this; omega)
                clear q0 q1 q2 q3 q4
                go_wp2_with (first
                  | go_skip
                  | ((with_reducible show wpList _ _ _ (_ :: _) _ _); (with_reducible apply wpl_loadRdR row_flow); (· rfl); (· rfl); (· exact HRd.out); (· rfl); (· exact hlen); (· decide); (· exact hrow); (simp only [Act.put, List.setIfInBounds_toArray, List.set_cons_zero, List.set_cons_succ]))
                  | ((with_reducible show wpList _ _ _ (_ :: _) _ _); (with_reducible apply wpl_allocRH row_flow); (· rfl); (· exact H); (clear H; intro px _ H); (simp only [Act.put, List.setIfInBounds_toArray, List.set_cons_zero, List.set_cons_succ]))
                  | ((with_reducible show wpList _ _ _ (_ :: _) _ _); (with_reducible apply wpl_storeRH row_flow); (· rfl); (· rfl); (· rfl); (· with_reducible exact flow_cells ..); (· exact H); (· (repeat (first | (with_reducible exact List.mem_cons_self) | with_reducible apply List.mem_cons_of_mem))); (· (simp only [flow_sz, Nat.reduceAdd, Nat.reduceLeDiff, Nat.le_refl]; done)); (· with_reducible exact flow_splice ..); (· (repeat (first | (with_reducible exact Repl.here) | with_reducible apply Repl.there))); (clear H; intro _ H); (simp only [Act.put, List.setIfInBounds_toArray, List.set_cons_zero, List.set_cons_succ]))
                  | ((with_reducible show wpList _ _ _ (_ :: _) _ _); (with_reducible apply wpl_loadCH); (· first | exact cell_party | exact cell_i64); (· rfl); (· rfl); (· exact H); (· (repeat (first | (with_reducible exact List.mem_cons_self) | with_reducible apply List.mem_cons_of_mem))); (· (with_reducible first | exact flow_g0 .. | exact flow_g1 .. | exact flow_g2 ..)); (simp only [Act.put, List.setIfInBounds_toArray, List.set_cons_zero, List.set_cons_succ])))
                go_ret
                exact ⟨by rw [decide_eq_false HN.out]; rfl, H.tail⟩
              · have d4 : ((f : Int) == (t : Int)) = false := by simp; omega
                by_cases q5 : m < 1
                · have d5 : decide (m < 1) = true := by simp; omega
                  have HN := Lib.hid (show ¬ MayD F from fun h => by have := HOK.out.1 (HMAY.out h).1; simp only at this; omega)
                  clear q0 q1 q2 q3 q4 q5
                  go_wp2_with (first
                    | go_skip
                    | ((with_reducible show wpList _ _ _ (_ :: _) _ _); (with_reducible apply wpl_loadRdR row_flow); (· rfl); (· rfl); (· exact HRd.out); (· rfl); (· exact hlen); (· decide); (· exact hrow); (simp only [Act.put, List.setIfInBounds_toArray, List.set_cons_zero, List.set_cons_succ]))
                    | ((with_reducible show wpList _ _ _ (_ :: _) _ _); (with_reducible apply wpl_allocRH row_flow); (· rfl); (· exact H); (clear H; intro px _ H); (simp only [Act.put, List.setIfInBounds_toArray, List.set_cons_zero, List.set_cons_succ]))
                    | ((with_reducible show wpList _ _ _ (_ :: _) _ _); (with_reducible apply wpl_storeRH row_flow); (· rfl); (· rfl); (· rfl); (· with_reducible exact flow_cells ..); (· exact H); (· (repeat (first | (with_reducible exact List.mem_cons_self) | with_reducible apply List.mem_cons_of_mem))); (· (simp only [flow_sz, Nat.reduceAdd, Nat.reduceLeDiff, Nat.le_refl]; done)); (· with_reducible exact flow_splice ..); (· (repeat (first | (with_reducible exact Repl.here) | with_reducible apply Repl.there))); (clear H; intro _ H); (simp only [Act.put, List.setIfInBounds_toArray, List.set_cons_zero, List.set_cons_succ]))
                    | ((with_reducible show wpList _ _ _ (_ :: _) _ _); (with_reducible apply wpl_loadCH); (· first | exact cell_party | exact cell_i64); (· rfl); (· rfl); (· exact H); (· (repeat (first | (with_reducible exact List.mem_cons_self) | with_reducible apply List.mem_cons_of_mem))); (· (with_reducible first | exact flow_g0 .. | exact flow_g1 .. | exact flow_g2 ..)); (simp only [Act.put, List.setIfInBounds_toArray, List.set_cons_zero, List.set_cons_succ])))
                  go_ret
                  exact ⟨by rw [decide_eq_false HN.out]; rfl, H.tail⟩
                · have d5 : decide (m < 1) = false := by simp; omega
                  by_cases q6 : 1099511627776 < m
                  · have d6 : decide (m > 1099511627776) = true := by simp; omega
                    have HN := Lib.hid (show ¬ MayD F from fun h => by have := HOK.out.1 (HMAY.out h).1; simp only at this; omega)
                    clear q0 q1 q2 q3 q4 q5 q6
                    go_wp2_with (first
                      | go_skip
                      | ((with_reducible show wpList _ _ _ (_ :: _) _ _); (with_reducible apply wpl_loadRdR row_flow); (· rfl); (· rfl); (· exact HRd.out); (· rfl); (· exact hlen); (· decide); (· exact hrow); (simp only [Act.put, List.setIfInBounds_toArray, List.set_cons_zero, List.set_cons_succ]))
                      | ((with_reducible show wpList _ _ _ (_ :: _) _ _); (with_reducible apply wpl_allocRH row_flow); (· rfl); (· exact H); (clear H; intro px _ H); (simp only [Act.put, List.setIfInBounds_toArray, List.set_cons_zero, List.set_cons_succ]))
                      | ((with_reducible show wpList _ _ _ (_ :: _) _ _); (with_reducible apply wpl_storeRH row_flow); (· rfl); (· rfl); (· rfl); (· with_reducible exact flow_cells ..); (· exact H); (· (repeat (first | (with_reducible exact List.mem_cons_self) | with_reducible apply List.mem_cons_of_mem))); (· (simp only [flow_sz, Nat.reduceAdd, Nat.reduceLeDiff, Nat.le_refl]; done)); (· with_reducible exact flow_splice ..); (· (repeat (first | (with_reducible exact Repl.here) | with_reducible apply Repl.there))); (clear H; intro _ H); (simp only [Act.put, List.setIfInBounds_toArray, List.set_cons_zero, List.set_cons_succ]))
                      | ((with_reducible show wpList _ _ _ (_ :: _) _ _); (with_reducible apply wpl_loadCH); (· first | exact cell_party | exact cell_i64); (· rfl); (· rfl); (· exact H); (· (repeat (first | (with_reducible exact List.mem_cons_self) | with_reducible apply List.mem_cons_of_mem))); (· (with_reducible first | exact flow_g0 .. | exact flow_g1 .. | exact flow_g2 ..)); (simp only [Act.put, List.setIfInBounds_toArray, List.set_cons_zero, List.set_cons_succ])))
                    go_ret
                    exact ⟨by rw [decide_eq_false HN.out]; rfl, H.tail⟩
                  · have d6 : decide (m > 1099511627776) = false := by simp; omega
                    have HK := Lib.hid (show okD ⟨f, t, m⟩ = true from HOK.out.2 ⟨q0, q1, q2, q3, q4, q5, q6⟩)
                    clear q0 q1 q2 q3 q4 q5 q6
                    go_wp2_with (first
                      | go_skip
                      | ((with_reducible show wpList _ _ _ (_ :: _) _ _); (with_reducible apply wpl_loadRdR row_flow); (· rfl); (· rfl); (· exact HRd.out); (· rfl); (· exact hlen); (· decide); (· exact hrow); (simp only [Act.put, List.setIfInBounds_toArray, List.set_cons_zero, List.set_cons_succ]))
                      | ((with_reducible show wpList _ _ _ (_ :: _) _ _); (with_reducible apply wpl_allocRH row_flow); (· rfl); (· exact H); (clear H; intro px _ H); (simp only [Act.put, List.setIfInBounds_toArray, List.set_cons_zero, List.set_cons_succ]))
                      | ((with_reducible show wpList _ _ _ (_ :: _) _ _); (with_reducible apply wpl_storeRH row_flow); (· rfl); (· rfl); (· rfl); (· with_reducible exact flow_cells ..); (· exact H); (· (repeat (first | (with_reducible exact List.mem_cons_self) | with_reducible apply List.mem_cons_of_mem))); (· (simp only [flow_sz, Nat.reduceAdd, Nat.reduceLeDiff, Nat.le_refl]; done)); (· with_reducible exact flow_splice ..); (· (repeat (first | (with_reducible exact Repl.here) | with_reducible apply Repl.there))); (clear H; intro _ H); (simp only [Act.put, List.setIfInBounds_toArray, List.set_cons_zero, List.set_cons_succ]))
                      | ((with_reducible show wpList _ _ _ (_ :: _) _ _); (with_reducible apply wpl_loadCH); (· first | exact cell_party | exact cell_i64); (· rfl); (· rfl); (· exact H); (· (repeat (first | (with_reducible exact List.mem_cons_self) | with_reducible apply List.mem_cons_of_mem))); (· (with_reducible first | exact flow_g0 .. | exact flow_g1 .. | exact flow_g2 ..)); (simp only [Act.put, List.setIfInBounds_toArray, List.set_cons_zero, List.set_cons_succ])))
                    by_cases p0 : k = 0
                    · have g0 : decide ((k : Int) > 0) = false := decide_eq_false (by omega)
                      have g1 : decide (0 < k) = false := decide_eq_false (by omega)
                      refine wp_region_H H (by kernel_rfl) (by kernel_rfl) ?_
                      repeat (first | go_big_quiet_skip | fail | go_big_quiet_step (fail))
                      refine wpQuiet_nil ?_
                      clear H
                      intro _ H
                      go_wp2_with (go_skip)
                      refine ⟨⟨k + 1, by omega, by go_num, HO.out.next HX.out HK.out (fun y h => absurd h (by omega)), H.tail⟩, ?measure1⟩
                      case measure1 => simp [intOf]; omega
                    · have g0 : decide ((k : Int) > 0) = true := decide_eq_true (by omega)
                      have g1 : decide (0 < k) = true := decide_eq_true (by omega)
                      have hjF : k - 1 < F.length := by rw [HL.out]; omega
                      have hy : F[k - 1]? = some F[k - 1] := List.getElem?_eq_getElem hjF
                      have hyo := HF.out F[k - 1] (List.getElem_mem hjF)
                      have w1 : wrap64 ((k : Int) - 1) = (k : Int) - 1 := IntWalk.wrap64_in _ ⟨by omega, by omega⟩
                      have hjn : k - 1 < n := by omega
                      generalize F[k - 1] = y at *
                      obtain ⟨yf, yt, ym⟩ := y
                      obtain ⟨y1, y2, _, _⟩ := hyo
                      simp only at y1 y2
                      have HY := Lib.hid (show F[k - 1]? = some ⟨yf, yt, ym⟩ from hy)
                      have hc0 : ∀ w', Heap W (Cel px (flow (f : Int) (t : Int) m) 53 :: l) w' → w'.cell? ⟨eb, eo + (k - 1) * 3, none⟩ = some (.int .u8 (yf : Int)) := fun w' h => (rd_flow (HR.out _ w' (fun x hx => List.mem_cons_of_mem _ hx) h) HY.out).1
                      have hc1 : ∀ w', Heap W (Cel px (flow (f : Int) (t : Int) m) 53 :: l) w' → w'.cell? ⟨eb, eo + (k - 1) * 3 + 1, none⟩ = some (.int .u8 (yt : Int)) := fun w' h => (rd_flow (HR.out _ w' (fun x hx => List.mem_cons_of_mem _ hx) h) HY.out).2.1
                      have HCF := Lib.hid (cfF_lt ⟨yf, yt, ym⟩ ⟨f, t, m⟩)
                      clear hy hjF
                      refine wp_region_H H (by kernel_rfl) (by kernel_rfl) ?_
                      repeat (first | go_big_quiet_skip | (first | ((with_reducible apply wpQ_loadAt cell_party); (· rfl); (· rfl); (· with_reducible first | exact hc0 | exact hc1); (simp only [Act.put, List.setIfInBounds_toArray, List.set_cons_zero, List.set_cons_succ])) | ((with_reducible apply wpQ_loadCH); (· exact cell_party); (· rfl); (· rfl); (· (repeat (first | (with_reducible exact List.mem_cons_self) | with_reducible apply List.mem_cons_of_mem))); (· (with_reducible first | exact flow_g0 .. | exact flow_g1 .. | exact flow_g2 ..)); (simp only [Act.put, List.setIfInBounds_toArray, List.set_cons_zero, List.set_cons_succ]))) | go_big_quiet_step ((with_reducible first | exact AnsH.quiet (by assumption) | exact Ans.quietH (by assumption))))
                      refine wpQuiet_nil ?_
                      clear H
                      intro _ H
                      by_cases q7 : 256 * (f : Int) + (t : Int) ≤ 256 * (yf : Int) + (yt : Int)
                      · have d7 : decide (256 * (f : Int) + (t : Int) ≤ 256 * (yf : Int) + (yt : Int)) = true := decide_eq_true q7
                        have HN := Lib.hid (show ¬ MayD F from fun h => by have := HCF.out.1 ((HMAY.out h).2 _ (by omega) HY.out); simp only at this; omega)
                        clear q7
                        rw [d7]
                        clear d7
                        go_wp2_with (go_skip)
                        go_ret
                        exact ⟨by rw [decide_eq_false HN.out]; rfl, H.tail⟩
                      · have d7 : decide (256 * (f : Int) + (t : Int) ≤ 256 * (yf : Int) + (yt : Int)) = false := decide_eq_false q7
                        have HN := Lib.hid (show cfF ⟨yf, yt, ym⟩ ⟨f, t, m⟩ < 0 from HCF.out.2 (by simp only; omega))
                        clear q7
                        rw [d7]
                        clear d7
                        go_wp2_with (go_skip)
                        refine ⟨⟨k + 1, by omega, by go_num, HO.out.next HX.out HK.out (fun z _ hz => by rw [HY.out] at hz; cases hz; exact HN.out), H.tail⟩, ?measure2⟩
                        case measure2 => simp [intOf]; omega
    · obtain rfl : k = n := by omega
      have HN := Lib.hid (show MayD F from by unfold MayD; rw [HL.out]; exact HO.out)
      go_wp2_with (go_skip)
      go_ret
      exact ⟨by rw [decide_eq_true HN.out]; rfl, H⟩
end
end Go.Proofs.YtgobnamhdkbbeaaGreat
