/- Part 10 of what several laws stand on: Rnd10, Rnd11, Led10, Led11, Led3, Led4. -/
import Derived.Test.YtgobnamhdkbbeaaNetGPart9
import Derived.Laws.Externs
/- rounds: one round. -/
namespace Go.Proofs.Ytgobnamhdkbbeaa
open Go.RowKit
set_option linter.unusedSimpArgs false
set_option linter.unusedVariables false
theorem slSt8 : SlTy Try.prog 204 206 2 16 (.agg #[.pointer none, .bool false]) := slTy_mk Try.underlying204 (by kernel_rfl) rfl (by decide)
theorem stp0_sz : stp0.size = 2 := rfl
theorem stp_len (p : Nat) (b : Bool) : (stp p b).toList.length = 2 := rfl
theorem stp_size (p : Nat) (b : Bool) : (stp p b).size = 2 := rfl
/-- What the row of steps holds so far. -/
def StpIn (S : List (Nat × Bool)) (ps : List Nat) (xs : List Value) (k : Nat) : Prop := ∀ (j i : Nat) (b : Bool) (p : Nat), j < k → S[j]? = some (i, b) → ps[i]? = some p → ((xs.drop (j * 2)).take 2).toArray = stp p b
def putS (xs : List Value) (k p : Nat) (b : Bool) : List Value := xs.take (k * 2) ++ (stp p b).toList ++ xs.drop (k * 2 + 2)
theorem putS_len {xs : List Value} {k p : Nat} {b : Bool} (h : k * 2 + 2 ≤ xs.length) : (putS xs k p b).length = xs.length := by
  unfold putS
  rw [List.length_append, List.length_append, stp_len]
  simp
  omega
theorem putS_at {xs : List Value} {k p : Nat} {b : Bool} (h : k * 2 + 2 ≤ xs.length) : (((putS xs k p b).drop (k * 2)).take 2).toArray = stp p b := by
  unfold putS
  rw [List.append_assoc, List.drop_append_of_le_length (by simp; omega), List.drop_of_length_le (by simp; omega), List.nil_append, List.take_append_of_le_length (by rw [stp_len]; omega)]
  rfl
theorem StpIn.put {S : List (Nat × Bool)} {ps : List Nat} {xs : List Value} {k i p : Nat} {b : Bool} (h : StpIn S ps xs k) (hl : k * 2 + 2 ≤ xs.length) (hs : S[k]? = some (i, b)) (hp : ps[i]? = some p) : StpIn S ps (putS xs k p b) (k + 1) := by
  intro j i' b' p' hj h1 h2
  by_cases e : j = k
  · subst e
    rw [hs] at h1
    cases h1
    rw [hp] at h2
    cases h2
    exact putS_at hl
  · rw [← h j i' b' p' (by omega) h1 h2]
    congr 1
    apply List.ext_getElem?
    intro q
    rw [List.getElem?_take, List.getElem?_take]
    by_cases hq : q < 2
    · rw [if_pos hq, if_pos hq, List.getElem?_drop, List.getElem?_drop]
      unfold putS
      rw [List.append_assoc, List.getElem?_append_left (by simp; omega), List.getElem?_take, if_pos (by omega)]
    · rw [if_neg hq, if_neg hq]
structure RnA (W : World) (l : List Thing) (F : List Flw) (N : List Int) (ps : List Nat) (S : List (Nat × Bool)) (sg n : Nat) (m i : Value) (wr : World) : Prop where
  out : ∃ (k : Nat) (xs : List Value), k ≤ n ∧ i = .int .i64 (k : Int) ∧ m = .int .i64 (minS F N 1099511627776 (S.take k)) ∧ xs.length = n * 2 ∧ StpIn S ps xs k ∧ Heap W (OwnT 206 2 (.slice (some ⟨sg, 0, none⟩) n n) n xs :: l) wr
structure RnB (W : World) (l : List Thing) (F : List Flw) (N : List Int) (ps : List Nat) (S : List (Nat × Bool)) (v : Int) (sg n : Nat) (xs : List Value) (i : Value) (wr : World) : Prop where
  out : ∃ (k : Nat), k ≤ n ∧ i = .int .i64 (k : Int) ∧ Heap W (OwnT 206 2 (.slice (some ⟨sg, 0, none⟩) n n) n xs :: (dbs ps F (goS v (S.take k) N) ++ l)) wr
theorem nodup_before {S : List (Nat × Bool)} (h : (S.map Prod.fst).Nodup) {k i : Nat} {b : Bool} (hk : S[k]? = some (i, b)) : ∀ x ∈ S.take k, x.1 ≠ i := by
  intro x hx he
  obtain ⟨j, hj, rfl⟩ := List.mem_iff_getElem.1 hx
  rw [List.length_take] at hj
  have h1 : (S.map Prod.fst)[j]? = some i := by
    rw [List.getElem?_map, List.getElem?_eq_getElem (by omega)]
    simp only [List.getElem_take] at he
    simp [he]
  have h2 : (S.map Prod.fst)[k]? = some i := by rw [List.getElem?_map, hk]; rfl
  have hl : j < (S.map Prod.fst).length := by simp; omega
  have hl2 : k < (S.map Prod.fst).length := by rw [List.length_map]; exact (List.getElem?_eq_some_iff.1 hk).1
  rw [List.getElem?_eq_getElem hl] at h1
  rw [List.getElem?_eq_getElem hl2] at h2
  exact List.pairwise_iff_getElem.1 h j k hl hl2 (by omega) (Option.some.inj (h1.trans h2.symm))
section
variable {W w : World} {l : List Thing}
set_option maxRecDepth 100000
set_option maxHeartbeats 8000000
theorem mostS_H (p : Nat) (x : Flw) (m : Int) (b : Bool) {F : List Flw} {N : List Int} {i : Nat} (hx : F[i]? = some x) (hm : N[i]? = some m) (h : debtT p x m ∈ l) : AnsH W l 143 #[.agg (stp p b)] (.int .i64 (mostS F N i b)) := by
  have A := most8_H (W := W) p x.f x.t m (x.n - m) b h
  unfold mostS
  simp only [List.getD_eq_getElem?_getD, List.getElem?_map, hx, hm, Option.map_some, Option.getD_some]
  exact A
attribute [local go_sem high] run_min2
theorem round8_H (ea : Option Addr) (n c : Nat) (ps : List Nat) (F : List Flw) (N : List Int) (hM : MayD F) (I : InvN F N) (hp : ps.length = n) (hf : F.length = n) (hn : n ≤ 1000)
    (R : ∀ l' w', (∀ x ∈ l, x ∈ l') → Heap W l' w' → Rd w' ea (ptrL ps)) (ta : Option Addr) (tn tc : Nat) (T : List Nat) (S : List (Nat × Bool)) (hS : StepsAre F N T S) (h2 : ∀ x ∈ S, x.1 < F.length ∧ 1 ≤ mostS F N x.1 x.2) (h3 : (S.map Prod.fst).Nodup)
    (hT : T.length = tn) (hT1 : 1 ≤ tn) (hT2 : tn ≤ 16) (RT : ∀ l' w', (∀ x ∈ l, x ∈ l') → Heap W l' w' → Rd w' ta (T.map pv)) (H : Heap W (dbs ps F N ++ l) w) :
    Calls Try.prog 110 #[.slice ea n c, .slice ta tn tc] w fun e w' => e = .returned (.tuple #[]) ∧ Heap W (dbs ps F (goS (minS F N 1099511627776 S) S N) ++ l) w' := by
  have hN : N.length = n := I.len.trans hf
  have RW := RT _ _ (fun x hx => List.mem_append_right _ hx) H
  obtain ⟨tb, to, rfl, _⟩ := RW.lt (by simp; omega)
  have HI := Lib.hid I
  have HM := Lib.hid hM
  have HP := Lib.hid (And.intro hp (And.intro hf hN))
  have HR := Lib.hid R
  have HT := Lib.hid RT
  have HTL := Lib.hid hT
  have HS := Lib.hid hS
  have H2 := Lib.hid h2
  have H3 := Lib.hid h3
  have hSl : S.length = tn := hS.1.trans hT
  have v1 := minS_pos F N S 1099511627776 (by omega) fun x hx => (h2 x hx).2
  have v2 := (minS_le F N S 1099511627776).1
  have HV := Lib.hid (And.intro v1 v2)
  clear v1 v2 hp hf hN R RT hS h2 h3 hM I RW hT
  have hSL := Lib.hid hSl
  clear hSl
  go_enter Try.func110, Try.ntmps110
  go_wp2_with (first
    | go_skip
    | ((with_reducible show wpList _ _ _ (_ :: _) _ _); (with_reducible apply wpl_makeC slSt8 (n := tn) (m := tn)); (· rfl); (· rfl); (· rfl); (· rfl); (· exact Nat.le_refl _); (· omega); (· omega); (· exact H); (clear H; intro sg _ H); (simp only [Act.put, List.setIfInBounds_toArray, List.set_cons_zero, List.set_cons_succ])))
  replace H := H.celOwn (n := tn) (size := 2) (by rw [size_madeCells]) (by unfold maxLen; omega)
  obtain ⟨xs0, hx0⟩ : ∃ xs0, (madeCells (Value.cells (.agg #[.pointer none, .bool false])) (tn * 2)).toList = xs0 := ⟨_, rfl⟩
  have hx0l : xs0.length = tn * 2 := by rw [← hx0]; simp [size_madeCells]
  rw [hx0] at H
  clear hx0
  have H0 := H
  clear H
  go_loopw [5, 15] (fun m i wr => RnA W (dbs ps F N ++ l) F N ps S sg tn m i wr) (fun _ i _ => tn - (intOf i).toNat)
  case atStart => exact ⟨0, xs0, Nat.zero_le _, rfl, rfl, hx0l, (fun j i b p hj => absurd hj (by omega)), H0⟩
  case round =>
    obtain ⟨k, xs, hk, rfl, rfl, hxl, hin, H⟩ := hrel.out
    clear H0 hrel hx0l
    have HIN := Lib.hid hin
    clear hin
    by_cases hlt : k < tn
    · have hmn : k % tn = k := Nat.mod_eq_of_lt hlt
      have hk1 : (k + 1) % tn < tn := Nat.mod_lt _ (by omega)
      obtain ⟨i, b, s1, s2⟩ := HS.out.2 k (by rw [HTL.out]; exact hlt)
      rw [HTL.out] at s2
      obtain ⟨ta1, hta⟩ : ∃ x, T.getD k 0 = x := ⟨_, rfl⟩
      obtain ⟨tb1, htb⟩ : ∃ x, T.getD ((k + 1) % tn) 0 = x := ⟨_, rfl⟩
      rw [hta, htb] at s2
      have Rw := HT.out _ _ (fun x hx => List.mem_cons_of_mem _ (List.mem_append_right _ hx)) H
      have hTm : (T.map pv).length = tn := by simp [HTL.out]
      have c1 : wr.cell? ⟨tb, to + k, none⟩ = some (.int .u8 (ta1 : Int)) := by
        rw [Rw.get (i := k) (by omega)]
        subst hta
        simp [pv, List.getD_eq_getElem?_getD, HTL.out, hlt]
      have c2 : wr.cell? ⟨tb, to + (k + 1) % tn, none⟩ = some (.int .u8 (tb1 : Int)) := by
        rw [Rw.get (i := (k + 1) % tn) (by omega)]
        subst htb
        simp [pv, List.getD_eq_getElem?_getD, HTL.out, hk1]
      have hi := (H2.out _ (List.mem_of_getElem? s1)).1
      simp only at hi
      rw [HP.out.2.1] at hi
      have hpi : ps[i]? = some (ps[i]'(by rw [HP.out.1]; exact hi)) := List.getElem?_eq_getElem _
      have hfi : F[i]? = some (F[i]'(by rw [HP.out.2.1]; exact hi)) := List.getElem?_eq_getElem _
      have hni : N[i]? = some (N[i]'(by rw [HP.out.2.2]; exact hi)) := List.getElem?_eq_getElem _
      generalize ps[i]'(by rw [HP.out.1]; exact hi) = p at *
      generalize F[i]'(by rw [HP.out.2.1]; exact hi) = x at *
      generalize N[i]'(by rw [HP.out.2.2]; exact hi) = m at *
      have hle : k * 2 + 2 ≤ xs.length := by omega
      have hle2 : k * 2 + 2 ≤ (putS xs k p b).length := by rw [putS_len hle]; exact hle
      have A1 := fun ys => step8_H (W := W) (l := OwnT 206 2 (.slice (some ⟨sg, 0, none⟩) tn tn) tn ys :: (dbs ps F N ++ l)) ea n c ps F N HM.out HP.out.1 HP.out.2.1 HP.out.2.2 hn (fun l' w' hh H' => HR.out l' w' (fun x hx => hh x (List.mem_cons_of_mem _ (List.mem_append_right _ hx))) H') (fun i p x m g1 g2 g3 => List.mem_cons_of_mem _ (dbs_mem g1 g2 g3)) ta1 tb1 i p b s2 hpi
      have A2 := fun ys => mostS_H (W := W) (l := OwnT 206 2 (.slice (some ⟨sg, 0, none⟩) tn tn) tn ys :: (dbs ps F N ++ l)) p x m b hfi hni (List.mem_cons_of_mem _ (dbs_mem hpi hfi hni))
      obtain ⟨kk, hkk⟩ : ∃ kk, (k + 1) % tn = kk := ⟨_, rfl⟩
      have hmod : ((k : Int) + 1) % (tn : Int) = (kk : Int) := by rw [← hkk, Int.natCast_emod]; rfl
      rw [hkk] at c2 hk1
      clear hkk
      have HPI := Lib.hid (And.intro hpi s1)
      clear hfi hni hpi s2 s1 Rw hta htb
      go_wp2_with (first
        | go_skip
        | ((with_reducible refine AnsH.call (A1 _) H ?_); clear H; intro _ H) | ((with_reducible refine AnsH.call (A2 _) H ?_); clear H; intro _ H)
        | ((with_reducible show wpList _ _ _ (_ :: _) _ _); (with_reducible apply wpl_storeOwnR row_stp); (· rfl); (· rfl); (· rfl); (· exact stp_cells2 ..); (· exact H); (· exact List.mem_cons_self); (· exact (Nat.zero_add _).symm); (· exact hle); (· exact (rfl : _ = putS xs k p b)); (· exact Repl.here); (clear H; intro _ H); (simp only [Act.put, List.setIfInBounds_toArray, List.set_cons_zero, List.set_cons_succ]))
        | ((with_reducible show wpList _ _ _ (_ :: _) _ _); (with_reducible apply wpl_loadRdR row_stp); (· rfl); (· rfl); (· exact H.ownRd List.mem_cons_self); (· exact (Nat.zero_add _).symm); (· exact hle2); (· decide); (· exact putS_at hle); (simp only [Act.put, List.setIfInBounds_toArray, List.set_cons_zero, List.set_cons_succ])))
      refine ⟨⟨k + 1, _, by omega, by go_num, ?_, ?_, HIN.out.put hle HPI.out.2 HPI.out.1, H⟩, ?measure1⟩
      case measure1 => simp [intOf]; omega
      · rw [List.take_add_one, HPI.out.2, Option.toList_some, minS_snoc]
      · rw [putS_len hle, hxl]
    · obtain rfl : k = tn := by omega
      rw [List.take_of_length_le (by rw [hSL.out]; exact Nat.le_refl _)]
      have HXL := Lib.hid hxl
      clear hxl
      go_wp2_with (go_skip)
      have H0 := H
      clear H
      go_loopw [44] (fun i wr => RnB W l F N ps S (minS F N 1099511627776 S) sg k xs i wr) (fun i _ => k - (intOf i).toNat)
      case atStart => exact ⟨0, Nat.zero_le _, rfl, H0⟩
      case round =>
        obtain ⟨j, hj, rfl, H⟩ := hrel.out
        clear H0 hrel
        by_cases hlt2 : j < k
        · obtain ⟨i, b, s1, s2⟩ := HS.out.2 j (by rw [HTL.out]; exact hlt2)
          clear s2
          have hmem := List.mem_of_getElem? s1
          have hi := (H2.out _ hmem).1
          simp only at hi
          rw [HP.out.2.1] at hi
          have hpi : ps[i]? = some (ps[i]'(by rw [HP.out.1]; exact hi)) := List.getElem?_eq_getElem _
          have hfi : F[i]? = some (F[i]'(by rw [HP.out.2.1]; exact hi)) := List.getElem?_eq_getElem _
          have hni : N[i]? = some (N[i]'(by rw [HP.out.2.2]; exact hi)) := List.getElem?_eq_getElem _
          generalize ps[i]'(by rw [HP.out.1]; exact hi) = p at *
          generalize F[i]'(by rw [HP.out.2.1]; exact hi) = x at *
          generalize N[i]'(by rw [HP.out.2.2]; exact hi) = m at *
          have hb := HI.out.bnd i x m hfi hni
          have hx := (HM.out.okX hfi).2.2.2.2.2.2
          have hgo : (goS (minS F N 1099511627776 S) (S.take j) N)[i]? = some m := by
            rw [goS_other _ _ _ _ (nodup_before H3.out s1)]; exact hni
          have hsn : goS (minS F N 1099511627776 S) (S.take (j + 1)) N = (goS (minS F N 1099511627776 S) (S.take j) N).set i (m + if b then minS F N 1099511627776 S else -minS F N 1099511627776 S) := by
            rw [List.take_add_one, s1, Option.toList_some, goS_snoc, List.getD_eq_getElem?_getD, hgo]; rfl
          have HSN := Lib.hid hsn
          have HV1 := HV.out.1
          have HV2 := HV.out.2
          generalize minS F N 1099511627776 S = v at *
          obtain ⟨r, g1, g2⟩ := dbs_pull (l := l) hpi hfi hgo
          have hst := HIN.out j i b p (by omega) s1 hpi
          have hle : j * 2 + 2 ≤ xs.length := by rw [HXL.out]; omega
          have HX := Lib.hid hx
          clear hsn hfi hni hmem hpi s1 hx
          have C := fun q w' (H' : Heap W (DbC p x.f x.t m (x.n - m) :: Cel q (stp p b) 206 :: OwnT 206 2 (.slice (some ⟨sg, 0, none⟩) k k) k xs :: r) w') => goes8_H p x.f x.t m (x.n - m) v b (by have := HX.out; omega) (by have := HX.out; omega) (by omega) H'
          go_wp2_with (first
            | go_skip
            | ((with_reducible show wpList _ _ _ (_ :: _) _ _); (with_reducible apply wpl_allocRH row_stp); (· rfl); (· exact H); (clear H; intro q _ H); (simp only [Act.put, List.setIfInBounds_toArray, List.set_cons_zero, List.set_cons_succ]))
            | ((with_reducible show wpList _ _ _ (_ :: _) _ _); (with_reducible apply wpl_loadRdR row_stp); (· rfl); (· rfl); (· exact H.ownRd List.mem_cons_self); (· exact (Nat.zero_add _).symm); (· exact hle); (· decide); (· exact hst); (simp only [Act.put, List.setIfInBounds_toArray, List.set_cons_zero, List.set_cons_succ]))
            | ((with_reducible show wpList _ _ _ (_ :: _) _ _); (with_reducible apply wpl_storeRH row_stp); (· rfl); (· rfl); (· rfl); (· with_reducible exact stp_cells2 ..); (· exact H); (· (repeat (first | (with_reducible exact List.mem_cons_self) | with_reducible apply List.mem_cons_of_mem))); (· (simp only [stp0_sz, Nat.reduceAdd, Nat.reduceLeDiff, Nat.le_refl]; done)); (· with_reducible exact splice_all rfl); (· (repeat (first | (with_reducible exact Repl.here) | with_reducible apply Repl.there))); (clear H; intro _ H); (simp only [Act.put, List.setIfInBounds_toArray, List.set_cons_zero, List.set_cons_succ]))
            | ((with_reducible show wpList _ _ _ (_ :: _) _ _); (with_reducible apply wpl_loadRH row_stp); (· rfl); (· rfl); (· exact H); (· (repeat (first | (with_reducible exact List.mem_cons_self) | with_reducible apply List.mem_cons_of_mem))); (· (simp only [stp_size, Nat.reduceAdd, Nat.reduceLeDiff, Nat.le_refl]; done)); (· with_reducible exact stp_all ..); (simp only [Act.put, List.setIfInBounds_toArray, List.set_cons_zero, List.set_cons_succ]))
            | (refine (C _ _ (H.pull (.there (.there g1)))).mono ?_; clear C H; rintro _ _ ⟨rfl, H⟩))
          refine ⟨⟨j + 1, by omega, by go_num, ?_⟩, ?measure2⟩
          case measure2 => simp [intOf]; omega
          rw [HSN.out]
          replace H := H.drop (.there .here)
          refine H.perm ?_
          refine (List.Perm.swap _ _ _).trans (.cons _ ?_)
          have := (g2 (m + if b = true then v else -v)).perm.symm
          unfold debtT at this
          rw [show x.n - (m + if b = true then v else -v) = x.n - m - if b = true then v else -v by omega] at this
          exact this
        · obtain rfl : j = k := by omega
          rw [List.take_of_length_le (by rw [hSL.out]; exact Nat.le_refl _)] at H
          go_wp2_with (go_skip)
          go_end0
          exact ⟨rfl, H.tail⟩
end
end Go.Proofs.Ytgobnamhdkbbeaa

/- rounds.Least. -/
namespace Go.Proofs.Ytgobnamhdkbbeaa
open Go.RowKit
set_option linter.unusedSimpArgs false
set_option linter.unusedVariables false
theorem slDb8 : SlTy Try.prog 162 163 1 8 (.pointer none) := slTy_mk Try.underlying162 (by kernel_rfl) rfl (by decide)
theorem dbs_app : ∀ (ps : List Nat) (F : List Flw) (N : List Int) (p : Nat) (x : Flw) (m : Int), ps.length = F.length → N.length = F.length → dbs (ps ++ [p]) (F ++ [x]) (N ++ [m]) = dbs ps F N ++ [debtT p x m]
  | [], [], [], p, x, m, _, _ => rfl
  | [], y :: F, _, p, x, m, h, _ => by simp at h
  | [], [], k :: N, p, x, m, _, h => by simp at h
  | q :: ps, [], _, p, x, m, h, _ => by simp at h
  | q :: ps, y :: F, [], p, x, m, _, h => by simp at h
  | q :: ps, y :: F, k :: N, p, x, m, h1, h2 => by
    show debtT q y k :: dbs (ps ++ [p]) (F ++ [x]) (N ++ [m]) = _
    rw [dbs_app ps F N p x m (by simpa using h1) (by simpa using h2)]
    rfl
theorem leftL_app : ∀ (F : List Flw) (N : List Int) (x : Flw) (m : Int), N.length = F.length → leftL (F ++ [x]) (N ++ [m]) = leftL F N ++ if 0 < m then [⟨x.f, x.t, m⟩] else []
  | [], [], x, m, _ => by simp [leftL]
  | [], k :: N, x, m, h => by simp at h
  | y :: F, [], x, m, h => by simp at h
  | y :: F, k :: N, x, m, h => by
    show _ ++ leftL (F ++ [x]) (N ++ [m]) = (_ ++ leftL F N) ++ _
    rw [leftL_app F N x m (by simpa using h), List.append_assoc]
theorem leftL_take {F : List Flw} {N : List Int} (h : N.length = F.length) {k : Nat} {x : Flw} {m : Int} (hx : F[k]? = some x) (hm : N[k]? = some m) : leftL (F.take (k + 1)) (N.take (k + 1)) = leftL (F.take k) (N.take k) ++ if 0 < m then [⟨x.f, x.t, m⟩] else [] := by
  rw [List.take_add_one, hx, List.take_add_one, hm]
  exact leftL_app _ _ _ _ (by simp; omega)
theorem leftL_len : ∀ (F : List Flw) (N : List Int), (leftL F N).length ≤ F.length
  | [], N => by simp [leftL]
  | x :: F, [] => by simp [leftL]
  | x :: F, m :: N => by
    have := leftL_len F N
    rw [leftL, List.length_append, List.length_cons]
    split <;> simp <;> omega
theorem dbt_flow (a b n k : Int) : (dbt a b n k).extract 0 (0 + 3) = flow a b n := by simp [dbt, flow]
theorem bd8 (a b n : Int) : Array.foldl (fun (cs : Array Value) (x : Value × Nat) => cs.setIfInBounds x.2 x.1) #[.int .u8 0, .int .u8 0, .int .i64 0, .int .i64 0] (flow a b n).zipIdx 0 (flow a b n).size = dbt a b n 0 := by simp [flow, dbt]
theorem bd8b (a b n : Int) : Array.foldl (fun (cs : Array Value) (x : Value × Nat) => cs.setIfInBounds x.2 x.1) #[.int .u8 0, .int .u8 0, .int .i64 0, .int .i64 0] (flow a b n).zipIdx 0 3 = dbt a b n 0 := by simp [flow, dbt]
theorem OwnT.form0 {w : World} {e size n : Nat} {v : Value} {xs : List Value} (h : (OwnT e size v n xs).ok w) : ∃ a c, v = .slice a n c ∧ n ≤ c ∧ c ≤ maxLen := by
  obtain ⟨_, ⟨h1, h2⟩ | ⟨g, off, cap, cur, h1, _, _, h2, h3, _⟩⟩ := h
  · exact ⟨none, 0, by rw [h1, h2], by omega, by unfold maxLen; omega⟩
  · exact ⟨_, cap, h1, h2, h3⟩
/-- The pointers so far. -/
def PtrIn (ps : List Nat) (xs : List Value) (k : Nat) : Prop := ps.length = k ∧ xs.take k = ptrL ps
theorem PtrIn.put {ps : List Nat} {xs : List Value} {k : Nat} (h : PtrIn ps xs k) (hk : k < xs.length) (p : Nat) : PtrIn (ps ++ [p]) (xs.set k (.pointer (some ⟨p, 0, none⟩))) (k + 1) := by
  refine ⟨by simp [h.1], ?_⟩
  rw [List.take_add_one, List.take_set_of_le (Nat.le_refl k), h.2, List.getElem?_set_self hk]
  simp [ptrL]
structure LsA (W : World) (l : List Thing) (F : List Flw) (g n : Nat) (i : Value) (wr : World) : Prop where
  out : ∃ (k : Nat) (ps : List Nat) (xs : List Value), k ≤ n ∧ i = .int .i64 (k : Int) ∧ xs.length = n ∧ PtrIn ps xs k ∧ Heap W (OwnT 163 1 (.slice (some ⟨g, 0, none⟩) n n) n xs :: (dbs ps (F.take k) ((F.take k).map Flw.n) ++ l)) wr
structure LsB (W : World) (l : List Thing) (F : List Flw) (ps : List Nat) (g n : Nat) (q : Int) (v j : Value) (wr : World) : Prop where
  out : ∃ (k : Nat) (N : List Int), v = .slice none 0 0 ∧ j = .int .i64 (k : Int) ∧ RdTr F k N ∧ (k : Int) ≤ q ∧ Heap W (dbs ps F N ++ (OwnT 163 1 (.slice (some ⟨g, 0, none⟩) n n) n (ptrL ps) :: l)) wr
structure LsC (W : World) (l : List Thing) (F : List Flw) (N : List Int) (n : Nat) (v i : Value) (wr : World) : Prop where
  out : ∃ (k : Nat), k ≤ n ∧ i = .int .i64 (k : Int) ∧ Heap W (RowT 32 3 v (leftL (F.take k) (N.take k)).length (flwL (leftL (F.take k) (N.take k))) :: l) wr
def LeastPost (W : World) (l : List Thing) (q0 : Int) (F : List Flw) (q : Int) (e : Ending) (w' : World) : Prop := ∃ v L k er, e = .returned (.tuple #[v, .int .i64 k, .int .i64 er]) ∧ LeastOut q0 F q L k er ∧ Heap W (OwnT 32 3 v L.length (flwL L) :: l) w'
section
variable {W w : World} {l : List Thing}
set_option maxRecDepth 100000
set_option maxHeartbeats 8000000
theorem Heap.nilOwn (e size : Nat) (H : Heap W l w) : Heap W (OwnT e size (.slice none 0 0) 0 [] :: l) w := (H.nilRow e size).slide
theorem wpl_storeOwnP {ops : Array Oper} {rest : List Oper} {a : Act} {l' : List Thing} {Q : Exit → Act → World → Prop} {T e : TypeId} {dst : Option Tmp} {ty : TypeId} {pos : String} {after : Array Edge} {guard : Option (Nat × Bool)} {x y : Operand} {g ad off n c size j : Nat} {q : Option Addr} {xs : List Value} (CT : CellTy T) (hw : Region.wanted ⟨dst, .store T x y, ty, pos, after, guard⟩ (yielded ops a.tmps) = true) (hx : a.eval x = .pointer (some ⟨g, ad, none⟩)) (hy : a.eval y = .pointer q)
    (H : Heap W l w) (m : OwnT e size (.slice (some ⟨g, off, none⟩) n c) n xs ∈ l) (hk : ad = off + j) (hj : j < xs.length) (r : Repl l (OwnT e size (.slice (some ⟨g, off, none⟩) n c) n xs) (OwnT e size (.slice (some ⟨g, off, none⟩) n c) n (xs.set j (.pointer q))) l')
    (h : ∀ w', Heap W l' w' → wpList Try.prog ops Q rest (a.put dst undef) w') : wpList Try.prog ops Q (⟨dst, .store T x y, ty, pos, after, guard⟩ :: rest) a w := wpl_storeOwnC CT hw hx hy ⟨rfl, rfl⟩ H m hk hj r h
theorem Heap.sub {l' : List Thing} (H : Heap W l w) (h : l'.Sublist l) : Heap W l' w := ⟨H.low, fun x hx => H.ok x (h.subset hx), fun x hx => H.fp x (h.subset hx), H.apart.sublist h⟩
theorem edround_H {F : List Flw} {N : List Int} (hM : MayD F) (hl : F.length ≤ 1000) (ea : Option Addr) (ec : Nat) (H : Heap W (RowT 194 3 (.slice ea (edD F N).length ec) (edD F N).length (edgL (edD F N)) :: l) w) :
    Calls Try.prog 108 #[.slice ea (edD F N).length ec] w fun e w' => ∃ a c, e = .returned (.slice a (roundOf (edD F N)).length c) ∧ Heap W (OwnT 30 1 (.slice a (roundOf (edD F N)).length c) (roundOf (edD F N)).length ((roundOf (edD F N)).map pv) :: RowT 194 3 (.slice ea (edD F N).length ec) (edD F N).length (edgL (edD F N)) :: l) w' := by
  have h1 := edD_len F N
  have C := round_H (W := W) ea _ ec (edD F N) rfl (by omega) (fun e he => by have := edD_ok hM e he; exact ⟨by omega, by omega, by omega, by omega⟩) (fun w' H' => H'.rowRd List.mem_cons_self) H
  refine C.mono ?_
  rintro e w' ⟨v, rfl, H'⟩
  rw [edD_keep hM] at H'
  obtain ⟨a, c, rfl, _, _⟩ := OwnT.form0 (H'.ok _ List.mem_cons_self)
  exact ⟨a, c, rfl, H'⟩
attribute [local go_sem high] bd8 bd8b flow_sz
open Classical in
theorem least8_H (a : Option Addr) (n c : Nat) (F : List Flw) (q : Int) (hl : F.length = n) (hn : n ≤ 1000) (hF : ∀ x ∈ F, FlwOk x) (h63 : q ≤ 9223372036854775807) (R : ∀ l' w', (∀ x ∈ l, x ∈ l') → Heap W l' w' → Rd w' a (flwL F)) (H : Heap W l w) :
    Calls Try.prog 77 #[.slice a n c, .int .i64 q] w (LeastPost W l 13 F q) := by
  have M := may8_H (W := W) a n c F hl (by omega) hF R
  have HL := Lib.hid hl
  have HR := Lib.hid R
  have HF := Lib.hid hF
  clear hl R hF
  go_enter Try.func77, Try.ntmps77
  by_cases hM : MayD F
  · by_cases hq : 0 ≤ q
    · have d1 : decide (MayD F) = true := decide_eq_true hM
      have d2 : decide (q < 0) = false := decide_eq_false (by omega)
      rw [d1] at M
      have HM := Lib.hid hM
      have hn1 : n ≤ 65536 := by omega
      have hn2 : 8 * n ≤ 281474976710656 := by omega
      clear hM d1
      go_wp2_with (first
        | go_skip
        | ((with_reducible refine AnsH.call (by assumption) H ?_); clear H; intro _ H)
        | ((with_reducible show wpList _ _ _ (_ :: _) _ _); (with_reducible apply wpl_makeC slDb8 (n := n) (m := n)); (· rfl); (· rfl); (· rfl); (· rfl); (· exact Nat.le_refl _); (· exact hn1); (· exact hn2); (· exact H); (clear H; intro g _ H); (simp only [Act.put, List.setIfInBounds_toArray, List.set_cons_zero, List.set_cons_succ])))
      replace H := H.celOwn (n := n) (size := 1) (by rw [size_madeCells]) (by unfold maxLen; omega)
      obtain ⟨xs0, hx0⟩ : ∃ xs0, (madeCells (Value.cells (.pointer none)) (n * 1)).toList = xs0 := ⟨_, rfl⟩
      have hx0l : xs0.length = n := by rw [← hx0]; simp [size_madeCells]
      rw [hx0] at H
      clear hx0 hn1 hn2 M
      have H0 := H
      clear H
      go_loopw [25] (fun i wr => LsA W l F g n i wr) (fun i _ => n - (intOf i).toNat)
      case atStart => exact ⟨0, [], xs0, Nat.zero_le _, rfl, hx0l, ⟨rfl, rfl⟩, by simpa [dbs] using H0⟩
      case round =>
        obtain ⟨k, ps, xs, hk, rfl, hxl, hps, H⟩ := hrel.out
        clear H0 hrel hx0l
        by_cases hlt : k < n
        · have Rw := HR.out _ wr (fun x hx => List.mem_cons_of_mem _ (List.mem_append_right _ hx)) H
          obtain ⟨eb, eo, rfl, _⟩ := Rw.lt (by rw [flwL_len, HL.out]; omega)
          have hfk : F[k]? = some (F[k]'(by rw [HL.out]; exact hlt)) := List.getElem?_eq_getElem _
          have hrow := flwL_at F k (by rw [HL.out]; exact hlt)
          have hlen : k * 3 + 3 ≤ (flwL F).length := by rw [flwL_len, HL.out]; omega
          generalize F[k]'(by rw [HL.out]; exact hlt) = x at *
          have hrw : (((flwL F).drop (k * 3)).take 3).toArray = flow (x.f : Int) (x.t : Int) x.n := by rw [hrow]; rfl
          have HFK := Lib.hid hfk
          have HPS := Lib.hid hps
          clear hrow hfk hps
          have hkx : k < xs.length := by omega
          go_wp2_with (first
            | ((with_reducible show wpList _ _ _ (_ :: _) _ _); (with_reducible apply wpl_boxRH); (· rfl); (· rfl); (· exact H); (clear H; intro pd _ H); (simp only [Act.put, List.setIfInBounds_toArray, List.set_cons_zero, List.set_cons_succ]))
            | go_skip
            | ((with_reducible show wpList _ _ _ (_ :: _) _ _); (with_reducible apply wpl_storeOwnP cell_pdbt); (· rfl); (· rfl); (· rfl); (· exact H); (· (repeat (first | (with_reducible exact List.mem_cons_self) | with_reducible apply List.mem_cons_of_mem))); (· exact (Nat.zero_add _).symm); (· exact hkx); (· (repeat (first | (with_reducible exact Repl.here) | with_reducible apply Repl.there))); (clear H; intro _ H); (simp only [Act.put, List.setIfInBounds_toArray, List.set_cons_zero, List.set_cons_succ]))
            | ((with_reducible show wpList _ _ _ (_ :: _) _ _); (with_reducible apply wpl_loadRdR row_flow); (· rfl); (· rfl); (· exact Rw); (· rfl); (· exact hlen); (· decide); (· exact hrw); (simp only [Act.put, List.setIfInBounds_toArray, List.set_cons_zero, List.set_cons_succ]))
            | ((with_reducible show wpList _ _ _ (_ :: _) _ _); (with_reducible apply wpl_allocRH row_flow); (· rfl); (· exact H); (clear H; intro px _ H); (simp only [Act.put, List.setIfInBounds_toArray, List.set_cons_zero, List.set_cons_succ]))
            | ((with_reducible show wpList _ _ _ (_ :: _) _ _); (with_reducible apply wpl_storeRH row_flow); (· rfl); (· rfl); (· rfl); (· with_reducible exact flow_cells ..); (· exact H); (· (repeat (first | (with_reducible exact List.mem_cons_self) | with_reducible apply List.mem_cons_of_mem))); (· (simp only [flow_sz, Nat.reduceAdd, Nat.reduceLeDiff, Nat.le_refl]; done)); (· with_reducible exact flow_splice ..); (· (repeat (first | (with_reducible exact Repl.here) | with_reducible apply Repl.there))); (clear H; intro _ H); (simp only [Act.put, List.setIfInBounds_toArray, List.set_cons_zero, List.set_cons_succ]))
            | ((with_reducible show wpList _ _ _ (_ :: _) _ _); (with_reducible apply wpl_loadRH row_flow); (· rfl); (· rfl); (· exact H); (· (repeat (first | (with_reducible exact List.mem_cons_self) | with_reducible apply List.mem_cons_of_mem))); (· (simp only [flow_sz, Nat.reduceAdd, Nat.reduceLeDiff, Nat.le_refl]; done)); (· with_reducible exact flow_all ..); (simp only [Act.put, List.setIfInBounds_toArray, List.set_cons_zero, List.set_cons_succ])))
          refine ⟨⟨k + 1, ps ++ [pd], _, by omega, by go_num, by rw [List.length_set]; exact hxl, HPS.out.put hkx pd, ?_⟩, ?measure1⟩
          case measure1 => simp [intOf]; omega
          rw [List.take_add_one, HFK.out, Option.toList_some, List.map_append, List.map_cons, List.map_nil, dbs_app _ _ _ _ _ _ (by rw [HPS.out.1, List.length_take, HL.out]; omega) (by simp), List.append_assoc, List.cons_append, List.nil_append]
          replace H := H.drop (.there .here)
          have e : DbC pd x.f x.t x.n 0 = debtT pd x x.n := by unfold debtT; rw [Int.sub_self]
          rw [show (Cel pd (dbt (x.f : Int) (x.t : Int) x.n 0) 165) = debtT pd x x.n from e] at H
          refine H.perm ((List.Perm.swap _ _ _).trans (.cons _ ?_))
          exact List.perm_middle.symm
        · obtain rfl : k = n := by omega
          rw [List.take_of_length_le (by rw [HL.out]; exact Nat.le_refl _)] at H
          have hx2 : xs = ptrL ps := by rw [← hps.2, List.take_of_length_le (by omega)]
          subst hx2
          have hp := hps.1
          clear hps hxl hlt hk
          go_wp2_with (go_skip)
          replace H : Heap W (dbs ps F (F.map Flw.n) ++ (OwnT 163 1 (.slice (some ⟨g, 0, none⟩) k k) k (ptrL ps) :: l)) wr := H.perm List.perm_middle.symm
          have HP := Lib.hid hp
          have H0 := H
          clear H hp
          go_loopw [4, 5] (fun v j wr => LsB W l F ps g k q v j wr) (fun _ j _ => (q - intOf j).toNat)
          case atStart => exact ⟨0, _, rfl, rfl, .nil, by omega, H0⟩
          case round =>
            obtain ⟨j, N, rfl, rfl, ht, hjq, H⟩ := hrel.out
            clear H0 hrel
            have HRT := Lib.hid ht
            have hI := (ht.inv HM.out).1
            have HI := Lib.hid hI
            have hN : N.length = k := hI.len.trans HL.out
            have HN := Lib.hid hN
            clear ht hI hN
            have C1 := edges8_H (some ⟨g, 0, none⟩) k k ps F N HP.out HL.out HN.out (by omega) (fun l' w' hh H' => H'.ownRd (hh _ (List.mem_append_right _ List.mem_cons_self))) (fun i p x m g1 g2 g3 => dbs_mem g1 g2 g3) H
            have C2 := fun ea ec w' (H' : Heap W (RowT 194 3 (.slice ea (edD F N).length ec) (edD F N).length (edgL (edD F N)) :: (dbs ps F N ++ (OwnT 163 1 (.slice (some ⟨g, 0, none⟩) k k) k (ptrL ps) :: l))) w') => edround_H HM.out (by rw [HL.out]; exact hn) ea ec H'
            obtain ⟨T, hT⟩ : ∃ T, roundOf (edD F N) = T := ⟨_, rfl⟩
            have HT := Lib.hid hT
            rw [hT] at C2
            obtain ⟨tn, htn⟩ : ∃ tn, T.length = tn := ⟨_, rfl⟩
            have HTN := Lib.hid htn
            rw [htn] at C2
            clear hT htn
            by_cases hr : tn = 0
            · have e1 : ((tn : Int) == 0) = true := by simp; omega
              go_wp2_with (first
                | go_skip
                | (refine C1.mono ?_; clear C1 H; rintro _ _ ⟨_, rfl, H⟩; obtain ⟨ea, ec, rfl, _, _⟩ := RowT.form0 (H.ok _ List.mem_cons_self))
                | (refine (C2 _ _ _ H).mono ?_; clear C2 H; rintro _ _ ⟨ta, tc, rfl, H⟩))
              subst hr
              have H0 := H.nilRow 32 3
              clear H
              go_loopw [4, 46] (fun v i wr => LsC W (OwnT 30 1 (.slice ta 0 tc) 0 (T.map pv) :: RowT 194 3 (.slice ea (edD F N).length ec) (edD F N).length (edgL (edD F N)) :: (dbs ps F N ++ (OwnT 163 1 (.slice (some ⟨g, 0, none⟩) k k) k (ptrL ps) :: l))) F N k v i wr) (fun _ i _ => k - (intOf i).toNat)
              case atStart => exact ⟨0, Nat.zero_le _, rfl, by simpa [leftL, flwL] using H0⟩
              case round =>
                obtain ⟨i, hi, rfl, H⟩ := hrel.out
                clear H0 hrel
                by_cases hlt : i < k
                · have hpk : ps[i]? = some (ps[i]'(by rw [HP.out]; exact hlt)) := List.getElem?_eq_getElem _
                  have hfk : F[i]? = some (F[i]'(by rw [HL.out]; exact hlt)) := List.getElem?_eq_getElem _
                  have hnk : N[i]? = some (N[i]'(by rw [HN.out]; exact hlt)) := List.getElem?_eq_getElem _
                  generalize ps[i]'(by rw [HP.out]; exact hlt) = p at *
                  generalize F[i]'(by rw [HL.out]; exact hlt) = x at *
                  generalize N[i]'(by rw [HN.out]; exact hlt) = m at *
                  have hm : debtT p x m ∈ OwnT 30 1 (.slice ta 0 tc) 0 (T.map pv) :: RowT 194 3 (.slice ea (edD F N).length ec) (edD F N).length (edgL (edD F N)) :: (dbs ps F N ++ (OwnT 163 1 (.slice (some ⟨g, 0, none⟩) k k) k (ptrL ps) :: l)) := List.mem_cons_of_mem _ (List.mem_cons_of_mem _ (dbs_mem hpk hfk hnk))
                  have hc : wr.cell? ⟨g, i, none⟩ = some (.pointer (some ⟨p, 0, none⟩)) := by
                    have := (H.ownRd (List.mem_cons_of_mem _ (List.mem_cons_of_mem _ (List.mem_cons_of_mem _ (List.mem_append_right _ List.mem_cons_self))))).get (i := i) (by rw [ptrL_len, HP.out]; exact hlt)
                    simpa [ptrL, List.getElem_map, (List.getElem?_eq_some_iff.1 hpk).2] using this
                  have htk := leftL_take (by rw [HN.out, HL.out]) hfk hnk
                  have HTK := Lib.hid htk
                  have hlen := leftL_len (F.take i) (N.take i)
                  have hlk : (F.take i).length ≤ 1000 := by simp; omega
                  clear htk hpk hfk hnk
                  generalize leftL (F.take i) (N.take i) = E at *
                  generalize OwnT 30 1 (.slice ta 0 tc) 0 (T.map pv) :: RowT 194 3 (.slice ea (edD F N).length ec) (edD F N).length (edgL (edD F N)) :: (dbs ps F N ++ (OwnT 163 1 (.slice (some ⟨g, 0, none⟩) k k) k (ptrL ps) :: l)) = l2 at *
                  obtain ⟨f, t, y⟩ := x
                  unfold debtT at hm
                  simp only at hm
                  obtain ⟨kk, hkk⟩ : ∃ kk, y - m = kk := ⟨_, rfl⟩
                  rw [hkk] at hm
                  obtain ⟨ne, hne⟩ : ∃ ne, E.length = ne := ⟨_, rfl⟩
                  have HNE := Lib.hid hne
                  rw [hne] at H hlen
                  clear hne hkk
                  have h1 : ne + 1 ≤ maxLen := by unfold maxLen; omega
                  have h2 : (ne + 1) * 16 ≤ 140737488355328 := by omega
                  by_cases h0 : 0 < m
                  · have d0 : decide (m > 0) = true := decide_eq_true h0
                    have hX : (if 0 < m then [(⟨f, t, m⟩ : Flw)] else []) = [⟨f, t, m⟩] := if_pos h0
                    have HX := Lib.hid hX
                    clear hX h0
                    go_wp2_with (first
                      | go_skip
                      | ((with_reducible show wpList _ _ _ (_ :: _) _ _); (with_reducible apply wpl_loadCell cell_pdbt); (· rfl); (· rfl); (· exact hc); (simp only [Act.put, List.setIfInBounds_toArray, List.set_cons_zero, List.set_cons_succ]))
                      | ((with_reducible show wpList _ _ _ (_ :: _) _ _); (with_reducible apply wpl_loadCH); (· exact cell_i64); (· rfl); (· rfl); (· exact H); (· exact List.mem_cons_of_mem _ hm); (· (with_reducible first | exact dbt_g0 .. | exact dbt_g1 .. | exact dbt_g2 .. | exact dbt_g3 ..)); (simp only [Act.put, List.setIfInBounds_toArray, List.set_cons_zero, List.set_cons_succ]))
                      | ((with_reducible show wpList _ _ _ (_ :: _) _ _); (with_reducible apply wpl_loadRH row_flow); (· rfl); (· rfl); (· exact H); (· exact List.mem_cons_of_mem _ hm); (· (simp only [dbt_sz, Nat.reduceAdd, Nat.reduceLeDiff]; done)); (· exact dbt_flow ..); (simp only [Act.put, List.setIfInBounds_toArray, List.set_cons_zero, List.set_cons_succ]))
                      | ((with_reducible show wpList _ _ _ (_ :: _) _ _); (with_reducible apply wpl_bsRH); (· rfl); (· rfl); (· exact bs_flow); (· exact rfl); (· exact H); (clear H; intro pf _ H); (simp only [Act.put, List.setIfInBounds_toArray, List.set_cons_zero, List.set_cons_succ]))
                      | ((with_reducible show wpList _ _ _ (_ :: _) _ _); (with_reducible apply wpl_appendH slF); (· rfl); (· rfl); (· rfl); (· rfl); (· exact H.perm (.swap _ _ _)); (· exact H.celRd List.mem_cons_self); (· rfl); (· exact flowC_one _ _ _); (· exact h1); (· exact h2); (clear H; intro v2 _ H); (simp only [Act.put, List.setIfInBounds_toArray, List.set_cons_zero, List.set_cons_succ])))
                    refine ⟨⟨i + 1, by omega, by go_num, ?_⟩, ?measure2⟩
                    case measure2 => simp [intOf]; omega
                    rw [HTK.out, HX.out, flwL_app, List.length_append, HNE.out]
                    exact H.drop (.there .here)
                  · have d0 : decide (m > 0) = false := decide_eq_false h0
                    have hX : (if 0 < m then [(⟨f, t, m⟩ : Flw)] else []) = [] := if_neg h0
                    have HX := Lib.hid hX
                    clear hX h0
                    go_wp2_with (first
                      | go_skip
                      | ((with_reducible show wpList _ _ _ (_ :: _) _ _); (with_reducible apply wpl_loadCell cell_pdbt); (· rfl); (· rfl); (· exact hc); (simp only [Act.put, List.setIfInBounds_toArray, List.set_cons_zero, List.set_cons_succ]))
                      | ((with_reducible show wpList _ _ _ (_ :: _) _ _); (with_reducible apply wpl_loadCH); (· exact cell_i64); (· rfl); (· rfl); (· exact H); (· exact List.mem_cons_of_mem _ hm); (· (with_reducible first | exact dbt_g0 .. | exact dbt_g1 .. | exact dbt_g2 .. | exact dbt_g3 ..)); (simp only [Act.put, List.setIfInBounds_toArray, List.set_cons_zero, List.set_cons_succ])))
                    refine ⟨⟨i + 1, by omega, by go_num, ?_⟩, ?measure3⟩
                    case measure3 => simp [intOf]; omega
                    rw [HTK.out, HX.out, List.append_nil, HNE.out]
                    exact H
                · obtain rfl : i = k := by omega
                  rw [List.take_of_length_le (by rw [HL.out]; exact Nat.le_refl _), List.take_of_length_le (by rw [HN.out]; exact Nat.le_refl _)] at H
                  rename_i v _ _
                  obtain ⟨va, vc, rfl, hv1, hv2⟩ := RowT.form0 (H.ok _ List.mem_cons_self)
                  have K := clipFA va (leftL F N).length vc hv1 hv2 (fun e => RowT.nil7 (H.ok _ List.mem_cons_self) _ _ (by rw [e]))
                  go_wp2_with (first | go_skip | ((with_reducible refine Ans.callH (by assumption) H ?_); clear H; intro _ H))
                  go_ret3
                  refine ⟨_, leftL F N, j, 0, rfl, .inr ⟨HM.out, hq, j, N, HRT.out, hjq, .inl ⟨?_, rfl, rfl, rfl⟩⟩, ?_⟩
                  · rw [HT.out]; exact List.length_eq_zero_iff.1 HTN.out
                  · exact (H.sub (.cons_cons _ (.cons _ (.cons _ ((List.sublist_cons_self _ _).trans (List.sublist_append_right _ _)))))).slide.clipOwn
            · have e1 : ((tn : Int) == 0) = false := by simp; omega
              by_cases hq2 : (j : Int) = q
              · have e2 : ((j : Int) == q) = true := by simp; omega
                go_wp2_with (first
                  | go_skip
                  | (refine C1.mono ?_; clear C1 H; rintro _ _ ⟨_, rfl, H⟩; obtain ⟨ea, ec, rfl, _, _⟩ := RowT.form0 (H.ok _ List.mem_cons_self))
                  | (refine (C2 _ _ _ H).mono ?_; clear C2 H; rintro _ _ ⟨ta, tc, rfl, H⟩))
                go_ret3
                refine ⟨_, [], 0, 13, rfl, .inr ⟨HM.out, hq, j, N, HRT.out, hjq, .inr ⟨?_, hq2, rfl, rfl, rfl⟩⟩, ?_⟩
                · rw [HT.out]; intro h; apply hr; rw [← HTN.out, h]; rfl
                · exact Heap.nilOwn _ _ (H.sub (.cons _ (.cons _ ((List.sublist_cons_self _ _).trans (List.sublist_append_right _ _)))))
              · have e2 : ((j : Int) == q) = false := by simp; omega
                have hN0 : roundOf (edD F N) ≠ [] := fun h => hr (by rw [← HTN.out, ← HT.out, h]; rfl)
                obtain ⟨S, hS, s2, s3, _⟩ := round_go HM.out HI.out hN0
                obtain ⟨tf, Cf, hR⟩ := edD_rnd HM.out hN0
                have hN0' := Lib.hid hN0
                have hr1 := hR.pos
                have hr2 := hR.max
                have HS := Lib.hid hS
                rw [HT.out] at hr1 hr2 hS
                rw [HTN.out] at hr1 hr2
                have C3 := fun ea ec ta tc w' (H' : Heap W (dbs ps F N ++ (OwnT 30 1 (.slice ta tn tc) tn (T.map pv) :: RowT 194 3 (.slice ea (edD F N).length ec) (edD F N).length (edgL (edD F N)) :: OwnT 163 1 (.slice (some ⟨g, 0, none⟩) k k) k (ptrL ps) :: l)) w') =>
                  round8_H (some ⟨g, 0, none⟩) k k ps F N HM.out HI.out HP.out HL.out hn (fun l' w' hh H' => H'.ownRd (hh _ (List.mem_cons_of_mem _ (List.mem_cons_of_mem _ List.mem_cons_self)))) ta tn tc T S hS s2 s3 HTN.out hr1 hr2 (fun l' w' hh H' => H'.ownRd (hh _ List.mem_cons_self)) H'
                clear hS s2 s3 hR hN0
                go_wp2_with (first
                  | go_skip
                  | (refine C1.mono ?_; clear C1 H; rintro _ _ ⟨_, rfl, H⟩; obtain ⟨ea, ec, rfl, _, _⟩ := RowT.form0 (H.ok _ List.mem_cons_self))
                  | (refine (C2 _ _ _ H).mono ?_; clear C2 H; rintro _ _ ⟨ta, tc, rfl, H⟩)
                  | (refine (C3 _ _ _ _ _ (H.perm ((List.Perm.cons _ List.perm_middle.symm).trans List.perm_middle.symm))).mono ?_; clear C3 H; rintro _ _ ⟨rfl, H⟩))
                refine ⟨⟨j + 1, _, rfl, by go_num, .step HRT.out hN0'.out ⟨S, HS.out, rfl⟩, by omega, H.sub (.append (.refl _) (.cons _ (.cons _ (.refl _))))⟩, ?measure4⟩
                case measure4 => simp [intOf]; omega
    · have d1 : decide (MayD F) = true := decide_eq_true hM
      have d2 : decide (q < 0) = true := decide_eq_true (by omega)
      rw [d1] at M
      have HM := Lib.hid hM
      have HQ := Lib.hid hq
      clear hM d1 hq
      go_wp2_with (first | go_skip | ((with_reducible refine AnsH.call (by assumption) H ?_); clear H; intro _ H))
      go_ret3
      exact ⟨_, [], 0, 1, rfl, .inl ⟨.inr (by have := HQ.out; omega), rfl, rfl, rfl⟩, Heap.nilOwn _ _ H⟩
  · have d1 : decide (MayD F) = false := decide_eq_false hM
    rw [d1] at M
    have HM := Lib.hid hM
    clear hM d1
    go_wp2_with (first | go_skip | ((with_reducible refine AnsH.call (by assumption) H ?_); clear H; intro _ H))
    go_ret3
    exact ⟨_, [], 0, 1, rfl, .inl ⟨.inl HM.out, rfl, rfl, rfl⟩, Heap.nilOwn _ _ H⟩
end
end Go.Proofs.Ytgobnamhdkbbeaa

/- ledgers.Ledger: Parties, Copy. -/
namespace Go.Proofs.Ytgobnamhdkbbeaa
open Go.RowKit
set_option linter.unusedSimpArgs false
set_option linter.unusedVariables false
def parTo (P : List Int) : Nat → List Int
  | 0 => []
  | k + 1 => parTo P k ++ (if hasP P (k : Int) = true then [(k : Int)] else [])
theorem parTo_mem (P : List Int) (q : Int) : ∀ k, q ∈ parTo P k ↔ (0 ≤ q ∧ q < k) ∧ q ∈ P
  | 0 => by simp [parTo]; omega
  | k + 1 => by
    rw [parTo, List.mem_append, parTo_mem P q k]
    constructor
    · rintro (⟨h, h'⟩ | h)
      · exact ⟨by omega, h'⟩
      · split at h
        · rename_i h'
          obtain rfl : q = (k : Int) := by simpa using h
          exact ⟨by omega, by simpa [hasP] using h'⟩
        · cases h
    · rintro ⟨h, h'⟩
      by_cases e : q = (k : Int)
      · subst e
        rw [if_pos (by simpa [hasP] using h')]
        exact .inr (by simp)
      · exact .inl ⟨by omega, h'⟩
theorem parTo_sorted (P : List Int) : ∀ k, (parTo P k).Pairwise (· < ·)
  | 0 => .nil
  | k + 1 => by
    rw [parTo, List.pairwise_append]
    refine ⟨parTo_sorted P k, by split <;> simp, fun a ha b hb => ?_⟩
    have := (parTo_mem P a k).1 ha
    split at hb
    · obtain rfl : b = (k : Int) := by simpa using hb
      omega
    · cases hb
theorem parTo_len (P : List Int) : ∀ k, (parTo P k).length ≤ k
  | 0 => by simp [parTo]
  | k + 1 => by
    have := parTo_len P k
    rw [parTo, List.length_append]
    split <;> simp <;> omega
theorem parTo_all {P : List Int} (h : P.Pairwise (· < ·)) (h1 : ∀ p ∈ P, 1 ≤ p ∧ p ≤ 16) : parTo P 17 = P :=
  sortedI_ext (parTo_sorted _ _) h fun q => by
    rw [parTo_mem]
    exact ⟨fun h => h.2, fun hq => ⟨by have := h1 q hq; omega, hq⟩⟩
def pI (L : List Int) : List Value := L.map (Value.int .u8)
theorem pI_len (L : List Int) : (pI L).length = L.length := by simp [pI]
theorem pI_app (L M : List Int) : pI (L ++ M) = pI L ++ pI M := by simp [pI]
theorem pI_one (L : List Int) : OneCells (pI L) := fun u hu => by
  obtain ⟨x, _, rfl⟩ := List.mem_map.1 hu
  rfl
theorem slPa : SlTy Try.prog 100 30 1 1 (.int .u8 0) := slTy_mk Try.underlying100 (by kernel_rfl) rfl (by decide)
theorem bs_pa : Try.prog.underlying 100 = some (.slice 30) ∧ (Try.prog.info? 30).map (fun i => (i.size, i.zero)) = some (1, some (.int .u8 0)) := ⟨Try.underlying100, by kernel_rfl⟩
section
variable {ops : Array Oper} {rest : List Oper} {a : Act} {w W : World} {l r s : List Thing} {Q : Exit → Act → World → Prop} {p q : Nat} {S : Lgr} {P : List Int}
theorem wpl_indexPar {dst : Option Tmp} {ty : TypeId} {pos : String} {after : Array Edge} {guard : Option (Nat × Bool)} {x y : Operand} {i : Nat} {b : Bool} (hw : Region.wanted ⟨dst, .index 44 x y, ty, pos, after, guard⟩ (yielded ops a.tmps) = true) (hx : a.eval x = .agg (parA P)) (hy : a.eval y = .int .i64 (i : Int)) (hi : i < 17) (hb : hasP P (i : Int) = b)
    (h : wpList Try.prog ops Q rest (a.put dst (.bool b)) w) : wpList Try.prog ops Q (⟨dst, .index 44 x y, ty, pos, after, guard⟩ :: rest) a w := by
  subst hb
  refine wpl_pure hw _ (fun w => ?_) h
  have hu := Try.underlying44
  have hu2 := Try.underlying4
  have hs : (sizeOf 4).run Try.prog w = .ok 1 w := by kernel_rfl
  have hp : (part 4 (parA P) i).run Try.prog w = .ok (.bool (hasP P (i : Int))) w := by
    have e := parA_get P hi
    simp [part, isAgg, run_underlying hu2, e]
  unfold execOp
  simp only [hx, hy]
  simp [Instr.index, asIntOf, run_underlying hu, Sem.run_bind, hs, hi, hp]
theorem clipPa_nil : Ans 90 #[.slice none 0 0] (.slice none 0 0) := by
  intro w
  go_enter Try.func90, Try.ntmps90
  go_wp2
  go_ret
  exact ⟨rfl, (by repeat (first | exact Ext.refl _ | refine Ext.alloc ?_ _ | refine Ext.ext ?_ _ | refine Ext.drew ?_))⟩
theorem clipPa (a : Addr) (n c : Nat) (hn : n ≤ c) (hc : c ≤ maxLen) : Ans 90 #[.slice (some a) n c] (.slice (some a) n n) := by
  intro w
  unfold maxLen at hc
  have ha : a.add 0 = a := by simp [Addr.add]
  go_enter Try.func90, Try.ntmps90
  go_wp2
  go_ret
  exact ⟨rfl, (by repeat (first | exact Ext.refl _ | refine Ext.alloc ?_ _ | refine Ext.ext ?_ _ | refine Ext.drew ?_))⟩
structure ParR (W : World) (l : List Thing) (P : List Int) (v i : Value) (wr : World) : Prop where
  out : ∃ k : Nat, k ≤ 17 ∧ i = .int .i64 (k : Int) ∧ ((parTo P k).length = 0 → v = .slice none 0 0) ∧ Heap W (RowT 30 1 v (parTo P k).length (pI (parTo P k)) :: l) wr
set_option maxRecDepth 100000
set_option maxHeartbeats 2000000
theorem lparties_H (hs : P.Pairwise (· < ·)) (hP : ∀ p ∈ P, 1 ≤ p ∧ p ≤ 16) (H : Heap W l w) (hm : LdC p P (some q) ∈ l) : Calls Try.prog 52 #[.pointer (some ⟨p, 0, none⟩)] w fun e w' => ListPost W l 30 1 (pI P) P.length e w' := by
  have HALL := Lib.hid (parTo_all hs hP)
  clear hs hP
  go_enter Try.func52, Try.ntmps52
  go_wp2_with (first
    | go_skip
    | ((with_reducible apply lthere_call H); (· exact hm); (clear H; intro _ H))
    | ((with_reducible show wpList _ _ _ (_ :: _) _ _); (with_reducible apply wpl_loadRH row_par); (· rfl); (· rfl); (· exact H); (· exact hm); (· (simp only [ledA_sz, Nat.reduceAdd, Nat.reduceLeDiff]; done)); (· exact ledA_par _ _); (simp only [Act.put, List.setIfInBounds_toArray, List.set_cons_zero, List.set_cons_succ])))
  have H0 := H.nilRow 30 1
  clear H
  go_loopw [3, 13] (fun v i wr => ParR W l P v i wr) (fun _ i _ => 17 - (intOf i).toNat)
  case atStart => exact ⟨0, by omega, rfl, fun _ => rfl, H0⟩
  case round =>
    obtain ⟨k, hk, rfl, hz, H⟩ := hrel.out
    clear H0 hrel
    have HZ := Lib.hid hz
    clear hz
    by_cases hlt : k < 17
    · have hb := parTo_len P k
      have h1 : (parTo P k).length + 1 ≤ maxLen := by unfold maxLen; omega
      have h2 : ((parTo P k).length + 1) * 1 ≤ 140737488355328 := by omega
      have hu : IntKind.u8.wrap (k : Int) = k := IntWalk.u8_in _ (by omega)
      cases e1 : hasP P (k : Int)
      · have HE := Lib.hid (show parTo P (k + 1) = parTo P k by rw [parTo, e1, if_neg Bool.false_ne_true, List.append_nil])
        have E1 := Lib.hid e1
        clear e1
        go_wp2_with (first
          | go_skip
          | ((with_reducible show wpList _ _ _ (_ :: _) _ _); (with_reducible apply wpl_indexPar); (· rfl); (· rfl); (· rfl); (· exact hlt); (· exact E1.out); (simp only [Act.put, List.setIfInBounds_toArray, List.set_cons_zero, List.set_cons_succ])))
        refine ⟨⟨k + 1, by omega, by go_num, by rw [HE.out]; exact ⟨HZ.out, H⟩⟩, ?measure⟩
        case measure => simp [intOf]; omega
      · have HE := Lib.hid (show parTo P (k + 1) = parTo P k ++ [(k : Int)] by rw [parTo, e1, if_pos rfl])
        have E1 := Lib.hid e1
        clear e1
        go_wp2_with (first
          | ((with_reducible show wpList _ _ _ (_ :: _) _ _); (with_reducible apply wpl_bsOnes _ [.int .u8 (k : Int)]); (· rfl); (· rfl); (· rfl); (· decide); (· decide); (· (intro v hv; simp at hv; subst hv; rfl)); (· exact bs_pa); (· rfl); (· exact H); (clear H; intro pl _ H); (simp only [Act.put, List.setIfInBounds_toArray, List.set_cons_zero, List.set_cons_succ]))
          | ((with_reducible show wpList _ _ _ (_ :: _) _ _); (with_reducible apply wpl_appendH slPa); (· rfl); (· rfl); (· rfl); (· rfl); (· exact H.perm (.swap _ _ _)); (· exact H.celRd List.mem_cons_self); (· rfl); (· exact pI_one [(k : Int)]); (· exact h1); (· exact h2); (clear H; intro v2 _ H); (simp only [Act.put, List.setIfInBounds_toArray, List.set_cons_zero, List.set_cons_succ]))
          | go_skip
          | ((with_reducible show wpList _ _ _ (_ :: _) _ _); (with_reducible apply wpl_indexPar); (· rfl); (· rfl); (· rfl); (· exact hlt); (· exact E1.out); (simp only [Act.put, List.setIfInBounds_toArray, List.set_cons_zero, List.set_cons_succ])))
        have H2 := H.drop (.there .here)
        clear H
        refine ⟨⟨k + 1, by omega, by go_num, ?_⟩, ?measure2⟩
        case measure2 => simp [intOf]; omega
        rw [HE.out, pI_app, List.length_append]
        exact ⟨fun h => by simp at h, H2⟩
    · obtain rfl : k = 17 := by omega
      have HZ2 := Lib.hid HZ.out
      clear HZ
      rw [HALL.out] at H HZ2
      by_cases h0 : P.length = 0
      · obtain rfl := HZ2.out h0
        have hcl := clipPa_nil
        have H0 := Lib.hid h0
        clear h0
        go_wp2_with (first | go_skip | ((with_reducible refine Ans.callH (by assumption) H ?_); clear H; intro _ H))
        go_ret
        exact ListPost.nil H0.out H.tail
      · obtain ⟨g, cc, rfl, hc, hm⟩ := RowT.sl (H.ok _ List.mem_cons_self) (by omega)
        have hcl := clipPa ⟨g, 0, none⟩ P.length cc hc hm
        have hp : 0 < P.length := by omega
        have HP := Lib.hid hp
        clear hp h0
        generalize hn : P.length = n at *
        have HN := Lib.hid hn
        clear hn
        go_wp2_with (first | go_skip | ((with_reducible refine Ans.callH (by assumption) H ?_); clear H; intro _ H))
        go_ret
        rw [HN.out]
        exact ListPost.some HP.out g cc hc H
end
end Go.Proofs.Ytgobnamhdkbbeaa

/- ledgers.Ledger: Copy; what nobody made. -/
namespace Go.Proofs.Ytgobnamhdkbbeaa
open Go.RowKit
set_option linter.unusedSimpArgs false
set_option linter.unusedVariables false
theorem run_eql_mapL (p : Option Nat) (w : World) : (binOp .eql 45 (.map p) (.map none)).run Try.prog w = .ok (.bool p.isNone) w := run_eql_map_nil_sl w _ _ _ p Try.underlying45
section
variable {ops : Array Oper} {rest : List Oper} {a : Act} {w W : World} {l r s : List Thing} {Q : Exit → Act → World → Prop} {p q : Nat} {S : Lgr} {P : List Int} {m : Option Nat}
set_option maxRecDepth 100000
set_option maxHeartbeats 2000000
theorem lclone_C (b : Nat) (es : Array MapEntry) (clock : Nat) (w : World) (hb : w.heap[b]? = some (.map es clock)) :
    Calls Try.prog 71 #[.map (some b)] w fun e w' => e = .returned (.map (some w.heap.size)) ∧ w' = w.alloc (.map es clock) := by
  have hq := run_eql_mapL (some b)
  go_enter Try.func71, Try.ntmps71
  go_wp2_with (go_skip)
  rw [run_callFunc_extern Try.func103 (by kernel_rfl) (by kernel_rfl) (by kernel_rfl) (e := Extern.MapsClone.clone) (by kernel_rfl), run_maps_clone_sl w 45 hb]
  simp only [Result.andThen]
  rw [Oper.upon_value]
  go_wp2_with (go_skip)
  rw [run_typeAssert_map_sl _ 45 _ _ _ _ Try.underlying45]
  simp only [Result.andThen]
  rw [Oper.upon_value]
  go_wp2_with (go_skip)
  go_ret
  exact ⟨rfl, rfl⟩
theorem lclone_H {L : List Lin} (H : Heap W l w) (hm : LdM q L ∈ l) : Calls Try.prog 71 #[.map (some q)] w fun e w' => ∃ q', e = .returned (.map (some q')) ∧ Heap W (LdM q' L :: l) w' := by
  obtain ⟨es, clock, hb, hh⟩ := H.ok _ hm
  refine (lclone_C q es clock w hb).mono fun e w' ⟨he, hw⟩ => ?_
  subst hw
  exact ⟨_, he, H.add ⟨rfl, rfl, rfl, by simp, fun k hk _ => Below.heap_alloc _ _ _ hk⟩ ⟨es, clock, heap_alloc_new w _, hh⟩ (fun k hk => by cases hk; exact ⟨Nat.le_refl _, by simp⟩)⟩
theorem run_buildLed (P : List Int) (m : Option Nat) (w : World) : (Instr.build 47 #[(0, .agg (parA P)), (1, .map m)]).run Try.prog w = .ok (.agg (ledA P m)) w := by kernel_rfl
theorem wpQ_buildLed {K : Act → Prop} {H : Heap W l w} {dst : Option Tmp} {ty : TypeId} {pos : String} {after : Array Edge} {guard : Option (Nat × Bool)} {x y : Operand} (hw : Region.wanted ⟨dst, .build 47 #[(0, x), (1, y)], ty, pos, after, guard⟩ (yielded ops a.tmps) = true) (hx : a.eval x = .agg (parA P)) (hy : a.eval y = .map m)
    (h : wpQuiet Try.prog ops (fun w' => ∃ d, w' = H.any d) K rest (a.put dst (.agg (ledA P m)))) : wpQuiet Try.prog ops (fun w' => ∃ d, w' = H.any d) K (⟨dst, .build 47 #[(0, x), (1, y)], ty, pos, after, guard⟩ :: rest) a := by
  refine BigFrame.wpQuiet_want hw fun K hK => ⟨_, ?_, hK _ h⟩
  rintro _ ⟨d, rfl⟩
  unfold Oper.quietAt execOp
  simp only [List.map_toArray, List.map_cons, List.map_nil, hx, hy, Sem.run_bind, run_buildLed]
  exact ⟨rfl, rfl⟩
theorem lcopy_H (H : Heap W l w) (h1 : LdC p P (some q) ∈ l) (h2 : LdM q S.L ∈ l) : Calls Try.prog 30 #[.pointer (some ⟨p, 0, none⟩)] w fun e w' => ∃ p' q', e = .returned (.pointer (some ⟨p', 0, none⟩)) ∧ Heap W (LdC p' P (some q') :: LdM q' S.L :: l) w' := by
  go_enter Try.func30, Try.ntmps30
  go_wp2_with (first
    | go_skip
    | ((with_reducible apply lthere_call H); (· exact h1); (clear H; intro _ H)))
  refine wp_region_K0 [8, 10] [0, 1, 2, 3, 4, 5, 6, 7, 8, 9, 10, 11] H (by kernel_rfl) (by kernel_rfl) ?_
  iterate 8 (apply wpK_step; (· rfl); (· rfl); (· rfl); (· exact Nat.le_of_ble_eq_true rfl); (· intro l0 hs0 w0 H0; (first | go_big_quiet_skip | (first | ((with_reducible apply wpQ_loadRH row_par); (· rfl); (· rfl); (· exact hs0 _ h1); (· (simp only [ledA_sz, Nat.reduceAdd, Nat.reduceLeDiff]; done)); (· exact ledA_par _ _); (simp only [Act.put, List.setIfInBounds_toArray, List.set_cons_zero, List.set_cons_succ])) | ((with_reducible apply wpQ_loadCH); (· exact cell_map); (· rfl); (· rfl); (· exact hs0 _ h1); (· exact ledA_map _ _); (simp only [Act.put, List.setIfInBounds_toArray, List.set_cons_zero, List.set_cons_succ]))) | go_big_quiet_step (fail)); (refine wpQuiet_nil ?_); (simp only [Array.getD_eq_getD_getElem?, List.getElem?_toArray, List.getElem?_cons_succ, List.getElem?_cons_zero, Option.getD_some]; rfl)); (simp only [Act.put, List.setIfInBounds_toArray, List.set_cons_zero, List.set_cons_succ]))
  refine wpK_call (f := 71) (argl := [.map (some q)]) rfl rfl rfl Try.call71 rfl ?_
  intro w0 H0
  refine (lclone_H H0 h2).mono ?_
  clear H0
  rintro e w1 ⟨q', rfl, H1⟩
  refine ⟨_, _, rfl, H1, _, Keeps.refl _, fun t ht => List.mem_cons_of_mem _ ht, ?_⟩
  clear H1
  (simp only [Act.put, List.setIfInBounds_toArray, List.set_cons_zero, List.set_cons_succ])
  (apply wpK_step; (· rfl); (· rfl); (· rfl); (· exact Nat.le_of_ble_eq_true rfl); (· intro l0 hs0 w0 H0; (first | go_big_quiet_skip | ((with_reducible apply wpQ_buildLed); (· rfl); (· rfl); (· rfl); (simp only [Act.put, List.setIfInBounds_toArray, List.set_cons_zero, List.set_cons_succ])) | go_big_quiet_step (fail)); (refine wpQuiet_nil ?_); (simp only [Array.getD_eq_getD_getElem?, List.getElem?_toArray, List.getElem?_cons_succ, List.getElem?_cons_zero, Option.getD_some]; rfl)); (simp only [Act.put, List.setIfInBounds_toArray, List.set_cons_zero, List.set_cons_succ]))
  ((with_reducible apply wpK_boxR); (· rfl); (· rfl); (· rfl); (· rfl); (· exact fun t ht => List.mem_cons_of_mem _ ht); (intro p'); (simp only [Act.put, List.setIfInBounds_toArray, List.set_cons_zero, List.set_cons_succ]))
  (apply wpK_step; (· rfl); (· rfl); (· rfl); (· exact Nat.le_of_ble_eq_true rfl); (· intro l0 hs0 w0 H0; (first | go_big_quiet_skip | fail | go_big_quiet_step (fail)); (refine wpQuiet_nil ?_); (simp only [Array.getD_eq_getD_getElem?, List.getElem?_toArray, List.getElem?_cons_succ, List.getElem?_cons_zero, Option.getD_some]; rfl)); (simp only [Act.put, List.setIfInBounds_toArray, List.set_cons_zero, List.set_cons_succ]))
  (refine wpK_nil ?_; clear H; intro _ H)
  go_wp2_with (go_skip)
  go_ret
  exact ⟨p', q', rfl, H⟩
end
end Go.Proofs.Ytgobnamhdkbbeaa

/- ledgers.Ledger: Room. -/
namespace Go.Proofs.Ytgobnamhdkbbeaa
open Go.RowKit
set_option linter.unusedSimpArgs false
set_option linter.unusedVariables false
section
variable {W w : World} {l : List Thing} {p q : Nat} {m : Option Nat} {P : List Int} {S : Lgr} {R : Ending → World → Prop}
set_option maxRecDepth 100000
set_option maxHeartbeats 1000000
theorem lroom_H (f t c : Nat) (hf : f ≤ 255) (ht : t ≤ 255) (hc : c ≤ 255) (G : S.Good) (h : LdC p S.P (some q) ∈ l) (hm : LdM q S.L ∈ l) : AnsH W l 16 #[.pointer (some ⟨p, 0, none⟩), .int .u8 (f : Int), .int .u8 (t : Int), .int .u8 (c : Int)] (.int .i64 (roomOf S f t c)) := by
  intro w H
  have k1 := Lib.hid (key_nat f t c hf ht hc)
  have k2 := Lib.hid (key_nat t f c ht hf hc)
  have L1 := look_line G f t c
  have L2 := look_line G t f c
  have n1 := G.nums f t c
  have n2 := G.nums t f c
  have hr : roomOf S f t c = debOf S.L f t c + limOf S.L t f c - debOf S.L t f c := rfl
  rw [hr]
  clear hr
  generalize debOf S.L f t c = x at *
  generalize limOf S.L f t c = x' at *
  generalize debOf S.L t f c = y at *
  generalize limOf S.L t f c = y' at *
  have hs1 : wrap64 (x + y') = x + y' := IntWalk.wrap64_in _ ⟨by omega, by omega⟩
  have hs2 : wrap64 (x + y' - y) = x + y' - y := IntWalk.wrap64_in _ ⟨by omega, by omega⟩
  clear n1 n2
  replace L1 := Lib.hid L1
  replace L2 := Lib.hid L2
  go_enter Try.func16, Try.ntmps16
  go_wp2_with (first | go_skip | ((with_reducible apply lthere_call H); (· exact h); (clear H; intro _ H)))
  refine wp_region_M [18, 19, 20, 21] [(0, none), (1, none), (2, none), (3, none), (4, none), (5, none), (6, none), (7, none), (8, none), (9, none), (10, none), (11, none), (12, none), (13, none), (14, none), (15, none), (16, none), (17, none), (18, some 19), (20, none), (21, none)] (fun l0 => ∃ pre, l0 = pre ++ l) H ⟨[], rfl⟩ (by kernel_rfl) (by kernel_rfl) ?_
  iterate 18 (apply wpM_step; (· rfl); (· rfl); (· rfl); (· exact Nat.le_of_ble_eq_true rfl); (· rintro l0 ⟨pre, rfl⟩ w0 H0; (first | go_big_quiet_skip | (first | ((with_reducible apply wpQ_loadCH); (· exact cell_map); (· rfl); (· rfl); (· (refine List.mem_append_right _ ?_; exact h)); (· exact ledA_map _ _); (simp only [Act.put, List.setIfInBounds_toArray, List.set_cons_zero, List.set_cons_succ])) | ((with_reducible first | apply wpQ_look0 map_ty | apply wpQ_look1 map_ty); (· rfl); (· rfl); (· rfl); (· exact k1.out); (· (refine List.mem_append_right _ ?_; exact hm)); (· exact L1.out); (simp only [Act.put, List.setIfInBounds_toArray, List.set_cons_zero, List.set_cons_succ])) | ((with_reducible first | apply wpQ_look0 map_ty | apply wpQ_look1 map_ty); (· rfl); (· rfl); (· rfl); (· exact k2.out); (· (refine List.mem_append_right _ ?_; exact hm)); (· exact L2.out); (simp only [Act.put, List.setIfInBounds_toArray, List.set_cons_zero, List.set_cons_succ]))) | go_big_quiet_step (fail)); (refine wpQuiet_nil ?_); (simp only [Array.getD_eq_getD_getElem?, List.getElem?_toArray, List.getElem?_cons_succ, List.getElem?_cons_zero, Option.getD_some]; rfl)); (simp only [Act.put, List.setIfInBounds_toArray, List.set_cons_zero, List.set_cons_succ]))
  go_loud ((with_reducible apply wpM_alloc2 row_owe row_owe); (· rfl); (· rfl); (· rfl); (· rfl); (· decide); (· intro p; exact ⟨[_], rfl⟩); (· intro p; exact ⟨[_], rfl⟩); (· intro p q; exact ⟨[_, _], rfl⟩); (intro p1 p2); (simp only [Act.put, List.setIfInBounds_toArray, List.set_cons_zero, List.set_cons_succ]))
  go_loud ((with_reducible apply wpM_storeR row_owe); (· rfl); (· rfl); (· rfl); (· rfl); (· rfl); (· with_reducible exact owe_cells ..); (· (repeat (first | (with_reducible exact List.mem_cons_self) | with_reducible apply List.mem_cons_of_mem))); (· (simp only [owe_sz, Nat.reduceAdd, Nat.reduceLeDiff, Nat.le_refl]; done)); (· with_reducible exact owe_splice ..); (· (repeat (first | (with_reducible exact Repl.here) | with_reducible apply Repl.there))); (· exact ⟨[_, _], rfl⟩); (simp only [Act.put, List.setIfInBounds_toArray, List.set_cons_zero, List.set_cons_succ]))
  go_loud ((with_reducible apply wpM_storeR row_owe); (· rfl); (· rfl); (· rfl); (· rfl); (· rfl); (· with_reducible exact owe_cells ..); (· (repeat (first | (with_reducible exact List.mem_cons_self) | with_reducible apply List.mem_cons_of_mem))); (· (simp only [owe_sz, Nat.reduceAdd, Nat.reduceLeDiff, Nat.le_refl]; done)); (· with_reducible exact owe_splice ..); (· (repeat (first | (with_reducible exact Repl.here) | with_reducible apply Repl.there))); (· exact ⟨[_, _], rfl⟩); (simp only [Act.put, List.setIfInBounds_toArray, List.set_cons_zero, List.set_cons_succ]))
  (refine wpM_nil ?_; clear H; intro _ H)
  go_wp2_with (first | go_skip | ((with_reducible show wpList _ _ _ (_ :: _) _ _); (with_reducible apply wpl_loadCH); (· exact cell_i64); (· rfl); (· rfl); (· exact H); (· (repeat (first | (with_reducible exact List.mem_cons_self) | with_reducible apply List.mem_cons_of_mem))); (· (with_reducible first | exact owe_g0 .. | exact owe_g1 ..)); (simp only [Act.put, List.setIfInBounds_toArray, List.set_cons_zero, List.set_cons_succ])))
  go_ret
  exact ⟨congrArg (fun z => Ending.returned (.int .i64 z)) hs2, H.tail.tail⟩
end
end Go.Proofs.Ytgobnamhdkbbeaa

/- ledgers.Ledger: Line, add, Push, Forgive. -/
namespace Go.Proofs.Ytgobnamhdkbbeaa
open Go.RowKit
set_option linter.unusedSimpArgs false
set_option linter.unusedVariables false
/-- A line as it is told: of zeros, if there is none. -/
def lineC (L : List Lin) (cr db cu : Int) : Array Value := if isLine L cr db cu = true then line cr db cu (limOf L cr db cu) (debOf L cr db cu) else line 0 0 0 0 0
section
variable {W w : World} {l : List Thing} {p q : Nat} {m : Option Nat} {P : List Int} {S : Lgr} {R : Ending → World → Prop}
set_option maxRecDepth 100000
set_option maxHeartbeats 1000000
theorem lline_H (f t c : Nat) (hf : f ≤ 255) (ht : t ≤ 255) (hc : c ≤ 255) (G : S.Good) (h : LdC p S.P (some q) ∈ l) (hm : LdM q S.L ∈ l) : AnsH W l 43 #[.pointer (some ⟨p, 0, none⟩), .int .u8 (f : Int), .int .u8 (t : Int), .int .u8 (c : Int)] (.tuple #[.agg (lineC S.L f t c), .bool (isLine S.L f t c)]) := by
  intro w H
  have k1 := Lib.hid (key_nat f t c hf ht hc)
  have L1 := look_line G f t c
  unfold lineC
  cases hb : isLine S.L f t c
  · rw [hb] at L1
    rw [if_neg Bool.false_ne_true]
    replace L1 := Lib.hid L1
    clear hb
    go_enter Try.func43, Try.ntmps43
    go_wp2_with (first
      | go_skip
      | ((with_reducible apply lthere_call H); (· exact List.mem_cons_of_mem _ h); (clear H; intro _ H))
      | ((with_reducible show wpList _ _ _ (_ :: _) _ _); (with_reducible apply wpl_allocRH row_line); (· rfl); (· exact H); (clear H; intro pr _ H); (simp only [Act.put, List.setIfInBounds_toArray, List.set_cons_zero, List.set_cons_succ]))
      | ((with_reducible show wpList _ _ _ (_ :: _) _ _); (with_reducible apply wpl_loadCH); (· exact cell_map); (· rfl); (· rfl); (· exact H); (· exact List.mem_cons_of_mem _ h); (· exact ledA_map _ _); (simp only [Act.put, List.setIfInBounds_toArray, List.set_cons_zero, List.set_cons_succ]))
      | ((with_reducible show wpList _ _ _ (_ :: _) _ _); (with_reducible first | apply wpl_look0 map_ty | apply wpl_look1 map_ty); (· rfl); (· rfl); (· rfl); (· exact k1.out); (· exact H); (· exact List.mem_cons_of_mem _ hm); (· exact L1.out); (simp only [Act.put, List.setIfInBounds_toArray, List.set_cons_zero, List.set_cons_succ]))
      | ((with_reducible show wpList _ _ _ (_ :: _) _ _); (with_reducible apply wpl_allocRH row_owe); (· rfl); (· exact H); (clear H; intro po _ H); (simp only [Act.put, List.setIfInBounds_toArray, List.set_cons_zero, List.set_cons_succ]))
      | ((with_reducible show wpList _ _ _ (_ :: _) _ _); (with_reducible apply wpl_storeRH row_owe); (· rfl); (· rfl); (· rfl); (· with_reducible exact owe_cells ..); (· exact H); (· (repeat (first | (with_reducible exact List.mem_cons_self) | with_reducible apply List.mem_cons_of_mem))); (· (simp only [owe_sz, Nat.reduceAdd, Nat.reduceLeDiff, Nat.le_refl]; done)); (· with_reducible exact owe_splice ..); (· (repeat (first | (with_reducible exact Repl.here) | with_reducible apply Repl.there))); (clear H; intro _ H); (simp only [Act.put, List.setIfInBounds_toArray, List.set_cons_zero, List.set_cons_succ]))
      | ((with_reducible show wpList _ _ _ (_ :: _) _ _); (with_reducible apply wpl_storeRH row_line); (· rfl); (· rfl); (· rfl); (· with_reducible exact line_cells ..); (· exact H); (· (repeat (first | (with_reducible exact List.mem_cons_self) | with_reducible apply List.mem_cons_of_mem))); (· (simp only [line_sz, Nat.reduceAdd, Nat.reduceLeDiff, Nat.le_refl]; done)); (· with_reducible exact line_splice ..); (· (repeat (first | (with_reducible exact Repl.here) | with_reducible apply Repl.there))); (clear H; intro _ H); (simp only [Act.put, List.setIfInBounds_toArray, List.set_cons_zero, List.set_cons_succ])))
    exact ret_row2H row_line rfl rfl rfl H (by (repeat (first | (with_reducible exact List.mem_cons_self) | with_reducible apply List.mem_cons_of_mem))) rfl rfl ⟨rfl, H.tail.tail⟩
  · rw [hb] at L1
    rw [if_pos rfl]
    replace L1 := Lib.hid L1
    clear hb
    go_enter Try.func43, Try.ntmps43
    go_wp2_with (first
      | go_skip
      | ((with_reducible apply lthere_call H); (· exact List.mem_cons_of_mem _ h); (clear H; intro _ H))
      | ((with_reducible show wpList _ _ _ (_ :: _) _ _); (with_reducible apply wpl_allocRH row_line); (· rfl); (· exact H); (clear H; intro pr _ H); (simp only [Act.put, List.setIfInBounds_toArray, List.set_cons_zero, List.set_cons_succ]))
      | ((with_reducible show wpList _ _ _ (_ :: _) _ _); (with_reducible apply wpl_loadCH); (· exact cell_map); (· rfl); (· rfl); (· exact H); (· exact List.mem_cons_of_mem _ h); (· exact ledA_map _ _); (simp only [Act.put, List.setIfInBounds_toArray, List.set_cons_zero, List.set_cons_succ]))
      | ((with_reducible show wpList _ _ _ (_ :: _) _ _); (with_reducible first | apply wpl_look0 map_ty | apply wpl_look1 map_ty); (· rfl); (· rfl); (· rfl); (· exact k1.out); (· exact H); (· exact List.mem_cons_of_mem _ hm); (· exact L1.out); (simp only [Act.put, List.setIfInBounds_toArray, List.set_cons_zero, List.set_cons_succ]))
      | ((with_reducible show wpList _ _ _ (_ :: _) _ _); (with_reducible apply wpl_allocRH row_owe); (· rfl); (· exact H); (clear H; intro po _ H); (simp only [Act.put, List.setIfInBounds_toArray, List.set_cons_zero, List.set_cons_succ]))
      | ((with_reducible show wpList _ _ _ (_ :: _) _ _); (with_reducible apply wpl_storeRH row_owe); (· rfl); (· rfl); (· rfl); (· with_reducible exact owe_cells ..); (· exact H); (· (repeat (first | (with_reducible exact List.mem_cons_self) | with_reducible apply List.mem_cons_of_mem))); (· (simp only [owe_sz, Nat.reduceAdd, Nat.reduceLeDiff, Nat.le_refl]; done)); (· with_reducible exact owe_splice ..); (· (repeat (first | (with_reducible exact Repl.here) | with_reducible apply Repl.there))); (clear H; intro _ H); (simp only [Act.put, List.setIfInBounds_toArray, List.set_cons_zero, List.set_cons_succ]))
      | ((with_reducible show wpList _ _ _ (_ :: _) _ _); (with_reducible apply wpl_loadCH); (· exact cell_i64); (· rfl); (· rfl); (· exact H); (· (repeat (first | (with_reducible exact List.mem_cons_self) | with_reducible apply List.mem_cons_of_mem))); (· (with_reducible first | exact owe_g0 .. | exact owe_g1 ..)); (simp only [Act.put, List.setIfInBounds_toArray, List.set_cons_zero, List.set_cons_succ]))
      | ((with_reducible show wpList _ _ _ (_ :: _) _ _); (with_reducible apply wpl_storeRH row_line); (· rfl); (· rfl); (· rfl); (· with_reducible exact line_cells ..); (· exact H); (· (repeat (first | (with_reducible exact List.mem_cons_self) | with_reducible apply List.mem_cons_of_mem))); (· (simp only [line_sz, Nat.reduceAdd, Nat.reduceLeDiff, Nat.le_refl]; done)); (· with_reducible exact line_splice ..); (· (repeat (first | (with_reducible exact Repl.here) | with_reducible apply Repl.there))); (clear H; intro _ H); (simp only [Act.put, List.setIfInBounds_toArray, List.set_cons_zero, List.set_cons_succ])))
    exact ret_row2H row_line rfl rfl rfl H (by (repeat (first | (with_reducible exact List.mem_cons_self) | with_reducible apply List.mem_cons_of_mem))) rfl rfl ⟨rfl, H.tail.tail⟩
theorem ladd_H (f t c : Nat) (n : Int) (hf : f ≤ 255) (ht : t ≤ 255) (hc : c ≤ 255) (G : S.Good) (hz : n = 0 ∨ isLine S.L f t c = true) (hn : -1099511627776 ≤ n ∧ n ≤ 1099511627776) (H : Heap W (LdC p S.P (some q) :: LdM q S.L :: l) w) :
    Calls Try.prog 56 #[.pointer (some ⟨p, 0, none⟩), .agg (ends (f : Int) (t : Int) (c : Int)), .int .i64 n] w fun e w' => e = .returned (.tuple #[]) ∧ Heap W (LdC p S.P (some q) :: LdM q (addL S.L f t c n) :: l) w' := by
  by_cases h0 : n = 0
  · subst h0
    rw [addL_zero]
    clear hz hn G
    go_enter Try.func56, Try.ntmps56
    go_wp2_with (first | go_skip | ((with_reducible show wpList _ _ _ (_ :: _) _ _); (with_reducible apply wpl_boxRH); (· rfl); (· rfl); (· exact H); (clear H; intro px _ H); (simp only [Act.put, List.setIfInBounds_toArray, List.set_cons_zero, List.set_cons_succ])))
    go_end0
    exact ⟨rfl, H.tail⟩
  · have hl : isLine S.L f t c = true := hz.resolve_left h0
    have e0 : (n != 0) = true := by simpa using h0
    have k1 := Lib.hid (key_nat f t c hf ht hc)
    have L1 := look_line G f t c
    have hp := put_set (x := ⟨f, t, c, limOf S.L f t c, debOf S.L f t c + n⟩) G.ord G.smalls (by unfold Small; simp only; omega) (by
      obtain ⟨x, hx, ha⟩ := isLine_iff.1 hl
      obtain ⟨h1, h2, h3⟩ := Lin.at_iff.1 ha
      have := (G.vals hx).2.1
      rw [h1, h2, h3] at this
      have := (G.ok x hx).lim
      simp only; omega)
    rw [← G.add_set hl n] at hp
    simp only at hp
    have nn := G.nums f t c
    have hs : wrap64 (debOf S.L f t c + n) = debOf S.L f t c + n := IntWalk.wrap64_in _ ⟨by omega, by omega⟩
    clear hz hn nn hl h0
    replace L1 := Lib.hid L1
    replace hp := Lib.hid hp
    generalize debOf S.L f t c = x at *
    generalize limOf S.L f t c = x' at *
    generalize S.P = P at *
    go_enter Try.func56, Try.ntmps56
    go_wp2_with (first | go_skip | ((with_reducible show wpList _ _ _ (_ :: _) _ _); (with_reducible apply wpl_boxRH); (· rfl); (· rfl); (· exact H); (clear H; intro px _ H); (simp only [Act.put, List.setIfInBounds_toArray, List.set_cons_zero, List.set_cons_succ])))
    refine wp_region_M [6, 7] [(0, none), (1, none), (2, none), (3, none), (4, none), (5, none), (6, none), (7, none)] (fun l0 => ∃ pre, l0 = pre ++ (Cel px (ends (f : Int) (t : Int) (c : Int)) 105 :: LdC p P (some q) :: LdM q S.L :: l)) H ⟨[], rfl⟩ (by kernel_rfl) (by kernel_rfl) ?_
    iterate 6 (apply wpM_step; (· rfl); (· rfl); (· rfl); (· exact Nat.le_of_ble_eq_true rfl); (· rintro l0 ⟨pre, rfl⟩ w0 H0; (first | go_big_quiet_skip | (first | ((with_reducible apply wpQ_loadCH); (· exact cell_map); (· rfl); (· rfl); (· ((refine List.mem_append_right _ ?_); (repeat (first | (with_reducible exact List.mem_cons_self) | with_reducible apply List.mem_cons_of_mem)))); (· exact ledA_map _ _); (simp only [Act.put, List.setIfInBounds_toArray, List.set_cons_zero, List.set_cons_succ])) | ((with_reducible apply wpQ_loadRH row_ends); (· rfl); (· rfl); (· ((refine List.mem_append_right _ ?_); (repeat (first | (with_reducible exact List.mem_cons_self) | with_reducible apply List.mem_cons_of_mem)))); (· (simp only [ends_sz, Nat.reduceAdd, Nat.reduceLeDiff, Nat.le_refl]; done)); (· exact ends_all ..); (simp only [Act.put, List.setIfInBounds_toArray, List.set_cons_zero, List.set_cons_succ])) | ((with_reducible first | apply wpQ_look0 map_ty | apply wpQ_look1 map_ty); (· rfl); (· rfl); (· rfl); (· exact k1.out); (· ((refine List.mem_append_right _ ?_); (repeat (first | (with_reducible exact List.mem_cons_self) | with_reducible apply List.mem_cons_of_mem)))); (· exact L1.out); (simp only [Act.put, List.setIfInBounds_toArray, List.set_cons_zero, List.set_cons_succ]))) | go_big_quiet_step (fail)); (refine wpQuiet_nil ?_); (simp only [Array.getD_eq_getD_getElem?, List.getElem?_toArray, List.getElem?_cons_succ, List.getElem?_cons_zero, Option.getD_some]; rfl)); (simp only [Act.put, List.setIfInBounds_toArray, List.set_cons_zero, List.set_cons_succ]))
    ((with_reducible apply wpM_allocR row_owe); (· rfl); (· rfl); (· rfl); (· intro p; exact ⟨[_], rfl⟩); (intro po); (simp only [Act.put, List.setIfInBounds_toArray, List.set_cons_zero, List.set_cons_succ]))
    ((with_reducible apply wpM_storeR row_owe); (· rfl); (· rfl); (· rfl); (· rfl); (· rfl); (· with_reducible exact owe_cells ..); (· (repeat (first | (with_reducible exact List.mem_cons_self) | with_reducible apply List.mem_cons_of_mem))); (· (simp only [owe_sz, Nat.reduceAdd, Nat.reduceLeDiff, Nat.le_refl]; done)); (· with_reducible exact owe_splice ..); (· (repeat (first | (with_reducible exact Repl.here) | with_reducible apply Repl.there))); (· exact ⟨[_], rfl⟩); (simp only [Act.put, List.setIfInBounds_toArray, List.set_cons_zero, List.set_cons_succ]))
    (refine wpM_nil ?_; clear H; intro _ H)
    go_wp2_with (first | go_skip | ((with_reducible show wpList _ _ _ (_ :: _) _ _); (with_reducible apply wpl_loadCH); (· exact cell_i64); (· rfl); (· rfl); (· exact H); (· (repeat (first | (with_reducible exact List.mem_cons_self) | with_reducible apply List.mem_cons_of_mem))); (· (with_reducible first | exact owe_g0 .. | exact owe_g1 ..)); (simp only [Act.put, List.setIfInBounds_toArray, List.set_cons_zero, List.set_cons_succ])) | (first | ((with_reducible show wpList _ _ _ (_ :: _) _ _); (with_reducible apply wpl_storeIH); (· exact cell_i64); (· rfl); (· rfl); (· rfl); (· exact H); (· (repeat (first | (with_reducible exact List.mem_cons_self) | with_reducible apply List.mem_cons_of_mem))); (· (simp only [owe_sz, Nat.reduceLT]; done)); (· (with_reducible first | exact owe_s0 .. | exact owe_s1 ..)); (· (repeat (first | (with_reducible exact Repl.here) | with_reducible apply Repl.there))); (clear H; intro _ H); (simp only [Act.put, List.setIfInBounds_toArray, List.set_cons_zero, List.set_cons_succ])) | ((with_reducible show wpList _ _ _ (_ :: _) _ _); (with_reducible apply wpl_storeBH); (· exact cell_i64); (· rfl); (· rfl); (· rfl); (· exact H); (· (repeat (first | (with_reducible exact List.mem_cons_self) | with_reducible apply List.mem_cons_of_mem))); (· (simp only [owe_sz, Nat.reduceLT]; done)); (· (with_reducible first | exact owe_s0 .. | exact owe_s1 ..)); (· (repeat (first | (with_reducible exact Repl.here) | with_reducible apply Repl.there))); (clear H; intro _ H); (simp only [Act.put, List.setIfInBounds_toArray, List.set_cons_zero, List.set_cons_succ])) | ((with_reducible show wpList _ _ _ (_ :: _) _ _); (with_reducible apply wpl_storeSH); (· exact cell_i64); (· rfl); (· rfl); (· rfl); (· exact H); (· (repeat (first | (with_reducible exact List.mem_cons_self) | with_reducible apply List.mem_cons_of_mem))); (· (simp only [owe_sz, Nat.reduceLT]; done)); (· (with_reducible first | exact owe_s0 .. | exact owe_s1 ..)); (· (repeat (first | (with_reducible exact Repl.here) | with_reducible apply Repl.there))); (clear H; intro _ H); (simp only [Act.put, List.setIfInBounds_toArray, List.set_cons_zero, List.set_cons_succ])) | ((with_reducible show wpList _ _ _ (_ :: _) _ _); (with_reducible apply wpl_storePH); (· exact cell_i64); (· rfl); (· rfl); (· rfl); (· exact H); (· (repeat (first | (with_reducible exact List.mem_cons_self) | with_reducible apply List.mem_cons_of_mem))); (· (simp only [owe_sz, Nat.reduceLT]; done)); (· (with_reducible first | exact owe_s0 .. | exact owe_s1 ..)); (· (repeat (first | (with_reducible exact Repl.here) | with_reducible apply Repl.there))); (clear H; intro _ H); (simp only [Act.put, List.setIfInBounds_toArray, List.set_cons_zero, List.set_cons_succ]))))
    rw [hs] at H
    refine wp_region_H_tail 6 H (by kernel_rfl) (by kernel_rfl) ?_
    simp only [List.take_succ_cons, List.take_zero, List.drop_succ_cons, List.drop_zero]
    repeat (first | go_big_quiet_skip | (first | ((with_reducible apply wpQ_loadCH); (· exact cell_map); (· rfl); (· rfl); (· (repeat (first | (with_reducible exact List.mem_cons_self) | with_reducible apply List.mem_cons_of_mem))); (· exact ledA_map _ _); (simp only [Act.put, List.setIfInBounds_toArray, List.set_cons_zero, List.set_cons_succ])) | ((with_reducible apply wpQ_loadRH row_ends); (· rfl); (· rfl); (· (repeat (first | (with_reducible exact List.mem_cons_self) | with_reducible apply List.mem_cons_of_mem))); (· (simp only [ends_sz, Nat.reduceAdd, Nat.reduceLeDiff, Nat.le_refl]; done)); (· with_reducible exact ends_all ..); (simp only [Act.put, List.setIfInBounds_toArray, List.set_cons_zero, List.set_cons_succ])) | ((with_reducible apply wpQ_loadRH row_owe); (· rfl); (· rfl); (· (repeat (first | (with_reducible exact List.mem_cons_self) | with_reducible apply List.mem_cons_of_mem))); (· (simp only [owe_sz, Nat.reduceAdd, Nat.reduceLeDiff, Nat.le_refl]; done)); (· with_reducible exact owe_all ..); (simp only [Act.put, List.setIfInBounds_toArray, List.set_cons_zero, List.set_cons_succ]))) | go_big_quiet_step (fail))
    refine wpQuiet_nil ?_
    clear H
    intro _ H
    go_wp2_with (first | go_skip | ((with_reducible show wpList _ _ _ (_ :: _) _ _); (with_reducible apply wpl_putM map_ty); (· rfl); (· rfl); (· rfl); (· rfl); (· exact k1.out); (· exact H); (· exact hp.out); (· (repeat (first | (with_reducible exact Repl.here) | with_reducible apply Repl.there))); (clear H; intro _ H); (simp only [Act.put, List.setIfInBounds_toArray, List.set_cons_zero, List.set_cons_succ])))
    go_end0
    exact ⟨rfl, H.tail.tail⟩
end
end Go.Proofs.Ytgobnamhdkbbeaa
