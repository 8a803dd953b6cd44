/- Part 12 of what several laws stand on: NetN, Lives08p, Lives13p, BsAny, SameF, Lives13, Open, Shape, Leaf, Open03. -/
import Derived.Test.YtgobnamhdkbbeaaNetGPart11
import Derived.Laws.StructEq
import Derived.ProofKit
import Derived.OpenShut
import Derived.ChangeOld
import Derived.Test.YtgobnamhdkbbeaaProg
import Derived.Lib.SmallJoins
/- nettings: Net. -/
namespace Go.Proofs.Ytgobnamhdkbbeaa
open Go.RowKit Go.Sort
set_option linter.unusedSimpArgs false
set_option linter.unusedVariables false
set_option maxRecDepth 100000
structure IdxR (W : World) (l : List Thing) (L : List Flw) (f t n : Nat) (i : Value) (wr : World) : Prop where
  out : ∃ k : Nat, k ≤ fIdx L f t ∧ k ≤ n ∧ i = .int .i64 (k : Int) ∧ Heap W l wr
structure NetR (W : World) (l : List Thing) (p q c : Nat) (S : Lgr) (Q : List Flw) (g i : Value) (wr : World) : Prop where
  out : ∃ k : Nat, k ≤ (dbtS S.L c).length ∧ i = .int .i64 (k : Int) ∧ g = .int .i64 (totL S.L c - totL (forgL S c Q ((dbtS S.L c).take k)).L c) ∧
    Heap W (LdC p S.P (some q) :: LdM q (forgL S c Q ((dbtS S.L c).take k)).L :: l) wr
theorem NetOut.gone_of {S : Lgr} {c : Nat} {q k0 : Int} {Q : List Flw} (h : 1 ≤ c ∧ c ≤ 8) (ho : LeastOut 13 (dbtS S.L c) q Q k0 0) : NetOut S c q (totL S.L c - totL (forgL S c Q (dbtS S.L c)).L c) k0 0 (forgL S c Q (dbtS S.L c)) := .inr ⟨h, Q, k0, ho, .inr ⟨rfl, rfl, rfl, rfl⟩⟩
section
variable {W w : World} {l : List Thing}
set_option maxHeartbeats 8000000
theorem ends13_H (x y : Flw) (px : Nat) (m : Cel px (flow (x.f : Int) (x.t : Int) x.n) 32 ∈ l) :
    AnsH W l 79 #[.agg (flow (y.f : Int) (y.t : Int) y.n), .pointer (some ⟨px, 0, none⟩)] (.bool (endsB x.f x.t y)) := by
  intro w H
  obtain ⟨xf, xt, xn⟩ := x
  obtain ⟨yf, yt, yn⟩ := y
  simp only at m ⊢
  by_cases h1 : yf = xf
  · have e1 : ((yf : Int) == (xf : Int)) = true := by simp; omega
    by_cases h2 : yt = xt
    · have e2 : ((yt : Int) == (xt : Int)) = true := by simp; omega
      have hr : endsB xf xt ⟨yf, yt, yn⟩ = true := endsB_iff.2 ⟨h1, h2⟩
      rw [hr]
      clear h1 h2 hr
      go_enter Try.func79, Try.ntmps79
      go_wp2_with (first | go_skip | ((with_reducible show wpList _ _ _ (_ :: _) _ _); (with_reducible apply wpl_boxRH); (· rfl); (· rfl); (· exact H); (clear H; intro py _ H); (simp only [Act.put, List.setIfInBounds_toArray, List.set_cons_zero, List.set_cons_succ])) | ((with_reducible show wpList _ _ _ (_ :: _) _ _); (with_reducible apply wpl_loadCH); (· exact cell_party); (· rfl); (· rfl); (· exact H); (· (repeat (first | (with_reducible exact List.mem_cons_self) | with_reducible apply List.mem_cons_of_mem))); (· (with_reducible first | exact flow_g0 .. | exact flow_g1 .. | exact flow_g2 ..)); (simp only [Act.put, List.setIfInBounds_toArray, List.set_cons_zero, List.set_cons_succ])) | ((with_reducible show wpList _ _ _ (_ :: _) _ _); (with_reducible apply wpl_loadCH); (· exact cell_party); (· rfl); (· rfl); (· exact H); (· exact List.mem_cons_of_mem _ m); (· (with_reducible first | exact flow_g0 .. | exact flow_g1 .. | exact flow_g2 ..)); (simp only [Act.put, List.setIfInBounds_toArray, List.set_cons_zero, List.set_cons_succ])))
      go_ret
      exact ⟨rfl, H.tail⟩
    · have e2 : ((yt : Int) == (xt : Int)) = false := by simp; omega
      have hr : endsB xf xt ⟨yf, yt, yn⟩ = false := by rw [Bool.eq_false_iff]; intro h; exact h2 (endsB_iff.1 h).2
      rw [hr]
      clear h1 h2 hr
      go_enter Try.func79, Try.ntmps79
      go_wp2_with (first | go_skip | ((with_reducible show wpList _ _ _ (_ :: _) _ _); (with_reducible apply wpl_boxRH); (· rfl); (· rfl); (· exact H); (clear H; intro py _ H); (simp only [Act.put, List.setIfInBounds_toArray, List.set_cons_zero, List.set_cons_succ])) | ((with_reducible show wpList _ _ _ (_ :: _) _ _); (with_reducible apply wpl_loadCH); (· exact cell_party); (· rfl); (· rfl); (· exact H); (· (repeat (first | (with_reducible exact List.mem_cons_self) | with_reducible apply List.mem_cons_of_mem))); (· (with_reducible first | exact flow_g0 .. | exact flow_g1 .. | exact flow_g2 ..)); (simp only [Act.put, List.setIfInBounds_toArray, List.set_cons_zero, List.set_cons_succ])) | ((with_reducible show wpList _ _ _ (_ :: _) _ _); (with_reducible apply wpl_loadCH); (· exact cell_party); (· rfl); (· rfl); (· exact H); (· exact List.mem_cons_of_mem _ m); (· (with_reducible first | exact flow_g0 .. | exact flow_g1 .. | exact flow_g2 ..)); (simp only [Act.put, List.setIfInBounds_toArray, List.set_cons_zero, List.set_cons_succ])))
      go_ret
      exact ⟨rfl, H.tail⟩
  · have e1 : ((yf : Int) == (xf : Int)) = false := by simp; omega
    have hr : endsB xf xt ⟨yf, yt, yn⟩ = false := by rw [Bool.eq_false_iff]; intro h; exact h1 (endsB_iff.1 h).1
    rw [hr]
    clear h1 hr
    go_enter Try.func79, Try.ntmps79
    go_wp2_with (first | go_skip | ((with_reducible show wpList _ _ _ (_ :: _) _ _); (with_reducible apply wpl_boxRH); (· rfl); (· rfl); (· exact H); (clear H; intro py _ H); (simp only [Act.put, List.setIfInBounds_toArray, List.set_cons_zero, List.set_cons_succ])) | ((with_reducible show wpList _ _ _ (_ :: _) _ _); (with_reducible apply wpl_loadCH); (· exact cell_party); (· rfl); (· rfl); (· exact H); (· (repeat (first | (with_reducible exact List.mem_cons_self) | with_reducible apply List.mem_cons_of_mem))); (· (with_reducible first | exact flow_g0 .. | exact flow_g1 .. | exact flow_g2 ..)); (simp only [Act.put, List.setIfInBounds_toArray, List.set_cons_zero, List.set_cons_succ])) | ((with_reducible show wpList _ _ _ (_ :: _) _ _); (with_reducible apply wpl_loadCH); (· exact cell_party); (· rfl); (· rfl); (· exact H); (· exact List.mem_cons_of_mem _ m); (· (with_reducible first | exact flow_g0 .. | exact flow_g1 .. | exact flow_g2 ..)); (simp only [Act.put, List.setIfInBounds_toArray, List.set_cons_zero, List.set_cons_succ])))
    go_ret
    exact ⟨rfl, H.tail⟩
theorem flwL_row (F : List Flw) (k : Nat) (h : k < F.length) : (((flwL F).drop (k * 3)).take 3).toArray = flow (F[k].f : Int) (F[k].t : Int) F[k].n := by rw [flwL_at F k h]; rfl
def idxV (L : List Flw) (f t : Nat) : Int := if fIdx L f t < L.length then (fIdx L f t : Int) else -1
theorem index13_H (a : Option Addr) (n c px : Nat) (L : List Flw) (x : Flw) (hl : L.length = n) (hn : n ≤ 1000000) (m : Cel px (flow (x.f : Int) (x.t : Int) x.n) 32 ∈ l) (R : ∀ w', Heap W l w' → Rd w' a (flwL L)) :
    AnsH W l 78 #[.slice a n c, .func (.func 79) #[] #[.pointer (some ⟨px, 0, none⟩)]] (.int .i64 (idxV L x.f x.t)) := by
  intro w H
  have HL := Lib.hid hl
  have HR := Lib.hid R
  have HLE := Lib.hid (fIdx_le L x.f x.t)
  have E := fun y => ends13_H (W := W) (l := l) x y px m
  have HE := Lib.hid E
  clear hl R E m
  go_enter Try.func78, Try.ntmps78
  go_wp2_with (go_skip)
  have H0 := H
  clear H
  go_loopw [8] (fun i wr => IdxR W l L x.f x.t n i wr) (fun i _ => n - (intOf i).toNat)
  case atStart => exact ⟨0, Nat.zero_le _, Nat.zero_le _, rfl, H0⟩
  case round =>
    obtain ⟨k, hk, hkn, rfl, H⟩ := hrel.out
    clear H0 hrel
    by_cases hlt : k < n
    · have hkL : k < L.length := by rw [HL.out]; exact hlt
      have hrow := flwL_row L k hkL
      have hlen : k * 3 + 3 ≤ (flwL L).length := by rw [flwL_len]; omega
      obtain ⟨ba, oa, rfl, _⟩ := (HR.out _ H).lt (by omega)
      have Rw := HR.out _ H
      by_cases he : k = fIdx L x.f x.t
      · have hd : endsB x.f x.t L[k] = true := by
          have := fIdx_at (L := L) (f := x.f) (t := x.t) (by omega)
          subst he
          exact this
        have D := HE.out L[k]
        rw [hd] at D
        have HX := Lib.hid (show idxV L x.f x.t = (k : Int) by unfold idxV; rw [← he, if_pos hkL])
        generalize L[k] = y at *
        clear hd he
        go_wp2_with (first
          | go_skip
          | ((with_reducible show wpList _ _ _ (_ :: _) _ _); (with_reducible apply wpl_loadRdR row_flow); (· rfl); (· rfl); (· exact Rw); (· rfl); (· exact hlen); (· decide); (· exact hrow); (simp only [Act.put, List.setIfInBounds_toArray, List.set_cons_zero, List.set_cons_succ]))
          | ((with_reducible refine AnsH.call (by assumption) H ?_); clear H; intro _ H))
        go_ret
        rw [HX.out]
        exact ⟨rfl, H⟩
      · have hd : endsB x.f x.t L[k] = false := fIdx_before (by omega) (List.getElem?_eq_getElem hkL)
        have D := HE.out L[k]
        rw [hd] at D
        have HK := Lib.hid (show k + 1 ≤ fIdx L x.f x.t by omega)
        generalize L[k] = y at *
        clear hd he
        go_wp2_with (first
          | go_skip
          | ((with_reducible show wpList _ _ _ (_ :: _) _ _); (with_reducible apply wpl_loadRdR row_flow); (· rfl); (· rfl); (· exact Rw); (· rfl); (· exact hlen); (· decide); (· exact hrow); (simp only [Act.put, List.setIfInBounds_toArray, List.set_cons_zero, List.set_cons_succ]))
          | ((with_reducible refine AnsH.call (by assumption) H ?_); clear H; intro _ H))
        refine ⟨⟨k + 1, HK.out, by omega, by go_num, H⟩, ?measure1⟩
        case measure1 => simp [intOf]; omega
    · obtain rfl : k = n := by omega
      have HX := Lib.hid (show idxV L x.f x.t = -1 by unfold idxV; rw [if_neg (by rw [HL.out]; omega)])
      go_wp2_with (go_skip)
      go_ret
      rw [HX.out]
      exact ⟨rfl, H⟩
theorem net13_H {p q : Nat} {S : Lgr} (c : Nat) (quota : Int) (hc : c ≤ 255) (hq : -9223372036854775808 ≤ quota ∧ quota ≤ 9223372036854775807) (G : S.Good) (H : Heap W (LdC p S.P (some q) :: LdM q S.L :: l) w) :
    Calls Try.prog 38 #[.pointer (some ⟨p, 0, none⟩), .int .u8 (c : Int), .int .i64 quota] w fun e w' => ∃ n k er S', e = .returned (.tuple #[.int .i64 n, .int .i64 k, .int .i64 er]) ∧ NetOut S c quota n k er S' ∧ Heap W (LdC p S'.P (some q) :: LdM q S'.L :: l) w' := by
  have HG := Lib.hid G
  have hmf : ∀ (fn : Fn) (first cap : Array Value) (w : World), (Instr.makeFunc fn first cap).run Try.prog w = .ok (.func fn first cap) w := fun _ _ _ _ => rfl
  clear G
  go_enter Try.func38, Try.ntmps38
  go_wp2_with (go_skip)
  refine (lcopy_H (S := S) (P := S.P) (p := p) (q := q) H List.mem_cons_self (List.mem_cons_of_mem _ List.mem_cons_self)).mono ?_
  clear H
  rintro e w1 ⟨p', q', rfl, H⟩
  replace H := H.tail.tail
  by_cases hbad : c < 1 ∨ 8 < c
  · by_cases h1 : c < 1
    · have d1 : decide ((c : Int) < 1) = true := decide_eq_true (by omega)
      go_wp2_with (go_skip)
      go_ret3
      exact ⟨0, 0, 1, S, rfl, .inl ⟨hbad, rfl, rfl, rfl, rfl⟩, H⟩
    · have d1 : decide ((c : Int) < 1) = false := decide_eq_false (by omega)
      have d2 : decide ((c : Int) > 8) = true := decide_eq_true (by omega)
      have d3 : decide (8 < (c : Int)) = true := decide_eq_true (by omega)
      go_wp2_with (go_skip)
      go_ret3
      exact ⟨0, 0, 1, S, rfl, .inl ⟨hbad, rfl, rfl, rfl, rfl⟩, H⟩
  · have d1 : decide ((c : Int) < 1) = false := decide_eq_false (by omega)
    have d2 : decide ((c : Int) > 8) = false := decide_eq_false (by omega)
    have d3 : decide (8 < (c : Int)) = false := decide_eq_false (by omega)
    have hfine : 1 ≤ c ∧ c ≤ 8 := by omega
    clear hbad
    go_wp2_with (go_skip)
    refine (debts13_H c hc HG.out .here .here H).mono ?_
    clear H
    rintro e w2 ⟨vD, rfl, H⟩
    have hdf := HG.out.dbt_few c
    have hMD := HG.out.dbt c
    have hbnd := hMD.bnd
    have OK : ∀ x ∈ dbtS S.L c, FlwOk x := fun x hx => by have := hbnd x hx; exact ⟨by omega, by omega, by omega, by omega⟩
    obtain ⟨aD, cD, rfl, hD1, hD2⟩ := OwnT.form0 (H.ok _ List.mem_cons_self)
    go_wp2_with (go_skip)
    refine (least8_H aD (dbtS S.L c).length cD (dbtS S.L c) quota rfl (by omega) OK hq.2 (fun l' w' hh H' => H'.ownRd (hh _ List.mem_cons_self)) H).mono ?_
    clear H OK
    rintro e w3 ⟨vL, Q, k0, er, rfl, ho, H⟩
    by_cases he : er = 0
    · subst he
      have hle : ∀ f t, 0 ≤ ofF Q f t ∧ ofF Q f t ≤ 1099511627776 := by
        rcases id ho with ⟨_, _, _, h⟩ | ⟨_, _, j, N, ht, _, ⟨_, rfl, _, _⟩ | ⟨_, _, _, _, h⟩⟩
        · omega
        · intro f t
          have I := (ht.inv hMD).1
          have hML := leftL_may hMD I
          by_cases hex : ∃ y ∈ leftL (dbtS S.L c) N, y.f = f ∧ y.t = t
          · obtain ⟨y, hy, rfl, rfl⟩ := hex
            obtain ⟨i, hi, rfl⟩ := List.mem_iff_getElem.1 hy
            rw [ofF_uniq hML (List.getElem?_eq_getElem hi)]
            have := hML.bnd _ hy
            omega
          · rw [ofF_no fun y hy h => hex ⟨y, hy, h⟩]
            omega
        · omega
      have hlq : Q.length ≤ 64 := by
        rcases id ho with ⟨_, _, _, h⟩ | ⟨_, _, j, N, ht, _, ⟨_, rfl, _, _⟩ | ⟨_, _, _, _, h⟩⟩
        · omega
        · have := leftL_len (dbtS S.L c) N; omega
        · omega
      obtain ⟨aL, cL, rfl, hL1, hL2⟩ := OwnT.form0 (H.ok _ List.mem_cons_self)
      have HO := Lib.hid (NetOut.gone_of hfine ho)
      have HLE := Lib.hid hle
      have HB := Lib.hid hbnd
      clear ho hle hbnd hMD
      go_wp2_with (go_skip)
      have H0 := H.top2 (.there (.there .here)) (.there (.there .here))
      clear H
      go_loopw [6, 41] (fun g i wr => NetR W (FlT (.slice aL Q.length cL) Q.length Q :: FlT (.slice aD (dbtS S.L c).length cD) (dbtS S.L c).length (dbtS S.L c) :: l) p q c S Q g i wr) (fun _ i _ => (dbtS S.L c).length - (intOf i).toNat)
      case atStart => exact ⟨0, Nat.zero_le _, rfl, by simp [forgL], H0⟩
      case round =>
        obtain ⟨k, hk, rfl, rfl, H⟩ := hrel.out
        clear H0 hrel
        have Gk := forgL_good HG.out c Q ((dbtS S.L c).take k)
        have hPk := forgL_par c Q ((dbtS S.L c).take k) S
        have ht0 := HG.out.totB c
        have ht1 := Gk.totB c
        by_cases hlt : k < (dbtS S.L c).length
        · have hx : (dbtS S.L c)[k]? = some (dbtS S.L c)[k] := List.getElem?_eq_getElem hlt
          have hrow := flwL_row (dbtS S.L c) k hlt
          have hlen : k * 3 + 3 ≤ (flwL (dbtS S.L c)).length := by rw [flwL_len]; omega
          have HS := Lib.hid (net_step HG.out c Q hx (HLE.out _ _).1)
          have HT := Lib.hid (forgL_take S c Q hx)
          have HPOS := Lib.hid (dbtS_mem.1 (List.mem_of_getElem? hx)).2.2.1
          have hbx := HB.out _ (List.mem_of_getElem? hx)
          have hlx := HLE.out (dbtS S.L c)[k].f (dbtS S.L c)[k].t
          have G2 := forgL_good HG.out c Q ((dbtS S.L c).take (k + 1))
          have ht2 := G2.totB c
          rw [HT.out] at ht2
          clear G2 hx
          generalize (dbtS S.L c)[k] = x at *
          generalize forgL S c Q ((dbtS S.L c).take k) = Sk at *
          generalize hrx : ofF Q x.f x.t = rx at *
          have HRX := Lib.hid hrx
          generalize ht00 : totL S.L c = t0 at *
          have HT0 := Lib.hid ht00
          generalize htk : totL Sk.L c = tk at *
          have HTK := Lib.hid htk
          have HPK := Lib.hid hPk
          have HGK := Lib.hid Gk
          obtain ⟨ba, oa, rfl, _⟩ := (H.ownRd (by (repeat (first | (with_reducible exact List.mem_cons_self) | with_reducible apply List.mem_cons_of_mem)) : FlT (.slice aD (dbtS S.L c).length cD) (dbtS S.L c).length (dbtS S.L c) ∈ _)).lt (by omega)
          have Rw := H.ownRd (by (repeat (first | (with_reducible exact List.mem_cons_self) | with_reducible apply List.mem_cons_of_mem)) : FlT (.slice (some ⟨ba, oa, none⟩) (dbtS S.L c).length cD) (dbtS S.L c).length (dbtS S.L c) ∈ _)
          clear hrx htk hPk Gk ht00
          go_wp2_with (first
            | go_skip
            | ((with_reducible show wpList _ _ _ (_ :: _) _ _); (with_reducible apply wpl_loadRdR row_flow); (· rfl); (· rfl); (· exact Rw); (· rfl); (· exact hlen); (· decide); (· exact hrow); (simp only [Act.put, List.setIfInBounds_toArray, List.set_cons_zero, List.set_cons_succ]))
            | ((with_reducible show wpList _ _ _ (_ :: _) _ _); (with_reducible apply wpl_allocRH row_flow); (· rfl); (· exact H); (clear H; intro px _ H); (simp only [Act.put, List.setIfInBounds_toArray, List.set_cons_zero, List.set_cons_succ]))
            | ((with_reducible show wpList _ _ _ (_ :: _) _ _); (with_reducible apply wpl_storeRH row_flow); (· rfl); (· rfl); (· rfl); (· with_reducible exact flow_cells ..); (· exact H); (· (repeat (first | (with_reducible exact List.mem_cons_self) | with_reducible apply List.mem_cons_of_mem))); (· (simp only [flow_sz, Nat.reduceAdd, Nat.reduceLeDiff, Nat.le_refl]; done)); (· with_reducible exact flow_splice ..); (· (repeat (first | (with_reducible exact Repl.here) | with_reducible apply Repl.there))); (clear H; intro _ H); (simp only [Act.put, List.setIfInBounds_toArray, List.set_cons_zero, List.set_cons_succ]))
            | ((with_reducible show wpList _ _ _ (_ :: _) _ _); (with_reducible apply wpl_loadCH); (· first | exact cell_party | exact cell_i64); (· rfl); (· rfl); (· exact H); (· (repeat (first | (with_reducible exact List.mem_cons_self) | with_reducible apply List.mem_cons_of_mem))); (· (with_reducible first | exact flow_g0 .. | exact flow_g1 .. | exact flow_g2 ..)); (simp only [Act.put, List.setIfInBounds_toArray, List.set_cons_zero, List.set_cons_succ])))
          refine (index13_H aL Q.length cL px Q x rfl (by omega) List.mem_cons_self (fun w' h => h.ownRd (by (repeat (first | (with_reducible exact List.mem_cons_self) | with_reducible apply List.mem_cons_of_mem)))) _ H).mono ?_
          clear H Rw
          rintro e w4 ⟨rfl, H⟩
          by_cases hf : fIdx Q x.f x.t < Q.length
          · have HI := Lib.hid (show idxV Q x.f x.t = (fIdx Q x.f x.t : Int) by unfold idxV; rw [if_pos hf])
            obtain ⟨y, hy, hyn⟩ := ofF_find hf
            rw [HRX.out] at hyn
            rw [HI.out]
            generalize fIdx Q x.f x.t = ii at *
            have d1 : decide ((ii : Int) ≥ 0) = true := decide_eq_true (by omega)
            obtain ⟨bq, oq, rfl, _⟩ := (H.ownRd (by (repeat (first | (with_reducible exact List.mem_cons_self) | with_reducible apply List.mem_cons_of_mem)) : FlT (.slice aL Q.length cL) Q.length Q ∈ _)).lt (by rw [flwL_len]; omega)
            have hcq := (rd_flow (H.ownRd (by (repeat (first | (with_reducible exact List.mem_cons_self) | with_reducible apply List.mem_cons_of_mem)) : FlT (.slice (some ⟨bq, oq, none⟩) Q.length cL) Q.length Q ∈ _)) hy).2.2
            rw [hyn] at hcq
            clear hy hyn
            by_cases hpos : 0 < x.n - rx
            · have d2 : decide (x.n - rx > 0) = true := decide_eq_true (by omega)
              have d3 : decide (0 < x.n - rx) = true := decide_eq_true (by omega)
              have d4 : decide (rx < x.n) = true := decide_eq_true (by omega)
              have HS2 := Lib.hid (HS.out.2 hpos)
              clear hpos
              go_wp2_with (first | go_skip | ((with_reducible show wpList _ _ _ (_ :: _) _ _); (with_reducible apply wpl_loadCell cell_i64); (· rfl); (· rfl); (· exact hcq); (simp only [Act.put, List.setIfInBounds_toArray, List.set_cons_zero, List.set_cons_succ])) | ((with_reducible show wpList _ _ _ (_ :: _) _ _); (with_reducible apply wpl_loadCH); (· first | exact cell_party | exact cell_i64); (· rfl); (· rfl); (· exact H); (· (repeat (first | (with_reducible exact List.mem_cons_self) | with_reducible apply List.mem_cons_of_mem))); (· (with_reducible first | exact flow_g0 .. | exact flow_g1 .. | exact flow_g2 ..)); (simp only [Act.put, List.setIfInBounds_toArray, List.set_cons_zero, List.set_cons_succ])))
              rw [← HPK.out] at H
              refine (lforg_H (p := p) (q := q) (S := Sk) x.t x.f c (x.n - rx) (by omega) (by omega) hc (by omega) HGK.out (H.top2 (.there .here) (.there .here))).mono ?_
              clear H
              rintro e w5 ⟨rfl, H⟩
              rw [HPK.out] at H
              go_wp2_with (go_skip)
              refine ⟨⟨k + 1, by omega, by go_num, ?_, ?_⟩, ?measure2⟩
              · rw [HT.out, HS2.out, HT0.out]
                congr 1
                omega
              · rw [HT.out]
                exact H.drop (.there (.there .here))
              case measure2 => simp [intOf]; omega
            · have d2 : decide (x.n - rx > 0) = false := decide_eq_false (by omega)
              have d3 : decide (0 < x.n - rx) = false := decide_eq_false (by omega)
              have d4 : decide (rx < x.n) = false := decide_eq_false (by omega)
              have HS2 := Lib.hid (HS.out.1 (by omega))
              clear hpos
              go_wp2_with (first | go_skip | ((with_reducible show wpList _ _ _ (_ :: _) _ _); (with_reducible apply wpl_loadCell cell_i64); (· rfl); (· rfl); (· exact hcq); (simp only [Act.put, List.setIfInBounds_toArray, List.set_cons_zero, List.set_cons_succ])) | ((with_reducible show wpList _ _ _ (_ :: _) _ _); (with_reducible apply wpl_loadCH); (· first | exact cell_party | exact cell_i64); (· rfl); (· rfl); (· exact H); (· (repeat (first | (with_reducible exact List.mem_cons_self) | with_reducible apply List.mem_cons_of_mem))); (· (with_reducible first | exact flow_g0 .. | exact flow_g1 .. | exact flow_g2 ..)); (simp only [Act.put, List.setIfInBounds_toArray, List.set_cons_zero, List.set_cons_succ])))
              refine ⟨⟨k + 1, by omega, by go_num, ?_, ?_⟩, ?measure3⟩
              · rw [HT.out, HS2.out, HTK.out, HT0.out]
              · rw [HT.out, HS2.out]
                exact H.tail
              case measure3 => simp [intOf]; omega
          · have hr0 := ofF_nofind hf
            rw [HRX.out] at hr0
            subst hr0
            have HI := Lib.hid (show idxV Q x.f x.t = -1 by unfold idxV; rw [if_neg hf])
            rw [HI.out]
            clear hf
            simp only [Int.sub_zero] at HS HT ht2
            have hpos : 0 < x.n := HPOS.out
            have d2 : decide (x.n > 0) = true := decide_eq_true (by omega)
            have d3 : decide (0 < x.n) = true := decide_eq_true (by omega)
            have HS2 := Lib.hid (HS.out.2 hpos)
            go_wp2_with (first | go_skip | ((with_reducible show wpList _ _ _ (_ :: _) _ _); (with_reducible apply wpl_loadCH); (· first | exact cell_party | exact cell_i64); (· rfl); (· rfl); (· exact H); (· (repeat (first | (with_reducible exact List.mem_cons_self) | with_reducible apply List.mem_cons_of_mem))); (· (with_reducible first | exact flow_g0 .. | exact flow_g1 .. | exact flow_g2 ..)); (simp only [Act.put, List.setIfInBounds_toArray, List.set_cons_zero, List.set_cons_succ])))
            rw [← HPK.out] at H
            refine (lforg_H (p := p) (q := q) (S := Sk) x.t x.f c x.n (by omega) (by omega) hc (by omega) HGK.out (H.top2 (.there .here) (.there .here))).mono ?_
            clear H
            rintro e w5 ⟨rfl, H⟩
            rw [HPK.out] at H
            go_wp2_with (go_skip)
            refine ⟨⟨k + 1, by omega, by go_num, ?_, ?_⟩, ?measure4⟩
            · rw [HT.out, HS2.out, HT0.out]
              congr 1
              omega
            · rw [HT.out]
              exact H.drop (.there (.there .here))
            case measure4 => simp [intOf]; omega
        · obtain rfl : k = (dbtS S.L c).length := by omega
          rw [← hPk] at H
          have HTL := Lib.hid (List.take_length (l := dbtS S.L c))
          go_wp2_with (go_skip)
          go_ret3
          rw [HTL.out] at H ⊢
          exact ⟨_, k0, 0, _, rfl, HO.out, (H.drop (.there (.there .here))).drop (.there (.there .here))⟩
    · have HO := Lib.hid (show NetOut S c quota 0 0 er S from .inr ⟨hfine, Q, k0, ho, .inl ⟨he, rfl, rfl, rfl⟩⟩)
      have e1 : (er != 0) = true := by simpa using he
      clear ho hbnd hMD he
      go_wp2_with (go_skip)
      go_ret3
      exact ⟨0, 0, er, S, rfl, HO.out, H.tail.tail⟩
end
end Go.Proofs.Ytgobnamhdkbbeaa

/- The chapter's example of rounds: what it comes to. (Plain.) -/
namespace Go.Proofs.Ytgobnamhdkbbeaa
open Go.RowKit
set_option linter.unusedSimpArgs false
set_option linter.unusedVariables false
set_option maxRecDepth 100000
def l8A : List Flw := [⟨1, 2, 5⟩, ⟨2, 3, 3⟩, ⟨3, 1, 4⟩]
def l8B : List Flw := [⟨1, 2, 2⟩, ⟨3, 1, 1⟩]
def l8C : List Flw := [⟨1, 2, 5⟩]
def l8D : List Flw := [⟨1, 1, 5⟩]
theorem mayD_of {F : List Flw} (h : ∀ i, i < F.length → ∃ x, F[i]? = some x ∧ okD x = true ∧ ∀ y, 0 < i → F[i - 1]? = some y → cfF y x < 0) : MayD F := by
  intro i x hi hx
  obtain ⟨y, h1, h2, h3⟩ := h i hi
  rw [hx] at h1
  cases h1
  exact ⟨h2, h3⟩
theorem l8A_may : MayD l8A := mayD_of fun i hi => by
  have : i = 0 ∨ i = 1 ∨ i = 2 := by simp [l8A] at hi; omega
  rcases this with rfl | rfl | rfl
  · exact ⟨_, rfl, by decide, fun y h => by omega⟩
  · exact ⟨_, rfl, by decide, fun y _ h => by cases h; decide⟩
  · exact ⟨_, rfl, by decide, fun y _ h => by cases h; decide⟩
theorem l8C_may : MayD l8C := mayD_of fun i hi => by
  have : i = 0 := by simp [l8C] at hi; omega
  subst this
  exact ⟨_, rfl, by decide, fun y h => by omega⟩
theorem l8D_no : ¬ MayD l8D := fun h => by
  have := (h 0 ⟨1, 1, 5⟩ (by decide) rfl).1
  simp [okD] at this
theorem r8a : roundOf (edD l8A [5, 3, 4]) = [1, 2, 3] := by decide +kernel
theorem r8b : roundOf (edD l8A [2, 0, 1]) = [] := by decide +kernel
theorem r8c : roundOf (edD l8C [5]) = [] := by decide +kernel
theorem l8A_steps : StepsAre l8A [5, 3, 4] [1, 2, 3] [(0, false), (1, false), (2, false)] := ⟨rfl, fun k hk => by
  have : k = 0 ∨ k = 1 ∨ k = 2 := by simp at hk; omega
  rcases this with rfl | rfl | rfl
  · exact ⟨0, false, rfl, ⟨1, 2, 5⟩, 5, rfl, rfl, .inl ⟨rfl, rfl, rfl, by decide⟩⟩
  · exact ⟨1, false, rfl, ⟨2, 3, 3⟩, 3, rfl, rfl, .inl ⟨rfl, rfl, rfl, by decide⟩⟩
  · exact ⟨2, false, rfl, ⟨3, 1, 4⟩, 4, rfl, rfl, .inl ⟨rfl, rfl, rfl, by decide⟩⟩⟩
theorem l8A_one : RdTr l8A 1 [2, 0, 1] := .step (N := [5, 3, 4]) .nil (by rw [r8a]; simp) ⟨_, by rw [r8a]; exact l8A_steps, by decide⟩
theorem l8_1 : LeastOut 13 l8A 9 l8B 1 0 := .inr ⟨l8A_may, by decide, 1, _, l8A_one, by decide, .inl ⟨r8b, rfl, rfl, rfl⟩⟩
theorem l8_2 : LeastOut 13 l8A 0 [] 0 13 := .inr ⟨l8A_may, by decide, 0, _, .nil, by decide, .inr ⟨by rw [show l8A.map Flw.n = [5, 3, 4] from rfl, r8a]; simp, rfl, rfl, rfl, rfl⟩⟩
theorem l8_3 : LeastOut 13 l8C 0 l8C 0 0 := .inr ⟨l8C_may, by decide, 0, _, .nil, by decide, .inl ⟨r8c, rfl, rfl, rfl⟩⟩
theorem l8_4 : LeastOut 13 l8D 9 [] 0 1 := .inl ⟨.inl l8D_no, rfl, rfl, rfl⟩
def x8A : Array Value := (flwL l8A).toArray
def x8B : Array Value := (flwL l8B).toArray
def x8D : Array Value := (flwL l8D).toArray
theorem l8_ok {F : List Flw} (h : ∀ x ∈ F, x.f ≤ 255 ∧ x.t ≤ 255 ∧ 0 ≤ x.n ∧ x.n ≤ 1000) : ∀ x ∈ F, FlwOk x := fun x hx => by have := h x hx; exact ⟨by omega, by omega, by omega, by omega⟩
end Go.Proofs.Ytgobnamhdkbbeaa

/- The chapter's example of nettings: what it comes to. (Plain.) -/
namespace Go.Proofs.Ytgobnamhdkbbeaa
open Go.RowKit
set_option linter.unusedSimpArgs false
set_option linter.unusedVariables false
set_option maxRecDepth 100000
abbrev n13S : Lgr := ⟨[1, 2, 3], [⟨1, 3, 6, 9, 4⟩, ⟨2, 1, 6, 9, 5⟩, ⟨3, 2, 6, 9, 3⟩]⟩
abbrev n13T : Lgr := ⟨[1, 2, 3], [⟨1, 3, 6, 9, 1⟩, ⟨2, 1, 6, 9, 2⟩, ⟨3, 2, 6, 9, 0⟩]⟩
abbrev n13a : Lgr := openS (openS (openS Lgr.new ((1 : Nat) : Int)) ((2 : Nat) : Int)) ((3 : Nat) : Int)
abbrev n13b : Lgr := trustS n13a ((2 : Nat) : Int) ((1 : Nat) : Int) ((6 : Nat) : Int) 9
abbrev n13c : Lgr := trustS n13b ((3 : Nat) : Int) ((2 : Nat) : Int) ((6 : Nat) : Int) 9
abbrev n13d : Lgr := trustS n13c ((1 : Nat) : Int) ((3 : Nat) : Int) ((6 : Nat) : Int) 9
abbrev n13e : Lgr := pushS n13d ((1 : Nat) : Int) ((2 : Nat) : Int) ((6 : Nat) : Int) 5
abbrev n13f : Lgr := pushS n13e ((2 : Nat) : Int) ((3 : Nat) : Int) ((6 : Nat) : Int) 3
abbrev n13g : Lgr := pushS n13f ((3 : Nat) : Int) ((1 : Nat) : Int) ((6 : Nat) : Int) 4
theorem n13_is : n13g = n13S := by kernel_rfl
theorem n13a_good : n13a.Good := ((Lgr.new_good.open _).open _).open _
theorem n13b_good : n13b.Good := n13a_good.trust _ _ _ _
theorem n13c_good : n13c.Good := n13b_good.trust _ _ _ _
theorem n13d_good : n13d.Good := n13c_good.trust _ _ _ _
theorem n13e_good : n13e.Good := n13d_good.push _ _ _ _
theorem n13f_good : n13f.Good := n13e_good.push _ _ _ _
theorem n13g_good : n13g.Good := n13f_good.push _ _ _ _
theorem n13S_good : n13S.Good := by rw [← n13_is]; exact n13g_good
theorem n13S_dbt : dbtS n13S.L 6 = l8A := by unfold dbtS; kernel_rfl
theorem n13T_dbt : dbtS n13T.L 6 = l8B := by unfold dbtS; kernel_rfl
theorem n13_go : forgL n13S 6 l8B l8A = n13T := by kernel_rfl
theorem n13_go2 : forgL n13T 6 l8B l8B = n13T := by kernel_rfl
theorem n13T_good : n13T.Good := by rw [← n13_go]; exact forgL_good n13S_good _ _ _
theorem r13b : roundOf (edD l8B [2, 1]) = [] := by decide +kernel
theorem l8B_may : MayD l8B := mayD_of fun i hi => by
  have : i = 0 ∨ i = 1 := by simp [l8B] at hi; omega
  rcases this with rfl | rfl
  · exact ⟨_, rfl, by decide, fun y h => by omega⟩
  · exact ⟨_, rfl, by decide, fun y _ h => by cases h; decide⟩
theorem l13_1 : LeastOut 13 l8A 1 l8B 1 0 := .inr ⟨l8A_may, by decide, 1, _, l8A_one, by decide, .inl ⟨r8b, rfl, rfl, rfl⟩⟩
theorem l13_2 : LeastOut 13 l8B 0 l8B 0 0 := .inr ⟨l8B_may, by decide, 0, _, .nil, by decide, .inl ⟨r13b, rfl, rfl, rfl⟩⟩
theorem n13_0 : NetOut n13S 6 0 0 0 13 n13S := .inr ⟨by omega, [], 0, by rw [n13S_dbt]; exact l8_2, .inl ⟨by omega, rfl, rfl, rfl⟩⟩
theorem n13_1 : NetOut n13S 6 1 9 1 0 n13T := .inr ⟨by omega, l8B, 1, by rw [n13S_dbt]; exact l13_1, .inr ⟨rfl, rfl, by rw [n13S_dbt, n13_go], by kernel_rfl⟩⟩
theorem n13_2 : NetOut n13T 6 0 0 0 0 n13T := .inr ⟨by omega, l8B, 0, by rw [n13T_dbt]; exact l13_2, .inr ⟨rfl, rfl, by rw [n13T_dbt, n13_go2], by kernel_rfl⟩⟩
end Go.Proofs.Ytgobnamhdkbbeaa

/- A slice literal of whatever elements. -/
namespace Go.Proofs.Ytgobnamhdkbbeaa
open Go.RowKit
set_option linter.unusedSimpArgs false
set_option linter.unusedVariables false
section
variable {W w : World} {l : List Thing}
theorem wpl_bsAny {dst : Option Tmp} {ty : TypeId} {pos : String} {after : Array Edge} {guard : Option (Nat × Bool)} {t e n size bytes : Nat} {z : Value} {ops : Array Oper} {rest : List Oper} {a : Act} {Q : Exit → Act → World → Prop} (T : SlTy Try.prog t e size bytes z) (xs : List (Nat × Operand)) (vs : List (Nat × Value)) (c : Array Value) (hw : Region.wanted ⟨dst, .buildSlice t n xs.toArray, ty, pos, after, guard⟩ (yielded ops a.tmps) = true)
    (hx : xs.map (fun (i, x) => (i, a.eval x)) = vs) (h0 : 0 < n) (h1 : n * size ≤ 65536)
    (hf : Instr.fill (fun i => some (i * size, size)) (Array.map (fun x => z.cells[x % z.cells.size]!) (Array.range (n * size))) vs = some c)
    (H : Heap W l w) (h : ∀ p w', Heap W (Cel p c e :: l) w' → wpList Try.prog ops Q rest (a.put dst (.slice (some ⟨p, 0, none⟩) n n)) w') : wpList Try.prog ops Q (⟨dst, .buildSlice t n xs.toArray, ty, pos, after, guard⟩ :: rest) a w := by
  obtain ⟨i, hi, hz, hsi, hbi⟩ := T.inf
  have h2 := T.pos
  have h3 : n ≤ n * size := Nat.le_mul_of_pos_right _ h2
  have r1 : (sizeOf e).run Try.prog w = .ok size w := by simp [sizeOf, typeInfo, hi, hsi, go_sem]
  have r2 : (zeroValue e).run Try.prog w = .ok z w := by simp [zeroValue, typeInfo, hi, hz, go_sem]
  refine BigFrame.wpList_want hw fun K hK => ?_
  have hrun : (Instr.buildSlice t n (xs.toArray.map fun (i, x) => (i, a.eval x))).run Try.prog w = .ok (.slice (some ⟨w.heap.size, 0, none⟩) n n) (w.alloc (.cells c e)) := by
    unfold Instr.buildSlice
    rw [Sem.run_bind, run_underlying T.und]
    simp only [Result.andThen_ok]
    rw [Sem.run_bind, r1]
    simp only [Result.andThen_ok]
    rw [if_neg (by omega), if_neg (by omega)]
    simp only [Sem.run_bind, r2, Result.andThen_ok, Sem.run_pure]
    have hx2 : (xs.toArray.map (fun (i, x) => (i, a.eval x))).toList = vs := by rw [← hx]; simp
    rw [hx2, hf]
    simp [newRow, go_sem]
  unfold Oper.wp execOp
  simp only [Sem.run_bind, hrun, Result.andThen_ok, Sem.run_pure]
  exact hK _ _ (h _ _ (H.alloc _ _))
end
end Go.Proofs.Ytgobnamhdkbbeaa

/- countinghouselaw01's SameFlows. -/
namespace Go.Proofs.Ytgobnamhdkbbeaa
open Go.RowKit
set_option linter.unusedSimpArgs false
set_option linter.unusedVariables false
instance : DecidableEq Flw := fun x y => if h : x.f = y.f ∧ x.t = y.t ∧ x.n = y.n then .isTrue (by cases x; cases y; simp at h; obtain ⟨rfl, rfl, rfl⟩ := h; rfl) else .isFalse (fun e => by subst e; exact h ⟨rfl, rfl, rfl⟩)
def flowSame (a b n x y z : Int) : Bool := decide (a = x ∧ b = y ∧ n = z)
theorem eqF_run (d : Nat) (a b n x y z : Int) (w : World) : (Op.equalIn (d + 2) 32 (.agg (flow a b n)) (.agg (flow x y z))).run Try.prog w = .ok (flowSame a b n x y z) w := by
  unfold flow
  rw [run_equalIn_struct w (d + 1) 32 _ _ (by kernel_rfl) (by kernel_rfl)]
  have hu := Try.underlying30
  have hv := Try.underlying2
  by_cases h1 : a = x <;> by_cases h2 : b = y <;> by_cases h3 : n = z
  all_goals simp [flowSame, go_sem, Try.underlying32, hu, hv, h1, h2, h3]
theorem neqF_run (a b n x y z : Int) (w : World) : (binOp .neq 32 (.agg (flow a b n)) (.agg (flow x y z))).run Try.prog w = .ok (.bool (!flowSame a b n x y z)) w := by
  have h : (Op.equal 32 (.agg (flow a b n)) (.agg (flow x y z))).run Try.prog w = .ok (flowSame a b n x y z) w := eqF_run 9998 a b n x y z w
  simp only [binOp]
  simp [Sem.run_bind, h]
section
variable {W w : World} {l : List Thing} {ops : Array Oper} {rest : List Oper} {a : Act}
theorem wpQ_neqF {dst : Option Tmp} {ty : TypeId} {pos : String} {after : Array Edge} {guard : Option (Nat × Bool)} {p q : Operand} {a0 b0 n0 x y n : Int} {K : Act → Prop} {H : Heap W l w} (hw : Region.wanted ⟨dst, .binOp .neq 32 p q 32, ty, pos, after, guard⟩ (yielded ops a.tmps) = true) (hp : a.eval p = .agg (flow a0 b0 n0)) (hq : a.eval q = .agg (flow x y n))
    (h : wpQuiet Try.prog ops (fun w' => ∃ d, w' = H.any d) K rest (a.put dst (.bool (!flowSame a0 b0 n0 x y n)))) : wpQuiet Try.prog ops (fun w' => ∃ d, w' = H.any d) K (⟨dst, .binOp .neq 32 p q 32, ty, pos, after, guard⟩ :: rest) a := by
  have hg : (Try.prog.eqGuardType Try.prog.depth 32) = false := by kernel_rfl
  refine BigFrame.wpQuiet_want hw fun K hK => ⟨_, ?_, hK _ h⟩
  rintro _ ⟨d, rfl⟩
  unfold Oper.quietAt execOp
  simp only [hp, hq, Sem.run_bind, neqF_run]
  simp [eqGuard, hg, neqF_run]
  exact ⟨rfl, rfl⟩
end
structure SameFL (W : World) (l : List Thing) (A B : List Flw) (n : Nat) (vi : Value) (wr : World) : Prop where
  out : ∃ k : Nat, k ≤ n ∧ vi = .int .i64 (k : Int) ∧ A.take k = B.take k ∧ Heap W l wr
section
variable {W w : World} {l : List Thing}
set_option maxRecDepth 100000
set_option maxHeartbeats 2000000
theorem sameF_no {A B : List Flw} (a b : Option Addr) (n m c d : Nat) (hA : A.length = n) (hB : B.length = m) (hn : n ≤ 1000000) (hm : m ≤ 1000000) (hne : n ≠ m) : AnsH W l 88 #[.slice a n c, .slice b m d] (.bool false) := by
  intro w H
  have e1 : ((n : Int) != (m : Int)) = true := by simp; omega
  have e2 : ((n : Int) == (m : Int)) = false := by simp; omega
  go_enter Try.func88, Try.ntmps88
  go_wp2_with (go_skip)
  go_ret
  exact ⟨rfl, H⟩
theorem sameF_P {A B : List Flw} (a b : Option Addr) (n c d : Nat) (hA : A.length = n) (hB : B.length = n) (hn : n ≤ 1000000) (RA : ∀ w', Heap W l w' → Rd w' a (flwL A)) (RB : ∀ w', Heap W l w' → Rd w' b (flwL B)) :
    AnsH W l 88 #[.slice a n c, .slice b n d] (.bool (decide (A = B))) := by
  intro w H
  have HA := Lib.hid hA
  have HB := Lib.hid hB
  have HRA := Lib.hid RA
  have HRB := Lib.hid RB
  clear hA hB RA RB
  generalize hres : decide (A = B) = res
  have HRES := Lib.hid hres
  clear hres
  go_enter Try.func88, Try.ntmps88
  go_wp2_with (go_skip)
  have H0 := H
  clear H
  go_loopw [5] (fun vi wr => SameFL W l A B n vi wr) (fun vi _ => n - (intOf vi).toNat)
  case atStart => exact ⟨0, Nat.zero_le _, rfl, rfl, H0⟩
  case round =>
    obtain ⟨k, hk, rfl, ht, H'⟩ := hrel.out
    clear H0 hrel
    have H := H'
    clear H'
    by_cases hlt : k < n
    · have hkA : k < A.length := by rw [HA.out]; exact hlt
      have hkB : k < B.length := by rw [HB.out]; exact hlt
      have hx : A[k]? = some A[k] := List.getElem?_eq_getElem hkA
      have hy : B[k]? = some B[k] := List.getElem?_eq_getElem hkB
      have ra := flwL_at A k hkA
      have rb := flwL_at B k hkB
      have hlA : k * 3 + 3 ≤ (flwL A).length := by rw [flwL_len]; omega
      have hlB : k * 3 + 3 ≤ (flwL B).length := by rw [flwL_len]; omega
      have HT := Lib.hid ht
      clear ht
      generalize A[k] = x at *
      generalize B[k] = y at *
      obtain ⟨ba, oa, rfl, _⟩ := (HRA.out _ H).lt (by omega)
      obtain ⟨bb, ob, rfl, _⟩ := (HRB.out _ H).lt (by omega)
      obtain ⟨xa, xb, xn⟩ := x
      obtain ⟨ya, yb, yn⟩ := y
      have hrA : (((flwL A).drop (k * 3)).take 3).toArray = flow (xa : Int) (xb : Int) xn := by rw [ra]; rfl
      have hrB : (((flwL B).drop (k * 3)).take 3).toArray = flow (ya : Int) (yb : Int) yn := by rw [rb]; rfl
      clear ra rb
      cases he : flowSame (xa : Int) (xb : Int) xn (ya : Int) (yb : Int) yn
      · have HN := Lib.hid (show A ≠ B from fun e => by
          subst e
          rw [hx] at hy
          obtain ⟨rfl, rfl, rfl⟩ := by simpa using hy
          simp [flowSame] at he)
        clear hx hy
        go_wp2_with (go_skip)
        refine wp_region_H H (by kernel_rfl) (by kernel_rfl) ?_
        repeat (first | go_big_quiet_skip | (first | ((with_reducible apply wpQ_loadRdR row_flow); (· rfl); (· rfl); (· exact HRA.out); (· rfl); (· exact hlA); (· decide); (· exact hrA); (simp only [Act.put, List.setIfInBounds_toArray, List.set_cons_zero, List.set_cons_succ])) | ((with_reducible apply wpQ_loadRdR row_flow); (· rfl); (· rfl); (· exact HRB.out); (· rfl); (· exact hlB); (· decide); (· exact hrB); (simp only [Act.put, List.setIfInBounds_toArray, List.set_cons_zero, List.set_cons_succ])) | ((with_reducible apply wpQ_neqF); (· rfl); (· rfl); (· rfl); (rw [he]); (simp only [Act.put, List.setIfInBounds_toArray, List.set_cons_zero, List.set_cons_succ]))) | go_big_quiet_step (fail))
        refine wpQuiet_nil ?_
        clear H
        intro _ H
        go_wp2_with (go_skip)
        go_ret
        rw [← HRES.out, decide_eq_false HN.out]
        exact ⟨rfl, H⟩
      · have HS := Lib.hid (show A.take (k + 1) = B.take (k + 1) by
          rw [List.take_add_one, List.take_add_one, hx, hy, HT.out]
          have h2 := he
          simp [flowSame] at h2
          obtain ⟨h3, h4, h5⟩ := h2
          have h3' : xa = ya := by omega
          have h4' : xb = yb := by omega
          subst h3' h4' h5
          rfl)
        clear hx hy
        go_wp2_with (go_skip)
        refine wp_region_H H (by kernel_rfl) (by kernel_rfl) ?_
        repeat (first | go_big_quiet_skip | (first | ((with_reducible apply wpQ_loadRdR row_flow); (· rfl); (· rfl); (· exact HRA.out); (· rfl); (· exact hlA); (· decide); (· exact hrA); (simp only [Act.put, List.setIfInBounds_toArray, List.set_cons_zero, List.set_cons_succ])) | ((with_reducible apply wpQ_loadRdR row_flow); (· rfl); (· rfl); (· exact HRB.out); (· rfl); (· exact hlB); (· decide); (· exact hrB); (simp only [Act.put, List.setIfInBounds_toArray, List.set_cons_zero, List.set_cons_succ])) | ((with_reducible apply wpQ_neqF); (· rfl); (· rfl); (· rfl); (rw [he]); (simp only [Act.put, List.setIfInBounds_toArray, List.set_cons_zero, List.set_cons_succ]))) | go_big_quiet_step (fail))
        refine wpQuiet_nil ?_
        clear H
        intro _ H
        go_wp2_with (go_skip)
        refine ⟨⟨k + 1, by omega, by go_num, HS.out, H⟩, ?measure⟩
        case measure => simp [intOf]; omega
    · obtain rfl : k = n := by omega
      have HE := Lib.hid (show A = B by
        have h := ht
        rw [List.take_of_length_le (by rw [HA.out]; exact Nat.le_refl _), List.take_of_length_le (by rw [HB.out]; exact Nat.le_refl _)] at h
        exact h)
      clear ht
      go_wp2_with (go_skip)
      go_ret
      rw [← HRES.out, decide_eq_true HE.out]
      exact ⟨rfl, H⟩
theorem sameFlows_P {A B : List Flw} (a b : Option Addr) (n m c d : Nat) (hA : A.length = n) (hB : B.length = m) (hn : n ≤ 1000000) (hm : m ≤ 1000000) (RA : ∀ w', Heap W l w' → Rd w' a (flwL A)) (RB : ∀ w', Heap W l w' → Rd w' b (flwL B)) :
    AnsH W l 48 #[.slice a n c, .slice b m d] (.bool (decide (A = B))) := by
  intro w H
  have S : AnsH W l 88 #[.slice a n c, .slice b m d] (.bool (decide (A = B))) := by
    by_cases e : n = m
    · subst e
      exact sameF_P a b n c d hA hB hn RA RB
    · rw [decide_eq_false (fun h => e (by rw [← hA, ← hB, h]))]
      exact sameF_no a b n m c d hA hB hn hm e
  clear RA RB hA hB
  generalize decide (A = B) = res at *
  go_enter Try.func48, Try.ntmps48
  go_wp2_with (first | go_skip | ((with_reducible refine AnsH.call (by assumption) H ?_); clear H; intro _ H))
  go_ret
  exact ⟨rfl, H⟩
end
end Go.Proofs.Ytgobnamhdkbbeaa

/- The chapter's example of nettings. -/
namespace Go.Proofs.Ytgobnamhdkbbeaa
open Go.RowKit
set_option linter.unusedSimpArgs false
set_option linter.unusedVariables false
set_option maxRecDepth 100000
section
variable {W w : World} {l : List Thing}
set_option maxHeartbeats 8000000
theorem lives13_H (H : Heap W l w) : Calls Try.prog 40 #[] w fun e w' => e = .returned (.bool true) ∧ Heap W l w' := by
  go_enter Try.func40, Try.ntmps40
  go_wp2_with (go_skip)
  refine (lnew_H H).mono ?_
  clear H
  rintro e w1 ⟨p, q, rfl, H⟩
  go_wp2_with (go_skip)
  refine (lopen2_H (p := p) (q := q) (S := Lgr.new) 1 (by omega) H).mono ?_
  clear H
  rintro e w2 ⟨rfl, H⟩
  go_wp2_with (go_skip)
  refine (lopen2_H (p := p) (q := q) (S := openS Lgr.new ((1 : Nat) : Int)) 2 (by omega) H).mono ?_
  clear H
  rintro e w3 ⟨rfl, H⟩
  go_wp2_with (go_skip)
  refine (lopen2_H (p := p) (q := q) (S := openS (openS Lgr.new ((1 : Nat) : Int)) ((2 : Nat) : Int)) 3 (by omega) H).mono ?_
  clear H
  rintro e w4 ⟨rfl, H⟩
  replace H : Heap W (LdC p n13a.P (some q) :: LdM q n13a.L :: l) w4 := H
  go_wp2_with (go_skip)
  refine (ltrust2_H (p := p) (q := q) (S := n13a) 2 1 6 9 (by omega) (by omega) (by omega) n13a_good H).mono ?_
  clear H
  rintro e w5 ⟨rfl, H⟩
  go_wp2_with (go_skip)
  refine (ltrust2_H (p := p) (q := q) (S := n13b) 3 2 6 9 (by omega) (by omega) (by omega) n13b_good H).mono ?_
  clear H
  rintro e w6 ⟨rfl, H⟩
  go_wp2_with (go_skip)
  refine (ltrust2_H (p := p) (q := q) (S := n13c) 1 3 6 9 (by omega) (by omega) (by omega) n13c_good H).mono ?_
  clear H
  rintro e w7 ⟨rfl, H⟩
  go_wp2_with (go_skip)
  refine (lpush2_H (p := p) (q := q) (S := n13d) 1 2 6 5 (by omega) (by omega) (by omega) (by omega) n13d_good H).mono ?_
  clear H
  rintro e w8 ⟨rfl, H⟩
  go_wp2_with (go_skip)
  refine (lpush2_H (p := p) (q := q) (S := n13e) 2 3 6 3 (by omega) (by omega) (by omega) (by omega) n13e_good H).mono ?_
  clear H
  rintro e w9 ⟨rfl, H⟩
  go_wp2_with (go_skip)
  refine (lpush2_H (p := p) (q := q) (S := n13f) 3 1 6 4 (by omega) (by omega) (by omega) (by omega) n13f_good H).mono ?_
  clear H
  rintro e w10 ⟨rfl, H⟩
  replace H : Heap W (LdC p n13g.P (some q) :: LdM q n13g.L :: l) w10 := H
  rw [n13_is] at H
  go_wp2_with (go_skip)
  refine (debts13_H (p := p) (q := q) (S := n13S) 6 (by omega) n13S_good .here .here H).mono ?_
  clear H
  rintro e w11 ⟨v1, rfl, H⟩
  rw [n13S_dbt] at H
  obtain ⟨a1, c1, rfl, _, hc1⟩ := OwnT.form0 (H.ok _ List.mem_cons_self)
  go_wp2_with (go_skip)
  refine (net13_H (p := p) (q := q) (S := n13S) 6 0 (by omega) (by omega) n13S_good (H.top2 (.there .here) (.there .here))).mono ?_
  clear H
  rintro e w12 ⟨k1, k2, k3, S', rfl, ho, H⟩
  obtain ⟨rfl, rfl, rfl, rfl⟩ := ho.det n13_0
  clear ho
  go_wp2_with (go_skip)
  refine (net13_H (p := p) (q := q) (S := n13S) 6 1 (by omega) (by omega) n13S_good H).mono ?_
  clear H
  rintro e w13 ⟨k1, k2, k3, S', rfl, ho, H⟩
  obtain ⟨rfl, rfl, rfl, rfl⟩ := ho.det n13_1
  clear ho
  go_wp2_with (go_skip)
  refine (debts13_H (p := p) (q := q) (S := n13T) 6 (by omega) n13T_good .here .here H).mono ?_
  clear H
  rintro e w14 ⟨v2, rfl, H⟩
  rw [n13T_dbt] at H
  obtain ⟨a2, c2, rfl, _, hc2⟩ := OwnT.form0 (H.ok _ List.mem_cons_self)
  go_wp2_with (go_skip)
  refine (net13_H (p := p) (q := q) (S := n13T) 6 0 (by omega) (by omega) n13T_good (H.top2 (.there .here) (.there .here))).mono ?_
  clear H
  rintro e w15 ⟨k1, k2, k3, S', rfl, ho, H⟩
  obtain ⟨rfl, rfl, rfl, rfl⟩ := ho.det n13_2
  clear ho
  go_wp2_with (first
    | go_skip
    | ((with_reducible show wpList _ _ _ (_ :: _) _ _); (with_reducible apply wpl_bsAny (n := 3) slF _ _ x8A); (· rfl); (· rfl); (· decide); (· decide); (· kernel_rfl); (· exact H); (clear H; intro pA _ H); (simp only [Act.put, List.setIfInBounds_toArray, List.set_cons_zero, List.set_cons_succ])))
  have S1 := sameFlows_P (W := W) (l := Cel pA x8A 32 :: LdC p n13T.P (some q) :: LdM q n13T.L :: FlT (.slice a2 l8B.length c2) l8B.length l8B :: FlT (.slice a1 l8A.length c1) l8A.length l8A :: l) (A := l8A) (B := l8A) a1 (some ⟨pA, 0, none⟩) 3 3 c1 3 rfl rfl (by omega) (by omega) (fun w' h => h.ownRd (by (repeat (first | (with_reducible exact List.mem_cons_self) | with_reducible apply List.mem_cons_of_mem)))) (fun w' h => h.celRd (c := x8A) List.mem_cons_self)
  rw [decide_eq_true rfl] at S1
  refine (S1 _ H).mono ?_
  clear H S1
  rintro _ _ ⟨rfl, H⟩
  go_wp2_with (first
    | go_skip
    | ((with_reducible show wpList _ _ _ (_ :: _) _ _); (with_reducible apply wpl_bsAny (n := 2) slF _ _ x8B); (· rfl); (· rfl); (· decide); (· decide); (· kernel_rfl); (· exact H); (clear H; intro pB _ H); (simp only [Act.put, List.setIfInBounds_toArray, List.set_cons_zero, List.set_cons_succ])))
  have S1 := sameFlows_P (W := W) (l := Cel pB x8B 32 :: Cel pA x8A 32 :: LdC p n13T.P (some q) :: LdM q n13T.L :: FlT (.slice a2 l8B.length c2) l8B.length l8B :: FlT (.slice a1 l8A.length c1) l8A.length l8A :: l) (A := l8B) (B := l8B) a2 (some ⟨pB, 0, none⟩) 2 2 c2 2 rfl rfl (by omega) (by omega) (fun w' h => h.ownRd (by (repeat (first | (with_reducible exact List.mem_cons_self) | with_reducible apply List.mem_cons_of_mem)))) (fun w' h => h.celRd (c := x8B) List.mem_cons_self)
  rw [decide_eq_true rfl] at S1
  refine (S1 _ H).mono ?_
  clear H S1
  rintro _ _ ⟨rfl, H⟩
  go_wp2_with (go_skip)
  go_ret
  exact ⟨rfl, H.tail.tail.tail.tail.tail.tail⟩
end
end Go.Proofs.Ytgobnamhdkbbeaa

/- How an argument's reading gives what a walk asks of it. -/
namespace Go.Proofs.Ytgobnamhdkbbeaa
open Go.ChangeShapes Go.WideShapes Go.ChangeAt Go.RowKit

theorem ints_bytes : ∀ (zs : List Int), (∀ n ∈ zs, (Lit.int .u8 n).wf = true) → ∃ bs : List (BitVec 8), zs = bs.map I8
  | [], _ => ⟨[], rfl⟩
  | z :: zs, h => by
    obtain ⟨bs, rfl⟩ := ints_bytes zs (fun n hn => h n (List.mem_cons_of_mem _ hn))
    have hz := h z (List.mem_cons_self ..)
    have hb := bounds_u8 hz
    obtain ⟨b, rfl⟩ := exists_I8 z (by omega) (by omega)
    exact ⟨b :: bs, rfl⟩

theorem Rd.ofCells {w : World} {x : Addr} {xs : List Value} (h : ∀ i, (hi : i < xs.length) → w.cell? (x.add i) = some xs[i]) : Rd w (some x) xs := by
  obtain ⟨b, o, sp⟩ := x
  intro i hi
  have h0 := h 0 (by omega)
  have hsp : sp = none := by
    rcases sp with _ | s
    · rfl
    · simp only [Addr.add, if_true, World.cell?] at h0
      split at h0 <;> simp at h0
  subst hsp
  exact ⟨b, o, rfl, by rw [← addr_add]; exact h i hi⟩

/-- A slice of bytes that came in. -/
structure IsBytes (w : World) (a : Option Addr) (n c : Nat) (zs : List (BitVec 8)) : Prop where
  len : n = zs.length
  cap : n ≤ c
  max : c ≤ maxLen
  rd : Rd w a (zs.map B8)

theorem open_bytes {H : Type} {enc : TypeId × Value → H} {P : Program} {W : World} {held : Bool} {t e : TypeId} {v : Value} {d : DataW H} {p : List MemPlace} {r : Reach} {base : Nat}
    (ht : P.underlying t = some (.slice e)) (he : P.underlying e = some (.int .u8)) (hc : P.cellsOf e = 1) (hv : Value.okWide P W r base t v)
    (h : DataW.Trod enc P W 0 (fun _ => true) held t v d p) : ∃ a n c zs, v = .slice a n c ∧ IsBytes W a n c zs := by
  obtain ⟨a, n, c, rfl⟩ := okWide_slice ht hv
  obtain ⟨fuel, hf⟩ := h
  rcases open_ints ht he hc hf with ⟨hcs, _⟩ | ⟨x, l, c', zs, hcs, _, hl, hm, hz, _, hcell, hwz⟩
  · simp [Value.cells] at hcs
    obtain ⟨rfl, rfl, rfl⟩ := hcs
    exact ⟨none, 0, 0, [], rfl, rfl, Nat.le_refl _, by unfold maxLen; omega, Rd.nil _ _⟩
  · simp [Value.cells] at hcs
    obtain ⟨rfl, rfl, rfl⟩ := hcs
    obtain ⟨bs, rfl⟩ := ints_bytes zs hwz
    rw [if_pos rfl] at hz
    refine ⟨_, n, c, bs.take n, rfl, ?_, hl, hm, Rd.ofCells fun i hi => ?_⟩
    · simp at hz ⊢; omega
    · simp at hi hz
      rw [hcell i (by simp; omega)]
      simp [List.getD_eq_getElem?_getD, B8, show i < bs.length by omega]
end Go.Proofs.Ytgobnamhdkbbeaa

/- Arguments of whatever type, opened: a value's cells are those of its parts, one behind the other; a slice's elements likewise, however deep. -/
namespace Go.Proofs.Ytgobnamhdkbbeaa
open Go.ChangeShapes Go.WideShapes Go.ChangeAt Go.RowKit
set_option linter.unusedVariables false
set_option linter.unusedSimpArgs false

/-- The parts of fields, one behind the other; none, if they do not lie so. -/
def flatFs (P : Program) (g : TypeId → Option (List TypeId)) : Nat → List Field → Option (List TypeId)
  | _, [] => some []
  | o, f :: fs => (g f.type).bind fun ts => if f.offset = o ∧ ts.length = P.cellsOf f.type then (flatFs P g (o + ts.length) fs).map (ts ++ ·) else none
def repFlat (ts : List TypeId) : Nat → List TypeId
  | 0 => []
  | n + 1 => ts ++ repFlat ts n
/-- The one-cell parts of a type. -/
def flat (P : Program) : Nat → TypeId → Option (List TypeId)
  | 0, _ => none
  | d + 1, t => match P.underlying t with
    | some (.int _) => some [t]
    | some .bool => some [t]
    | some (.slice _) => some [t]
    | some (.struct fs) => (flatFs P (flat P d) 0 fs.toList).bind fun ts => if ts.length = P.cellsOf t then some ts else none
    | some (.array n e) => (flat P d e).bind fun ts => if ts.length = P.cellsOf e ∧ n * ts.length = P.cellsOf t then some (repFlat ts n) else none
    | _ => none
section
variable {H : Type} {enc : TypeId × Value → H} {P : Program} {w : World} {base : Nat} {spare : Nat → Bool} {held : Bool}
/-- What a cell of such a part holds. -/
def PartOk (enc : TypeId × Value → H) (P : Program) (w : World) (base : Nat) (spare : Nat → Bool) (held : Bool) (u : TypeId) (v : Value) : Prop := ∃ m y, DataW.trod enc P w base spare held m u [v] = some y
theorem flatFs_spec {g : TypeId → Option (List TypeId)}
    (hg : ∀ (t : TypeId) (ts : List TypeId), g t = some ts → ∀ (fuel : Nat) (cs : List Value) (x : DataW H × List MemPlace), DataW.trod enc P w base spare held fuel t cs = some x → cs.length = ts.length ∧ ∀ (i : Nat) (u : TypeId), ts[i]? = some u → ∃ v, cs[i]? = some v ∧ PartOk enc P w base spare held u v) (cs : List Value) :
    ∀ (fs : List Field) (o : Nat) (ts : List TypeId), flatFs P g o fs = some ts → (∀ f ∈ fs, ∃ n y, DataW.trod enc P w base spare held n f.type ((cs.drop f.offset).take (P.cellsOf f.type)) = some y) →
      ∀ (i : Nat) (u : TypeId), ts[i]? = some u → ∃ v, cs[o + i]? = some v ∧ PartOk enc P w base spare held u v := by
  intro fs
  induction fs with
  | nil =>
    intro o ts h _ i u hu
    simp [flatFs] at h
    subst h
    simp at hu
  | cons f fs ih =>
    intro o ts h hall i u hu
    simp only [flatFs, Option.bind_eq_some_iff] at h
    obtain ⟨t1, h1, h2⟩ := h
    split at h2
    · rename_i hc
      obtain ⟨t2, h3, rfl⟩ := Option.map_eq_some_iff.1 h2
      obtain ⟨n, y, hy⟩ := hall f (List.mem_cons_self ..)
      obtain ⟨hl, hp⟩ := hg _ _ h1 _ _ _ hy
      by_cases hi : i < t1.length
      · rw [List.getElem?_append_left hi] at hu
        obtain ⟨v, hv, hk⟩ := hp i u hu
        refine ⟨v, ?_, hk⟩
        rw [hc.1, List.getElem?_take] at hv
        split at hv
        · rw [List.getElem?_drop] at hv; exact hv
        · cases hv
      · rw [List.getElem?_append_right (by omega)] at hu
        obtain ⟨v, hv, hk⟩ := ih _ _ h3 (fun f hf => hall f (List.mem_cons_of_mem _ hf)) _ _ hu
        exact ⟨v, by rw [← hv]; congr 1; omega, hk⟩
    · cases h2
theorem repFlat_len (ts : List TypeId) : ∀ n, (repFlat ts n).length = n * ts.length
  | 0 => by simp [repFlat]
  | n + 1 => by simp [repFlat, repFlat_len ts n, Nat.add_mul]; omega
theorem repFlat_spec {cs : List Value} {ts : List TypeId} {L : Nat} (hL : ts.length = L) (e : TypeId) :
    ∀ (n k : Nat), (∀ (i : Nat), i < n → ∀ (j : Nat) (u : TypeId), ts[j]? = some u → ∃ v, ((cs.drop ((k + i) * L)).take L)[j]? = some v ∧ PartOk enc P w base spare held u v) →
      ∀ (i : Nat) (u : TypeId), (repFlat ts n)[i]? = some u → ∃ v, cs[k * L + i]? = some v ∧ PartOk enc P w base spare held u v := by
  intro n
  induction n with
  | zero => intro k _ i u hu; simp [repFlat] at hu
  | succ n ih =>
    intro k hall i u hu
    simp only [repFlat] at hu
    by_cases hi : i < ts.length
    · rw [List.getElem?_append_left hi] at hu
      obtain ⟨v, hv, hk⟩ := hall 0 (by omega) i u hu
      refine ⟨v, ?_, hk⟩
      rw [List.getElem?_take] at hv
      split at hv
      · rw [List.getElem?_drop] at hv; simpa using hv
      · cases hv
    · rw [List.getElem?_append_right (by omega)] at hu
      obtain ⟨v, hv, hk⟩ := ih (k + 1) (fun i hi j u hu => by have := hall (i + 1) (by omega) j u hu; rwa [show k + (i + 1) = k + 1 + i by omega] at this) _ _ hu
      exact ⟨v, by rw [← hv]; congr 1; rw [Nat.add_mul]; omega, hk⟩
theorem flat_spec : ∀ (d : Nat) (t : TypeId) (ts : List TypeId), flat P d t = some ts → ∀ (fuel : Nat) (cs : List Value) (x : DataW H × List MemPlace), DataW.trod enc P w base spare held fuel t cs = some x →
    cs.length = ts.length ∧ ∀ (i : Nat) (u : TypeId), ts[i]? = some u → ∃ v, cs[i]? = some v ∧ PartOk enc P w base spare held u v := by
  intro d
  induction d with
  | zero => intro t ts h; simp [flat] at h
  | succ d ih =>
    intro t ts h fuel cs x hx
    have one : ∀ v, cs = [v] → ts = [t] → cs.length = ts.length ∧ ∀ (i : Nat) (u : TypeId), ts[i]? = some u → ∃ v, cs[i]? = some v ∧ PartOk enc P w base spare held u v := by
      rintro v rfl rfl
      refine ⟨rfl, fun i u hu => ?_⟩
      rcases i with _ | i
      · simp at hu; subst hu; exact ⟨v, rfl, _, _, hx⟩
      · simp at hu
    unfold flat at h
    split at h
    · rename_i k hk
      obtain ⟨n, rfl, _⟩ := DataW.trod_int hk hx
      exact one _ rfl (by simpa using h.symm)
    · rename_i hk
      obtain ⟨n, rfl, _⟩ := DataW.trod_bool hk hx
      exact one _ rfl (by simpa using h.symm)
    · rename_i e hk
      rcases DataW.trod_slice hk hx with ⟨rfl, _⟩ | ⟨a, len, cap, elems, rest, n, _, rfl, _⟩
      · exact one _ rfl (by simpa using h.symm)
      · exact one _ rfl (by simpa using h.symm)
    · rename_i fs hk
      simp only [Option.bind_eq_some_iff] at h
      obtain ⟨t1, h1, h2⟩ := h
      split at h2
      · rename_i hl
        cases h2
        obtain ⟨xs, m, _, _, hlen, hxs, hf⟩ := DataW.trod_struct hk hx
        refine ⟨by rw [hlen, hl], fun i u hu => ?_⟩
        have := flatFs_spec (fun t ts h => ih t ts h) cs fs.toList 0 ts h1 (fun f hf' => by
          obtain ⟨j, hj, rfl⟩ := List.getElem_of_mem hf'
          have hj' : j < fs.size := by simpa using hj
          have h3 := hf j fs[j] (by simp [hj'])
          have hj2 : j < xs.length := by omega
          exact ⟨m, xs[j], by simpa [hj2] using h3⟩) i u hu
        simpa using this
      · cases h2
    · rename_i n e hk
      simp only [Option.bind_eq_some_iff] at h
      obtain ⟨t1, h1, h2⟩ := h
      split at h2
      · rename_i hl
        cases h2
        obtain ⟨xs, m, _, _, hlen, hxs, hf⟩ := DataW.trod_array hk hx
        refine ⟨by rw [hlen, repFlat_len, hl.2], fun i u hu => ?_⟩
        have := repFlat_spec (cs := cs) hl.1 e n 0 (fun i hi j u hu => by
          have h3 := hf i hi
          have hi2 : i < xs.length := by omega
          have h4 : DataW.trod enc P w base spare held m e ((cs.drop (i * P.cellsOf e)).take (P.cellsOf e)) = some xs[i] := by rw [h3]; simp [hi2]
          rw [Nat.zero_add]
          exact (ih e t1 h1 _ _ _ h4).2 j u hu) i u hu
        simpa using this
      · cases h2
    · cases h

theorem add_add (a : Addr) (m k : Nat) : (a.add m).add k = a.add (m + k) := by
  unfold Addr.add
  by_cases hm : m = 0
  · subst hm; simp
  · by_cases hk : k = 0
    · subst hk; simp
    · simp [hm, hk]; omega
/-- What a one-cell part holds, d slices deep. -/
def LeafOk (P : Program) (w : World) : Nat → TypeId → Value → Prop
  | 0, _, _ => True
  | d + 1, u, v => match P.underlying u with
    | some (.int k) => ∃ n, v = .int k n ∧ (Lit.int k n).wf = true
    | some .bool => ∃ b, v = .bool b
    | some (.slice e) => ∃ a n c xs, v = .slice a n c ∧ n ≤ c ∧ c ≤ maxLen ∧ xs.length = n * P.cellsOf e ∧ Rd w a xs ∧ (a = none → n = 0 ∧ c = 0) ∧
        ∀ ts : List TypeId, flat P 9 e = some ts → ∀ (i j : Nat) (u' : TypeId), i < n → ts[j]? = some u' → ∃ v', xs[i * P.cellsOf e + j]? = some v' ∧ LeafOk P w d u' v'
    | _ => True
theorem cells_get {a : Addr} {n : Nat} {cs : List Value} (h : w.cells? 0 a n = some cs) : cs.length = n ∧ ∀ i, i < n → w.cell? (a.add i) = cs[i]? := by
  unfold World.cells? at h
  rw [if_pos (Nat.zero_le _)] at h
  refine ⟨by simpa using mapM_some_length h, fun i hi => ?_⟩
  have := mapM_some_get h i i (by simp [hi])
  exact this
theorem leaf_ok : ∀ (d : Nat) (u : TypeId) (v : Value), PartOk enc P w 0 (fun _ => true) held u v → LeafOk P w d u v := by
  intro d
  induction d with
  | zero => intros; trivial
  | succ d ih =>
    intro u v h
    obtain ⟨m, y, hy⟩ := h
    unfold LeafOk
    split
    · rename_i k hk
      obtain ⟨n, hv, _, hw⟩ := DataW.trod_int hk hy
      simp at hv
      exact ⟨n, hv, hw⟩
    · rename_i hk
      obtain ⟨b, hv, _⟩ := DataW.trod_bool hk hy
      simp at hv
      exact ⟨b, hv⟩
    · rename_i e hk
      rcases DataW.trod_slice hk hy with ⟨hv, _⟩ | ⟨a, len, cap, elems, rest, n, _, hv, _, _, hl, hm, hlen, hel, _, _⟩
      · simp at hv
        exact ⟨none, 0, 0, [], hv, Nat.le_refl _, by unfold maxLen; omega, by simp, Rd.nil _ _, fun _ => ⟨rfl, rfl⟩, fun ts hts i j u' hi => by omega⟩
      · simp at hv
        have each : ∀ i, i < len → ∃ cs y, w.cells? 0 (a.add (i * P.cellsOf e)) (P.cellsOf e) = some cs ∧ DataW.trod enc P w 0 (fun _ => true) held n e cs = some y := by
          intro i hi
          have h1 := hel i hi
          have hi2 : i < elems.length := by omega
          rw [List.getElem?_eq_getElem hi2] at h1
          obtain ⟨cs, h2, h3⟩ := Option.bind_eq_some_iff.1 h1
          exact ⟨cs, _, h2, h3⟩
        have cell : ∀ k, k < len * P.cellsOf e → ∃ x, w.cell? (a.add k) = some x := by
          intro k hk'
          have hpos : 0 < P.cellsOf e := Nat.pos_of_ne_zero fun h => by rw [h] at hk'; simp at hk'
          have hi : k / P.cellsOf e < len := by rw [Nat.div_lt_iff_lt_mul hpos]; exact hk'
          obtain ⟨cs, _, h1, _⟩ := each _ hi
          obtain ⟨hl, hg⟩ := cells_get h1
          have hm := Nat.mod_lt k hpos
          have := hg _ hm
          rw [add_add, Nat.mul_comm, Nat.div_add_mod] at this
          exact ⟨cs[k % P.cellsOf e], by rw [this]; simp [hl, hm]⟩
        have hxl : ((List.range (len * P.cellsOf e)).map fun j => (w.cell? (a.add j)).getD undef).length = len * P.cellsOf e := by simp
        have hget : ∀ k, k < len * P.cellsOf e → ((List.range (len * P.cellsOf e)).map fun j => (w.cell? (a.add j)).getD undef)[k]? = w.cell? (a.add k) := by
          intro k hk'
          obtain ⟨x, hx⟩ := cell k hk'
          simp [hk', hx]
        refine ⟨some a, len, cap, _, hv, hl, hm, hxl, Rd.ofCells fun k hk' => ?_, (fun h => by cases h), fun ts hts i j u' hi hj => ?_⟩
        · rw [hxl] at hk'
          rw [← hget k hk']
          exact List.getElem?_eq_getElem _
        · obtain ⟨cs, y', h1, h2⟩ := each i hi
          obtain ⟨hl, hg⟩ := cells_get h1
          obtain ⟨hlen2, hp⟩ := flat_spec 9 e ts hts _ _ _ h2
          obtain ⟨v', hv', hk'⟩ := hp j u' hj
          have hjl : j < P.cellsOf e := by have := (List.getElem?_eq_some_iff.1 hj).1; omega
          have hb : i * P.cellsOf e + j < len * P.cellsOf e := by
            have := Nat.mul_le_mul_right (P.cellsOf e) (show i + 1 ≤ len by omega)
            rw [Nat.add_mul] at this
            omega
          refine ⟨v', ?_, ih _ _ hk'⟩
          rw [hget _ hb, ← add_add, hg j hjl]
          exact hv'
    · trivial
/-- A value of a type whose parts lie one behind the other: its cells. -/
theorem open_flat {r : Reach} {b0 : Nat} {t : TypeId} {v : Value} {d : DataW H} {p : List MemPlace} {ts : List TypeId} (hs : (∃ fs, P.underlying t = some (.struct fs)) ∨ ∃ n e, P.underlying t = some (.array n e)) (hf : flat P 9 t = some ts)
    (hv : Value.okWide P w r b0 t v) (h : DataW.Trod enc P w 0 (fun _ => true) held t v d p) : ∃ cs : Array Value, v = .agg cs ∧ cs.size = ts.length ∧ ∀ (i : Nat) (u : TypeId), ts[i]? = some u → ∃ x, cs[i]? = some x ∧ ∀ d, LeafOk P w d u x := by
  have hcs : ∃ cs, v = .agg cs ∧ cs.size = P.cellsOf t := by
    unfold Value.okWide at hv
    rcases hs with ⟨fs, hs⟩ | ⟨n, e, hs⟩ <;> rw [hs] at hv <;> obtain ⟨cs, h1, h2, _⟩ := hv <;> exact ⟨cs, h1, h2⟩
  obtain ⟨cs, rfl, _⟩ := hcs
  obtain ⟨fuel, h1⟩ := h
  obtain ⟨hl, hp⟩ := flat_spec 9 t ts hf _ _ _ h1
  simp only [Value.cells] at hl hp
  refine ⟨cs, rfl, by simpa using hl, fun i u hu => ?_⟩
  obtain ⟨x, hx, hk⟩ := hp i u hu
  exact ⟨x, by simpa using hx, fun d => leaf_ok d u x hk⟩
/-- A slice's value, d slices deep. -/
theorem open_sl {r : Reach} {b0 : Nat} {t e : TypeId} {v : Value} {dd : DataW H} {p : List MemPlace} (hs : P.underlying t = some (.slice e)) (hv : Value.okWide P w r b0 t v) (h : DataW.Trod enc P w 0 (fun _ => true) held t v dd p) (d : Nat) : LeafOk P w d t v := by
  obtain ⟨a, n, c, rfl⟩ := okWide_slice hs hv
  obtain ⟨fuel, h1⟩ := h
  exact leaf_ok d t _ ⟨fuel, _, h1⟩
theorem leaf_int {u : TypeId} {k : IntKind} {v : Value} (hu : P.underlying u = some (.int k)) (h : ∀ d, LeafOk P w d u v) : ∃ n, v = .int k n ∧ (Lit.int k n).wf = true := by
  have h := h 1
  unfold LeafOk at h
  rw [hu] at h
  exact h
theorem leaf_bool {u : TypeId} {v : Value} (hu : P.underlying u = some .bool) (h : ∀ d, LeafOk P w d u v) : ∃ b, v = .bool b := by
  have h := h 1
  unfold LeafOk at h
  rw [hu] at h
  exact h
theorem leaf_slice {u e : TypeId} {v : Value} (hu : P.underlying u = some (.slice e)) {ts : List TypeId} (hf : flat P 9 e = some ts) (h : ∀ d, LeafOk P w d u v) :
    ∃ a n c xs, v = .slice a n c ∧ n ≤ c ∧ c ≤ maxLen ∧ xs.length = n * P.cellsOf e ∧ Rd w a xs ∧ (a = none → n = 0 ∧ c = 0) ∧ ∀ (i j : Nat) (u' : TypeId), i < n → ts[j]? = some u' → ∃ v', xs[i * P.cellsOf e + j]? = some v' ∧ ∀ d, LeafOk P w d u' v' := by
  have h1 := h 1
  unfold LeafOk at h1
  rw [hu] at h1
  obtain ⟨a, n, c, xs, rfl, hn, hc, hl, hr, h0, hp⟩ := h1
  refine ⟨a, n, c, xs, rfl, hn, hc, hl, hr, h0, fun i j u' hi hj => ?_⟩
  obtain ⟨v', hv', _⟩ := hp ts hf i j u' hi hj
  refine ⟨v', hv', fun d => ?_⟩
  have h2 := h (d + 1)
  unfold LeafOk at h2
  rw [hu] at h2
  obtain ⟨a2, n2, c2, xs2, he, _, _, hl2, hr2, _, hp2⟩ := h2
  simp only [Value.slice.injEq] at he
  obtain ⟨rfl, rfl, rfl⟩ := he
  obtain ⟨v2, hv2, hk⟩ := hp2 ts hf i j u' hi hj
  have e1 : xs2 = xs := by
    apply List.ext_getElem (by rw [hl2, hl])
    intro m h3 h4
    obtain ⟨b, o, e5, h5⟩ := hr m h4
    obtain ⟨b', o', e6, h6⟩ := hr2 m h3
    rw [e5] at e6
    simp only [Option.some.injEq, Addr.mk.injEq] at e6
    obtain ⟨rfl, rfl, _⟩ := e6
    rw [h5] at h6
    exact (Option.some.inj h6).symm
  subst e1
  rw [hv'] at hv2
  cases hv2
  exact hk
end
end Go.Proofs.Ytgobnamhdkbbeaa

/- Leaves of arguments: parties, numbers. -/
namespace Go.Proofs.Ytgobnamhdkbbeaa
open Go.ChangeShapes Go.WideShapes Go.ChangeAt Go.RowKit
theorem leaf_party {w : World} {v : Value} (h : ∀ d, LeafOk Try.prog w d 30 v) : ∃ n : Nat, v = .int .u8 n ∧ n ≤ 255 := by
  obtain ⟨n, rfl, hw⟩ := leaf_int Try.underlying30 h
  have := bounds_u8 hw
  exact ⟨n.toNat, by rw [Int.toNat_of_nonneg this.1], by omega⟩
theorem leaf_i64 {w : World} {v : Value} (h : ∀ d, LeafOk Try.prog w d 2 v) : ∃ n : Int, v = .int .i64 n ∧ -9223372036854775808 ≤ n ∧ n ≤ 9223372036854775807 := by
  obtain ⟨n, rfl, hw⟩ := leaf_int Try.underlying2 h
  exact ⟨n, rfl, (bounds_i64 hw).1, (bounds_i64 hw).2⟩
end Go.Proofs.Ytgobnamhdkbbeaa

/- Acts on a ledger as arguments. -/
namespace Go.Proofs.Ytgobnamhdkbbeaa
open Go.ChangeShapes Go.WideShapes Go.ChangeAt Go.RowKit
set_option linter.unusedVariables false
set_option maxRecDepth 100000
theorem leaf_cur {w : World} {v : Value} (h : ∀ d, LeafOk Try.prog w d 23 v) : ∃ n : Nat, v = .int .u8 n ∧ n ≤ 255 := by
  obtain ⟨n, rfl, hw⟩ := leaf_int Try.underlying23 h
  have := bounds_u8 hw
  exact ⟨n.toNat, by rw [Int.toNat_of_nonneg this.1], by omega⟩
theorem leaf_u8 {w : World} {v : Value} (h : ∀ d, LeafOk Try.prog w d 5 v) : ∃ n : Nat, v = .int .u8 n ∧ n ≤ 255 := by
  obtain ⟨n, rfl, hw⟩ := leaf_int Try.underlying5 h
  have := bounds_u8 hw
  exact ⟨n.toNat, by rw [Int.toNat_of_nonneg this.1], by omega⟩
/-- An act on a ledger. -/
structure LAct where
  k : Nat
  a : Nat
  b : Nat
  c : Nat
  n : Int
abbrev act (k : Int) (a : Int) (b : Int) (c : Int) (n : Int) : Array Value := #[.int .u8 k, .int .u8 a, .int .u8 b, .int .u8 c, .int .i64 n]
section
variable (k : Int) (a : Int) (b : Int) (c : Int) (n : Int)
theorem act_sz : (act k a b c n).size = 5 := rfl
theorem act_g0 : (act k a b c n)[0]? = some (.int .u8 k) := rfl
theorem act_s0 (v : Int) : (act k a b c n).setIfInBounds 0 (.int .u8 v) = act v a b c n := rfl
theorem act_g1 : (act k a b c n)[1]? = some (.int .u8 a) := rfl
theorem act_s1 (v : Int) : (act k a b c n).setIfInBounds 1 (.int .u8 v) = act k v b c n := rfl
theorem act_g2 : (act k a b c n)[2]? = some (.int .u8 b) := rfl
theorem act_s2 (v : Int) : (act k a b c n).setIfInBounds 2 (.int .u8 v) = act k a v c n := rfl
theorem act_g3 : (act k a b c n)[3]? = some (.int .u8 c) := rfl
theorem act_s3 (v : Int) : (act k a b c n).setIfInBounds 3 (.int .u8 v) = act k a b v n := rfl
theorem act_g4 : (act k a b c n)[4]? = some (.int .i64 n) := rfl
theorem act_s4 (v : Int) : (act k a b c n).setIfInBounds 4 (.int .i64 v) = act k a b c v := rfl
end
def actV (x : LAct) : List Value := [.int .u8 (x.k : Int), .int .u8 (x.a : Int), .int .u8 (x.b : Int), .int .u8 (x.c : Int), .int .i64 x.n]
def actL (F : List LAct) : List Value := F.flatMap actV
theorem actL_len (F : List LAct) : (actL F).length = F.length * 5 := by
  induction F with
  | nil => rfl
  | cons x F ih => simp only [actL, List.flatMap_cons, List.length_append] at *; rw [ih]; simp [actV, Nat.add_mul]; omega
theorem actL_at (F : List LAct) (i : Nat) (h : i < F.length) : ((actL F).drop (i * 5)).take 5 = actV F[i] := by
  induction F generalizing i with
  | nil => simp at h
  | cons x F ih =>
    rcases i with _ | i
    · simp [actL, actV]
    · have : (i + 1) * 5 = 5 + i * 5 := by omega
      rw [this, ← List.drop_drop]
      simp only [List.length_cons] at h
      have := ih i (by omega)
      simpa [actL, actV] using this
abbrev actA (x : LAct) : Array Value := act (x.k : Int) (x.a : Int) (x.b : Int) (x.c : Int) x.n
theorem actL_row (F : List LAct) (i : Nat) (h : i < F.length) : (((actL F).drop (i * 5)).take 5).toArray = actA F[i] := by rw [actL_at F i h]; rfl
def ActOk (x : LAct) : Prop := x.k ≤ 255 ∧ x.a ≤ 255 ∧ x.b ≤ 255 ∧ x.c ≤ 255 ∧ (-9223372036854775808 ≤ x.n ∧ x.n ≤ 9223372036854775807)
theorem row_act : RowTy 59 5 (act 0 0 0 0 0) := ⟨⟨_, Try.underlying59, rfl⟩, by kernel_rfl, by kernel_rfl⟩
theorem act_all (k a b c n : Int) : (act k a b c n).extract 0 (0 + 5) = act k a b c n := by simp
theorem act_cells (k a b c n : Int) : Cells 5 (act k a b c n) := ⟨rfl, by simp [Value.oneCell']⟩
theorem act_splice (k a b c n k' a' b' c' n' : Int) : splice (act k a b c n) 0 (act k' a' b' c' n') = act k' a' b' c' n' := splice_all rfl
theorem flat_act : flat Try.prog 9 59 = some [5, 30, 30, 23, 2] := by kernel_rfl
def ActArg (w : World) (v : Value) : Prop := ∃ x : LAct, v = .agg (actA x) ∧ ActOk x
theorem open_act {H : Type} {enc : TypeId × Value → H} {W : World} {held : Bool} {v : Value} {d : DataW H} {p : List MemPlace} {r : Reach} {b0 : Nat}
    (hval : Value.okWide Try.prog W r b0 59 v) (h : DataW.Trod enc Try.prog W 0 (fun _ => true) held 59 v d p) : ActArg W v := by
  obtain ⟨cs, rfl, hn, hp⟩ := open_flat (.inl ⟨_, Try.underlying59⟩) flat_act hval h
  obtain ⟨x0, h0, k0⟩ := hp 0 _ rfl
  obtain ⟨x1, h1, k1⟩ := hp 1 _ rfl
  obtain ⟨x2, h2, k2⟩ := hp 2 _ rfl
  obtain ⟨x3, h3, k3⟩ := hp 3 _ rfl
  obtain ⟨x4, h4, k4⟩ := hp 4 _ rfl
  obtain ⟨w0, rfl, q0⟩ := leaf_u8 k0
  obtain ⟨w1, rfl, q1⟩ := leaf_party k1
  obtain ⟨w2, rfl, q2⟩ := leaf_party k2
  obtain ⟨w3, rfl, q3⟩ := leaf_cur k3
  obtain ⟨w4, rfl, q4⟩ := leaf_i64 k4
  obtain ⟨l⟩ := cs
  refine ⟨⟨w0, w1, w2, w3, w4⟩, ?_, q0, q1, q2, q3, q4⟩
  match l, hn with
  | [c0, c1, c2, c3, c4], _ => simp at h0 h1 h2 h3 h4; subst_vars; rfl
structure ActsArg (w : World) (a : Option Addr) (n c : Nat) (F : List LAct) : Prop where
  len : F.length = n
  cap : n ≤ c
  max : c ≤ maxLen
  rd : Rd w a (actL F)
  ok : ∀ x ∈ F, ActOk x
theorem act_cellsOf : Try.prog.cellsOf 59 = 5 := by kernel_rfl
theorem acts_of {w : World} : ∀ (n : Nat) (xs : List Value), xs.length = n * 5 → (∀ (i j : Nat) (u : TypeId), i < n → ([5, 30, 30, 23, 2] : List TypeId)[j]? = some u → ∃ v, xs[i * 5 + j]? = some v ∧ ∀ d, LeafOk Try.prog w d u v) → ∃ F : List LAct, F.length = n ∧ xs = actL F ∧ ∀ x ∈ F, ActOk x
  | 0, xs, hl, _ => ⟨[], rfl, by simpa [actL] using hl, by simp⟩
  | n + 1, xs, hl, h => by
    rcases xs with _ | ⟨c0, _ | ⟨c1, _ | ⟨c2, _ | ⟨c3, _ | ⟨c4, ys⟩⟩⟩⟩⟩
    · simp at hl
    · simp at hl; omega
    · simp at hl; omega
    · simp at hl; omega
    · simp at hl; omega
    · obtain ⟨x0, h0, k0⟩ := h 0 0 _ (by omega) rfl
      obtain ⟨x1, h1, k1⟩ := h 0 1 _ (by omega) rfl
      obtain ⟨x2, h2, k2⟩ := h 0 2 _ (by omega) rfl
      obtain ⟨x3, h3, k3⟩ := h 0 3 _ (by omega) rfl
      obtain ⟨x4, h4, k4⟩ := h 0 4 _ (by omega) rfl
      simp at h0 h1 h2 h3 h4
      subst h0 h1 h2 h3 h4
      obtain ⟨w0, rfl, q0⟩ := leaf_u8 k0
      obtain ⟨w1, rfl, q1⟩ := leaf_party k1
      obtain ⟨w2, rfl, q2⟩ := leaf_party k2
      obtain ⟨w3, rfl, q3⟩ := leaf_cur k3
      obtain ⟨w4, rfl, q4⟩ := leaf_i64 k4
      obtain ⟨F, hF, rfl, hok⟩ := acts_of n ys (by simp at hl; omega) (fun i j u hi hj => by
        obtain ⟨v, hv, hk⟩ := h (i + 1) j u (by omega) hj
        refine ⟨v, ?_, hk⟩
        rw [show (i + 1) * 5 + j = (i * 5 + j) + 5 by omega] at hv
        simpa using hv)
      exact ⟨⟨w0, w1, w2, w3, w4⟩ :: F, by simp [hF], by simp [actL, actV], fun x hx => by
        rcases List.mem_cons.1 hx with rfl | hx
        · exact ⟨q0, q1, q2, q3, q4⟩
        · exact hok x hx⟩
theorem open_acts {H : Type} {enc : TypeId × Value → H} {W : World} {held : Bool} {v : Value} {d : DataW H} {p : List MemPlace} {r : Reach} {b0 : Nat}
    (hval : Value.okWide Try.prog W r b0 22 v) (h : DataW.Trod enc Try.prog W 0 (fun _ => true) held 22 v d p) : ∃ a n c F, v = .slice a n c ∧ ActsArg W a n c F := by
  have hk := fun d => open_sl Try.underlying22 hval h d
  obtain ⟨a, n, c, xs, rfl, hn, hc, hl, hr, _, hp⟩ := leaf_slice Try.underlying22 flat_act hk
  rw [act_cellsOf] at hl hp
  obtain ⟨F, hF, rfl, hok⟩ := acts_of (w := W) n xs hl hp
  exact ⟨a, n, c, F, rfl, hF, hn, hc, hr, hok⟩
def ActsV (w : World) (v : Value) : Prop := ∃ a n c F, v = .slice a n c ∧ ActsArg w a n c F
theorem open_actsV {H : Type} {enc : TypeId × Value → H} {W : World} {held : Bool} {v : Value} {d : DataW H} {p : List MemPlace} {r : Reach} {b0 : Nat}
    (hval : Value.okWide Try.prog W r b0 22 v) (h : DataW.Trod enc Try.prog W 0 (fun _ => true) held 22 v d p) : ActsV W v := open_acts hval h
end Go.Proofs.Ytgobnamhdkbbeaa
