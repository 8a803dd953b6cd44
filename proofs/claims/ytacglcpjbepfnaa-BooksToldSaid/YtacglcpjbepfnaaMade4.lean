/- countinghouselaw04.Made: a book of whatever acts. (Printed by gen/made4.py.) -/
import Derived.Test.YtacglcpjbepfnaaBok11
import Derived.Test.YtacglcpjbepfnaaOpen04
import Derived.Test.YtacglcpjbepfnaaQCell
namespace Go.Proofs.Ytacglcpjbepfnaa
open Go.RowKit
set_option linter.unusedSimpArgs false
set_option linter.unusedVariables false
theorem cell_u8 : CellTy 5 := ⟨⟨_, Try.underlying5, rfl⟩, by kernel_rfl⟩
/-- What an act makes of a book. -/
def actB (B : Bok) (x : OAct) : Bok :=
  if x.k % 6 = 0 ∨ x.k % 6 = 1 ∨ x.k % 6 = 2 then placeS B x.o.ow x.o.se x.o.bu x.o.le x.o.nu x.o.de else if x.k % 6 = 3 then cancelS B x.o.ow x.o.sq else if x.k % 6 = 4 then takeS B x.o.sq x.n else B
def madeB (F : List OAct) : Bok := F.foldl actB Bok.new
theorem actB_good {B : Bok} (G : B.Good) (x : OAct) : (actB B x).Good := by
  unfold actB
  split
  · exact G.place _ _ _ _ _ _
  · split
    · exact G.cancel _ _
    · split
      · exact G.take _ _
      · exact G
theorem foldlB_good : ∀ (F : List OAct) (B : Bok), B.Good → (F.foldl actB B).Good
  | [], _, G => G
  | x :: F, B, G => foldlB_good F _ (actB_good G x)
theorem madeB_good (F : List OAct) : (madeB F).Good := foldlB_good F _ Bok.new_good
theorem madeB_succ {F : List OAct} {k : Nat} (h : k < F.length) : madeB (F.take (k + 1)) = actB (madeB (F.take k)) F[k] := by
  unfold madeB
  rw [List.take_add_one, List.getElem?_eq_getElem h, Option.toList_some, List.foldl_append]
  rfl
theorem rd_oact {w : World} {g o k j : Nat} {F : List OAct} {y : OAct} {v : Value} (R : Rd w (some ⟨g, o, none⟩) (oactL F)) (h : F[k]? = some y) (hj : (oactV y)[j]? = some v) : w.cell? ⟨g, o + k * 9 + j, none⟩ = some v := by
  obtain ⟨hk, hx⟩ := List.getElem?_eq_some_iff.1 h
  have h9 : j < 9 := by
    have := (List.getElem?_eq_some_iff.1 hj).1
    simpa [oactV] using this
  obtain ⟨b, o', he, hc⟩ := R (k * 9 + j) (by rw [oactL_len]; omega)
  cases he
  rw [Nat.add_assoc, hc]
  have h2 := oactL_at F k hk
  rw [hx] at h2
  rw [← h2, List.getElem?_take, if_pos h9, List.getElem?_drop] at hj
  rw [← hj, List.getElem?_eq_getElem (by rw [oactL_len]; omega)]
theorem oactL_ofr {F : List OAct} {k : Nat} {y : OAct} (h : F[k]? = some y) : (((oactL F).drop (k * 9 + 1)).take 7).toArray = ofrA y.o := by
  obtain ⟨hk, hx⟩ := List.getElem?_eq_some_iff.1 h
  have h2 := oactL_at F k hk
  rw [hx] at h2
  have h3 : ((oactL F).drop (k * 9 + 1)).take 7 = ((((oactL F).drop (k * 9)).take 9).drop 1).take 7 := by
    rw [List.drop_take, List.take_take, List.drop_drop]
    rfl
  rw [h3, h2]
  rfl
structure MadeB (W : World) (l : List Thing) (p n : Nat) (F : List OAct) (vi : Value) (wr : World) : Prop where
  out : ∃ (k : Nat) (v : Value), k ≤ n ∧ vi = .int .i64 (k : Int) ∧ Heap W (BkB p v (madeB (F.take k)).nx :: OfT v (madeB (F.take k)).L.length (madeB (F.take k)).L :: l) wr
section
variable {W w : World} {l : List Thing}
set_option maxRecDepth 100000
set_option maxHeartbeats 8000000
theorem made4_H (ea : Option Addr) (n ec : Nat) (F : List OAct) (hl : F.length = n) (hn : n ≤ 120) (hF : ∀ x ∈ F, OActOk x) (R : ∀ l' w', (∀ x ∈ l, x ∈ l') → Heap W l' w' → Rd w' ea (oactL F)) (H : Heap W l w) :
    Calls Try.prog 51 #[.slice ea n ec] w fun e w' => ∃ p v, e = .returned (.pointer (some ⟨p, 0, none⟩)) ∧ Heap W (BkB p v (madeB F).nx :: OfT v (madeB F).L.length (madeB F).L :: l) w' := by
  have HL := Lib.hid hl
  have HF := Lib.hid hF
  have HR := Lib.hid R
  clear hl hF R
  go_enter Try.func51, Try.ntmps51
  go_wp2_with (go_skip)
  refine (bnew_H H).mono ?_
  clear H
  rintro e w1 ⟨p, rfl, H⟩
  go_wp2_with (go_skip)
  have H0 := H
  clear H
  go_loopw [4] (fun i wr => MadeB W l p n F i wr) (fun i _ => n - (intOf i).toNat)
  case atStart => exact ⟨0, _, Nat.zero_le _, rfl, H0⟩
  case round =>
    obtain ⟨k, v, hk, rfl, H⟩ := hrel.out
    clear H0 hrel
    by_cases hlt : k < n
    · have hkF : k < F.length := by rw [HL.out]; exact hlt
      have hlen : k * 9 + 1 + 7 ≤ (oactL F).length := by rw [oactL_len]; omega
      have hg : F[k]? = some F[k] := List.getElem?_eq_getElem hkF
      have hrow := oactL_ofr hg
      have HGt := Lib.hid hg
      have hok := HF.out F[k] (List.getElem_mem hkF)
      have HG := Lib.hid (madeB_good (F.take k))
      have HSN := Lib.hid (madeB_succ hkF)
      clear hg
      generalize F[k] = x at *
      generalize madeB (F.take k) = S at *
      obtain ⟨ba, oa, rfl, _⟩ := (HR.out _ _ (fun t ht => by repeat (first | exact ht | apply List.mem_cons_of_mem)) H).lt (by rw [oactL_len]; omega)
      obtain ⟨xk, ⟨xs, xw, xe, xu, xl, xn, xd⟩, xm⟩ := x
      obtain ⟨⟨o0, o1⟩, oo, on⟩ := hok
      simp only at o0 o1 oo on hrow
      have OO := Lib.hid oo
      have hkp : OfrOk ⟨S.nx, xw, xe, xu, xl, xn, xd⟩ := ⟨by have := HG.out.nx; show 0 ≤ S.nx ∧ S.nx ≤ _; omega, oo.2, oo.3, oo.4, oo.5, oo.6, oo.7⟩
      have HKP := Lib.hid hkp
      have HON := Lib.hid on
      clear oo hkp on
      have hr : xk % 6 = 0 ∨ xk % 6 = 1 ∨ xk % 6 = 2 ∨ xk % 6 = 3 ∨ xk % 6 = 4 ∨ xk % 6 = 5 := by omega
      rcases hr with hr | hr | hr | hr | hr | hr
      · have h6 : Int.tmod xk 6 = 0 := by rw [Int.tmod_eq_emod_of_nonneg (by omega)]; omega
        have HE := Lib.hid (show madeB (F.take (k + 1)) = placeS S xw xe xu xl xn xd by rw [HSN.out]; unfold actB; simp [hr])
        clear hr
        go_wp2_with (first
          | ((with_reducible show wpList _ _ _ (_ :: _) _ _); (with_reducible apply wpl_allocRH row_ofr); (· rfl); (· exact H); (clear H; intro px _ H); (simp only [Act.put, List.setIfInBounds_toArray, List.set_cons_zero, List.set_cons_succ]))
          | go_skip
          | ((with_reducible show wpList _ _ _ (_ :: _) _ _); (with_reducible apply wpl_loadRdR row_ofr); (· rfl); (· rfl); (· exact HR.out _ _ (fun t ht => by repeat (first | exact ht | apply List.mem_cons_of_mem)) H); (· exact Nat.add_assoc _ _ _); (· exact hlen); (· decide); (· exact hrow); (simp only [Act.put, List.setIfInBounds_toArray, List.set_cons_zero, List.set_cons_succ]))
          | ((with_reducible show wpList _ _ _ (_ :: _) _ _); (with_reducible apply wpl_storeRH row_ofr); (· rfl); (· rfl); (· rfl); (· with_reducible exact ofr_cells ..); (· exact H); (· (repeat (first | (with_reducible exact List.mem_cons_self) | with_reducible apply List.mem_cons_of_mem))); (· (simp only [ofrA_sz, Nat.reduceAdd, Nat.reduceLeDiff, Nat.le_refl]; done)); (· with_reducible exact ofr_splice ..); (· (repeat (first | (with_reducible exact Repl.here) | with_reducible apply Repl.there))); (clear H; intro _ H); (simp only [Act.put, List.setIfInBounds_toArray, List.set_cons_zero, List.set_cons_succ]))
          | ((with_reducible show wpList _ _ _ (_ :: _) _ _); (with_reducible apply wpl_loadCell cell_u8); (· rfl); (· rfl); (· exact rd_oact (HR.out _ _ (fun t ht => by repeat (first | exact ht | apply List.mem_cons_of_mem)) H) HGt.out (j := 0) rfl); (simp only [Act.put, List.setIfInBounds_toArray, List.set_cons_zero, List.set_cons_succ]))
          | ((with_reducible show wpList _ _ _ (_ :: _) _ _); (with_reducible apply wpl_loadCH); (· first | exact cell_u64 | exact cell_party | exact cell_cur | exact cell_i64); (· rfl); (· rfl); (· exact H); (· (repeat (first | (with_reducible exact List.mem_cons_self) | with_reducible apply List.mem_cons_of_mem))); (· with_reducible first | exact ofr_g0 .. | exact ofr_g1 .. | exact ofr_g2 .. | exact ofr_g3 .. | exact ofr_g4 ..); (simp only [Act.put, List.setIfInBounds_toArray, List.set_cons_zero, List.set_cons_succ]))
          | ((with_reducible show wpList _ _ _ (_ :: _) _ _); (with_reducible apply wpl_loadRH row_rat); (· rfl); (· rfl); (· exact H); (· (repeat (first | (with_reducible exact List.mem_cons_self) | with_reducible apply List.mem_cons_of_mem))); (· (simp only [ofrA_sz, Nat.reduceAdd, Nat.reduceLeDiff, Nat.le_refl]; done)); (· with_reducible exact ofr_rat ..); (simp only [Act.put, List.setIfInBounds_toArray, List.set_cons_zero, List.set_cons_succ])))
        refine (place_H (p := p) (B := S) xw xe xu xl xn xd HKP.out HG.out (H.top2 (.there .here) (.there .here))).mono ?_
        clear H
        rintro e w2 ⟨v2, rfl, H⟩
        go_wp2_with (go_skip)
        refine ⟨⟨k + 1, v2, by omega, by go_num, ?_⟩, ?measure0⟩
        · rw [HE.out]
          exact H.drop (.there (.there .here))
        case measure0 => simp [intOf]; omega
      · have h6 : Int.tmod xk 6 = 1 := by rw [Int.tmod_eq_emod_of_nonneg (by omega)]; omega
        have HE := Lib.hid (show madeB (F.take (k + 1)) = placeS S xw xe xu xl xn xd by rw [HSN.out]; unfold actB; simp [hr])
        clear hr
        go_wp2_with (first
          | ((with_reducible show wpList _ _ _ (_ :: _) _ _); (with_reducible apply wpl_allocRH row_ofr); (· rfl); (· exact H); (clear H; intro px _ H); (simp only [Act.put, List.setIfInBounds_toArray, List.set_cons_zero, List.set_cons_succ]))
          | go_skip
          | ((with_reducible show wpList _ _ _ (_ :: _) _ _); (with_reducible apply wpl_loadRdR row_ofr); (· rfl); (· rfl); (· exact HR.out _ _ (fun t ht => by repeat (first | exact ht | apply List.mem_cons_of_mem)) H); (· exact Nat.add_assoc _ _ _); (· exact hlen); (· decide); (· exact hrow); (simp only [Act.put, List.setIfInBounds_toArray, List.set_cons_zero, List.set_cons_succ]))
          | ((with_reducible show wpList _ _ _ (_ :: _) _ _); (with_reducible apply wpl_storeRH row_ofr); (· rfl); (· rfl); (· rfl); (· with_reducible exact ofr_cells ..); (· exact H); (· (repeat (first | (with_reducible exact List.mem_cons_self) | with_reducible apply List.mem_cons_of_mem))); (· (simp only [ofrA_sz, Nat.reduceAdd, Nat.reduceLeDiff, Nat.le_refl]; done)); (· with_reducible exact ofr_splice ..); (· (repeat (first | (with_reducible exact Repl.here) | with_reducible apply Repl.there))); (clear H; intro _ H); (simp only [Act.put, List.setIfInBounds_toArray, List.set_cons_zero, List.set_cons_succ]))
          | ((with_reducible show wpList _ _ _ (_ :: _) _ _); (with_reducible apply wpl_loadCell cell_u8); (· rfl); (· rfl); (· exact rd_oact (HR.out _ _ (fun t ht => by repeat (first | exact ht | apply List.mem_cons_of_mem)) H) HGt.out (j := 0) rfl); (simp only [Act.put, List.setIfInBounds_toArray, List.set_cons_zero, List.set_cons_succ]))
          | ((with_reducible show wpList _ _ _ (_ :: _) _ _); (with_reducible apply wpl_loadCH); (· first | exact cell_u64 | exact cell_party | exact cell_cur | exact cell_i64); (· rfl); (· rfl); (· exact H); (· (repeat (first | (with_reducible exact List.mem_cons_self) | with_reducible apply List.mem_cons_of_mem))); (· with_reducible first | exact ofr_g0 .. | exact ofr_g1 .. | exact ofr_g2 .. | exact ofr_g3 .. | exact ofr_g4 ..); (simp only [Act.put, List.setIfInBounds_toArray, List.set_cons_zero, List.set_cons_succ]))
          | ((with_reducible show wpList _ _ _ (_ :: _) _ _); (with_reducible apply wpl_loadRH row_rat); (· rfl); (· rfl); (· exact H); (· (repeat (first | (with_reducible exact List.mem_cons_self) | with_reducible apply List.mem_cons_of_mem))); (· (simp only [ofrA_sz, Nat.reduceAdd, Nat.reduceLeDiff, Nat.le_refl]; done)); (· with_reducible exact ofr_rat ..); (simp only [Act.put, List.setIfInBounds_toArray, List.set_cons_zero, List.set_cons_succ])))
        refine (place_H (p := p) (B := S) xw xe xu xl xn xd HKP.out HG.out (H.top2 (.there .here) (.there .here))).mono ?_
        clear H
        rintro e w2 ⟨v2, rfl, H⟩
        go_wp2_with (go_skip)
        refine ⟨⟨k + 1, v2, by omega, by go_num, ?_⟩, ?measure1⟩
        · rw [HE.out]
          exact H.drop (.there (.there .here))
        case measure1 => simp [intOf]; omega
      · have h6 : Int.tmod xk 6 = 2 := by rw [Int.tmod_eq_emod_of_nonneg (by omega)]; omega
        have HE := Lib.hid (show madeB (F.take (k + 1)) = placeS S xw xe xu xl xn xd by rw [HSN.out]; unfold actB; simp [hr])
        clear hr
        go_wp2_with (first
          | ((with_reducible show wpList _ _ _ (_ :: _) _ _); (with_reducible apply wpl_allocRH row_ofr); (· rfl); (· exact H); (clear H; intro px _ H); (simp only [Act.put, List.setIfInBounds_toArray, List.set_cons_zero, List.set_cons_succ]))
          | go_skip
          | ((with_reducible show wpList _ _ _ (_ :: _) _ _); (with_reducible apply wpl_loadRdR row_ofr); (· rfl); (· rfl); (· exact HR.out _ _ (fun t ht => by repeat (first | exact ht | apply List.mem_cons_of_mem)) H); (· exact Nat.add_assoc _ _ _); (· exact hlen); (· decide); (· exact hrow); (simp only [Act.put, List.setIfInBounds_toArray, List.set_cons_zero, List.set_cons_succ]))
          | ((with_reducible show wpList _ _ _ (_ :: _) _ _); (with_reducible apply wpl_storeRH row_ofr); (· rfl); (· rfl); (· rfl); (· with_reducible exact ofr_cells ..); (· exact H); (· (repeat (first | (with_reducible exact List.mem_cons_self) | with_reducible apply List.mem_cons_of_mem))); (· (simp only [ofrA_sz, Nat.reduceAdd, Nat.reduceLeDiff, Nat.le_refl]; done)); (· with_reducible exact ofr_splice ..); (· (repeat (first | (with_reducible exact Repl.here) | with_reducible apply Repl.there))); (clear H; intro _ H); (simp only [Act.put, List.setIfInBounds_toArray, List.set_cons_zero, List.set_cons_succ]))
          | ((with_reducible show wpList _ _ _ (_ :: _) _ _); (with_reducible apply wpl_loadCell cell_u8); (· rfl); (· rfl); (· exact rd_oact (HR.out _ _ (fun t ht => by repeat (first | exact ht | apply List.mem_cons_of_mem)) H) HGt.out (j := 0) rfl); (simp only [Act.put, List.setIfInBounds_toArray, List.set_cons_zero, List.set_cons_succ]))
          | ((with_reducible show wpList _ _ _ (_ :: _) _ _); (with_reducible apply wpl_loadCH); (· first | exact cell_u64 | exact cell_party | exact cell_cur | exact cell_i64); (· rfl); (· rfl); (· exact H); (· (repeat (first | (with_reducible exact List.mem_cons_self) | with_reducible apply List.mem_cons_of_mem))); (· with_reducible first | exact ofr_g0 .. | exact ofr_g1 .. | exact ofr_g2 .. | exact ofr_g3 .. | exact ofr_g4 ..); (simp only [Act.put, List.setIfInBounds_toArray, List.set_cons_zero, List.set_cons_succ]))
          | ((with_reducible show wpList _ _ _ (_ :: _) _ _); (with_reducible apply wpl_loadRH row_rat); (· rfl); (· rfl); (· exact H); (· (repeat (first | (with_reducible exact List.mem_cons_self) | with_reducible apply List.mem_cons_of_mem))); (· (simp only [ofrA_sz, Nat.reduceAdd, Nat.reduceLeDiff, Nat.le_refl]; done)); (· with_reducible exact ofr_rat ..); (simp only [Act.put, List.setIfInBounds_toArray, List.set_cons_zero, List.set_cons_succ])))
        refine (place_H (p := p) (B := S) xw xe xu xl xn xd HKP.out HG.out (H.top2 (.there .here) (.there .here))).mono ?_
        clear H
        rintro e w2 ⟨v2, rfl, H⟩
        go_wp2_with (go_skip)
        refine ⟨⟨k + 1, v2, by omega, by go_num, ?_⟩, ?measure2⟩
        · rw [HE.out]
          exact H.drop (.there (.there .here))
        case measure2 => simp [intOf]; omega
      · have h6 : Int.tmod xk 6 = 3 := by rw [Int.tmod_eq_emod_of_nonneg (by omega)]; omega
        have HE := Lib.hid (show madeB (F.take (k + 1)) = cancelS S xw xs by rw [HSN.out]; unfold actB; simp [hr])
        clear hr
        go_wp2_with (first
          | ((with_reducible show wpList _ _ _ (_ :: _) _ _); (with_reducible apply wpl_allocRH row_ofr); (· rfl); (· exact H); (clear H; intro px _ H); (simp only [Act.put, List.setIfInBounds_toArray, List.set_cons_zero, List.set_cons_succ]))
          | go_skip
          | ((with_reducible show wpList _ _ _ (_ :: _) _ _); (with_reducible apply wpl_loadRdR row_ofr); (· rfl); (· rfl); (· exact HR.out _ _ (fun t ht => by repeat (first | exact ht | apply List.mem_cons_of_mem)) H); (· exact Nat.add_assoc _ _ _); (· exact hlen); (· decide); (· exact hrow); (simp only [Act.put, List.setIfInBounds_toArray, List.set_cons_zero, List.set_cons_succ]))
          | ((with_reducible show wpList _ _ _ (_ :: _) _ _); (with_reducible apply wpl_storeRH row_ofr); (· rfl); (· rfl); (· rfl); (· with_reducible exact ofr_cells ..); (· exact H); (· (repeat (first | (with_reducible exact List.mem_cons_self) | with_reducible apply List.mem_cons_of_mem))); (· (simp only [ofrA_sz, Nat.reduceAdd, Nat.reduceLeDiff, Nat.le_refl]; done)); (· with_reducible exact ofr_splice ..); (· (repeat (first | (with_reducible exact Repl.here) | with_reducible apply Repl.there))); (clear H; intro _ H); (simp only [Act.put, List.setIfInBounds_toArray, List.set_cons_zero, List.set_cons_succ]))
          | ((with_reducible show wpList _ _ _ (_ :: _) _ _); (with_reducible apply wpl_loadCell cell_u8); (· rfl); (· rfl); (· exact rd_oact (HR.out _ _ (fun t ht => by repeat (first | exact ht | apply List.mem_cons_of_mem)) H) HGt.out (j := 0) rfl); (simp only [Act.put, List.setIfInBounds_toArray, List.set_cons_zero, List.set_cons_succ]))
          | ((with_reducible show wpList _ _ _ (_ :: _) _ _); (with_reducible apply wpl_loadCH); (· first | exact cell_u64 | exact cell_party | exact cell_cur | exact cell_i64); (· rfl); (· rfl); (· exact H); (· (repeat (first | (with_reducible exact List.mem_cons_self) | with_reducible apply List.mem_cons_of_mem))); (· with_reducible first | exact ofr_g0 .. | exact ofr_g1 .. | exact ofr_g2 .. | exact ofr_g3 .. | exact ofr_g4 ..); (simp only [Act.put, List.setIfInBounds_toArray, List.set_cons_zero, List.set_cons_succ]))
          | ((with_reducible show wpList _ _ _ (_ :: _) _ _); (with_reducible apply wpl_loadRH row_rat); (· rfl); (· rfl); (· exact H); (· (repeat (first | (with_reducible exact List.mem_cons_self) | with_reducible apply List.mem_cons_of_mem))); (· (simp only [ofrA_sz, Nat.reduceAdd, Nat.reduceLeDiff, Nat.le_refl]; done)); (· with_reducible exact ofr_rat ..); (simp only [Act.put, List.setIfInBounds_toArray, List.set_cons_zero, List.set_cons_succ])))
        refine (cancel_H (p := p) (B := S) xw xs HG.out (H.top2 (.there .here) (.there .here))).mono ?_
        clear H
        rintro e w2 ⟨v2, rfl, H⟩
        go_wp2_with (go_skip)
        refine ⟨⟨k + 1, v2, by omega, by go_num, ?_⟩, ?measure3⟩
        · rw [HE.out]
          exact H.drop (.there (.there .here))
        case measure3 => simp [intOf]; omega
      · have h6 : Int.tmod xk 6 = 4 := by rw [Int.tmod_eq_emod_of_nonneg (by omega)]; omega
        have HE := Lib.hid (show madeB (F.take (k + 1)) = takeS S xs xm by rw [HSN.out]; unfold actB; simp [hr])
        clear hr
        go_wp2_with (first
          | ((with_reducible show wpList _ _ _ (_ :: _) _ _); (with_reducible apply wpl_allocRH row_ofr); (· rfl); (· exact H); (clear H; intro px _ H); (simp only [Act.put, List.setIfInBounds_toArray, List.set_cons_zero, List.set_cons_succ]))
          | go_skip
          | ((with_reducible show wpList _ _ _ (_ :: _) _ _); (with_reducible apply wpl_loadRdR row_ofr); (· rfl); (· rfl); (· exact HR.out _ _ (fun t ht => by repeat (first | exact ht | apply List.mem_cons_of_mem)) H); (· exact Nat.add_assoc _ _ _); (· exact hlen); (· decide); (· exact hrow); (simp only [Act.put, List.setIfInBounds_toArray, List.set_cons_zero, List.set_cons_succ]))
          | ((with_reducible show wpList _ _ _ (_ :: _) _ _); (with_reducible apply wpl_storeRH row_ofr); (· rfl); (· rfl); (· rfl); (· with_reducible exact ofr_cells ..); (· exact H); (· (repeat (first | (with_reducible exact List.mem_cons_self) | with_reducible apply List.mem_cons_of_mem))); (· (simp only [ofrA_sz, Nat.reduceAdd, Nat.reduceLeDiff, Nat.le_refl]; done)); (· with_reducible exact ofr_splice ..); (· (repeat (first | (with_reducible exact Repl.here) | with_reducible apply Repl.there))); (clear H; intro _ H); (simp only [Act.put, List.setIfInBounds_toArray, List.set_cons_zero, List.set_cons_succ]))
          | ((with_reducible show wpList _ _ _ (_ :: _) _ _); (with_reducible apply wpl_loadCell cell_u8); (· rfl); (· rfl); (· exact rd_oact (HR.out _ _ (fun t ht => by repeat (first | exact ht | apply List.mem_cons_of_mem)) H) HGt.out (j := 0) rfl); (simp only [Act.put, List.setIfInBounds_toArray, List.set_cons_zero, List.set_cons_succ]))
          | ((with_reducible show wpList _ _ _ (_ :: _) _ _); (with_reducible apply wpl_loadCH); (· first | exact cell_u64 | exact cell_party | exact cell_cur | exact cell_i64); (· rfl); (· rfl); (· exact H); (· (repeat (first | (with_reducible exact List.mem_cons_self) | with_reducible apply List.mem_cons_of_mem))); (· with_reducible first | exact ofr_g0 .. | exact ofr_g1 .. | exact ofr_g2 .. | exact ofr_g3 .. | exact ofr_g4 ..); (simp only [Act.put, List.setIfInBounds_toArray, List.set_cons_zero, List.set_cons_succ]))
          | ((with_reducible show wpList _ _ _ (_ :: _) _ _); (with_reducible apply wpl_loadRH row_rat); (· rfl); (· rfl); (· exact H); (· (repeat (first | (with_reducible exact List.mem_cons_self) | with_reducible apply List.mem_cons_of_mem))); (· (simp only [ofrA_sz, Nat.reduceAdd, Nat.reduceLeDiff, Nat.le_refl]; done)); (· with_reducible exact ofr_rat ..); (simp only [Act.put, List.setIfInBounds_toArray, List.set_cons_zero, List.set_cons_succ])))
        refine wp_region_H_tail 8 H (by kernel_rfl) (by kernel_rfl) ?_
        simp only [List.take_succ_cons, List.take_zero, List.drop_succ_cons, List.drop_zero]
        repeat (first | go_big_quiet_skip | ((with_reducible apply wpQ_loadCH); (· exact cell_u64); (· rfl); (· rfl); (· (repeat (first | (with_reducible exact List.mem_cons_self) | with_reducible apply List.mem_cons_of_mem))); (· with_reducible exact ofr_g0 ..); (simp only [Act.put, List.setIfInBounds_toArray, List.set_cons_zero, List.set_cons_succ])) | ((with_reducible apply wpQ_loadCell cell_i64); (· rfl); (· rfl); (· intro w' H'; exact rd_oact (HR.out _ _ (fun t ht => by repeat (first | exact ht | apply List.mem_cons_of_mem)) H') HGt.out (j := 8) rfl); (simp only [Act.put, List.setIfInBounds_toArray, List.set_cons_zero, List.set_cons_succ])) | go_big_quiet_step (fail))
        refine wpQuiet_nil ?_
        clear H
        intro _ H
        go_wp2_with (go_skip)
        refine (take_H (p := p) (B := S) xs xm HON.out HG.out (H.top2 (.there .here) (.there .here))).mono ?_
        clear H
        rintro e w2 ⟨v2, rfl, H⟩
        go_wp2_with (go_skip)
        refine ⟨⟨k + 1, v2, by omega, by go_num, ?_⟩, ?measure4⟩
        · rw [HE.out]
          exact H.drop (.there (.there .here))
        case measure4 => simp [intOf]; omega
      · have h6 : Int.tmod xk 6 = 5 := by rw [Int.tmod_eq_emod_of_nonneg (by omega)]; omega
        have HE := Lib.hid (show madeB (F.take (k + 1)) = S by rw [HSN.out]; unfold actB; simp [hr])
        clear hr
        go_wp2_with (first
          | ((with_reducible show wpList _ _ _ (_ :: _) _ _); (with_reducible apply wpl_allocRH row_ofr); (· rfl); (· exact H); (clear H; intro px _ H); (simp only [Act.put, List.setIfInBounds_toArray, List.set_cons_zero, List.set_cons_succ]))
          | go_skip
          | ((with_reducible show wpList _ _ _ (_ :: _) _ _); (with_reducible apply wpl_loadRdR row_ofr); (· rfl); (· rfl); (· exact HR.out _ _ (fun t ht => by repeat (first | exact ht | apply List.mem_cons_of_mem)) H); (· exact Nat.add_assoc _ _ _); (· exact hlen); (· decide); (· exact hrow); (simp only [Act.put, List.setIfInBounds_toArray, List.set_cons_zero, List.set_cons_succ]))
          | ((with_reducible show wpList _ _ _ (_ :: _) _ _); (with_reducible apply wpl_storeRH row_ofr); (· rfl); (· rfl); (· rfl); (· with_reducible exact ofr_cells ..); (· exact H); (· (repeat (first | (with_reducible exact List.mem_cons_self) | with_reducible apply List.mem_cons_of_mem))); (· (simp only [ofrA_sz, Nat.reduceAdd, Nat.reduceLeDiff, Nat.le_refl]; done)); (· with_reducible exact ofr_splice ..); (· (repeat (first | (with_reducible exact Repl.here) | with_reducible apply Repl.there))); (clear H; intro _ H); (simp only [Act.put, List.setIfInBounds_toArray, List.set_cons_zero, List.set_cons_succ]))
          | ((with_reducible show wpList _ _ _ (_ :: _) _ _); (with_reducible apply wpl_loadCell cell_u8); (· rfl); (· rfl); (· exact rd_oact (HR.out _ _ (fun t ht => by repeat (first | exact ht | apply List.mem_cons_of_mem)) H) HGt.out (j := 0) rfl); (simp only [Act.put, List.setIfInBounds_toArray, List.set_cons_zero, List.set_cons_succ]))
          | ((with_reducible show wpList _ _ _ (_ :: _) _ _); (with_reducible apply wpl_loadCH); (· first | exact cell_u64 | exact cell_party | exact cell_cur | exact cell_i64); (· rfl); (· rfl); (· exact H); (· (repeat (first | (with_reducible exact List.mem_cons_self) | with_reducible apply List.mem_cons_of_mem))); (· with_reducible first | exact ofr_g0 .. | exact ofr_g1 .. | exact ofr_g2 .. | exact ofr_g3 .. | exact ofr_g4 ..); (simp only [Act.put, List.setIfInBounds_toArray, List.set_cons_zero, List.set_cons_succ]))
          | ((with_reducible show wpList _ _ _ (_ :: _) _ _); (with_reducible apply wpl_loadRH row_rat); (· rfl); (· rfl); (· exact H); (· (repeat (first | (with_reducible exact List.mem_cons_self) | with_reducible apply List.mem_cons_of_mem))); (· (simp only [ofrA_sz, Nat.reduceAdd, Nat.reduceLeDiff, Nat.le_refl]; done)); (· with_reducible exact ofr_rat ..); (simp only [Act.put, List.setIfInBounds_toArray, List.set_cons_zero, List.set_cons_succ])))
        refine ⟨⟨k + 1, v, by omega, by go_num, ?_⟩, ?measure5⟩
        · rw [HE.out]
          exact H.tail
        case measure5 => simp [intOf]; omega
    · obtain rfl : k = n := by omega
      rw [List.take_of_length_le (by rw [HL.out]; exact Nat.le_refl _)] at H
      go_wp2_with (go_skip)
      go_ret
      exact ⟨p, v, rfl, H⟩
end
end Go.Proofs.Ytacglcpjbepfnaa
