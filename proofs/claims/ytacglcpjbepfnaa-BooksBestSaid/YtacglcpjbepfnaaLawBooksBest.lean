/- The walk of BooksBest. (Printed by gen/lawbooksbest.py.) -/
import Derived.Test.YtacglcpjbepfnaaLawBooksOnce
namespace Go.Proofs.Ytacglcpjbepfnaa
open Go.RowKit
set_option linter.unusedSimpArgs false
set_option linter.unusedVariables false
set_option maxRecDepth 100000
theorem AnsH.at4 {W w : World} {l : List Thing} {f : FuncId} {args : Array Value} {v : Value} (H : Heap W l w) (h : AnsH W l f args v) : AnsH W l f args v := h
theorem filt4_yes {L : List Ofr} {k : Nat} {x : Ofr} {se bu : Int} (h : L[k]? = some x) (h1 : x.se = se) (h2 : x.bu = bu) : ((L.take (k + 1)).filter (ofC se bu)).length = ((L.take k).filter (ofC se bu)).length + 1 := by
  rw [filt_succ se bu h, if_pos (by simp [ofC, h1, h2]), List.length_append]; rfl
theorem filt4_no {L : List Ofr} {k : Nat} {x : Ofr} {se bu : Int} (h : L[k]? = some x) (h1 : ¬ (x.se = se ∧ x.bu = bu)) : ((L.take (k + 1)).filter (ofC se bu)).length = ((L.take k).filter (ofC se bu)).length := by
  rw [filt_succ se bu h, if_neg (by simpa [ofC] using h1), List.append_nil]
theorem ofrL_rat {F : List Ofr} {k : Nat} {y : Ofr} (h : F[k]? = some y) : (((ofrL F).drop (k * 7 + 5)).take 2).toArray = #[.int .i64 y.nu, .int .i64 y.de] := by
  obtain ⟨hk, hx⟩ := List.getElem?_eq_some_iff.1 h
  have h2 := ofrL_at F k hk
  rw [hx] at h2
  have h3 : ((ofrL F).drop (k * 7 + 5)).take 2 = ((((ofrL F).drop (k * 7)).take 7).drop 5).take 2 := by
    rw [List.drop_take, List.take_take, List.drop_drop]
    rfl
  rw [h3, h2]
  rfl
structure Best4A (W : World) (l : List Thing) (L : List Ofr) (se bu : Int) (n : Nat) (many i : Value) (wr : World) : Prop where
  out : ∃ k : Nat, k ≤ n ∧ i = .int .i64 (k : Int) ∧ many = .int .i64 (((L.take k).filter (ofC se bu)).length : Int) ∧ Heap W l wr
structure Best4B (W : World) (l : List Thing) (m : Nat) (i : Value) (wr : World) : Prop where
  out : ∃ k : Nat, k ≤ m ∧ i = .int .i64 (k : Int) ∧ Heap W l wr
section
variable {W w : World} {l : List Thing}
set_option maxHeartbeats 8000000
theorem booksBest_walk (ea : Option Addr) (n0 ec : Nat) (F : List OAct) (se bu : Int) (hl : F.length = n0) (hF : ∀ x ∈ F, OActOk x) (R : Rd w ea (oactL F)) :
    Calls Try.prog 9 #[.slice ea n0 ec, .int .u8 se, .int .u8 bu] w fun e w' => e = .returned (.bool true) ∧ Below w.heap.size w w' := by
  have H := Heap.start w
  by_cases hn : n0 ≤ 120
  · have d1 : decide ((n0 : Int) > 120) = false := decide_eq_false (by omega)
    have d2 : decide (120 < (n0 : Int)) = false := decide_eq_false (by omega)
    have HR := Lib.hid (show ∀ l' w', Heap w l' w' → Rd w' ea (oactL F) from fun l' w' H' => H'.rd R)
    have HL := Lib.hid hl
    have HF := Lib.hid hF
    have HG := Lib.hid (madeB_good F)
    clear hl hF R
    go_enter Try.func9, Try.ntmps9
    go_wp2_with (go_skip)
    refine (made4_H ea n0 ec F HL.out hn HF.out (fun l' w' _ H' => HR.out l' w' H') H).mono ?_
    clear H
    rintro e w1 ⟨p, v, rfl, H⟩
    generalize madeB F = B at *
    go_wp2_with (go_skip)
    refine (all_H (p := p) (L := B.L) List.mem_cons_self (List.mem_cons_of_mem _ List.mem_cons_self) (by have := HG.out.nx; omega) rfl (by have := HG.out.few; omega) H).mono ?_
    clear H
    rintro e w2 ⟨v2, rfl, H⟩
    go_wp2_with (go_skip)
    refine (best_H (p := p) (B := B) se bu HG.out (List.mem_cons_of_mem _ List.mem_cons_self) (List.mem_cons_of_mem _ (List.mem_cons_of_mem _ List.mem_cons_self)) H).mono ?_
    clear H
    rintro e w3 ⟨v3, rfl, H⟩
    have HS := Lib.hid (HG.out.best se bu)
    have hnx := HG.out.nx.1
    have hfew := HG.out.few
    have hok := HG.out.ok
    have hord := HG.out.ord
    have hfind : ∀ x ∈ B.L, findO B.L x.sq = some x := fun x hx => HG.out.find_iff.2 ⟨hx, rfl⟩
    have HOK := Lib.hid (⟨hok, hord, hfind⟩ : _ ∧ _ ∧ _)
    clear hok hord hfind HG
    generalize bestO B.L se bu = S at *
    obtain ⟨L, nx⟩ := B
    simp only at *
    have hSm := HS.out.2.length_eq
    have hSL : ∀ x ∈ S, x ∈ L ∧ x.se = se ∧ x.bu = bu := fun x hx => by
      have := List.mem_filter.1 (HS.out.2.mem_iff.1 hx)
      exact ⟨this.1, by simpa [ofC] using this.2⟩
    have HSL := Lib.hid hSL
    generalize hn1 : L.length = n at *
    generalize hm1 : S.length = m at *
    obtain ⟨a3, c3, rfl, _, _⟩ := OwnT.formO (H.ok _ List.mem_cons_self)
    obtain ⟨a2, c2, rfl, _, _⟩ := OwnT.formO (H.ok _ (List.mem_cons_of_mem _ List.mem_cons_self))
    have HN := Lib.hid (⟨hn1, hm1, hSm⟩ : _ ∧ _ ∧ _)
    have hm32 : m ≤ 32 := by
      have h1 : (L.filter (ofC se bu)).length ≤ L.length := List.length_filter_le ..
      omega
    clear hn1 hm1 hSm hSL
    go_wp2_with (go_skip)
    have H0 := H
    clear H
    go_loopw [10, 11] (fun many i wr => Best4A w [OwO (.slice a3 m c3) m S, OwO (.slice a2 n c2) n L, BkB p v nx, OfT v n L] L se bu n many i wr) (fun _ i _ => n - (intOf i).toNat)
    case atStart => exact ⟨0, Nat.zero_le _, rfl, rfl, H0⟩
    case round =>
      obtain ⟨k, hk, rfl, rfl, H⟩ := hrel.out
      clear H0 hrel
      by_cases hlt : k < n
      · have hkL : k < L.length := by rw [HN.out.1]; exact hlt
        have hx : L[k]? = some L[k] := List.getElem?_eq_getElem hkL
        have hrow := ofrL_get L k hkL
        have hlen : k * 7 + 7 ≤ (ofrL L).length := by rw [ofrL_len]; omega
        obtain ⟨hmay, hs1, hs2⟩ := HOK.out.1 L[k] (List.getElem_mem hkL)
        obtain ⟨t1, t2, t3, t4, t5, t6⟩ := mayO_iff.1 hmay
        have tf := may_facts t6
        have HX := Lib.hid hx
        have hprev : ∀ j, k = j + 1 → ∃ y, L[j]? = some y ∧ y.sq < L[k].sq := fun j e => by
          have hj : j < L.length := by omega
          exact ⟨L[j], List.getElem?_eq_getElem hj, List.pairwise_iff_getElem.1 HOK.out.2.1 j k hj hkL (by omega)⟩
        have HP := Lib.hid hprev
        have hc : ((L.take k).filter (ofC se bu)).length ≤ k := by
          have h1 : ((L.take k).filter (ofC se bu)).length ≤ (L.take k).length := List.length_filter_le ..
          rw [List.length_take] at h1
          omega
        have HY := Lib.hid (fun h1 h2 => filt4_yes (se := se) (bu := bu) hx h1 h2)
        have HZ := Lib.hid (fun h1 => filt4_no (se := se) (bu := bu) hx h1)
        clear hx hmay hprev
        generalize L[k] = x at *
        generalize hcn : ((L.take k).filter (ofC se bu)).length = cn at *
        have e1 : decide (x.sq ≥ nx) = false := decide_eq_false (by omega)
        have e2 : decide (nx ≤ x.sq) = false := decide_eq_false (by omega)
        have e3 : decide (x.le < 1) = false := decide_eq_false (by omega)
        have e4 : (x.se == x.bu) = false := by simpa using t4
        have MY := rmay_ext x.nu x.de ⟨by omega, by omega, by omega, by omega⟩
        rw [t6] at MY
        have HT := Lib.hid (⟨t1, t2, t3, t4, t5, t6, tf⟩ : _ ∧ _ ∧ _ ∧ _ ∧ _ ∧ _ ∧ _)
        clear t1 t2 t3 t4 t5 t6 tf
        obtain ⟨ba, oa, rfl, _⟩ := (H.ownRd (List.mem_cons_of_mem _ List.mem_cons_self)).lt (by omega)
        rcases Nat.eq_zero_or_pos k with hk0 | hk0
        · obtain rfl : k = 0 := hk0
          have e0 : decide (((0 : Nat) : Int) > 0) = false := by decide
          have e00 : decide (0 < ((0 : Nat) : Int)) = false := by decide
          go_wp2_with (first
            | ((with_reducible show wpList _ _ _ (_ :: _) _ _); (with_reducible apply wpl_allocRH row_ofr); (· rfl); (· exact H); (clear H; intro px _ H); (simp only [Act.put, List.setIfInBounds_toArray, List.set_cons_zero, List.set_cons_succ]))
            | go_skip
            | ((with_reducible show wpList _ _ _ (_ :: _) _ _); (with_reducible apply wpl_loadRdR row_ofr); (· rfl); (· rfl); (· exact H.ownRd (List.mem_cons_of_mem _ List.mem_cons_self)); (· first | rfl | exact (Nat.add_zero _).symm | exact (Nat.zero_add _).symm); (· exact hlen); (· decide); (· exact hrow); (simp only [Act.put, List.setIfInBounds_toArray, List.set_cons_zero, List.set_cons_succ]))
            | ((with_reducible show wpList _ _ _ (_ :: _) _ _); (with_reducible apply wpl_storeRH row_ofr); (· rfl); (· rfl); (· rfl); (· with_reducible exact ofr_cells ..); (· exact H); (· (repeat (first | (with_reducible exact List.mem_cons_self) | with_reducible apply List.mem_cons_of_mem))); (· (simp only [ofrA_sz, Nat.reduceAdd, Nat.reduceLeDiff, Nat.le_refl]; done)); (· with_reducible exact ofr_splice ..); (· (repeat (first | (with_reducible exact Repl.here) | with_reducible apply Repl.there))); (clear H; intro _ H); (simp only [Act.put, List.setIfInBounds_toArray, List.set_cons_zero, List.set_cons_succ])))
          have N1 := AnsH.at4 H (next_H (p := p) (v := v) (nx := nx) (by (repeat (first | (with_reducible exact List.mem_cons_self) | with_reducible apply List.mem_cons_of_mem))) (by omega))
          refine wp_region_H H (by kernel_rfl) (by kernel_rfl) ?_
          repeat (first | go_big_quiet_skip | ((with_reducible apply wpQ_loadCH); (· first | exact cell_u64 | exact cell_party | exact cell_cur | exact cell_i64); (· rfl); (· rfl); (· (repeat (first | (with_reducible exact List.mem_cons_self) | with_reducible apply List.mem_cons_of_mem))); (· with_reducible first | exact ofr_g0 .. | exact ofr_g1 .. | exact ofr_g2 .. | exact ofr_g3 .. | exact ofr_g4 ..); (simp only [Act.put, List.setIfInBounds_toArray, List.set_cons_zero, List.set_cons_succ])) | ((with_reducible apply wpQ_loadRH row_rat); (· rfl); (· rfl); (· (repeat (first | (with_reducible exact List.mem_cons_self) | with_reducible apply List.mem_cons_of_mem))); (· (simp only [ofrA_sz, Nat.reduceAdd, Nat.reduceLeDiff, Nat.le_refl]; done)); (· with_reducible exact ofr_rat ..); (simp only [Act.put, List.setIfInBounds_toArray, List.set_cons_zero, List.set_cons_succ])) | go_big_quiet_step ((with_reducible first | exact AnsH.quiet (by assumption) | exact Ans.quietH (by assumption))))
          refine wpQuiet_nil ?_
          clear H
          intro _ H
          clear N1 MY e1 e2 e3 e4 e0 e00
          by_cases hse : x.se = se
          · have f1 : (x.se == se) = true := by simpa using hse
            by_cases hbu : x.bu = bu
            · have f2 : (x.bu == bu) = true := by simpa using hbu
              have HC := Lib.hid (HY.out hse hbu)
              clear hse hbu
              go_wp2_with (first | go_skip | ((with_reducible show wpList _ _ _ (_ :: _) _ _); (with_reducible apply wpl_loadCH); (· first | exact cell_u64 | exact cell_party | exact cell_cur | exact cell_i64); (· rfl); (· rfl); (· exact H); (· (repeat (first | (with_reducible exact List.mem_cons_self) | with_reducible apply List.mem_cons_of_mem))); (· with_reducible first | exact ofr_g0 .. | exact ofr_g1 .. | exact ofr_g2 .. | exact ofr_g3 .. | exact ofr_g4 ..); (simp only [Act.put, List.setIfInBounds_toArray, List.set_cons_zero, List.set_cons_succ])))
              refine ⟨⟨0 + 1, by omega, by go_num, by rw [HC.out]; go_num, H.tail⟩, ?measure0⟩
              case measure0 => simp [intOf]; omega
            · have f2 : (x.bu == bu) = false := by simpa using hbu
              have HC := Lib.hid (HZ.out (fun h => hbu h.2))
              clear hse hbu
              go_wp2_with (first | go_skip | ((with_reducible show wpList _ _ _ (_ :: _) _ _); (with_reducible apply wpl_loadCH); (· first | exact cell_u64 | exact cell_party | exact cell_cur | exact cell_i64); (· rfl); (· rfl); (· exact H); (· (repeat (first | (with_reducible exact List.mem_cons_self) | with_reducible apply List.mem_cons_of_mem))); (· with_reducible first | exact ofr_g0 .. | exact ofr_g1 .. | exact ofr_g2 .. | exact ofr_g3 .. | exact ofr_g4 ..); (simp only [Act.put, List.setIfInBounds_toArray, List.set_cons_zero, List.set_cons_succ])))
              refine ⟨⟨0 + 1, by omega, by go_num, by rw [HC.out], H.tail⟩, ?measure1⟩
              case measure1 => simp [intOf]; omega
          · have f1 : (x.se == se) = false := by simpa using hse
            have HC := Lib.hid (HZ.out (fun h => hse h.1))
            clear hse
            go_wp2_with (first | go_skip | ((with_reducible show wpList _ _ _ (_ :: _) _ _); (with_reducible apply wpl_loadCH); (· first | exact cell_u64 | exact cell_party | exact cell_cur | exact cell_i64); (· rfl); (· rfl); (· exact H); (· (repeat (first | (with_reducible exact List.mem_cons_self) | with_reducible apply List.mem_cons_of_mem))); (· with_reducible first | exact ofr_g0 .. | exact ofr_g1 .. | exact ofr_g2 .. | exact ofr_g3 .. | exact ofr_g4 ..); (simp only [Act.put, List.setIfInBounds_toArray, List.set_cons_zero, List.set_cons_succ])))
            refine ⟨⟨0 + 1, by omega, by go_num, by rw [HC.out], H.tail⟩, ?measure2⟩
            case measure2 => simp [intOf]; omega
        · obtain ⟨j, rfl⟩ : ∃ j, k = j + 1 := ⟨k - 1, by omega⟩
          obtain ⟨y, hy, hys⟩ := HP.out j rfl
          have e0 : decide (((j + 1 : Nat) : Int) > 0) = true := decide_eq_true (by omega)
          have e00 : decide (0 < ((j + 1 : Nat) : Int)) = true := decide_eq_true (by omega)
          have e5 : decide (y.sq ≥ x.sq) = false := decide_eq_false (by omega)
          have e6 : decide (x.sq ≤ y.sq) = false := decide_eq_false (by omega)
          have hsub : wrap64 (((j + 1 : Nat) : Int) - 1) = (j : Int) := by unfold wrap64; omega
          have hjn : j < n := by omega
          have HYY := Lib.hid hy
          clear hy hys
          go_wp2_with (first
            | ((with_reducible show wpList _ _ _ (_ :: _) _ _); (with_reducible apply wpl_allocRH row_ofr); (· rfl); (· exact H); (clear H; intro px _ H); (simp only [Act.put, List.setIfInBounds_toArray, List.set_cons_zero, List.set_cons_succ]))
            | go_skip
            | ((with_reducible show wpList _ _ _ (_ :: _) _ _); (with_reducible apply wpl_loadRdR row_ofr); (· rfl); (· rfl); (· exact H.ownRd (List.mem_cons_of_mem _ List.mem_cons_self)); (· first | rfl | exact (Nat.add_zero _).symm | exact (Nat.zero_add _).symm); (· exact hlen); (· decide); (· exact hrow); (simp only [Act.put, List.setIfInBounds_toArray, List.set_cons_zero, List.set_cons_succ]))
            | ((with_reducible show wpList _ _ _ (_ :: _) _ _); (with_reducible apply wpl_storeRH row_ofr); (· rfl); (· rfl); (· rfl); (· with_reducible exact ofr_cells ..); (· exact H); (· (repeat (first | (with_reducible exact List.mem_cons_self) | with_reducible apply List.mem_cons_of_mem))); (· (simp only [ofrA_sz, Nat.reduceAdd, Nat.reduceLeDiff, Nat.le_refl]; done)); (· with_reducible exact ofr_splice ..); (· (repeat (first | (with_reducible exact Repl.here) | with_reducible apply Repl.there))); (clear H; intro _ H); (simp only [Act.put, List.setIfInBounds_toArray, List.set_cons_zero, List.set_cons_succ])))
          have N1 := AnsH.at4 H (next_H (p := p) (v := v) (nx := nx) (by (repeat (first | (with_reducible exact List.mem_cons_self) | with_reducible apply List.mem_cons_of_mem))) (by omega))
          refine wp_region_H H (by kernel_rfl) (by kernel_rfl) ?_
          repeat (first | go_big_quiet_skip | ((with_reducible apply wpQ_loadCH); (· first | exact cell_u64 | exact cell_party | exact cell_cur | exact cell_i64); (· rfl); (· rfl); (· (repeat (first | (with_reducible exact List.mem_cons_self) | with_reducible apply List.mem_cons_of_mem))); (· with_reducible first | exact ofr_g0 .. | exact ofr_g1 .. | exact ofr_g2 .. | exact ofr_g3 .. | exact ofr_g4 ..); (simp only [Act.put, List.setIfInBounds_toArray, List.set_cons_zero, List.set_cons_succ])) | ((with_reducible apply wpQ_loadRH row_rat); (· rfl); (· rfl); (· (repeat (first | (with_reducible exact List.mem_cons_self) | with_reducible apply List.mem_cons_of_mem))); (· (simp only [ofrA_sz, Nat.reduceAdd, Nat.reduceLeDiff, Nat.le_refl]; done)); (· with_reducible exact ofr_rat ..); (simp only [Act.put, List.setIfInBounds_toArray, List.set_cons_zero, List.set_cons_succ])) | ((with_reducible apply wpQ_loadCell cell_u64); (· rfl); (· rfl); (· intro w' H'; exact rd_ofr (H'.ownRd (List.mem_cons_of_mem _ (List.mem_cons_of_mem _ List.mem_cons_self))) HYY.out (j := 0) rfl); (simp only [Act.put, List.setIfInBounds_toArray, List.set_cons_zero, List.set_cons_succ])) | go_big_quiet_step ((with_reducible first | exact AnsH.quiet (by assumption) | exact Ans.quietH (by assumption))))
          refine wpQuiet_nil ?_
          clear H
          intro _ H
          clear N1 MY e1 e2 e3 e4 e0 e00 e5 e6 hsub
          by_cases hse : x.se = se
          · have f1 : (x.se == se) = true := by simpa using hse
            by_cases hbu : x.bu = bu
            · have f2 : (x.bu == bu) = true := by simpa using hbu
              have HC := Lib.hid (HY.out hse hbu)
              clear hse hbu
              go_wp2_with (first | go_skip | ((with_reducible show wpList _ _ _ (_ :: _) _ _); (with_reducible apply wpl_loadCH); (· first | exact cell_u64 | exact cell_party | exact cell_cur | exact cell_i64); (· rfl); (· rfl); (· exact H); (· (repeat (first | (with_reducible exact List.mem_cons_self) | with_reducible apply List.mem_cons_of_mem))); (· with_reducible first | exact ofr_g0 .. | exact ofr_g1 .. | exact ofr_g2 .. | exact ofr_g3 .. | exact ofr_g4 ..); (simp only [Act.put, List.setIfInBounds_toArray, List.set_cons_zero, List.set_cons_succ])))
              refine ⟨⟨j + 1 + 1, by omega, by go_num, by rw [HC.out]; go_num, H.tail⟩, ?measure3⟩
              case measure3 => simp [intOf]; omega
            · have f2 : (x.bu == bu) = false := by simpa using hbu
              have HC := Lib.hid (HZ.out (fun h => hbu h.2))
              clear hse hbu
              go_wp2_with (first | go_skip | ((with_reducible show wpList _ _ _ (_ :: _) _ _); (with_reducible apply wpl_loadCH); (· first | exact cell_u64 | exact cell_party | exact cell_cur | exact cell_i64); (· rfl); (· rfl); (· exact H); (· (repeat (first | (with_reducible exact List.mem_cons_self) | with_reducible apply List.mem_cons_of_mem))); (· with_reducible first | exact ofr_g0 .. | exact ofr_g1 .. | exact ofr_g2 .. | exact ofr_g3 .. | exact ofr_g4 ..); (simp only [Act.put, List.setIfInBounds_toArray, List.set_cons_zero, List.set_cons_succ])))
              refine ⟨⟨j + 1 + 1, by omega, by go_num, by rw [HC.out], H.tail⟩, ?measure4⟩
              case measure4 => simp [intOf]; omega
          · have f1 : (x.se == se) = false := by simpa using hse
            have HC := Lib.hid (HZ.out (fun h => hse h.1))
            clear hse
            go_wp2_with (first | go_skip | ((with_reducible show wpList _ _ _ (_ :: _) _ _); (with_reducible apply wpl_loadCH); (· first | exact cell_u64 | exact cell_party | exact cell_cur | exact cell_i64); (· rfl); (· rfl); (· exact H); (· (repeat (first | (with_reducible exact List.mem_cons_self) | with_reducible apply List.mem_cons_of_mem))); (· with_reducible first | exact ofr_g0 .. | exact ofr_g1 .. | exact ofr_g2 .. | exact ofr_g3 .. | exact ofr_g4 ..); (simp only [Act.put, List.setIfInBounds_toArray, List.set_cons_zero, List.set_cons_succ])))
            refine ⟨⟨j + 1 + 1, by omega, by go_num, by rw [HC.out], H.tail⟩, ?measure5⟩
            case measure5 => simp [intOf]; omega
      · obtain rfl : k = n := by omega
        have hcnt : (((L.take k).filter (ofC se bu)).length : Int) = (m : Int) := by
          rw [List.take_of_length_le (by rw [HN.out.1]; exact Nat.le_refl _), HN.out.2.2]
        rw [hcnt]
        clear hcnt
        have g1 : decide ((k : Int) > 32) = false := decide_eq_false (by omega)
        have g2 : decide (32 < (k : Int)) = false := decide_eq_false (by omega)
        go_wp2_with (go_skip)
        have H0 := H
        clear H
        go_loopw [13] (fun i wr => Best4B w [OwO (.slice a3 m c3) m S, OwO (.slice a2 k c2) k L, BkB p v nx, OfT v k L] m i wr) (fun i _ => m - (intOf i).toNat)
        case atStart => exact ⟨0, Nat.zero_le _, rfl, H0⟩
        case round =>
          obtain ⟨i, hi, rfl, H⟩ := hrel.out
          clear H0 hrel
          by_cases hlt2 : i < m
          · have hiS : i < S.length := by rw [HN.out.2.1]; exact hlt2
            have hx : S[i]? = some S[i] := List.getElem?_eq_getElem hiS
            have hrow := ofrL_get S i hiS
            have hlen : i * 7 + 7 ≤ (ofrL S).length := by rw [ofrL_len]; omega
            obtain ⟨hmem, hse, hbu⟩ := HSL.out S[i] (List.getElem_mem hiS)
            have hmx := (mayO_iff.1 (HOK.out.1 _ hmem).1).2.2.2.2.2
            have hprev : ∀ j, i = j + 1 → ∃ y, S[j]? = some y ∧ ltO y S[i] ∧ mayB y.nu y.de = true := fun j e => by
              have hj : j < S.length := by omega
              exact ⟨S[j], List.getElem?_eq_getElem hj, List.pairwise_iff_getElem.1 HS.out.1 j i hj hiS (by omega), (mayO_iff.1 (HOK.out.1 _ (HSL.out S[j] (List.getElem_mem hj)).1).1).2.2.2.2.2⟩
            have HP := Lib.hid hprev
            have HX := Lib.hid hx
            have F1 := find_H (W := w) (l := [OwO (.slice a3 m c3) m S, OwO (.slice a2 k c2) k L, BkB p v nx, OfT v k L]) (p := p) (v := v) (nx := nx) (L := L) (n := k) S[i].sq (by (repeat (first | (with_reducible exact List.mem_cons_self) | with_reducible apply List.mem_cons_of_mem))) (by (repeat (first | (with_reducible exact List.mem_cons_self) | with_reducible apply List.mem_cons_of_mem))) (by omega) HN.out.1 (by omega)
            rw [findV_some (HOK.out.2.2 _ hmem)] at F1
            clear hx hprev
            generalize S[i] = x at *
            have f1 : (x.se != se) = false := by simp [hse]
            have f2 : (x.bu != bu) = false := by simp [hbu]
            have HMX := Lib.hid (⟨hmem, hse, hbu, hmx⟩ : _ ∧ _ ∧ _ ∧ _)
            clear hmem hse hbu hmx
            obtain ⟨ba, oa, rfl, _⟩ := (H.ownRd List.mem_cons_self).lt (by omega)
            rcases Nat.eq_zero_or_pos i with hi0 | hi0
            · obtain rfl : i = 0 := hi0
              have e0 : decide (((0 : Nat) : Int) > 0) = false := by decide
              have e00 : decide (0 < ((0 : Nat) : Int)) = false := by decide
              go_wp2_with (first
                | ((with_reducible show wpList _ _ _ (_ :: _) _ _); (with_reducible apply wpl_allocRH row_ofr); (· rfl); (· exact H); (clear H; intro px _ H); (simp only [Act.put, List.setIfInBounds_toArray, List.set_cons_zero, List.set_cons_succ]))
                | go_skip
                | ((with_reducible refine AnsH.call (by assumption) H ?_); clear H; intro _ H)
                | ((with_reducible show wpList _ _ _ (_ :: _) _ _); (with_reducible apply wpl_loadCell cell_u64); (· rfl); (· rfl); (· exact rd_ofr (H.ownRd List.mem_cons_self) HX.out (j := 0) rfl); (simp only [Act.put, List.setIfInBounds_toArray, List.set_cons_zero, List.set_cons_succ]))
                | ((with_reducible show wpList _ _ _ (_ :: _) _ _); (with_reducible apply wpl_storeRH row_ofr); (· rfl); (· rfl); (· rfl); (· with_reducible exact ofr_cells ..); (· exact H); (· (repeat (first | (with_reducible exact List.mem_cons_self) | with_reducible apply List.mem_cons_of_mem))); (· (simp only [ofrA_sz, Nat.reduceAdd, Nat.reduceLeDiff, Nat.le_refl]; done)); (· with_reducible exact ofr_splice ..); (· (repeat (first | (with_reducible exact Repl.here) | with_reducible apply Repl.there))); (clear H; intro _ H); (simp only [Act.put, List.setIfInBounds_toArray, List.set_cons_zero, List.set_cons_succ])))
              refine wp_region_H H (by kernel_rfl) (by kernel_rfl) ?_
              repeat (first | go_big_quiet_skip | ((with_reducible apply wpQ_loadRH row_ofr); (· rfl); (· rfl); (· (repeat (first | (with_reducible exact List.mem_cons_self) | with_reducible apply List.mem_cons_of_mem))); (· (simp only [ofrA_sz, Nat.reduceAdd, Nat.reduceLeDiff, Nat.le_refl]; done)); (· with_reducible exact ofrA_all ..); (simp only [Act.put, List.setIfInBounds_toArray, List.set_cons_zero, List.set_cons_succ])) | ((with_reducible apply wpQ_loadRdR row_ofr); (· rfl); (· rfl); (· intro w' H'; exact H'.ownRd (List.mem_cons_of_mem _ List.mem_cons_self)); (· first | rfl | exact (Nat.add_zero _).symm); (· exact hlen); (· decide); (· exact hrow); (simp only [Act.put, List.setIfInBounds_toArray, List.set_cons_zero, List.set_cons_succ])) | ((with_reducible apply wpQ_neqO); (· rfl); (· rfl); (· rfl); (simp only [Act.put, List.setIfInBounds_toArray, List.set_cons_zero, List.set_cons_succ])) | ((with_reducible apply wpQ_loadCH); (· first | exact cell_u64 | exact cell_party | exact cell_cur | exact cell_i64); (· rfl); (· rfl); (· (repeat (first | (with_reducible exact List.mem_cons_self) | with_reducible apply List.mem_cons_of_mem))); (· with_reducible first | exact ofr_g0 .. | exact ofr_g1 .. | exact ofr_g2 .. | exact ofr_g3 .. | exact ofr_g4 ..); (simp only [Act.put, List.setIfInBounds_toArray, List.set_cons_zero, List.set_cons_succ])) | go_big_quiet_step (fail))
              refine wpQuiet_nil ?_
              clear H
              intro _ H
              go_wp2_with (go_skip)
              refine ⟨⟨0 + 1, by omega, by go_num, H.tail⟩, ?measure90⟩
              case measure90 => simp [intOf]; omega
            · obtain ⟨j, rfl⟩ : ∃ j, i = j + 1 := ⟨i - 1, by omega⟩
              obtain ⟨y, hy, hlt3, hmy⟩ := HP.out j rfl
              have e0 : decide (((j + 1 : Nat) : Int) > 0) = true := decide_eq_true (by omega)
              have e00 : decide (0 < ((j + 1 : Nat) : Int)) = true := decide_eq_true (by omega)
              have hsub : wrap64 (((j + 1 : Nat) : Int) - 1) = (j : Int) := by unfold wrap64; omega
              have hjn : j < m := by omega
              have hrat := ofrL_rat hy
              have hlen2 : j * 7 + 5 + 2 ≤ (ofrL S).length := by omega
              have fx := may_facts HMX.out.2.2.2
              have fy := may_facts hmy
              have C1 : Ans 57 #[.agg #[.int .i64 y.nu, .int .i64 y.de], .agg #[.int .i64 x.nu, .int .i64 x.de]] (.int .i64 (cmpO y x)) := fun w => (rcompare_any y.nu y.de x.nu x.de w ⟨by omega, by omega, by omega, by omega⟩ ⟨by omega, by omega, by omega, by omega⟩).mono fun _ _ ⟨he, hb⟩ => ⟨he, hb.toBelow⟩
              unfold ltO at hlt3
              have HYY := Lib.hid hy
              clear hy fx fy hmy
              generalize cmpO y x = c at *
              have g3 : decide (c > 0) = false := decide_eq_false (by omega)
              have g4 : decide (0 < c) = false := decide_eq_false (by omega)
              go_wp2_with (first
                | ((with_reducible show wpList _ _ _ (_ :: _) _ _); (with_reducible apply wpl_allocRH row_ofr); (· rfl); (· exact H); (clear H; intro px _ H); (simp only [Act.put, List.setIfInBounds_toArray, List.set_cons_zero, List.set_cons_succ]))
                | go_skip
                | ((with_reducible refine AnsH.call (by assumption) H ?_); clear H; intro _ H)
                | ((with_reducible show wpList _ _ _ (_ :: _) _ _); (with_reducible apply wpl_loadCell cell_u64); (· rfl); (· rfl); (· exact rd_ofr (H.ownRd List.mem_cons_self) HX.out (j := 0) rfl); (simp only [Act.put, List.setIfInBounds_toArray, List.set_cons_zero, List.set_cons_succ]))
                | ((with_reducible show wpList _ _ _ (_ :: _) _ _); (with_reducible apply wpl_storeRH row_ofr); (· rfl); (· rfl); (· rfl); (· with_reducible exact ofr_cells ..); (· exact H); (· (repeat (first | (with_reducible exact List.mem_cons_self) | with_reducible apply List.mem_cons_of_mem))); (· (simp only [ofrA_sz, Nat.reduceAdd, Nat.reduceLeDiff, Nat.le_refl]; done)); (· with_reducible exact ofr_splice ..); (· (repeat (first | (with_reducible exact Repl.here) | with_reducible apply Repl.there))); (clear H; intro _ H); (simp only [Act.put, List.setIfInBounds_toArray, List.set_cons_zero, List.set_cons_succ])))
              refine wp_region_H H (by kernel_rfl) (by kernel_rfl) ?_
              repeat (first | go_big_quiet_skip | ((with_reducible apply wpQ_loadRH row_ofr); (· rfl); (· rfl); (· (repeat (first | (with_reducible exact List.mem_cons_self) | with_reducible apply List.mem_cons_of_mem))); (· (simp only [ofrA_sz, Nat.reduceAdd, Nat.reduceLeDiff, Nat.le_refl]; done)); (· with_reducible exact ofrA_all ..); (simp only [Act.put, List.setIfInBounds_toArray, List.set_cons_zero, List.set_cons_succ])) | ((with_reducible apply wpQ_loadRdR row_ofr); (· rfl); (· rfl); (· intro w' H'; exact H'.ownRd (List.mem_cons_of_mem _ List.mem_cons_self)); (· first | rfl | exact (Nat.add_zero _).symm); (· exact hlen); (· decide); (· exact hrow); (simp only [Act.put, List.setIfInBounds_toArray, List.set_cons_zero, List.set_cons_succ])) | ((with_reducible apply wpQ_neqO); (· rfl); (· rfl); (· rfl); (simp only [Act.put, List.setIfInBounds_toArray, List.set_cons_zero, List.set_cons_succ])) | ((with_reducible apply wpQ_loadCH); (· first | exact cell_u64 | exact cell_party | exact cell_cur | exact cell_i64); (· rfl); (· rfl); (· (repeat (first | (with_reducible exact List.mem_cons_self) | with_reducible apply List.mem_cons_of_mem))); (· with_reducible first | exact ofr_g0 .. | exact ofr_g1 .. | exact ofr_g2 .. | exact ofr_g3 .. | exact ofr_g4 ..); (simp only [Act.put, List.setIfInBounds_toArray, List.set_cons_zero, List.set_cons_succ])) | go_big_quiet_step (fail))
              refine wpQuiet_nil ?_
              clear H
              intro _ H
              go_wp2_with (go_skip)
              refine wp_region_H H (by kernel_rfl) (by kernel_rfl) ?_
              repeat (first | go_big_quiet_skip | ((with_reducible apply wpQ_loadRH row_rat); (· rfl); (· rfl); (· (repeat (first | (with_reducible exact List.mem_cons_self) | with_reducible apply List.mem_cons_of_mem))); (· (simp only [ofrA_sz, Nat.reduceAdd, Nat.reduceLeDiff, Nat.le_refl]; done)); (· with_reducible exact ofr_rat ..); (simp only [Act.put, List.setIfInBounds_toArray, List.set_cons_zero, List.set_cons_succ])) | ((with_reducible apply wpQ_loadRdR row_rat); (· rfl); (· rfl); (· intro w' H'; exact H'.ownRd (List.mem_cons_of_mem _ List.mem_cons_self)); (· exact Nat.add_assoc _ _ _); (· exact hlen2); (· decide); (· exact hrat); (simp only [Act.put, List.setIfInBounds_toArray, List.set_cons_zero, List.set_cons_succ])) | go_big_quiet_step ((with_reducible first | exact AnsH.quiet (by assumption) | exact Ans.quietH (by assumption))))
              refine wpQuiet_nil ?_
              clear H
              intro _ H
              by_cases hc0 : c = 0
              · have g5 : (c == 0) = true := by simpa using hc0
                have g6 : decide (y.sq ≥ x.sq) = false := decide_eq_false (by omega)
                have g7 : decide (x.sq ≤ y.sq) = false := decide_eq_false (by omega)
                clear hc0 hlt3
                go_wp2_with (go_skip)
                refine wp_region_H H (by kernel_rfl) (by kernel_rfl) ?_
                repeat (first | go_big_quiet_skip | ((with_reducible apply wpQ_loadCH); (· first | exact cell_u64 | exact cell_party | exact cell_cur | exact cell_i64); (· rfl); (· rfl); (· (repeat (first | (with_reducible exact List.mem_cons_self) | with_reducible apply List.mem_cons_of_mem))); (· with_reducible first | exact ofr_g0 .. | exact ofr_g1 .. | exact ofr_g2 .. | exact ofr_g3 .. | exact ofr_g4 ..); (simp only [Act.put, List.setIfInBounds_toArray, List.set_cons_zero, List.set_cons_succ])) | ((with_reducible apply wpQ_loadCell cell_u64); (· rfl); (· rfl); (· intro w' H'; exact rd_ofr (H'.ownRd (List.mem_cons_of_mem _ List.mem_cons_self)) HYY.out (j := 0) rfl); (simp only [Act.put, List.setIfInBounds_toArray, List.set_cons_zero, List.set_cons_succ])) | go_big_quiet_step (fail))
                refine wpQuiet_nil ?_
                clear H
                intro _ H
                go_wp2_with (go_skip)
                refine ⟨⟨j + 1 + 1, by omega, by go_num, H.tail⟩, ?measure91⟩
                case measure91 => simp [intOf]; omega
              · have g5 : (c == 0) = false := by simpa using hc0
                clear hc0 hlt3
                go_wp2_with (go_skip)
                refine wp_region_H H (by kernel_rfl) (by kernel_rfl) ?_
                repeat (first | go_big_quiet_skip | ((with_reducible apply wpQ_loadCH); (· first | exact cell_u64 | exact cell_party | exact cell_cur | exact cell_i64); (· rfl); (· rfl); (· (repeat (first | (with_reducible exact List.mem_cons_self) | with_reducible apply List.mem_cons_of_mem))); (· with_reducible first | exact ofr_g0 .. | exact ofr_g1 .. | exact ofr_g2 .. | exact ofr_g3 .. | exact ofr_g4 ..); (simp only [Act.put, List.setIfInBounds_toArray, List.set_cons_zero, List.set_cons_succ])) | ((with_reducible apply wpQ_loadCell cell_u64); (· rfl); (· rfl); (· intro w' H'; exact rd_ofr (H'.ownRd (List.mem_cons_of_mem _ List.mem_cons_self)) HYY.out (j := 0) rfl); (simp only [Act.put, List.setIfInBounds_toArray, List.set_cons_zero, List.set_cons_succ])) | go_big_quiet_step (fail))
                refine wpQuiet_nil ?_
                clear H
                intro _ H
                go_wp2_with (go_skip)
                refine ⟨⟨j + 1 + 1, by omega, by go_num, H.tail⟩, ?measure92⟩
                case measure92 => simp [intOf]; omega
          · obtain rfl : i = m := by omega
            go_wp2_with (go_skip)
            refine (lives04_H H).mono ?_
            clear H
            rintro e w9 ⟨rfl, H⟩
            go_wp2_with (go_skip)
            go_ret
            exact ⟨rfl, H.low⟩
  · have d1 : decide ((n0 : Int) > 120) = true := decide_eq_true (by omega)
    have d2 : decide (120 < (n0 : Int)) = true := decide_eq_true (by omega)
    go_enter Try.func9, Try.ntmps9
    go_wp2_with (go_skip)
    refine (lives04_H H).mono ?_
    clear H
    rintro e w3 ⟨rfl, H⟩
    go_wp2_with (go_skip)
    go_ret
    exact ⟨rfl, H.low⟩
theorem booksBest_lawI (v0 : Value) (se bu : Int) (w : World) (o0 : OActsV w v0) : Calls Try.prog 9 #[v0, .int .u8 se, .int .u8 bu] w fun e w' => e = .returned (.bool true) ∧ Below w.heap.size w w' := by
  obtain ⟨a, n, c, F, rfl, A⟩ := o0
  exact booksBest_walk a n c F se bu A.len A.ok A.rd
end
end Go.Proofs.Ytacglcpjbepfnaa
