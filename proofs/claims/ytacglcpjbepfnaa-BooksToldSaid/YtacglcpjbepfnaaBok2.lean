/- books: offers and books in memory; there, currency, may. -/
import Derived.Test.YtacglcpjbepfnaaMarkO
import Derived.Test.YtacglcpjbepfnaaCells
namespace Go.Proofs.Ytacglcpjbepfnaa
open Go.RowKit
set_option linter.unusedSimpArgs false
set_option linter.unusedVariables false
set_option maxRecDepth 100000
structure OfrOk (o : Ofr) : Prop where
  sq : 0 ≤ o.sq ∧ o.sq ≤ 18446744073709551615
  ow : 0 ≤ o.ow ∧ o.ow ≤ 255
  se : 0 ≤ o.se ∧ o.se ≤ 255
  bu : 0 ≤ o.bu ∧ o.bu ≤ 255
  le : -9223372036854775808 ≤ o.le ∧ o.le ≤ 9223372036854775807
  nu : -9223372036854775808 ≤ o.nu ∧ o.nu ≤ 9223372036854775807
  de : -9223372036854775808 ≤ o.de ∧ o.de ≤ 9223372036854775807
theorem ofr_g0 (r : Ofr) : (ofrA r)[0]? = some (.int .u64 r.sq) := rfl
theorem ofr_g1 (r : Ofr) : (ofrA r)[1]? = some (.int .u8 r.ow) := rfl
theorem ofr_g2 (r : Ofr) : (ofrA r)[2]? = some (.int .u8 r.se) := rfl
theorem ofr_g3 (r : Ofr) : (ofrA r)[3]? = some (.int .u8 r.bu) := rfl
theorem ofr_g4 (r : Ofr) : (ofrA r)[4]? = some (.int .i64 r.le) := rfl
theorem ofr_rat (r : Ofr) : (ofrA r).extract 5 (5 + 2) = #[.int .i64 r.nu, .int .i64 r.de] := by simp [ofrA, ofrV]
theorem row_rat : RowTy 81 2 #[.int .i64 0, .int .i64 0] := ⟨⟨_, Try.underlying81, rfl⟩, by kernel_rfl, by kernel_rfl⟩
theorem cell_u64 : CellTy 79 := ⟨⟨_, Try.underlying79, rfl⟩, by kernel_rfl⟩
theorem cell_cur : CellTy 24 := ⟨⟨_, Try.underlying24, rfl⟩, by kernel_rfl⟩
theorem cell_ofrs : CellTy 76 := ⟨⟨_, Try.underlying76, rfl⟩, by kernel_rfl⟩
theorem cell_book : CellTy 74 := ⟨⟨_, Try.underlying74, rfl⟩, by kernel_rfl⟩
abbrev bkb (l : Value) (nx : Int) : Array Value := #[l, .int .u64 nx]
section
variable (l : Value) (nx : Int)
theorem bkb_sz : (bkb l nx).size = 2 := rfl
theorem bkb_g0 : (bkb l nx)[0]? = some (l) := rfl
theorem bkb_s0 (v : Value) : (bkb l nx).setIfInBounds 0 (v) = bkb v nx := rfl
theorem bkb_g1 : (bkb l nx)[1]? = some (.int .u64 nx) := rfl
theorem bkb_s1 (v : Int) : (bkb l nx).setIfInBounds 1 (.int .u64 v) = bkb l v := rfl
end
theorem row_bkb : RowTy 99 2 (bkb (.slice none 0 0) 0) := ⟨⟨_, Try.underlying99, rfl⟩, by kernel_rfl, by kernel_rfl⟩
theorem bkb_cells (a : Option Addr) (n c : Nat) (nx : Int) : Cells 2 (bkb (.slice a n c) nx) := ⟨rfl, by simp [Value.oneCell']⟩
theorem bkb_splice (v : Value) (x : Int) (a : Option Addr) (n c : Nat) (nx : Int) : splice (bkb v x) 0 (bkb (.slice a n c) nx) = bkb (.slice a n c) nx := splice_all rfl
/-- A book's block. -/
abbrev BkB (p : Nat) (v : Value) (nx : Int) : Thing := Cel p (bkb v nx) 99
/-- Offers in a row of one's own. -/
abbrev OfT (v : Value) (n : Nat) (L : List Ofr) : Thing := RowT 83 7 v n (ofrL L)
theorem mayO_no {o : Ofr} (h : ¬ ((1 ≤ o.ow ∧ o.ow ≤ 16) ∧ (1 ≤ o.se ∧ o.se ≤ 8) ∧ (1 ≤ o.bu ∧ o.bu ≤ 8) ∧ o.se ≠ o.bu ∧ (1 ≤ o.le ∧ o.le ≤ 1099511627776))) : mayO o = false := by
  rw [Bool.eq_false_iff]
  intro h2
  obtain ⟨h3, h4, h5, h6, h7, _⟩ := mayO_iff.1 h2
  exact h ⟨h3, h4, h5, h6, h7⟩
theorem mayO_rat {o : Ofr} (h : (1 ≤ o.ow ∧ o.ow ≤ 16) ∧ (1 ≤ o.se ∧ o.se ≤ 8) ∧ (1 ≤ o.bu ∧ o.bu ≤ 8) ∧ o.se ≠ o.bu ∧ (1 ≤ o.le ∧ o.le ≤ 1099511627776)) : mayO o = mayB o.nu o.de := by
  cases hb : mayB o.nu o.de with
  | true => exact mayO_iff.2 ⟨h.1, h.2.1, h.2.2.1, h.2.2.2.1, h.2.2.2.2, hb⟩
  | false =>
    rw [Bool.eq_false_iff]
    intro h2
    rw [(mayO_iff.1 h2).2.2.2.2.2] at hb
    cases hb
theorem bcur (c : Int) : Ans 128 #[.int .u8 c] (.bool (mayC c)) := by
  intro w
  unfold mayC
  by_cases h1 : 1 ≤ c
  · by_cases h2 : c ≤ 8
    all_goals
      go_enter Try.func128, Try.ntmps128
      go_wp2_with fail
      go_ret
      exact ⟨by simp [h1, h2]; try omega, (by repeat (first | exact Ext.refl _ | refine Ext.alloc ?_ _ | refine Ext.ext ?_ _ | refine Ext.drew ?_))⟩
  · go_enter Try.func128, Try.ntmps128
    go_wp2_with fail
    go_ret
    exact ⟨by simp [h1]; try omega, (by repeat (first | exact Ext.refl _ | refine Ext.alloc ?_ _ | refine Ext.ext ?_ _ | refine Ext.drew ?_))⟩
theorem bcur_yes {c : Int} (h : 1 ≤ c ∧ c ≤ 8) : Ans 128 #[.int .u8 c] (.bool true) := by
  have := bcur c
  rwa [show mayC c = true by simp [mayC, h.1, h.2]] at this
theorem bcur_no {c : Int} (h : ¬ (1 ≤ c ∧ c ≤ 8)) : Ans 128 #[.int .u8 c] (.bool false) := by
  have := bcur c
  rwa [show mayC c = false by rw [Bool.eq_false_iff]; intro h2; simp [mayC] at h2; exact h h2] at this
theorem rmay_ext (n d : Int) (h : In64p n d) : Ans 55 #[.agg #[.int .i64 n, .int .i64 d]] (.bool (mayB n d)) := fun w => (may_any n d w h.1 h.2.1 h.2.2.1 h.2.2.2).mono fun _ _ ⟨he, hb⟩ => ⟨he, hb.toBelow⟩
section
variable {W w : World} {l : List Thing} {p : Nat} {v : Value} {nx : Int}
set_option maxHeartbeats 4000000
theorem bthere_yes (m : BkB p v nx ∈ l) (h : 0 < nx) : AnsH W l 99 #[.pointer (some ⟨p, 0, none⟩)] (.bool true) := by
  intro w H
  have d1 : decide (nx > 0) = true := decide_eq_true h
  have d2 : decide (0 < nx) = true := decide_eq_true h
  clear h
  go_enter Try.func99, Try.ntmps99
  go_wp2_with (first | go_skip | ((with_reducible show wpList _ _ _ (_ :: _) _ _); (with_reducible apply wpl_loadCH); (· exact cell_u64); (· rfl); (· rfl); (· exact H); (· exact m); (· exact bkb_g1 ..); (simp only [Act.put, List.setIfInBounds_toArray, List.set_cons_zero, List.set_cons_succ])))
  go_ret
  exact ⟨rfl, H⟩
theorem bthere_zero (m : BkB p v 0 ∈ l) : AnsH W l 99 #[.pointer (some ⟨p, 0, none⟩)] (.bool false) := by
  intro w H
  go_enter Try.func99, Try.ntmps99
  go_wp2_with (first | go_skip | ((with_reducible show wpList _ _ _ (_ :: _) _ _); (with_reducible apply wpl_loadCH); (· exact cell_u64); (· rfl); (· rfl); (· exact H); (· exact m); (· exact bkb_g1 ..); (simp only [Act.put, List.setIfInBounds_toArray, List.set_cons_zero, List.set_cons_succ])))
  go_ret
  exact ⟨rfl, H⟩
theorem bthere_nil : Ans 99 #[.pointer none] (.bool false) := by
  intro w
  go_enter Try.func99, Try.ntmps99
  go_wp2_with fail
  go_ret
  exact ⟨rfl, (by repeat (first | exact Ext.refl _ | refine Ext.alloc ?_ _ | refine Ext.ext ?_ _ | refine Ext.drew ?_))⟩
theorem bmay_H (o : Ofr) (hk : OfrOk o) : AnsH W l 110 #[.agg (ofrA o)] (.bool (mayO o)) := by
  intro w H
  obtain ⟨k0, k1, k2, k3, k4, k5, k6⟩ := hk
  by_cases h1 : o.ow < 1
  · rw [mayO_no (by omega)]
    have d1 : decide (o.ow < 1) = true := decide_eq_true h1
    go_enter Try.func110, Try.ntmps110
    go_wp2_with (first | go_skip | ((with_reducible show wpList _ _ _ (_ :: _) _ _); (with_reducible apply wpl_boxRH); (· rfl); (· rfl); (· exact H); (clear H; intro px _ H); (simp only [Act.put, List.setIfInBounds_toArray, List.set_cons_zero, List.set_cons_succ])) | ((with_reducible show wpList _ _ _ (_ :: _) _ _); (with_reducible apply wpl_loadCH); (· first | exact cell_u64 | exact cell_party | exact cell_cur | exact cell_i64); (· rfl); (· rfl); (· exact H); (· (repeat (first | (with_reducible exact List.mem_cons_self) | with_reducible apply List.mem_cons_of_mem))); (· with_reducible first | exact ofr_g0 .. | exact ofr_g1 .. | exact ofr_g2 .. | exact ofr_g3 .. | exact ofr_g4 ..); (simp only [Act.put, List.setIfInBounds_toArray, List.set_cons_zero, List.set_cons_succ])))
    go_ret
    exact ⟨rfl, H.tail⟩
  · have d1 : decide (o.ow < 1) = false := decide_eq_false h1
    by_cases h2 : 16 < o.ow
    · rw [mayO_no (by omega)]
      have d2 : decide (o.ow > 16) = true := decide_eq_true h2
      have d2' : decide (16 < o.ow) = true := decide_eq_true h2
      go_enter Try.func110, Try.ntmps110
      go_wp2_with (first | go_skip | ((with_reducible show wpList _ _ _ (_ :: _) _ _); (with_reducible apply wpl_boxRH); (· rfl); (· rfl); (· exact H); (clear H; intro px _ H); (simp only [Act.put, List.setIfInBounds_toArray, List.set_cons_zero, List.set_cons_succ])) | ((with_reducible show wpList _ _ _ (_ :: _) _ _); (with_reducible apply wpl_loadCH); (· first | exact cell_u64 | exact cell_party | exact cell_cur | exact cell_i64); (· rfl); (· rfl); (· exact H); (· (repeat (first | (with_reducible exact List.mem_cons_self) | with_reducible apply List.mem_cons_of_mem))); (· with_reducible first | exact ofr_g0 .. | exact ofr_g1 .. | exact ofr_g2 .. | exact ofr_g3 .. | exact ofr_g4 ..); (simp only [Act.put, List.setIfInBounds_toArray, List.set_cons_zero, List.set_cons_succ])))
      go_ret
      exact ⟨rfl, H.tail⟩
    · have d2 : decide (o.ow > 16) = false := decide_eq_false h2
      have d2' : decide (16 < o.ow) = false := decide_eq_false h2
      by_cases h3 : 1 ≤ o.se ∧ o.se ≤ 8
      · have c3 := bcur_yes h3
        by_cases h4 : 1 ≤ o.bu ∧ o.bu ≤ 8
        · have c4 := bcur_yes h4
          by_cases h5 : o.se = o.bu
          · rw [mayO_no (by omega)]
            have d5 : (o.se == o.bu) = true := by simpa using h5
            clear h5 h3 h4
            go_enter Try.func110, Try.ntmps110
            go_wp2_with (first | go_skip | ((with_reducible show wpList _ _ _ (_ :: _) _ _); (with_reducible apply wpl_boxRH); (· rfl); (· rfl); (· exact H); (clear H; intro px _ H); (simp only [Act.put, List.setIfInBounds_toArray, List.set_cons_zero, List.set_cons_succ])) | ((with_reducible refine Ans.callH (by assumption) H ?_); clear H; intro _ H) | ((with_reducible show wpList _ _ _ (_ :: _) _ _); (with_reducible apply wpl_loadCH); (· first | exact cell_u64 | exact cell_party | exact cell_cur | exact cell_i64); (· rfl); (· rfl); (· exact H); (· (repeat (first | (with_reducible exact List.mem_cons_self) | with_reducible apply List.mem_cons_of_mem))); (· with_reducible first | exact ofr_g0 .. | exact ofr_g1 .. | exact ofr_g2 .. | exact ofr_g3 .. | exact ofr_g4 ..); (simp only [Act.put, List.setIfInBounds_toArray, List.set_cons_zero, List.set_cons_succ])))
            go_ret
            exact ⟨rfl, H.tail⟩
          · have d5 : (o.se == o.bu) = false := by simpa using h5
            by_cases h6 : 1 ≤ o.le
            · have d6 : decide (o.le ≥ 1) = true := decide_eq_true h6
              have d6' : decide (1 ≤ o.le) = true := decide_eq_true h6
              by_cases h7 : o.le ≤ 1099511627776
              · rw [mayO_rat ⟨by omega, h3, h4, h5, h6, h7⟩]
                have d7 : decide (o.le ≤ 1099511627776) = true := decide_eq_true h7
                have c8 := rmay_ext o.nu o.de ⟨k5.1, k5.2, k6.1, k6.2⟩
                clear h3 h4 h5 h6 h7
                go_enter Try.func110, Try.ntmps110
                go_wp2_with (first | go_skip | ((with_reducible show wpList _ _ _ (_ :: _) _ _); (with_reducible apply wpl_boxRH); (· rfl); (· rfl); (· exact H); (clear H; intro px _ H); (simp only [Act.put, List.setIfInBounds_toArray, List.set_cons_zero, List.set_cons_succ])) | ((with_reducible refine Ans.callH (by assumption) H ?_); clear H; intro _ H) | ((with_reducible show wpList _ _ _ (_ :: _) _ _); (with_reducible apply wpl_loadCH); (· first | exact cell_u64 | exact cell_party | exact cell_cur | exact cell_i64); (· rfl); (· rfl); (· exact H); (· (repeat (first | (with_reducible exact List.mem_cons_self) | with_reducible apply List.mem_cons_of_mem))); (· with_reducible first | exact ofr_g0 .. | exact ofr_g1 .. | exact ofr_g2 .. | exact ofr_g3 .. | exact ofr_g4 ..); (simp only [Act.put, List.setIfInBounds_toArray, List.set_cons_zero, List.set_cons_succ])) | ((with_reducible show wpList _ _ _ (_ :: _) _ _); (with_reducible apply wpl_loadRH row_rat); (· rfl); (· rfl); (· exact H); (· (repeat (first | (with_reducible exact List.mem_cons_self) | with_reducible apply List.mem_cons_of_mem))); (· (simp only [ofrA_sz, Nat.reduceAdd, Nat.reduceLeDiff, Nat.le_refl]; done)); (· with_reducible exact ofr_rat ..); (simp only [Act.put, List.setIfInBounds_toArray, List.set_cons_zero, List.set_cons_succ])))
                go_ret
                exact ⟨rfl, H.tail⟩
              · rw [mayO_no (by omega)]
                have d7 : decide (o.le ≤ 1099511627776) = false := decide_eq_false h7
                clear h3 h4 h5 h6 h7
                go_enter Try.func110, Try.ntmps110
                go_wp2_with (first | go_skip | ((with_reducible show wpList _ _ _ (_ :: _) _ _); (with_reducible apply wpl_boxRH); (· rfl); (· rfl); (· exact H); (clear H; intro px _ H); (simp only [Act.put, List.setIfInBounds_toArray, List.set_cons_zero, List.set_cons_succ])) | ((with_reducible refine Ans.callH (by assumption) H ?_); clear H; intro _ H) | ((with_reducible show wpList _ _ _ (_ :: _) _ _); (with_reducible apply wpl_loadCH); (· first | exact cell_u64 | exact cell_party | exact cell_cur | exact cell_i64); (· rfl); (· rfl); (· exact H); (· (repeat (first | (with_reducible exact List.mem_cons_self) | with_reducible apply List.mem_cons_of_mem))); (· with_reducible first | exact ofr_g0 .. | exact ofr_g1 .. | exact ofr_g2 .. | exact ofr_g3 .. | exact ofr_g4 ..); (simp only [Act.put, List.setIfInBounds_toArray, List.set_cons_zero, List.set_cons_succ])))
                go_ret
                exact ⟨rfl, H.tail⟩
            · rw [mayO_no (by omega)]
              have d6 : decide (o.le ≥ 1) = false := decide_eq_false h6
              have d6' : decide (1 ≤ o.le) = false := decide_eq_false h6
              clear h3 h4 h5 h6
              go_enter Try.func110, Try.ntmps110
              go_wp2_with (first | go_skip | ((with_reducible show wpList _ _ _ (_ :: _) _ _); (with_reducible apply wpl_boxRH); (· rfl); (· rfl); (· exact H); (clear H; intro px _ H); (simp only [Act.put, List.setIfInBounds_toArray, List.set_cons_zero, List.set_cons_succ])) | ((with_reducible refine Ans.callH (by assumption) H ?_); clear H; intro _ H) | ((with_reducible show wpList _ _ _ (_ :: _) _ _); (with_reducible apply wpl_loadCH); (· first | exact cell_u64 | exact cell_party | exact cell_cur | exact cell_i64); (· rfl); (· rfl); (· exact H); (· (repeat (first | (with_reducible exact List.mem_cons_self) | with_reducible apply List.mem_cons_of_mem))); (· with_reducible first | exact ofr_g0 .. | exact ofr_g1 .. | exact ofr_g2 .. | exact ofr_g3 .. | exact ofr_g4 ..); (simp only [Act.put, List.setIfInBounds_toArray, List.set_cons_zero, List.set_cons_succ])))
              go_ret
              exact ⟨rfl, H.tail⟩
        · rw [mayO_no (by omega)]
          have c4 := bcur_no h4
          clear h3 h4
          go_enter Try.func110, Try.ntmps110
          go_wp2_with (first | go_skip | ((with_reducible show wpList _ _ _ (_ :: _) _ _); (with_reducible apply wpl_boxRH); (· rfl); (· rfl); (· exact H); (clear H; intro px _ H); (simp only [Act.put, List.setIfInBounds_toArray, List.set_cons_zero, List.set_cons_succ])) | ((with_reducible refine Ans.callH (by assumption) H ?_); clear H; intro _ H) | ((with_reducible show wpList _ _ _ (_ :: _) _ _); (with_reducible apply wpl_loadCH); (· first | exact cell_u64 | exact cell_party | exact cell_cur | exact cell_i64); (· rfl); (· rfl); (· exact H); (· (repeat (first | (with_reducible exact List.mem_cons_self) | with_reducible apply List.mem_cons_of_mem))); (· with_reducible first | exact ofr_g0 .. | exact ofr_g1 .. | exact ofr_g2 .. | exact ofr_g3 .. | exact ofr_g4 ..); (simp only [Act.put, List.setIfInBounds_toArray, List.set_cons_zero, List.set_cons_succ])))
          go_ret
          exact ⟨rfl, H.tail⟩
      · rw [mayO_no (by omega)]
        have c3 := bcur_no h3
        clear h3
        go_enter Try.func110, Try.ntmps110
        go_wp2_with (first | go_skip | ((with_reducible show wpList _ _ _ (_ :: _) _ _); (with_reducible apply wpl_boxRH); (· rfl); (· rfl); (· exact H); (clear H; intro px _ H); (simp only [Act.put, List.setIfInBounds_toArray, List.set_cons_zero, List.set_cons_succ])) | ((with_reducible refine Ans.callH (by assumption) H ?_); clear H; intro _ H) | ((with_reducible show wpList _ _ _ (_ :: _) _ _); (with_reducible apply wpl_loadCH); (· first | exact cell_u64 | exact cell_party | exact cell_cur | exact cell_i64); (· rfl); (· rfl); (· exact H); (· (repeat (first | (with_reducible exact List.mem_cons_self) | with_reducible apply List.mem_cons_of_mem))); (· with_reducible first | exact ofr_g0 .. | exact ofr_g1 .. | exact ofr_g2 .. | exact ofr_g3 .. | exact ofr_g4 ..); (simp only [Act.put, List.setIfInBounds_toArray, List.set_cons_zero, List.set_cons_succ])))
        go_ret
        exact ⟨rfl, H.tail⟩
end
end Go.Proofs.Ytacglcpjbepfnaa
