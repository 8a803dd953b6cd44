/- books: at, Find, All, Next; slices.Clone and Clip of offers. -/
import Derived.Test.YtacglcpjbepfnaaBok2
import Derived.Test.YtacglcpjbepfnaaHeapClear
import Derived.Lib.SliceRun
namespace Go.Proofs.Ytacglcpjbepfnaa
open Go.RowKit
set_option linter.unusedSimpArgs false
set_option linter.unusedVariables false
set_option maxRecDepth 100000
/-- Where an offer is. -/
def iO (L : List Ofr) (s : Int) : Nat := L.findIdx fun o => o.sq == s
def idxO (L : List Ofr) (s : Int) : Int := if iO L s < L.length then (iO L s : Int) else -1
theorem iO_le (L : List Ofr) (s : Int) : iO L s ≤ L.length := List.findIdx_le_length
theorem iO_at {L : List Ofr} {s : Int} (h : iO L s < L.length) : (L[iO L s].sq == s) = true := by
  exact List.findIdx_getElem (w := h) (p := fun o : Ofr => o.sq == s)
theorem iO_before {L : List Ofr} {s : Int} {k : Nat} (h : k < iO L s) {o : Ofr} (ho : L[k]? = some o) : (o.sq == s) = false := by
  have hk : k < L.length := Nat.lt_of_lt_of_le h (iO_le L s)
  have := List.not_of_lt_findIdx h
  rw [List.getElem?_eq_getElem hk] at ho
  cases ho
  simpa using this
theorem findO_iO (L : List Ofr) (s : Int) : findO L s = L[iO L s]? := by
  unfold findO iO
  induction L with
  | nil => rfl
  | cons o L ih =>
    rw [List.find?_cons, List.findIdx_cons]
    cases h : (o.sq == s) with
    | true => simp
    | false => simp [ih]
theorem idxO_some {L : List Ofr} {s : Int} {o : Ofr} (h : findO L s = some o) : idxO L s = (iO L s : Int) ∧ L[iO L s]? = some o ∧ iO L s < L.length := by
  rw [findO_iO] at h
  have h2 := (List.getElem?_eq_some_iff.1 h).1
  exact ⟨by unfold idxO; rw [if_pos h2], h, h2⟩
theorem idxO_none {L : List Ofr} {s : Int} (h : findO L s = none) : idxO L s = -1 := by
  rw [findO_iO, List.getElem?_eq_none_iff] at h
  unfold idxO
  rw [if_neg (by omega)]
/-- Offers in a row of one's own, wherever. -/
abbrev OwO (v : Value) (n : Nat) (L : List Ofr) : Thing := OwnT 83 7 v n (ofrL L)
structure IdxO (W : World) (l : List Thing) (L : List Ofr) (s : Int) (n : Nat) (i : Value) (wr : World) : Prop where
  out : ∃ k : Nat, k ≤ iO L s ∧ k ≤ n ∧ i = .int .i64 (k : Int) ∧ Heap W l wr
theorem clipO_nil : Ans 100 #[.slice none 0 0] (.slice none 0 0) := by
  intro w
  go_enter Try.func100, Try.ntmps100
  go_wp2
  go_ret
  exact ⟨rfl, (by repeat (first | exact Ext.refl _ | refine Ext.alloc ?_ _ | refine Ext.ext ?_ _ | refine Ext.drew ?_))⟩
theorem clipO_some (a : Addr) (n c : Nat) (hn : n ≤ c) (hc : c ≤ maxLen) : Ans 100 #[.slice (some a) n c] (.slice (some a) n n) := by
  intro w
  unfold maxLen at hc
  have ha : a.add 0 = a := by simp [Addr.add]
  go_enter Try.func100, Try.ntmps100
  go_wp2
  go_ret
  exact ⟨rfl, (by repeat (first | exact Ext.refl _ | refine Ext.alloc ?_ _ | refine Ext.ext ?_ _ | refine Ext.drew ?_))⟩
theorem RowT.nilO {w : World} {e size n : Nat} {v : Value} {xs : List Value} (h : (RowT e size v n xs).ok w) : ∀ n' c', v = .slice none n' c' → n' = 0 ∧ c' = 0 := by
  intro n' c' e
  rcases h.2 with ⟨h1, _⟩ | ⟨g, cap, cur, h1, _⟩
  · rw [h1] at e; cases e; exact ⟨rfl, rfl⟩
  · rw [h1] at e; cases e
theorem clipO (a : Option Addr) (n c : Nat) (hn : n ≤ c) (hm : c ≤ maxLen) (h0 : a = none → n = 0 ∧ c = 0) : Ans 100 #[.slice a n c] (.slice a n n) := by
  cases a with
  | none => obtain ⟨rfl, rfl⟩ := h0 rfl; exact clipO_nil
  | some a => exact clipO_some a n c hn hm
section
variable {W w : World} {l : List Thing}
set_option maxHeartbeats 8000000
theorem at1_H (o : Ofr) (s : Int) (px : Nat) (m : Cel px #[.int .u64 s] 79 ∈ l) :
    AnsH W l 126 #[.agg (ofrA o), .pointer (some ⟨px, 0, none⟩)] (.bool (o.sq == s)) := by
  intro w H
  have hg : ∀ x : Value, (#[x] : Array Value)[0]? = some x := fun _ => rfl
  go_enter Try.func126, Try.ntmps126
  go_wp2_with (first | go_skip | ((with_reducible show wpList _ _ _ (_ :: _) _ _); (with_reducible apply wpl_boxRH); (· rfl); (· rfl); (· exact H); (clear H; intro py _ H); (simp only [Act.put, List.setIfInBounds_toArray, List.set_cons_zero, List.set_cons_succ])) | ((with_reducible show wpList _ _ _ (_ :: _) _ _); (with_reducible apply wpl_loadCH); (· first | exact cell_u64 | exact cell_party | exact cell_cur | exact cell_i64); (· rfl); (· rfl); (· exact H); (· (repeat (first | (with_reducible exact List.mem_cons_self) | with_reducible apply List.mem_cons_of_mem))); (· with_reducible first | exact ofr_g0 .. | exact ofr_g1 .. | exact ofr_g2 .. | exact ofr_g3 .. | exact ofr_g4 ..); (simp only [Act.put, List.setIfInBounds_toArray, List.set_cons_zero, List.set_cons_succ])) | ((with_reducible show wpList _ _ _ (_ :: _) _ _); (with_reducible apply wpl_loadCH); (· exact cell_u64); (· rfl); (· rfl); (· exact H); (· exact List.mem_cons_of_mem _ m); (· exact hg _); (simp only [Act.put, List.setIfInBounds_toArray, List.set_cons_zero, List.set_cons_succ])))
  go_ret
  exact ⟨rfl, H.tail⟩
theorem indexO_H (a : Option Addr) (n c px : Nat) (L : List Ofr) (s : Int) (hl : L.length = n) (hn : n ≤ 1000000) (m : Cel px #[.int .u64 s] 79 ∈ l) (R : ∀ w', Heap W l w' → Rd w' a (ofrL L)) :
    AnsH W l 125 #[.slice a n c, .func (.func 126) #[] #[.pointer (some ⟨px, 0, none⟩)]] (.int .i64 (idxO L s)) := by
  intro w H
  have HL := Lib.hid hl
  have HR := Lib.hid R
  have HLE := Lib.hid (iO_le L s)
  have E := fun y => at1_H (W := W) (l := l) y s px m
  have HE := Lib.hid E
  clear hl R E m
  go_enter Try.func125, Try.ntmps125
  go_wp2_with (go_skip)
  have H0 := H
  clear H
  go_loopw [8] (fun i wr => IdxO W l L s n i wr) (fun i _ => n - (intOf i).toNat)
  case atStart => exact ⟨0, Nat.zero_le _, Nat.zero_le _, rfl, H0⟩
  case round =>
    obtain ⟨k, hk, hkn, rfl, H⟩ := hrel.out
    clear H0 hrel
    by_cases hlt : k < n
    · have hkL : k < L.length := by rw [HL.out]; exact hlt
      have hrow := ofrL_get L k hkL
      have hlen : k * 7 + 7 ≤ (ofrL L).length := by rw [ofrL_len]; omega
      obtain ⟨ba, oa, rfl, _⟩ := (HR.out _ H).lt (by omega)
      have Rw := HR.out _ H
      by_cases he : k = iO L s
      · have hd : (L[k].sq == s) = true := by
          have := iO_at (L := L) (s := s) (by omega)
          subst he
          exact this
        have D := HE.out L[k]
        rw [hd] at D
        have HX := Lib.hid (show idxO L s = (k : Int) by unfold idxO; rw [← he, if_pos hkL])
        generalize L[k] = y at *
        clear hd he
        go_wp2_with (first
          | go_skip
          | ((with_reducible show wpList _ _ _ (_ :: _) _ _); (with_reducible apply wpl_loadRdR row_ofr); (· rfl); (· rfl); (· exact Rw); (· rfl); (· exact hlen); (· decide); (· exact hrow); (simp only [Act.put, List.setIfInBounds_toArray, List.set_cons_zero, List.set_cons_succ]))
          | ((with_reducible refine AnsH.call (by assumption) H ?_); clear H; intro _ H))
        go_ret
        rw [HX.out]
        exact ⟨rfl, H⟩
      · have hd : (L[k].sq == s) = false := iO_before (by omega) (List.getElem?_eq_getElem hkL)
        have D := HE.out L[k]
        rw [hd] at D
        have HK := Lib.hid (show k + 1 ≤ iO L s by omega)
        generalize L[k] = y at *
        clear hd he
        go_wp2_with (first
          | go_skip
          | ((with_reducible show wpList _ _ _ (_ :: _) _ _); (with_reducible apply wpl_loadRdR row_ofr); (· rfl); (· rfl); (· exact Rw); (· rfl); (· exact hlen); (· decide); (· exact hrow); (simp only [Act.put, List.setIfInBounds_toArray, List.set_cons_zero, List.set_cons_succ]))
          | ((with_reducible refine AnsH.call (by assumption) H ?_); clear H; intro _ H))
        refine ⟨⟨k + 1, HK.out, by omega, by go_num, H⟩, ?measure1⟩
        case measure1 => simp [intOf]; omega
    · obtain rfl : k = n := by omega
      have HX := Lib.hid (show idxO L s = -1 by unfold idxO; rw [if_neg (by rw [HL.out]; omega)])
      go_wp2_with (go_skip)
      go_ret
      rw [HX.out]
      exact ⟨rfl, H⟩
theorem at_H {p n c : Nat} {a : Option Addr} {nx : Int} {L : List Ofr} (s : Int) (m1 : BkB p (.slice a n c) nx ∈ l) (m2 : OfT (.slice a n c) n L ∈ l) (hl : L.length = n) (hn : n ≤ 1000000) :
    AnsH W l 106 #[.pointer (some ⟨p, 0, none⟩), .int .u64 s] (.int .i64 (idxO L s)) := by
  intro w H
  have hmf : ∀ (fn : Fn) (first cap : Array Value) (w : World), (Instr.makeFunc fn first cap).run Try.prog w = .ok (.func fn first cap) w := fun _ _ _ _ => rfl
  have I := fun px => indexO_H (W := W) (l := Cel px #[.int .u64 s] 79 :: l) a n c px L s hl hn List.mem_cons_self (fun w' H' => H'.rowRd (List.mem_cons_of_mem _ m2))
  have HI := Lib.hid I
  clear I hl
  go_enter Try.func106, Try.ntmps106
  go_wp2_with (first
    | ((with_reducible show wpList _ _ _ (_ :: _) _ _); (with_reducible apply wpl_boxCH); (· rfl); (· rfl); (· rfl); (· exact H); (clear H; intro pc _ H; have H := (show Heap _ (Cel pc #[.int .u64 s] _ :: l) _ from H)); (simp only [Act.put, List.setIfInBounds_toArray, List.set_cons_zero, List.set_cons_succ]))
    | ((with_reducible show wpList _ _ _ (_ :: _) _ _); (with_reducible apply wpl_loadCH); (· exact cell_ofrs); (· rfl); (· rfl); (· exact H); (· exact List.mem_cons_of_mem _ m1); (· exact bkb_g0 ..); (simp only [Act.put, List.setIfInBounds_toArray, List.set_cons_zero, List.set_cons_succ]))
    | go_skip
    | ((with_reducible refine AnsH.call (HI.out _) H ?_); clear H; intro _ H))
  go_ret
  exact ⟨rfl, H.tail⟩
theorem cloneO_H (ea : Option Addr) (en ec0 : Nat) (L : List Ofr) (hl : L.length = en) (hn : en ≤ 1000000) (R : ∀ l' w', (∀ x ∈ l, x ∈ l') → Heap W l' w' → Rd w' ea (ofrL L)) (H : Heap W l w) :
    Calls Try.prog 101 #[.slice ea en ec0] w fun e w' => ∃ v, e = .returned v ∧ Heap W (OfT v en L :: l) w' := by
  have HL := Lib.hid hl
  have HR := Lib.hid R
  clear hl R
  cases ea with
  | none =>
    have hz : en = 0 := by
      apply Classical.byContradiction
      intro hne
      obtain ⟨b, o, he, _⟩ := HR.out l w (fun _ h => h) H 0 (by rw [ofrL_len, HL.out]; omega)
      cases he
    subst hz
    have hF : L = [] := List.eq_nil_of_length_eq_zero HL.out
    have hnil : ∀ V, (binOp .eql 76 (.slice none 0 ec0) (.slice none 0 0)).run Try.prog V = .ok (.bool true) V := fun V => Lib.run_eql_slice_nil V _ _ none 0 ec0 0 0 Try.underlying76
    go_enter Try.func101, Try.ntmps101
    go_wp2_with (go_skip)
    go_ret
    subst hF
    exact ⟨_, rfl, H.nilRow _ _⟩
  | some a0 =>
    have hnil : ∀ V, (binOp .eql 76 (.slice (some a0) en ec0) (.slice none 0 0)).run Try.prog V = .ok (.bool false) V := fun V => Lib.run_eql_slice_nil V _ _ (some a0) en ec0 0 0 Try.underlying76
    have h1 : 0 + en ≤ maxLen := by unfold maxLen; omega
    have h2 : (0 + en) * 40 ≤ 140737488355328 := by omega
    have h3 : (ofrL L).length = en * 7 := by rw [ofrL_len, HL.out]
    go_enter Try.func101, Try.ntmps101
    go_wp2_with (first
      | go_skip
      | ((with_reducible show wpList _ _ _ (_ :: _) _ _); (with_reducible apply wpl_bs0); (· rfl); (· exact slO); (· exact H); (clear H; intro pq _ H); (simp only [Act.put, List.setIfInBounds_toArray, List.set_cons_zero, List.set_cons_succ]))
      | ((with_reducible show wpList _ _ _ (_ :: _) _ _); (with_reducible apply wpl_appendA slO); (· rfl); (· rfl); (· rfl); (· rfl); (· exact H.celRowA (n := 0) (m := 0) rfl (Nat.le_refl _) (Nat.zero_le _)); (· exact HR.out _ _ (fun _ h => List.mem_cons_of_mem _ h) H); (· exact h3); (· exact ofrL_ones L); (· exact h1); (· exact h2); (clear H; intro v2 _ _ H); (simp only [Act.put, List.setIfInBounds_toArray, List.set_cons_zero, List.set_cons_succ])))
    go_ret
    refine ⟨_, rfl, ?_⟩
    simpa using H
/-- Of a book that is not there: nothing. -/
theorem all_nil : Ans 52 #[.pointer none] (.slice none 0 0) := by
  intro w
  have T := bthere_nil
  go_enter Try.func52, Try.ntmps52
  go_wp2_with (first | go_skip | ((with_reducible refine Ans.call (by assumption) ?_); intro _))
  go_ret
  exact ⟨rfl, (by repeat (first | exact Ext.refl _ | refine Ext.alloc ?_ _ | refine Ext.ext ?_ _ | refine Ext.drew ?_))⟩
theorem all_zero {p : Nat} {v : Value} (m : BkB p v 0 ∈ l) : AnsH W l 52 #[.pointer (some ⟨p, 0, none⟩)] (.slice none 0 0) := by
  intro w H
  have T := bthere_zero (W := W) m
  go_enter Try.func52, Try.ntmps52
  go_wp2_with (first | go_skip | ((with_reducible refine AnsH.call (by assumption) H ?_); clear H; intro _ H))
  go_ret
  exact ⟨rfl, H⟩
theorem all_H {p n : Nat} {v : Value} {nx : Int} {L : List Ofr} (m1 : BkB p v nx ∈ l) (m2 : OfT v n L ∈ l) (h : 0 < nx) (hl : L.length = n) (hn : n ≤ 1000000) (H : Heap W l w) :
    Calls Try.prog 52 #[.pointer (some ⟨p, 0, none⟩)] w fun e w' => ∃ v', e = .returned v' ∧ Heap W (OwO v' n L :: l) w' := by
  have T := bthere_yes (W := W) m1 h
  obtain ⟨a, c, rfl, hc1, hc2⟩ := RowT.form0 (H.ok _ m2)
  go_enter Try.func52, Try.ntmps52
  go_wp2_with (first
    | go_skip
    | ((with_reducible refine AnsH.call (by assumption) H ?_); clear H; intro _ H)
    | ((with_reducible show wpList _ _ _ (_ :: _) _ _); (with_reducible apply wpl_loadCH); (· exact cell_ofrs); (· rfl); (· rfl); (· exact H); (· exact m1); (· exact bkb_g0 ..); (simp only [Act.put, List.setIfInBounds_toArray, List.set_cons_zero, List.set_cons_succ])))
  refine (cloneO_H a n c L hl hn (fun l' w' hh H' => H'.rowRd (hh _ m2)) H).mono ?_
  clear H
  rintro e w1 ⟨v2, rfl, H⟩
  obtain ⟨a2, c2, rfl, hd1, hd2⟩ := RowT.form0 (H.ok _ List.mem_cons_self)
  have K := clipO a2 n c2 hd1 hd2 (fun e => RowT.nilO (H.ok _ List.mem_cons_self) _ _ (by rw [e]))
  go_wp2_with (first | go_skip | ((with_reducible refine Ans.callH (by assumption) H ?_); clear H; intro _ H))
  go_ret
  exact ⟨_, rfl, H.slide.clipOwn⟩
theorem next_nil : Ans 54 #[.pointer none] (.int .u64 0) := by
  intro w
  have T := bthere_nil
  go_enter Try.func54, Try.ntmps54
  go_wp2_with (first | go_skip | ((with_reducible refine Ans.call (by assumption) ?_); intro _))
  go_ret
  exact ⟨rfl, (by repeat (first | exact Ext.refl _ | refine Ext.alloc ?_ _ | refine Ext.ext ?_ _ | refine Ext.drew ?_))⟩
theorem next_zero {p : Nat} {v : Value} (m : BkB p v 0 ∈ l) : AnsH W l 54 #[.pointer (some ⟨p, 0, none⟩)] (.int .u64 0) := by
  intro w H
  have T := bthere_zero (W := W) m
  go_enter Try.func54, Try.ntmps54
  go_wp2_with (first | go_skip | ((with_reducible refine AnsH.call (by assumption) H ?_); clear H; intro _ H))
  go_ret
  exact ⟨rfl, H⟩
theorem next_H {p : Nat} {v : Value} {nx : Int} (m1 : BkB p v nx ∈ l) (h : 0 < nx) : AnsH W l 54 #[.pointer (some ⟨p, 0, none⟩)] (.int .u64 nx) := by
  intro w H
  have T := bthere_yes (W := W) m1 h
  go_enter Try.func54, Try.ntmps54
  go_wp2_with (first
    | go_skip
    | ((with_reducible refine AnsH.call (by assumption) H ?_); clear H; intro _ H)
    | ((with_reducible show wpList _ _ _ (_ :: _) _ _); (with_reducible apply wpl_loadCH); (· exact cell_u64); (· rfl); (· rfl); (· exact H); (· exact m1); (· exact bkb_g1 ..); (simp only [Act.put, List.setIfInBounds_toArray, List.set_cons_zero, List.set_cons_succ])))
  go_ret
  exact ⟨rfl, H⟩
end
end Go.Proofs.Ytacglcpjbepfnaa
