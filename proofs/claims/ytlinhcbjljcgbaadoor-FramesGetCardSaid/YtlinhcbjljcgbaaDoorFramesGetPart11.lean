/- FramesGet: part 11 of its proof: FrList, LawFramesGet, Open, LawFramesGet2, Tab. -/
import Derived.Test.YtlinhcbjljcgbaaDoorFramesGetPart10
import Derived.ProofKit
import Derived.OpenShut
import Derived.ChangeOld
import Derived.Test.YtlinhcbjljcgbaaDoorRows
import Derived.LaidMore
import Derived.Lib.LaidTab
import Derived.Stop.Joined
/- Lists of bodies that are the same; a book of more pages than are asked about. -/
namespace Go.Proofs.YtlinhcbjljcgbaaDoor
open Go.RowKit
attribute [local go_sem] Oper.semAt_some
set_option linter.unusedSimpArgs false
set_option linter.unusedVariables false
theorem getOf_body0 {zs : Bs} (h : (getOf zs).e ≠ 0) : (getOf zs).body = [] := by
  unfold getOf at *
  split
  · rfl
  · split
    · rfl
    · split
      · rfl
      · split
        · rfl
        · rename_i a b c d
          rw [if_neg a, if_neg b, if_neg c, if_neg d] at h
          exact absurd rfl h
/-- A book with so many pages. -/
def BookN (W : World) (l : List Thing) (kb N : Nat) (w : World) : Prop := ∃ a c vs, Heap W (BkT kb (.slice a N c) :: PgsT (.slice a N c) N vs :: l) w
section
variable {W w : World} {l : List Thing}
set_option maxRecDepth 100000
set_option maxHeartbeats 2000000
theorem BookN.new {kb : Nat} (H : Heap W (BkT kb (.slice none 0 0) :: l) w) : BookN W l kb 0 w := ⟨none, 0, [], (H.nilRow _ _).perm (.swap _ _ _)⟩
theorem lists_H (a b : Option Addr) (c d : Nat) (L M : List (Value × Bs)) (hl : L.length ≤ 100000) (hS : SlV L) (hT : SlV M) (he : L.map (·.2) = M.map (·.2)) (hb : ∀ x ∈ L, x.2.length ≤ 100000) (mL : LoT (.slice a L.length c) L ∈ l) (mM : LoT (.slice b M.length d) M ∈ l) (hL : ∀ x ∈ L, bT x ∈ l) (hM : ∀ x ∈ M, bT x ∈ l) :
    AnsH W l 30 #[.slice a L.length c, .slice b M.length d] (.bool true) := by
  intro w H
  have hlen : M.length = L.length := by
    have := congrArg List.length he
    simpa using this.symm
  obtain ⟨n, hn⟩ : ∃ n, L.length = n := ⟨_, rfl⟩
  have HS := Lib.hid (And.intro hS (And.intro hT (And.intro he (And.intro hL (And.intro hM (And.intro hn (And.intro hlen hb)))))))
  have ML := Lib.hid (And.intro mL mM)
  clear hS hT he hL hM hb mL mM
  rw [hlen, hn]
  rw [hn] at hl
  have fnn : ((n : Int) != (n : Int)) = false := by simp
  clear hlen hn
  go_enter Tryd.func30, Tryd.ntmps30
  go_wp2_with (go_skip)
  have H0 := H
  clear H
  go_loopw [5] (fun i wr => ∃ k : Nat, k ≤ n ∧ i = .int .i64 k ∧ Heap W l wr) (fun i _ => n - (intOf i).toNat)
  case atStart => exact ⟨0, Nat.zero_le _, rfl, H0⟩
  case round =>
    obtain ⟨k, hkn, rfl, H'⟩ := hrel
    clear H0
    have H := H'
    clear H'
    by_cases hlt : k < n
    · have hk1 : k < L.length := by rw [HS.out.2.2.2.2.2.1]; exact hlt
      have hk2 : k < M.length := by rw [HS.out.2.2.2.2.2.2.1]; exact hk1
      obtain ⟨a1, c1, e1⟩ := HS.out.1 L[k] (List.getElem_mem hk1)
      obtain ⟨a2, c2, e2⟩ := HS.out.2.1 M[k] (List.getElem_mem hk2)
      have heq : L[k].2 = M[k].2 := by
        have := congrArg (fun l => l[k]?) HS.out.2.2.1
        simp only [List.getElem?_map, List.getElem?_eq_getElem hk1, List.getElem?_eq_getElem hk2, Option.map_some] at this
        exact Option.some.inj this
      have hbk := HS.out.2.2.2.2.2.2.2 L[k] (List.getElem_mem hk1)
      have m1 := HS.out.2.2.2.1 L[k] (List.getElem_mem hk1)
      have m2 := HS.out.2.2.2.2.1 M[k] (List.getElem_mem hk2)
      unfold bT at m1 m2
      rw [e1] at m1
      rw [e2] at m2
      obtain ⟨g1, o1, rfl, _⟩ := (H.ownRd ML.out.1).lt (by rw [List.length_map]; omega)
      obtain ⟨g2, o2, rfl, _⟩ := (H.ownRd ML.out.2).lt (by rw [List.length_map]; omega)
      have K1 := Lib.hid (show ∀ w', Heap W l w' → w'.cell? ⟨g1, o1 + k, none⟩ = some (.slice a1 L[k].2.length c1) from fun w' h => by
        have := (h.ownRd ML.out.1).get (i := k) (by rw [List.length_map]; exact hk1)
        rw [this, List.getElem_map, e1])
      have K2 := Lib.hid (show ∀ w', Heap W l w' → w'.cell? ⟨g2, o2 + k, none⟩ = some (.slice a2 M[k].2.length c2) from fun w' h => by
        have := (h.ownRd ML.out.2).get (i := k) (by rw [List.length_map]; exact hk2)
        rw [this, List.getElem_map, e2])
      clear e1 e2
      generalize L[k].2 = y1 at *
      generalize M[k].2 = y2 at *
      subst heq
      obtain ⟨m, hm⟩ : ∃ m, y1.length = m := ⟨_, rfl⟩
      rw [hm] at m1 m2 K1 K2 hbk
      have SB := sameB_H (W := W) (l := l) a1 a2 m m c1 c2 y1 y1 hm.symm hm.symm (by unfold maxLen; omega) (fun w' h => h.ownRd m1) (fun w' h => h.ownRd m2)
      rw [decide_eq_true rfl] at SB
      clear m1 m2 hm hbk hk1 hk2
      go_wp2_with (go_skip)
      refine wp_region_H H (by kernel_rfl) (by kernel_rfl) ?_
      repeat (first | go_big_quiet_skip | ((with_reducible apply wpQ_loadCell); (· exact cell_sl); (· rfl); (· rfl); (· first | exact K1.out | exact K2.out); (simp only [Act.put, List.setIfInBounds_toArray, List.set_cons_zero, List.set_cons_succ])) | go_big_quiet_step (exact SB.quiet))
      refine wpQuiet_nil ?_
      clear H
      intro _ H
      go_wp2_with (go_skip)
      go_roundw
      case rel => exact ⟨k + 1, by omega, by go_num, H⟩
      case measure => simp [intOf]; omega
    · obtain rfl : k = n := by omega
      go_wp2_with (go_skip)
      go_ret
      exact ⟨rfl, H⟩
theorem layN_H (kb N : Nat) (a : Option Addr) (n c : Nat) (hN : N ≤ 100000) (B : BookN W l kb N w) :
    Calls Tryd.prog 21 #[.pointer (some ⟨kb, 0, none⟩), .slice a n c] w fun e w' => e = .returned (.tuple #[]) ∧ BookN W l kb (N + 1) w' := by
  obtain ⟨ba, bc, vs, H⟩ := B
  have hn1 : N + 1 ≤ maxLen := by unfold maxLen; omega
  have hn2 : (N + 1) * 16 ≤ 140737488355328 := by omega
  have hNB := number_H (W := W) (l := BkT kb (.slice ba N bc) :: PgsT (.slice ba N bc) N vs :: l) kb ba N bc (by omega) List.mem_cons_self
  go_enter Tryd.func21, Tryd.ntmps21
  go_wp2_with (first
    | go_skip
    | ((with_reducible refine AnsH.call (by assumption) H ?_); clear H; intro _ H)
    | ((with_reducible show wpList _ _ _ (_ :: _) _ _); (with_reducible apply wpl_loadCH); (· exact cell_pages); (· rfl); (· rfl); (· exact H); (· (repeat (first | (with_reducible exact List.mem_cons_self) | with_reducible apply List.mem_cons_of_mem))); (· exact bookC_g _); (simp only [Act.put, List.setIfInBounds_toArray, List.set_cons_zero, List.set_cons_succ]))
    | ((with_reducible show wpList _ _ _ (_ :: _) _ _); (with_reducible apply wpl_bsOnes _ [(pageBy a n c (((N : Int) + 1) % 256) (bits .xor .u8 (((N : Int) + 1) % 256) 128)).v]); (· rfl); (· rfl); (· rfl); (· decide); (· decide); (· intro v hv; rw [List.mem_singleton.1 hv]; rfl); (· exact bs_page); (· rfl); (· exact H); (clear H; intro pk _ H); (simp only [Act.put, List.setIfInBounds_toArray, List.set_cons_zero, List.set_cons_succ]))
    | ((with_reducible show wpList _ _ _ (_ :: _) _ _); (with_reducible apply wpl_appendH slPage); (· rfl); (· rfl); (· rfl); (· rfl); (· exact H.top2 (.there (.there .here)) .here); (· exact H.celRd List.mem_cons_self); (· rfl); (· intro u hu; rw [List.mem_singleton.1 hu]; rfl); (· exact hn1); (· exact hn2); (clear H; intro v2 _ H; obtain ⟨a2, c2, rfl, _, _⟩ := RowT.form0 (H.ok _ List.mem_cons_self)); (simp only [Act.put, List.setIfInBounds_toArray, List.set_cons_zero, List.set_cons_succ]))
    | ((with_reducible show wpList _ _ _ (_ :: _) _ _); (with_reducible apply wpl_storeSH); (· exact cell_pages); (· rfl); (· rfl); (· rfl); (· exact H); (· (repeat (first | (with_reducible exact List.mem_cons_self) | with_reducible apply List.mem_cons_of_mem))); (· exact Nat.le_refl 1); (· rfl); (· (repeat (first | (with_reducible exact Repl.here) | with_reducible apply Repl.there))); (clear H; intro _ H); (simp only [Act.put, List.setIfInBounds_toArray, List.set_cons_zero, List.set_cons_succ])))
  go_end0
  exact ⟨rfl, a2, c2, _, (H.drop (.there .here)).perm (.swap _ _ _)⟩
theorem apartN_H (kb N : Nat) (hN : 120 < N) (hm : N ≤ 1000000) (B : BookN W l kb N w) : Calls Tryd.prog 22 #[.pointer (some ⟨kb, 0, none⟩)] w fun e w' => e = .returned (.bool true) ∧ Heap W l w' := by
  obtain ⟨ba, bc, vs, H⟩ := B
  have d1 : decide ((N : Int) > 120) = true := by simp; omega
  have d2 : decide (120 < (N : Int)) = true := by simp; omega
  go_enter Tryd.func22, Tryd.ntmps22
  go_wp2_with (first
    | go_skip
    | ((with_reducible show wpList _ _ _ (_ :: _) _ _); (with_reducible apply wpl_loadCH); (· exact cell_pages); (· rfl); (· rfl); (· exact H); (· (repeat (first | (with_reducible exact List.mem_cons_self) | with_reducible apply List.mem_cons_of_mem))); (· exact bookC_g _); (simp only [Act.put, List.setIfInBounds_toArray, List.set_cons_zero, List.set_cons_succ])))
  go_ret
  exact ⟨rfl, H.tail.tail⟩
end
end Go.Proofs.YtlinhcbjljcgbaaDoor

/- FramesGet: its walk. -/
namespace Go.Proofs.YtlinhcbjljcgbaaDoor
open Go.RowKit
attribute [local go_sem] Oper.semAt_some
set_option linter.unusedSimpArgs false
set_option linter.unusedVariables false
/-- The book, behind so many of the bodies: few pages, or many. -/
structure FgL (W : World) (l : List Thing) (kb : Nat) (T : Thing) (L : List (Value × Bs)) (i : Value) (wr : World) : Prop where
  out : ∃ k : Nat, i = .int .i64 (k : Int) ∧ k ≤ L.length ∧ ∃ ps : List PageT, ps.length = 2 + k ∧ Book W ((L.drop k).map bT ++ (T :: l)) kb ps wr
structure FgN (W : World) (l : List Thing) (kb n : Nat) (i : Value) (wr : World) : Prop where
  out : ∃ k : Nat, i = .int .i64 (k : Int) ∧ k ≤ n ∧ BookN W l kb (2 + k) wr
theorem Book.perm {W w : World} {l l' : List Thing} {kb : Nat} {ps : List PageT} (B : Book W l kb ps w) (h : l.Perm l') : Book W l' kb ps w := by
  obtain ⟨a, c, H, hok⟩ := B
  exact ⟨a, c, H.perm (List.Perm.cons _ (List.Perm.cons _ (List.Perm.append_left _ h))), hok⟩
theorem Heap.sublist {W w : World} {l l' : List Thing} (H : Heap W l w) (h : List.Sublist l' l) : Heap W l' w :=
  ⟨H.low, fun x hx => H.ok x (h.subset hx), fun x hx => H.fp x (h.subset hx), H.apart.sublist h⟩
theorem Pull.app {l r : List Thing} {x : Thing} (l0 : List Thing) (h : Pull l x r) : Pull (l0 ++ l) x (l0 ++ r) := by
  induction l0 with
  | nil => exact h
  | cons y l0 ih => exact .there ih
section
variable {W w : World} {l : List Thing}
set_option maxRecDepth 100000
set_option maxHeartbeats 2000000
theorem fget_many (a : Option Addr) (n c : Nat) (h : 20000 < n) (hn : n ≤ 9223372036854775807) (T : TabAt W) (H : Heap W l w) : Calls Tryd.prog 7 #[.slice a n c] w fun e w' => e = .returned (.bool true) ∧ Heap W l w' := by
  have L := fun (V : World) (H : Heap W l V) => lives18_H (W := W) (l := l) (w := V) T H
  have d1 : decide ((n : Int) > 20000) = true := by simp; omega
  have d2 : decide ((20000 : Int) < n) = true := by simp; omega
  go_enter Tryd.func7, Tryd.ntmps7
  go_wp2_with (first | go_skip | ((with_reducible refine (L _ H).mono ?_); clear H; rintro _ _ ⟨rfl, H⟩))
  go_ret
  exact ⟨rfl, H⟩
theorem fget_H (a : Option Addr) (n c : Nat) (zs : Bs) (h1 : n ≤ 20000) (hc : n ≤ c) (hm : c ≤ maxLen) (hn : zs.length = n) (T : TabAt W) (RA : RdE W l a zs) (H : Heap W l w) : Calls Tryd.prog 7 #[.slice a n c] w fun e w' => e = .returned (.bool true) ∧ Heap W l w' := by
  have d1 : decide ((n : Int) > 20000) = false := by simp; omega
  have d2 : decide ((20000 : Int) < n) = false := by simp; omega
  have LV := fun (l : List Thing) (V : World) (H : Heap W l V) => lives18_H (W := W) (l := l) (w := V) T H
  have HN := Lib.hid hn
  have HRA := Lib.hid RA
  clear hn RA
  go_enter Tryd.func7, Tryd.ntmps7
  go_wp2_with (go_skip)
  refine (twinB_H a n c zs HN.out.symm (by omega) (fun w' H' => HRA.out _ w' (fun x hx => hx) H') H).mono ?_
  clear H
  rintro e w1 ⟨g, rfl, H⟩
  go_wp2_with (go_skip)
  refine (get_H (some ⟨g, 0, none⟩) n (n + 2) zs HN.out (by omega) (by omega) (by unfold maxLen; omega) T (fun w' H' => TwB.rd H' List.mem_cons_self) H).mono ?_
  clear H
  rintro e w2 ⟨v1, rfl, H⟩
  obtain ⟨a1, c1, rfl⟩ := OwnT.form1 (H.ok _ List.mem_cons_self)
  go_wp2_with (go_skip)
  refine (rget_H a n c zs HN.out (by omega) hc hm (fun l' w' hs H' => HRA.out l' w' (fun x hx => hs _ (List.mem_cons_of_mem _ (List.mem_cons_of_mem _ hx))) H') H).mono ?_
  clear H
  rintro e w3 ⟨v2, rfl, H⟩
  obtain ⟨a2, c2, rfl⟩ := OwnT.form1 (H.ok _ List.mem_cons_self)
  go_wp2_with (go_skip)
  refine (fread_H (some ⟨g, 0, none⟩) n (n + 2) zs HN.out (by omega) (by omega) (by unfold maxLen; omega) T (fun l' w' hs H' => TwB.rd H' (hs _ (by (repeat (first | (with_reducible exact List.mem_cons_self) | with_reducible apply List.mem_cons_of_mem))))) H).mono ?_
  clear H
  rintro e w4 ⟨L, k3, a3, c3, rfl, hr3, hS3, H⟩
  go_wp2_with (go_skip)
  refine (rread_H a n c zs HN.out (by omega) hc hm (fun l' w' hs H' => HRA.out l' w' (fun x hx => hs _ (List.mem_cons_of_mem _ (List.mem_append_right _ (by (repeat (first | (with_reducible exact hx) | with_reducible apply List.mem_cons_of_mem)))))) H') H).mono ?_
  clear H
  rintro e w5 ⟨M, k4, a4, c4, rfl, hr4, hS4, H⟩
  obtain ⟨hML, rfl⟩ := hr3.eq hr4
  have hle := hr3.1.le
  rw [HN.out, List.length_map] at hle
  obtain ⟨E, hE⟩ : ∃ E, (getOf zs).e = E := ⟨_, rfl⟩
  obtain ⟨A, hA⟩ : ∃ A, (getOf zs).all = A := ⟨_, rfl⟩
  obtain ⟨y, hy⟩ : ∃ y, (getOf zs).body = y := ⟨_, rfl⟩
  have hyl : y.length ≤ 100000 := by
    rw [← hy]
    by_cases e0 : (getOf zs).e = 0
    · have := getOf_ok e0; omega
    · have : (getOf zs).body = [] := getOf_body0 e0
      rw [this]; simp
  rw [hy] at H
  rw [hE, hA, hy]
  clear hE hA hy
  obtain ⟨ny, hny⟩ : ∃ ny, y.length = ny := ⟨_, rfl⟩
  rw [hny] at H hyl
  rw [hny]
  have HNY := Lib.hid hny
  clear hny
  have f1 : (E != E) = false := by simp
  have f2 : ((A : Int) != (A : Int)) = false := by simp
  have f3 : ((k4 : Int) != (k4 : Int)) = false := by simp
  obtain ⟨LL, hLL⟩ : ∃ LL, LL = LoT (.slice a4 M.length c4) M :: (M.map bT ++ (LoT (.slice a3 L.length c3) L :: (L.map bT ++ (OwnB (.slice a2 ny c2) ny y :: OwnB (.slice a1 ny c1) ny y :: TwB g zs :: l)))) := ⟨_, rfl⟩
  rw [← hLL] at H
  have q0 : ∀ x, x ∈ OwnB (.slice a2 ny c2) ny y :: OwnB (.slice a1 ny c1) ny y :: TwB g zs :: l → x ∈ LL := fun x hx => by
    rw [hLL]; exact List.mem_cons_of_mem _ (List.mem_append_right _ (List.mem_cons_of_mem _ (List.mem_append_right _ hx)))
  have m3 : LoT (.slice a3 L.length c3) L ∈ LL := by
    rw [hLL]; exact List.mem_cons_of_mem _ (List.mem_append_right _ List.mem_cons_self)
  have SB := sameB_H (W := W) (l := LL) a1 a2 ny ny c1 c2 y y HNY.out.symm HNY.out.symm (by unfold maxLen; omega) (fun _ H' => H'.ownRd (q0 _ (by (repeat (first | (with_reducible exact List.mem_cons_self) | with_reducible apply List.mem_cons_of_mem))))) (fun _ H' => H'.ownRd (q0 _ (by (repeat (first | (with_reducible exact List.mem_cons_self) | with_reducible apply List.mem_cons_of_mem)))))
  rw [decide_eq_true rfl] at SB
  have SL := lists_H (W := W) (l := LL) a3 a4 c3 c4 L M (by omega) hS3 hS4 hML.symm (fun x hx => by have := hle.2.2 x.2 (List.mem_map.2 ⟨x, hx, rfl⟩); omega) m3 (by rw [hLL]; exact List.mem_cons_self) (fun x hx => by
    rw [hLL]; exact List.mem_cons_of_mem _ (List.mem_append_right _ (List.mem_cons_of_mem _ (List.mem_append_left _ (List.mem_map.2 ⟨x, hx, rfl⟩))))) (fun x hx => by
    rw [hLL]; exact List.mem_cons_of_mem _ (List.mem_append_left _ (List.mem_map.2 ⟨x, hx, rfl⟩)))
  have LA := leftB_H (W := W) (l := LL) g n c a n zs zs HN.out.symm (by omega) HN.out.symm (q0 _ (by (repeat (first | (with_reducible exact List.mem_cons_self) | with_reducible apply List.mem_cons_of_mem)))) (fun w' H' => HRA.out _ w' (fun x hx => q0 _ (by (repeat (first | (with_reducible exact hx) | with_reducible apply List.mem_cons_of_mem)))) H')
  rw [decide_eq_true rfl] at LA
  have hkl := hle.2.1
  have HQ := Lib.hid (And.intro hLL (And.intro q0 (And.intro m3 hS3)))
  clear hLL q0 m3 hS3 hS4 hML hr3 hr4
  obtain ⟨nl, hnl⟩ : ∃ nl, L.length = nl := ⟨_, rfl⟩
  obtain ⟨nm, hnm⟩ : ∃ nm, M.length = nm := ⟨_, rfl⟩
  rw [hnl, hnm] at SL
  rw [hnl, hnm]
  have hnl2 : nl ≤ 4000 := by have := hle.1; omega
  have HNL := Lib.hid (And.intro hnl hle)
  clear hnl hnm hle hkl
  go_wp2_with (first
    | go_skip
    | ((with_reducible refine AnsH.call (by assumption) H ?_); clear H; intro _ H)
    | ((with_reducible show wpList _ _ _ (_ :: _) _ _); (with_reducible apply wpl_allocRH row_book); (· rfl); (· exact H); (clear H; intro kb _ H); (simp only [Act.put, List.setIfInBounds_toArray, List.set_cons_zero, List.set_cons_succ]))
    | ((with_reducible show wpList _ _ _ (_ :: _) _ _); (with_reducible apply wpl_storeRH row_book); (· rfl); (· rfl); (· rfl); (· with_reducible exact bookC_cells); (· exact H); (· (repeat (first | (with_reducible exact List.mem_cons_self) | with_reducible apply List.mem_cons_of_mem))); (· (simp only [bookC_sz, Nat.reduceAdd, Nat.reduceLeDiff, Nat.le_refl]; done)); (· with_reducible exact bookC_splice ..); (· (repeat (first | (with_reducible exact Repl.here) | with_reducible apply Repl.there))); (clear H; intro _ H); (simp only [Act.put, List.setIfInBounds_toArray, List.set_cons_zero, List.set_cons_succ])))
  clear SB SL LA
  by_cases hfew : nl ≤ 118
  · rw [HQ.out.1] at H
    have G0 := H.sublist (l' := BkT kb (.slice none 0 0) :: LoT (.slice a3 L.length c3) L :: (L.map bT ++ (OwnB (.slice a1 ny c1) ny y :: TwB g zs :: l))) (List.Sublist.cons_cons _ (List.Sublist.cons _ ((List.Sublist.cons_cons _ (List.Sublist.append (List.Sublist.refl _) (List.Sublist.cons _ (List.Sublist.refl _)))).trans (List.sublist_append_right _ _))))
    have G1 := TwB.own HN.out (by omega) (G0.pull (.there (.there (Pull.app (L.map bT) (.there .here)))))
    have G2 := G1.pull (.there (.there (.there (Pull.app (L.map bT) .here))))
    have G3 := G2.pull (.there (.there .here))
    have B := (Book.new G3).perm ((List.Perm.swap _ _ _).trans (List.Perm.cons _ (List.Perm.cons _ List.perm_middle.symm)))
    clear H G0 G1 G2 G3
    refine (lay_By kb [] (some ⟨g, 0, none⟩) n (n + 2) (by decide) B).mono ?_
    clear B
    rintro e w6 ⟨rfl, p1, B⟩
    go_wp2_with (go_skip)
    refine (lay_By kb _ a1 ny c1 (by simp) B).mono ?_
    clear B
    rintro e w7 ⟨rfl, p2, B⟩
    go_wp2_with (go_skip)
    go_loopw [15] (FgL W l kb (LoT (.slice a3 L.length c3) L) L) (fun i _ => nl - (intOf i).toNat)
    case atStart => exact ⟨⟨0, rfl, by omega, [] ++ [p1] ++ [p2], rfl, by rw [List.drop_zero]; exact B⟩⟩
    case round =>
      obtain ⟨k, rfl, hk, ps, hps, B'⟩ := hrel.out
      clear B hrel
      have B := B'
      clear B'
      rw [HNL.out.1] at hk
      by_cases hlt : k < nl
      · have hk1 : k < L.length := by rw [HNL.out.1]; exact hlt
        obtain ⟨a5, c5, e5⟩ := HQ.out.2.2.2 L[k] (List.getElem_mem hk1)
        have hd : L.drop k = L[k] :: L.drop (k + 1) := List.drop_eq_getElem_cons hk1
        have hc0 : ∃ g3 o3, a3 = some ⟨g3, o3, none⟩ ∧ wr.cell? ⟨g3, o3 + k, none⟩ = some (.slice a5 L[k].2.length c5) := by
          obtain ⟨ba, bc, H9, _⟩ := B
          have R := H9.ownRd (a := a3) (List.mem_cons_of_mem _ (List.mem_cons_of_mem _ (List.mem_append_right _ (List.mem_append_right _ List.mem_cons_self))))
          obtain ⟨g3, o3, rfl, _⟩ := R.lt (by rw [List.length_map]; omega)
          refine ⟨g3, o3, rfl, ?_⟩
          have := R.get (i := k) (by rw [List.length_map]; exact hk1)
          rw [this, List.getElem_map, e5]
        obtain ⟨g3, o3, rfl, hc0⟩ := hc0
        rw [hd, List.map_cons, List.cons_append] at B
        unfold bT at B
        rw [e5] at B
        generalize L[k].2 = y5 at *
        obtain ⟨n5, hn5⟩ : ∃ n5, y5.length = n5 := ⟨_, rfl⟩
        rw [hn5] at B hc0
        clear e5 hd hk1 hn5
        go_wp2_with (first
          | go_skip
          | ((with_reducible show wpList _ _ _ (_ :: _) _ _); (with_reducible apply wpl_loadCell cell_sl); (· rfl); (· rfl); (· exact hc0); (simp only [Act.put, List.setIfInBounds_toArray, List.set_cons_zero, List.set_cons_succ])))
        refine (lay_By kb ps a5 n5 c5 (by omega) B).mono ?_
        clear B
        rintro e w8 ⟨rfl, p3, B⟩
        go_wp2_with (go_skip)
        refine ⟨?_, ?_⟩
        · exact ⟨⟨k + 1, by go_num, by rw [HNL.out.1]; omega, ps ++ [p3], by rw [List.length_append, hps, List.length_singleton]; omega, B⟩⟩
        · simp [intOf]; omega
      · obtain rfl : k = nl := by omega
        rw [← HNL.out.1, List.drop_length, HNL.out.1] at B
        go_wp2_with (go_skip)
        refine (B.apart (by omega)).mono ?_
        clear B
        rintro e w8 ⟨rfl, H⟩
        go_wp2_with (first | go_skip | ((with_reducible refine (LV _ _ H).mono ?_); clear H; rintro _ _ ⟨rfl, H⟩))
        go_ret
        exact ⟨rfl, H.tail⟩
  · have B := BookN.new H
    clear H
    refine (layN_H kb 0 (some ⟨g, 0, none⟩) n (n + 2) (by omega) B).mono ?_
    clear B
    rintro e w6 ⟨rfl, B⟩
    go_wp2_with (go_skip)
    refine (layN_H kb (0 + 1) a1 ny c1 (by omega) B).mono ?_
    clear B
    rintro e w7 ⟨rfl, B⟩
    go_wp2_with (go_skip)
    go_loopw [15] (FgN W LL kb nl) (fun i _ => nl - (intOf i).toNat)
    case atStart => exact ⟨⟨0, rfl, by omega, B⟩⟩
    case round =>
      obtain ⟨k, rfl, hk, B'⟩ := hrel.out
      clear B hrel
      have B := B'
      clear B'
      by_cases hlt : k < nl
      · have hk1 : k < L.length := by rw [HNL.out.1]; exact hlt
        obtain ⟨a5, c5, e5⟩ := HQ.out.2.2.2 L[k] (List.getElem_mem hk1)
        have hc0 : ∃ g3 o3, a3 = some ⟨g3, o3, none⟩ ∧ wr.cell? ⟨g3, o3 + k, none⟩ = some (.slice a5 L[k].2.length c5) := by
          obtain ⟨ba, bc, vs, H9⟩ := B
          have R := H9.ownRd (a := a3) (List.mem_cons_of_mem _ (List.mem_cons_of_mem _ HQ.out.2.2.1))
          obtain ⟨g3, o3, rfl, _⟩ := R.lt (by rw [List.length_map]; omega)
          refine ⟨g3, o3, rfl, ?_⟩
          have := R.get (i := k) (by rw [List.length_map]; exact hk1)
          rw [this, List.getElem_map, e5]
        obtain ⟨g3, o3, rfl, hc0⟩ := hc0
        generalize L[k].2 = y5 at *
        obtain ⟨n5, hn5⟩ : ∃ n5, y5.length = n5 := ⟨_, rfl⟩
        rw [hn5] at hc0
        clear e5 hk1 hn5
        go_wp2_with (first
          | go_skip
          | ((with_reducible show wpList _ _ _ (_ :: _) _ _); (with_reducible apply wpl_loadCell cell_sl); (· rfl); (· rfl); (· exact hc0); (simp only [Act.put, List.setIfInBounds_toArray, List.set_cons_zero, List.set_cons_succ])))
        refine (layN_H kb (2 + k) a5 n5 c5 (by omega) B).mono ?_
        clear B
        rintro e w8 ⟨rfl, B⟩
        go_wp2_with (go_skip)
        refine ⟨?_, ?_⟩
        · exact ⟨⟨k + 1, by go_num, by omega, B⟩⟩
        · simp [intOf]; omega
      · obtain rfl : k = nl := by omega
        go_wp2_with (go_skip)
        refine (apartN_H kb (2 + k) (by omega) (by omega) B).mono ?_
        clear B
        rintro e w8 ⟨rfl, H⟩
        go_wp2_with (first | go_skip | ((with_reducible refine (LV _ _ H).mono ?_); clear H; rintro _ _ ⟨rfl, H⟩))
        go_ret
        refine ⟨rfl, ?_⟩
        rw [HQ.out.1] at H
        exact H.sublist (List.Sublist.cons _ ((List.Sublist.cons _ ((List.Sublist.cons _ (List.Sublist.cons _ (List.Sublist.cons _ (List.Sublist.refl _)))).trans (List.sublist_append_right _ _))).trans (List.sublist_append_right _ _)))
end
end Go.Proofs.YtlinhcbjljcgbaaDoor

/- How an argument's reading gives what a walk asks of it. -/
namespace Go.Proofs.YtlinhcbjljcgbaaDoor
open Go.ChangeShapes Go.WideShapes Go.ChangeAt Go.RowKit

theorem ints_bytes : ∀ (zs : List Int), (∀ n ∈ zs, (Lit.int .u8 n).wf = true) → ∃ bs : List (BitVec 8), zs = bs.map I8
  | [], _ => ⟨[], rfl⟩
  | z :: zs, h => by
    obtain ⟨bs, rfl⟩ := ints_bytes zs (fun n hn => h n (List.mem_cons_of_mem _ hn))
    have hz := h z (List.mem_cons_self ..)
    have hb := bounds_u8 hz
    obtain ⟨b, rfl⟩ := exists_I8 z (by omega) (by omega)
    exact ⟨b :: bs, rfl⟩

theorem Rd.ofCells {w : World} {x : Addr} {xs : List Value} (h : ∀ i, (hi : i < xs.length) → w.cell? (x.add i) = some xs[i]) : Rd w (some x) xs := by
  obtain ⟨b, o, sp⟩ := x
  intro i hi
  have h0 := h 0 (by omega)
  have hsp : sp = none := by
    rcases sp with _ | s
    · rfl
    · simp only [Addr.add, if_true, World.cell?] at h0
      split at h0 <;> simp at h0
  subst hsp
  exact ⟨b, o, rfl, by rw [← addr_add]; exact h i hi⟩

/-- A slice of bytes that came in. -/
structure IsBytes (w : World) (a : Option Addr) (n c : Nat) (zs : List (BitVec 8)) : Prop where
  len : n = zs.length
  cap : n ≤ c
  max : c ≤ maxLen
  rd : Rd w a (zs.map B8)

theorem open_bytes {H : Type} {enc : TypeId × Value → H} {P : Program} {W : World} {held : Bool} {t e : TypeId} {v : Value} {d : DataW H} {p : List MemPlace} {r : Reach} {base : Nat}
    (ht : P.underlying t = some (.slice e)) (he : P.underlying e = some (.int .u8)) (hc : P.cellsOf e = 1) (hv : Value.okWide P W r base t v)
    (h : DataW.Trod enc P W 0 (fun _ => true) held t v d p) : ∃ a n c zs, v = .slice a n c ∧ IsBytes W a n c zs := by
  obtain ⟨a, n, c, rfl⟩ := okWide_slice ht hv
  obtain ⟨fuel, hf⟩ := h
  rcases open_ints ht he hc hf with ⟨hcs, _⟩ | ⟨x, l, c', zs, hcs, _, hl, hm, hz, _, hcell, hwz⟩
  · simp [Value.cells] at hcs
    obtain ⟨rfl, rfl, rfl⟩ := hcs
    exact ⟨none, 0, 0, [], rfl, rfl, Nat.le_refl _, by unfold maxLen; omega, Rd.nil _ _⟩
  · simp [Value.cells] at hcs
    obtain ⟨rfl, rfl, rfl⟩ := hcs
    obtain ⟨bs, rfl⟩ := ints_bytes zs hwz
    rw [if_pos rfl] at hz
    refine ⟨_, n, c, bs.take n, rfl, ?_, hl, hm, Rd.ofCells fun i hi => ?_⟩
    · simp at hz ⊢; omega
    · simp at hi hz
      rw [hcell i (by simp; omega)]
      simp [List.getD_eq_getElem?_getD, B8, show i < bs.length by omega]
end Go.Proofs.YtlinhcbjljcgbaaDoor

/- FramesGet: its arguments. -/
namespace Go.Proofs.YtlinhcbjljcgbaaDoor
open Go.RowKit
set_option maxRecDepth 100000
theorem framesGet_law (a0 : Option Addr) (n0 c0 : Nat) (z0 : List (BitVec 8)) (W : World) (o0 : IsBytes W a0 n0 c0 z0) (ht : TabAt W) :
    Calls Tryd.prog 7 #[.slice a0 n0 c0] W fun e w' => e = .returned (.bool true) ∧ Below W.heap.size W w' := by
  have hn := o0.cap
  have hm := o0.max
  have H := Heap.start W
  by_cases h : 20000 < n0
  · exact (fget_many a0 n0 c0 h (by unfold maxLen at hm; omega) ht H).mono fun e w' ⟨he, hh⟩ => ⟨he, hh.low⟩
  · exact (fget_H a0 n0 c0 z0 (by omega) hn hm o0.len.symm ht (fun _ w' _ H => H.rd o0.rd) H).mono fun e w' ⟨he, hh⟩ => ⟨he, hh.low⟩
end Go.Proofs.YtlinhcbjljcgbaaDoor

/- The table of half bytes: what the row's condition on it gives a walk, and a world that meets the condition. -/
namespace Go.Proofs.YtlinhcbjljcgbaaDoor
open Go.ChangeShapes Go.WideShapes Go.ChangeAt Go.RowKit

theorem own : ownKnob Tryd.prog.godebug = none := by kernel_rfl
theorem laidOut : laidOutB Tryd.prog = true := by kernel_rfl
theorem gTab : Tryd.prog.globalNamed "countinghouse/sums.table" = some 0 := by kernel_rfl
theorem tTab : (Tryd.prog.globals[0]?).map (·.type) = some 56 := by kernel_rfl
abbrev laidL : List (String × DataW Unit) := [("countinghouse/sums.table", Rows.laid_countinghouse_sums_table)]
theorem door_met (os : Os) (args : Array Value) : laidMetH Tryd.prog laidL ((World.doorLaid Tryd.prog 14 os).forCall (fun _ _ => 0) ⟨#[], args, []⟩).memory :=
  laidMetH_of_parts3 (fuel := 8) (laidMet_of_run' 8 (by kernel_rfl) (by kernel_rfl)) (by kernel_rfl) (by kernel_rfl)

theorem tab_of_laid {W : World} (h : laidMetH Tryd.prog laidL W) : TabAt W := by
  rw [MakeChecks.laidMetH_plain _ _ _ (by kernel_rfl)] at h
  have hT : Lib.TabIs Tryd.prog W "countinghouse/sums.table" .u32 (tabL.map I32) :=
    Lib.tabIs_of_head gTab tTab Tryd.underlying56 Tryd.underlying25 (by kernel_rfl) (by kernel_rfl) (rest := []) (by
      have e : Lib.tabData .u32 (tabL.map I32) = (Rows.laid_countinghouse_sums_table : DataW Unit) := by kernel_rfl
      rw [e]; exact h)
  intro x
  have hlt : (x &&& 15#32).toNat < 16 := by have := I32_15 x; unfold I32 at this; omega
  have hi : (I32 (x &&& 15#32)).toNat < (tabL.map I32).length := by unfold I32; simpa [tabL] using hlt
  have := hT.cell gTab _ hi
  rw [this]
  unfold tab
  congr 2
  simp only [List.getD_eq_getElem?_getD, List.getElem?_map]
  have e : (I32 (x &&& 15#32)).toNat = (x &&& 15#32).toNat := by unfold I32; omega
  rw [e, List.getElem?_eq_getElem (by simpa [tabL] using hlt)]
  rfl
end Go.Proofs.YtlinhcbjljcgbaaDoor
