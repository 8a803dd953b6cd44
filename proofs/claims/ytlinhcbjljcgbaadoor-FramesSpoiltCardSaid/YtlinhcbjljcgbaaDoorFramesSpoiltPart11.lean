/- FramesSpoilt: part 11 of its proof: FrList, Frame4, FrArg, LawFramesCut. -/
import Derived.Test.YtlinhcbjljcgbaaDoorFramesSpoiltPart10
/- Lists of bodies that are the same; a book of more pages than are asked about. -/
namespace Go.Proofs.YtlinhcbjljcgbaaDoor
open Go.RowKit
attribute [local go_sem] Oper.semAt_some
set_option linter.unusedSimpArgs false
set_option linter.unusedVariables false
theorem getOf_body0 {zs : Bs} (h : (getOf zs).e ≠ 0) : (getOf zs).body = [] := by
  unfold getOf at *
  split
  · rfl
  · split
    · rfl
    · split
      · rfl
      · split
        · rfl
        · rename_i a b c d
          rw [if_neg a, if_neg b, if_neg c, if_neg d] at h
          exact absurd rfl h
/-- A book with so many pages. -/
def BookN (W : World) (l : List Thing) (kb N : Nat) (w : World) : Prop := ∃ a c vs, Heap W (BkT kb (.slice a N c) :: PgsT (.slice a N c) N vs :: l) w
section
variable {W w : World} {l : List Thing}
set_option maxRecDepth 100000
set_option maxHeartbeats 2000000
theorem BookN.new {kb : Nat} (H : Heap W (BkT kb (.slice none 0 0) :: l) w) : BookN W l kb 0 w := ⟨none, 0, [], (H.nilRow _ _).perm (.swap _ _ _)⟩
theorem lists_H (a b : Option Addr) (c d : Nat) (L M : List (Value × Bs)) (hl : L.length ≤ 100000) (hS : SlV L) (hT : SlV M) (he : L.map (·.2) = M.map (·.2)) (hb : ∀ x ∈ L, x.2.length ≤ 100000) (mL : LoT (.slice a L.length c) L ∈ l) (mM : LoT (.slice b M.length d) M ∈ l) (hL : ∀ x ∈ L, bT x ∈ l) (hM : ∀ x ∈ M, bT x ∈ l) :
    AnsH W l 30 #[.slice a L.length c, .slice b M.length d] (.bool true) := by
  intro w H
  have hlen : M.length = L.length := by
    have := congrArg List.length he
    simpa using this.symm
  obtain ⟨n, hn⟩ : ∃ n, L.length = n := ⟨_, rfl⟩
  have HS := Lib.hid (And.intro hS (And.intro hT (And.intro he (And.intro hL (And.intro hM (And.intro hn (And.intro hlen hb)))))))
  have ML := Lib.hid (And.intro mL mM)
  clear hS hT he hL hM hb mL mM
  rw [hlen, hn]
  rw [hn] at hl
  have fnn : ((n : Int) != (n : Int)) = false := by simp
  clear hlen hn
  go_enter Tryd.func30, Tryd.ntmps30
  go_wp2_with (go_skip)
  have H0 := H
  clear H
  go_loopw [5] (fun i wr => ∃ k : Nat, k ≤ n ∧ i = .int .i64 k ∧ Heap W l wr) (fun i _ => n - (intOf i).toNat)
  case atStart => exact ⟨0, Nat.zero_le _, rfl, H0⟩
  case round =>
    obtain ⟨k, hkn, rfl, H'⟩ := hrel
    clear H0
    have H := H'
    clear H'
    by_cases hlt : k < n
    · have hk1 : k < L.length := by rw [HS.out.2.2.2.2.2.1]; exact hlt
      have hk2 : k < M.length := by rw [HS.out.2.2.2.2.2.2.1]; exact hk1
      obtain ⟨a1, c1, e1⟩ := HS.out.1 L[k] (List.getElem_mem hk1)
      obtain ⟨a2, c2, e2⟩ := HS.out.2.1 M[k] (List.getElem_mem hk2)
      have heq : L[k].2 = M[k].2 := by
        have := congrArg (fun l => l[k]?) HS.out.2.2.1
        simp only [List.getElem?_map, List.getElem?_eq_getElem hk1, List.getElem?_eq_getElem hk2, Option.map_some] at this
        exact Option.some.inj this
      have hbk := HS.out.2.2.2.2.2.2.2 L[k] (List.getElem_mem hk1)
      have m1 := HS.out.2.2.2.1 L[k] (List.getElem_mem hk1)
      have m2 := HS.out.2.2.2.2.1 M[k] (List.getElem_mem hk2)
      unfold bT at m1 m2
      rw [e1] at m1
      rw [e2] at m2
      obtain ⟨g1, o1, rfl, _⟩ := (H.ownRd ML.out.1).lt (by rw [List.length_map]; omega)
      obtain ⟨g2, o2, rfl, _⟩ := (H.ownRd ML.out.2).lt (by rw [List.length_map]; omega)
      have K1 := Lib.hid (show ∀ w', Heap W l w' → w'.cell? ⟨g1, o1 + k, none⟩ = some (.slice a1 L[k].2.length c1) from fun w' h => by
        have := (h.ownRd ML.out.1).get (i := k) (by rw [List.length_map]; exact hk1)
        rw [this, List.getElem_map, e1])
      have K2 := Lib.hid (show ∀ w', Heap W l w' → w'.cell? ⟨g2, o2 + k, none⟩ = some (.slice a2 M[k].2.length c2) from fun w' h => by
        have := (h.ownRd ML.out.2).get (i := k) (by rw [List.length_map]; exact hk2)
        rw [this, List.getElem_map, e2])
      clear e1 e2
      generalize L[k].2 = y1 at *
      generalize M[k].2 = y2 at *
      subst heq
      obtain ⟨m, hm⟩ : ∃ m, y1.length = m := ⟨_, rfl⟩
      rw [hm] at m1 m2 K1 K2 hbk
      have SB := sameB_H (W := W) (l := l) a1 a2 m m c1 c2 y1 y1 hm.symm hm.symm (by unfold maxLen; omega) (fun w' h => h.ownRd m1) (fun w' h => h.ownRd m2)
      rw [decide_eq_true rfl] at SB
      clear m1 m2 hm hbk hk1 hk2
      go_wp2_with (go_skip)
      refine wp_region_H H (by kernel_rfl) (by kernel_rfl) ?_
      repeat (first | go_big_quiet_skip | ((with_reducible apply wpQ_loadCell); (· exact cell_sl); (· rfl); (· rfl); (· first | exact K1.out | exact K2.out); (simp only [Act.put, List.setIfInBounds_toArray, List.set_cons_zero, List.set_cons_succ])) | go_big_quiet_step (exact SB.quiet))
      refine wpQuiet_nil ?_
      clear H
      intro _ H
      go_wp2_with (go_skip)
      go_roundw
      case rel => exact ⟨k + 1, by omega, by go_num, H⟩
      case measure => simp [intOf]; omega
    · obtain rfl : k = n := by omega
      go_wp2_with (go_skip)
      go_ret
      exact ⟨rfl, H⟩
theorem layN_H (kb N : Nat) (a : Option Addr) (n c : Nat) (hN : N ≤ 100000) (B : BookN W l kb N w) :
    Calls Tryd.prog 21 #[.pointer (some ⟨kb, 0, none⟩), .slice a n c] w fun e w' => e = .returned (.tuple #[]) ∧ BookN W l kb (N + 1) w' := by
  obtain ⟨ba, bc, vs, H⟩ := B
  have hn1 : N + 1 ≤ maxLen := by unfold maxLen; omega
  have hn2 : (N + 1) * 16 ≤ 140737488355328 := by omega
  have hNB := number_H (W := W) (l := BkT kb (.slice ba N bc) :: PgsT (.slice ba N bc) N vs :: l) kb ba N bc (by omega) List.mem_cons_self
  go_enter Tryd.func21, Tryd.ntmps21
  go_wp2_with (first
    | go_skip
    | ((with_reducible refine AnsH.call (by assumption) H ?_); clear H; intro _ H)
    | ((with_reducible show wpList _ _ _ (_ :: _) _ _); (with_reducible apply wpl_loadCH); (· exact cell_pages); (· rfl); (· rfl); (· exact H); (· (repeat (first | (with_reducible exact List.mem_cons_self) | with_reducible apply List.mem_cons_of_mem))); (· exact bookC_g _); (simp only [Act.put, List.setIfInBounds_toArray, List.set_cons_zero, List.set_cons_succ]))
    | ((with_reducible show wpList _ _ _ (_ :: _) _ _); (with_reducible apply wpl_bsOnes _ [(pageBy a n c (((N : Int) + 1) % 256) (bits .xor .u8 (((N : Int) + 1) % 256) 128)).v]); (· rfl); (· rfl); (· rfl); (· decide); (· decide); (· intro v hv; rw [List.mem_singleton.1 hv]; rfl); (· exact bs_page); (· rfl); (· exact H); (clear H; intro pk _ H); (simp only [Act.put, List.setIfInBounds_toArray, List.set_cons_zero, List.set_cons_succ]))
    | ((with_reducible show wpList _ _ _ (_ :: _) _ _); (with_reducible apply wpl_appendH slPage); (· rfl); (· rfl); (· rfl); (· rfl); (· exact H.top2 (.there (.there .here)) .here); (· exact H.celRd List.mem_cons_self); (· rfl); (· intro u hu; rw [List.mem_singleton.1 hu]; rfl); (· exact hn1); (· exact hn2); (clear H; intro v2 _ H; obtain ⟨a2, c2, rfl, _, _⟩ := RowT.form0 (H.ok _ List.mem_cons_self)); (simp only [Act.put, List.setIfInBounds_toArray, List.set_cons_zero, List.set_cons_succ]))
    | ((with_reducible show wpList _ _ _ (_ :: _) _ _); (with_reducible apply wpl_storeSH); (· exact cell_pages); (· rfl); (· rfl); (· rfl); (· exact H); (· (repeat (first | (with_reducible exact List.mem_cons_self) | with_reducible apply List.mem_cons_of_mem))); (· exact Nat.le_refl 1); (· rfl); (· (repeat (first | (with_reducible exact Repl.here) | with_reducible apply Repl.there))); (clear H; intro _ H); (simp only [Act.put, List.setIfInBounds_toArray, List.set_cons_zero, List.set_cons_succ])))
  go_end0
  exact ⟨rfl, a2, c2, _, (H.drop (.there .here)).perm (.swap _ _ _)⟩
theorem apartN_H (kb N : Nat) (hN : 120 < N) (hm : N ≤ 1000000) (B : BookN W l kb N w) : Calls Tryd.prog 22 #[.pointer (some ⟨kb, 0, none⟩)] w fun e w' => e = .returned (.bool true) ∧ Heap W l w' := by
  obtain ⟨ba, bc, vs, H⟩ := B
  have d1 : decide ((N : Int) > 120) = true := by simp; omega
  have d2 : decide (120 < (N : Int)) = true := by simp; omega
  go_enter Tryd.func22, Tryd.ntmps22
  go_wp2_with (first
    | go_skip
    | ((with_reducible show wpList _ _ _ (_ :: _) _ _); (with_reducible apply wpl_loadCH); (· exact cell_pages); (· rfl); (· rfl); (· exact H); (· (repeat (first | (with_reducible exact List.mem_cons_self) | with_reducible apply List.mem_cons_of_mem))); (· exact bookC_g _); (simp only [Act.put, List.setIfInBounds_toArray, List.set_cons_zero, List.set_cons_succ])))
  go_ret
  exact ⟨rfl, H.tail.tail⟩
end
end Go.Proofs.YtlinhcbjljcgbaaDoor

/- Bodies that are not too many; where their frames end (plain). -/
namespace Go.Proofs.YtlinhcbjljcgbaaDoor
set_option linter.unusedVariables false
def greatF : List Bs → Nat → Bool
  | [], n => decide (20000 < n)
  | x :: L, n => if 20000 < n then true else if 8192 < x.length then true else greatF L (n + 10 + x.length)
theorem greatF_over : ∀ (L : List Bs) (n : Nat), 20000 < n → greatF L n = true
  | [], n, h => by unfold greatF; simpa using h
  | x :: L, n, h => by unfold greatF; rw [if_pos h]
def sumB : List Bs → Nat
  | [] => 0
  | x :: L => 10 + x.length + sumB L
theorem greatF_ok : ∀ (L : List Bs) (n : Nat), greatF L n = false → (∀ x ∈ L, x.length ≤ 8192) ∧ n + sumB L ≤ 20000
  | [], n, h => by
    unfold greatF at h
    simp at h
    exact ⟨by simp, by simp [sumB]; exact h⟩
  | x :: L, n, h => by
    unfold greatF at h
    split at h
    · cases h
    · split at h
      · cases h
      · have := greatF_ok L _ h
        refine ⟨fun y hy => ?_, by unfold sumB; omega⟩
        rcases List.mem_cons.1 hy with rfl | hy
        · omega
        · exact this.1 y hy
theorem frs_len : ∀ (L : List Bs), (frs L).length ≤ sumB L ∧ 10 * L.length ≤ sumB L
  | [] => by simp [frs, sumB]
  | x :: L => by
    have h1 := frs_len L
    have h2 := frameOf_len x
    have h3 := num2_len x.length
    rw [frs_cons, List.length_append, List.length_cons, sumB]
    split at h3 <;> omega
theorem frs_take (L : List Bs) {k : Nat} (h : k < L.length) : frs (L.take (k + 1)) = frs (L.take k) ++ frameOf L[k] := by
  have e : L.take (k + 1) = L.take k ++ [L[k]] := by rw [List.take_add_one, List.getElem?_eq_getElem h]; rfl
  rw [e, frs_append, frs_one]
theorem frs_mono (L : List Bs) {j k : Nat} (h : j ≤ k) : (frs (L.take j)).length ≤ (frs (L.take k)).length := by
  have e : L.take k = L.take j ++ (L.take k).drop j := by
    have := List.take_append_drop j (L.take k)
    rw [List.take_take, Nat.min_eq_left h] at this
    exact this.symm
  rw [e, frs_append, List.length_append]
  omega
theorem frs_lt (L : List Bs) {k : Nat} (h : k < L.length) : (frs (L.take k)).length < (frs (L.take (k + 1))).length := by
  rw [frs_take L h, List.length_append, frameOf_len]
  omega
theorem sumB_take (L : List Bs) (k : Nat) : sumB (L.take k) ≤ sumB L := by
  induction L generalizing k with
  | nil => simp [sumB]
  | cons x L ih =>
    cases k with
    | zero => simp [sumB]
    | succ k => rw [List.take_succ_cons, sumB, sumB]; have := ih k; omega
/-- Where a frame's end is: how many end there, or before. -/
def endsTo (L : List Bs) (to : Nat) : Nat → Nat
  | 0 => 0
  | k + 1 => if k < L.length ∧ (frs (L.take (k + 1))).length ≤ to then k + 1 else endsTo L to k
end Go.Proofs.YtlinhcbjljcgbaaDoor

/- countinghouselaw18.great, put. -/
namespace Go.Proofs.YtlinhcbjljcgbaaDoor
open Go.RowKit
attribute [local go_sem] Oper.semAt_some
set_option linter.unusedSimpArgs false
set_option linter.unusedVariables false
/-- Where the frames end. -/
def endsV (L : List Bs) (k : Nat) : List Value := (List.range k).map fun i => .int .i64 ((frs (L.take (i + 1))).length : Int)
theorem endsV_succ (L : List Bs) (k : Nat) : endsV L (k + 1) = endsV L k ++ [.int .i64 ((frs (L.take (k + 1))).length : Int)] := by
  unfold endsV
  rw [List.range_succ, List.map_append]
  rfl
theorem endsV_len (L : List Bs) (k : Nat) : (endsV L k).length = k := by unfold endsV; simp
theorem endsV_at (L : List Bs) {i k : Nat} (h : i < k) : (endsV L k)[i]? = some (.int .i64 ((frs (L.take (i + 1))).length : Int)) := by
  unfold endsV
  rw [List.getElem?_map, List.getElem?_range h]
  rfl
theorem slInt : SlTy Tryd.prog 46 3 1 8 (.int .i64 0) := slTy_mk Tryd.underlying46 (by kernel_rfl) rfl (by decide)
theorem bs_int : Tryd.prog.underlying 46 = some (.slice 3) ∧ (Tryd.prog.info? 3).map (fun i => (i.size, i.zero)) = some (1, some (.int .i64 0)) := ⟨Tryd.underlying46, by kernel_rfl⟩
/-- A list of bodies that came in. -/
structure InL (W : World) (a : Option Addr) (n c : Nat) (L : List (Value × Bs)) : Prop where
  len : L.length = n
  cap : n ≤ c
  max : c ≤ maxLen
  rd : Rd W a (L.map (·.1))
  val : ∀ x ∈ L, ∃ ai ci, x.1 = .slice ai x.2.length ci ∧ x.2.length ≤ ci ∧ ci ≤ maxLen ∧ Rd W ai (x.2.map B8)
structure GrL (W : World) (l : List Thing) (L : List Bs) (v i : Value) (wr : World) : Prop where
  out : ∃ k s : Nat, i = .int .i64 (k : Int) ∧ v = .int .i64 (s : Int) ∧ k ≤ L.length ∧ s ≤ 30000 ∧ greatF (L.drop k) s = greatF L 0 ∧ Heap W l wr
section
variable {W w : World} {l : List Thing}
theorem InL.cell {a : Option Addr} {n c k : Nat} {L : List (Value × Bs)} (h : InL W a n c L) (H : Heap W l w) (hk : k < n) : ∃ g o ai ci, a = some ⟨g, o, none⟩ ∧ w.cell? ⟨g, o + k, none⟩ = some (.slice ai (L[k]'(by rw [h.len]; exact hk)).2.length ci) ∧ (L[k]'(by rw [h.len]; exact hk)).2.length ≤ ci ∧ ci ≤ maxLen ∧ Rd W ai ((L[k]'(by rw [h.len]; exact hk)).2.map B8) := by
  have hk1 : k < L.length := by rw [h.len]; exact hk
  obtain ⟨ai, ci, e, h1, h2, h3⟩ := h.val L[k] (List.getElem_mem hk1)
  have R := H.rd h.rd
  obtain ⟨g, o, rfl, _⟩ := R.lt (by rw [List.length_map]; omega)
  refine ⟨g, o, ai, ci, rfl, ?_, h1, h2, h3⟩
  have := R.get (i := k) (by rw [List.length_map]; exact hk1)
  rw [this, List.getElem_map, e]
set_option maxRecDepth 100000
set_option maxHeartbeats 2000000
theorem great_H (a : Option Addr) (n c : Nat) (L : List (Value × Bs)) (hI : InL W a n c L) : AnsH W l 31 #[.slice a n c] (.bool (greatF (L.map (·.2)) 0)) := by
  intro w H
  have HI := Lib.hid hI
  have hnm := Nat.le_trans hI.cap hI.max
  unfold maxLen at hnm
  clear hI
  go_enter Tryd.func31, Tryd.ntmps31
  go_wp2_with (go_skip)
  go_loopw [3, 4] (GrL W l (L.map (·.2))) (fun _ i _ => n - (intOf i).toNat)
  case atStart => exact ⟨⟨0, 0, rfl, rfl, by omega, by omega, rfl, H⟩⟩
  case round =>
    obtain ⟨k, s, rfl, rfl, hk, hs, hg, H'⟩ := hrel.out
    clear H hrel
    have H := H'
    clear H'
    rw [List.length_map, HI.out.len] at hk
    by_cases hlt : k < n
    · by_cases hov : 20000 < s
      · have hgr := greatF_over ((L.map (·.2)).drop k) s hov
        rw [hg] at hgr
        have f1 : decide ((s : Int) ≤ 20000) = false := by simp; omega
        have f2 : decide ((s : Int) > 20000) = true := by simp; omega
        have f3 : decide (20000 < (s : Int)) = true := by simp; omega
        have HG := Lib.hid hgr
        clear hg hgr
        go_wp2_with (go_skip)
        go_ret
        exact ⟨by rw [HG.out]; rfl, H⟩
      · have f1 : decide ((s : Int) ≤ 20000) = true := by simp; omega
        obtain ⟨g, o, ai, ci, rfl, hc0, h1, h2, _⟩ := HI.out.cell H hlt
        have hk1 : k < (L.map (·.2)).length := by rw [List.length_map, HI.out.len]; exact hlt
        have hd : (L.map (·.2)).drop k = (L.map (·.2))[k] :: (L.map (·.2)).drop (k + 1) := List.drop_eq_getElem_cons hk1
        rw [hd, greatF, if_neg hov, List.getElem_map] at hg
        obtain ⟨m, hm⟩ : ∃ m, (L[k]'(by rw [HI.out.len]; exact hlt)).2.length = m := ⟨_, rfl⟩
        rw [hm] at hg hc0 h1
        have hmm := Nat.le_trans h1 h2
        unfold maxLen at hmm
        clear hd hk1 hm h1 h2
        by_cases hbig : 8192 < m
        · rw [if_pos hbig] at hg
          have f4 : decide ((m : Int) > 8192) = true := by simp; omega
          have f5 : decide (8192 < (m : Int)) = true := by simp; omega
          have HG := Lib.hid hg
          clear hg
          go_wp2_with (first
            | go_skip
            | ((with_reducible show wpList _ _ _ (_ :: _) _ _); (with_reducible apply wpl_loadCell cell_sl); (· rfl); (· rfl); (· exact hc0); (simp only [Act.put, List.setIfInBounds_toArray, List.set_cons_zero, List.set_cons_succ])))
          go_ret
          exact ⟨by rw [← HG.out]; rfl, H⟩
        · rw [if_neg hbig] at hg
          have f4 : decide ((m : Int) > 8192) = false := by simp; omega
          have f5 : decide (8192 < (m : Int)) = false := by simp; omega
          have HG := Lib.hid hg
          clear hg
          go_wp2_with (first
            | go_skip
            | ((with_reducible show wpList _ _ _ (_ :: _) _ _); (with_reducible apply wpl_loadCell cell_sl); (· rfl); (· rfl); (· exact hc0); (simp only [Act.put, List.setIfInBounds_toArray, List.set_cons_zero, List.set_cons_succ])))
          refine ⟨?_, ?_⟩
          · exact ⟨⟨k + 1, s + 10 + m, by go_num, by go_num, by rw [List.length_map, HI.out.len]; omega, by omega, HG.out, H⟩⟩
          · simp [intOf]; omega
    · obtain rfl : k = n := by omega
      have e0 : (L.map (·.2)).drop k = [] := by rw [List.drop_eq_nil_of_le (by rw [List.length_map, HI.out.len]; exact Nat.le_refl _)]
      rw [e0, greatF] at hg
      have HG := Lib.hid hg
      clear hg e0
      go_wp2_with (go_skip)
      go_ret
      refine ⟨?_, H⟩
      rw [← HG.out]
      simp
      omega
/-- What is put of the bodies so far. -/
structure PuL (W : World) (l : List Thing) (L : List Bs) (b e i : Value) (wr : World) : Prop where
  out : ∃ (k : Nat) (a : Option Addr) (c : Nat) (a2 : Option Addr) (c2 : Nat), i = .int .i64 (k : Int) ∧ k ≤ L.length ∧ b = .slice a (frs (L.take k)).length c ∧ e = .slice a2 k c2 ∧ Heap W (RowT 3 1 (.slice a2 k c2) k (endsV L k) :: OwnB (.slice a (frs (L.take k)).length c) (frs (L.take k)).length (frs (L.take k)) :: l) wr
def PutsPost (W : World) (l : List Thing) (L : List Bs) (e : Ending) (w' : World) : Prop :=
  ∃ a c a2 c2, e = .returned (.tuple #[.slice a (frs L).length c, .slice a2 L.length c2]) ∧ Heap W (RowT 3 1 (.slice a2 L.length c2) L.length (endsV L L.length) :: OwnB (.slice a (frs L).length c) (frs L).length (frs L) :: l) w'
theorem puts_H (a : Option Addr) (n c : Nat) (L : List (Value × Bs)) (hI : InL W a n c L) (hg : greatF (L.map (·.2)) 0 = false) (T : TabAt W) (H : Heap W l w) : Calls Tryd.prog 32 #[.slice a n c] w (PutsPost W l (L.map (·.2))) := by
  have HI := Lib.hid hI
  have hnm := Nat.le_trans hI.cap hI.max
  unfold maxLen at hnm
  have hok := greatF_ok _ _ hg
  have hfl := frs_len (L.map (·.2))
  have hcn : 10 * n ≤ 20000 := by
    have h1 := hfl.2
    rw [List.length_map, hI.len] at h1
    omega
  have HG := Lib.hid (And.intro hok hfl)
  clear hI hg hok hfl
  go_enter Tryd.func32, Tryd.ntmps32
  go_wp2_with (go_skip)
  go_loopw [4, 5, 6] (PuL W l (L.map (·.2))) (fun _ _ i _ => n - (intOf i).toNat)
  case atStart => exact ⟨⟨0, none, 0, none, 0, rfl, by omega, rfl, rfl, ((H.nilRow 5 1).slide.nilRow 3 1)⟩⟩
  case round =>
    obtain ⟨k, a1, c1, a2, c2, rfl, hk, rfl, rfl, H'⟩ := hrel.out
    clear H hrel
    have H := H'
    clear H'
    rw [List.length_map, HI.out.len] at hk
    by_cases hlt : k < n
    · obtain ⟨g, o, ai, ci, rfl, hc0, h1, h2, hrd⟩ := HI.out.cell H hlt
      have hk1 : k < (L.map (·.2)).length := by rw [List.length_map, HI.out.len]; exact hlt
      have hft := frs_take (L.map (·.2)) hk1
      have hfm : (frs ((L.map (·.2)).take k)).length ≤ 20000 := by
        have g1 := frs_len ((L.map (·.2)).take k)
        have g2 := sumB_take (L.map (·.2)) k
        have g3 := HG.out.1.2
        omega
      have hx8 := HG.out.1.1 (L.map (·.2))[k] (List.getElem_mem hk1)
      rw [List.getElem_map] at hft hx8
      generalize (L[k]'(by rw [HI.out.len]; exact hlt)).2 = x at *
      obtain ⟨m, hm⟩ : ∃ m, x.length = m := ⟨_, rfl⟩
      rw [hm] at hc0 h1 hx8
      obtain ⟨F, hF⟩ : ∃ F, frs ((L.map (·.2)).take k) = F := ⟨_, rfl⟩
      rw [hF] at H hft hfm
      rw [hF]
      obtain ⟨fl, hfl⟩ : ∃ fl, F.length = fl := ⟨_, rfl⟩
      rw [hfl] at H hfm
      rw [hfl]
      have HX := Lib.hid (And.intro hm (And.intro hft (And.intro hfl (And.intro hF hrd))))
      clear hm hft hfl hF hrd hk1
      go_wp2_with (first
        | go_skip
        | ((with_reducible show wpList _ _ _ (_ :: _) _ _); (with_reducible apply wpl_loadCell cell_sl); (· rfl); (· rfl); (· exact hc0); (simp only [Act.put, List.setIfInBounds_toArray, List.set_cons_zero, List.set_cons_succ])))
      refine (put_H a1 ai fl m c1 ci F x hx8 HX.out.2.2.1 HX.out.1 (by omega) T (fun l' w' hs H' => H'.ownRd (hs _ (by (repeat (first | (with_reducible exact List.mem_cons_self) | with_reducible apply List.mem_cons_of_mem))))) (fun l' w' hs H' => H'.rd HX.out.2.2.2.2) H).mono ?_
      clear H
      rintro e w4 ⟨a4, c4, rfl, H⟩
      have hfx := frameOf_len x
      have hnx := num2_len x.length
      have hN : (F ++ frameOf x).length = fl + (frameOf x).length := by rw [List.length_append, HX.out.2.2.1]
      have hNb : fl + (frameOf x).length ≤ 30000 := by
        rw [hfx, hnx, HX.out.1]; split <;> omega
      obtain ⟨N, hNN⟩ : ∃ N, fl + (frameOf x).length = N := ⟨_, rfl⟩
      rw [hNN] at H hN hNb
      rw [hNN]
      have HNN := Lib.hid hN
      have h3 : k + 1 ≤ maxLen := by unfold maxLen; omega
      have h4 : (k + 1) * 8 ≤ 140737488355328 := by omega
      clear hfx hnx hN hNN
      go_wp2_with (first
        | ((with_reducible show wpList _ _ _ (_ :: _) _ _); (with_reducible apply wpl_bsOnes _ [.int .i64 (N : Int)]); (· rfl); (· rfl); (· rfl); (· decide); (· decide); (· exact fun v hv => by rw [List.mem_singleton.1 hv]; rfl); (· exact bs_int); (· rfl); (· exact H.pull (.there .here)); (clear H; intro pk _ H); (simp only [Act.put, List.setIfInBounds_toArray, List.set_cons_zero, List.set_cons_succ]))
        | ((with_reducible show wpList _ _ _ (_ :: _) _ _); (with_reducible apply wpl_appendA slInt); (· rfl); (· rfl); (· rfl); (· rfl); (· exact H.pull (.there .here)); (· exact H.celRd List.mem_cons_self); (· rfl); (· exact fun u hu => by rw [List.mem_singleton.1 hu]; rfl); (· exact h3); (· exact h4); (clear H; intro v2 _ _ H; obtain ⟨a5, c5, rfl, _, _⟩ := RowT.form0 (H.ok _ List.mem_cons_self)); (simp only [Act.put, List.setIfInBounds_toArray, List.set_cons_zero, List.set_cons_succ]))
        | go_skip)
      refine ⟨?_, ?_⟩
      · have e3 : frs ((L.map (·.2)).take (k + 1)) = F ++ frameOf x := HX.out.2.1
        refine ⟨⟨k + 1, a4, c4, a5, c5, by go_num, by rw [List.length_map, HI.out.len]; omega, by rw [e3, HNN.out], rfl, ?_⟩⟩
        rw [endsV_succ, e3, HNN.out]
        exact (H.drop (.there .here)).drop (.there (.there .here))
      · simp [intOf]; omega
    · obtain rfl : k = n := by omega
      have e0 : (L.map (·.2)).take k = L.map (·.2) := List.take_of_length_le (by rw [List.length_map, HI.out.len]; exact Nat.le_refl _)
      have e1 : (L.map (·.2)).length = k := by rw [List.length_map, HI.out.len]
      have HE := Lib.hid (And.intro e0 e1)
      rw [e0]
      clear e0 e1
      go_wp2_with (go_skip)
      go_ret2
      refine ⟨a1, c1, a2, c2, by rw [HE.out.2]; rfl, ?_⟩
      rw [HE.out.1] at H
      rw [HE.out.2]
      exact H
end
end Go.Proofs.YtlinhcbjljcgbaaDoor

/- FramesCut: its walk. -/
namespace Go.Proofs.YtlinhcbjljcgbaaDoor
open Go.RowKit
attribute [local go_sem] Oper.semAt_some
set_option linter.unusedSimpArgs false
set_option linter.unusedVariables false
section
variable {ops : Array Oper} {rest : List Oper} {a : Act} {w W : World} {l : List Thing}
theorem wpQ_toStr {dst : Option Tmp} {ty : TypeId} {pos : String} {after : Array Edge} {guard : Option (Nat × Bool)} {x : Operand} {K : Act → Prop} {H : Heap W l w} (hw : Region.wanted ⟨dst, .convert 22 9 x, ty, pos, after, guard⟩ (yielded ops a.tmps) = true)
    {ao : Option Addr} {n c : Nat} {zs : Bs} (hx : a.eval x = .slice ao n c) (hn : n = zs.length) (R : ∀ w', Heap W l w' → Rd w' ao (zs.map B8))
    (h : wpQuiet Tryd.prog ops (fun w' => ∃ d, w' = H.any d) K rest (a.put dst (.string (strOf zs)))) : wpQuiet Tryd.prog ops (fun w' => ∃ d, w' = H.any d) K (⟨dst, .convert 22 9 x, ty, pos, after, guard⟩ :: rest) a := by
  refine BigFrame.wpQuiet_want hw fun K hK => ⟨_, ?_, hK _ h⟩
  rintro _ ⟨d, rfl⟩
  have hr := run_toString (H.any d) Tryd.underlying22 Tryd.underlying5 Tryd.underlying9 ao n c zs hn (R _ (H.any_heap d))
  unfold Oper.quietAt execOp
  simp only [hx, Sem.run_bind, hr]
  exact ⟨rfl, rfl⟩
end
theorem Heap.sub {W w : World} {l l' : List Thing} (H : Heap W l w) (h : List.Sublist l' l) : Heap W l' w :=
  ⟨H.low, fun x hx => H.ok x (h.subset hx), fun x hx => H.fp x (h.subset hx), H.apart.sublist h⟩
structure FcN (W : World) (l : List Thing) (L : List Bs) (to n : Nat) (i v : Value) (wr : World) : Prop where
  out : ∃ j : Nat, i = .int .i64 (j : Int) ∧ v = .int .i64 ((frs (L.take j)).length : Int) ∧ j ≤ n ∧ (frs (L.take j)).length ≤ to ∧ Heap W l wr
section
variable {W w : World} {l : List Thing}
set_option maxRecDepth 100000
set_option maxHeartbeats 2000000
theorem fcut18_many (a : Option Addr) (n c : Nat) (z : Int) (L : List (Value × Bs)) (hI : InL W a n c L) (hg : greatF (L.map (·.2)) 0 = true) (T : TabAt W) (H : Heap W l w) : Calls Tryd.prog 8 #[.slice a n c, .int .u16 z] w fun e w' => e = .returned (.bool true) ∧ Heap W l w' := by
  have LV := fun (l : List Thing) (V : World) (H : Heap W l V) => lives18_H (W := W) (l := l) (w := V) T H
  have GR := great_H (W := W) (l := l) a n c L hI
  rw [hg] at GR
  go_enter Tryd.func8, Tryd.ntmps8
  go_wp2_with (first | go_skip | ((with_reducible refine AnsH.call (by assumption) H ?_); clear H; intro _ H) | ((with_reducible refine (LV _ _ H).mono ?_); clear H; rintro _ _ ⟨rfl, H⟩))
  go_ret
  exact ⟨rfl, H⟩
theorem fcut18_H (a : Option Addr) (n c z : Nat) (hz : z ≤ 65535) (L : List (Value × Bs)) (hI : InL W a n c L) (hg : greatF (L.map (·.2)) 0 = false) (T : TabAt W) (H : Heap W l w) : Calls Tryd.prog 8 #[.slice a n c, .int .u16 (z : Int)] w fun e w' => e = .returned (.bool true) ∧ Heap W l w' := by
  have LV := fun (l : List Thing) (V : World) (H : Heap W l V) => lives18_H (W := W) (l := l) (w := V) T H
  have GR := great_H (W := W) (l := l) a n c L hI
  have PU := fun (V : World) (H : Heap W l V) => puts_H (W := W) (l := l) (w := V) a n c L hI hg T H
  rw [hg] at GR
  have hok := greatF_ok _ _ hg
  have hfl := frs_len (L.map (·.2))
  have hml : (L.map (·.2)).length = n := by rw [List.length_map, hI.len]
  have HI := Lib.hid (And.intro hI hml)
  have HA := Lib.hid hok.1
  obtain ⟨N, hN⟩ : ∃ N, (frs (L.map (·.2))).length = N := ⟨_, rfl⟩
  have hNb : N ≤ 20000 := by omega
  have hnb : n ≤ 2000 := by rw [hml] at hfl; omega
  unfold PutsPost at PU
  rw [hN, hml] at PU
  have HN := Lib.hid hN
  clear hI hg hok hfl hml hN
  go_enter Tryd.func8, Tryd.ntmps8
  go_wp2_with (first | go_skip | ((with_reducible refine AnsH.call (by assumption) H ?_); clear H; intro _ H))
  refine (PU _ H).mono ?_
  clear PU H GR
  rintro e w1 ⟨ab, cb, ae, ce, rfl, H⟩
  have hroom := OwnT.room (H.ok (OwnB (.slice ab N cb) N (frs (L.map (·.2)))) (by (repeat (first | (with_reducible exact List.mem_cons_self) | with_reducible apply List.mem_cons_of_mem))))
  have HZ := Lib.hid (And.intro HN.out hroom)
  obtain ⟨to, hto⟩ : ∃ to, z % (N + 1) = to := ⟨_, rfl⟩
  have htoN : to ≤ N := by rw [← hto]; have := Nat.mod_lt z (show N + 1 > 0 by omega); omega
  have htoI : (z : Int) % ((N : Int) + 1) = (to : Int) := by rw [← hto]; push_cast; rfl
  have htoc : to ≤ cb := by have := hroom.1; omega
  have htl : ((frs (L.map (·.2))).take to).length = to := by rw [List.length_take, HN.out]; omega
  clear hroom hto
  go_wp2_with (first
    | go_skip
    | ((with_reducible show wpList _ _ _ (_ :: _) _ _); (with_reducible apply wpl_cutTo slB); (· rfl); (· rfl); (· rfl); (· exact htoc); (simp only [Act.put, List.setIfInBounds_toArray, List.set_cons_zero, List.set_cons_succ])))
  rw [htoI]
  refine (fread_H ab to cb ((frs (L.map (·.2))).take to) htl (by omega) htoc HZ.out.2.2 T (fun l' w' hs H' => by rw [List.map_take]; exact (H'.ownRd (hs _ (by (repeat (first | (with_reducible exact List.mem_cons_self) | with_reducible apply List.mem_cons_of_mem))))).take _) H).mono ?_
  clear H htoI htl
  rintro e w2 ⟨G, kG, a5, c5, rfl, hrG, hSG, H⟩
  obtain ⟨LL, hLL⟩ : ∃ LL, LL = LoT (.slice a5 G.length c5) G :: (G.map bT ++ (RowT 3 1 (.slice ae n ce) n (endsV (L.map (·.2)) n) :: OwnB (.slice ab N cb) N (frs (L.map (·.2))) :: l)) := ⟨_, rfl⟩
  rw [← hLL] at H
  have q0 : ∀ x, x ∈ RowT 3 1 (.slice ae n ce) n (endsV (L.map (·.2)) n) :: OwnB (.slice ab N cb) N (frs (L.map (·.2))) :: l → x ∈ LL := fun x hx => by
    rw [hLL]; exact List.mem_cons_of_mem _ (List.mem_append_right _ hx)
  have HM := Lib.hid (And.intro (q0 (OwnB (.slice ab N cb) N (frs (L.map (·.2)))) (by (repeat (first | (with_reducible exact List.mem_cons_self) | with_reducible apply List.mem_cons_of_mem)))) (And.intro (show LoT (.slice a5 G.length c5) G ∈ LL by rw [hLL]; exact List.mem_cons_self) (show ∀ x ∈ G, bT x ∈ LL from fun x hx => by rw [hLL]; exact List.mem_cons_of_mem _ (List.mem_append_left _ (List.mem_map.2 ⟨x, hx, rfl⟩)))))
  have ME := Lib.hid (q0 (RowT 3 1 (.slice ae n ce) n (endsV (L.map (·.2)) n)) (by (repeat (first | (with_reducible exact List.mem_cons_self) | with_reducible apply List.mem_cons_of_mem))))
  have HM2 := Lib.hid (show List.Sublist l LL by rw [hLL]; exact List.Sublist.cons _ ((List.Sublist.cons _ (List.Sublist.cons _ (List.Sublist.refl _))).trans (List.sublist_append_right _ _)))
  have HGS := Lib.hid (And.intro hrG hSG)
  clear hLL q0 hrG hSG
  go_wp2_with (go_skip)
  go_loopw [10, 11] (FcN W LL (L.map (·.2)) to n) (fun i _ _ => n - (intOf i).toNat)
  case atStart => exact ⟨⟨0, rfl, by simp [frs], by omega, by simp [frs], H⟩⟩
  case round =>
    obtain ⟨j, rfl, rfl, hj, hle, H'⟩ := hrel.out
    clear H hrel
    have H := H'
    clear H'
    have hrG := HGS.out.1
    have hSG := HGS.out.2
    by_cases hjn : j < n
    · have f1 : decide ((j : Int) < n) = true := by simp; omega
      obtain ⟨E, hE⟩ : ∃ E, (frs ((L.map (·.2)).take (j + 1))).length = E := ⟨_, rfl⟩
      have RE := H.rowRd ME.out
      obtain ⟨ge, oe, rfl, _⟩ := RE.lt (by rw [endsV_len]; omega)
      have hcE : wr.cell? ⟨ge, oe + j, none⟩ = some (.int .i64 (E : Int)) := by
        have h1 := RE.get (i := j) (by rw [endsV_len]; exact hjn)
        have h2 := endsV_at (L.map (·.2)) hjn
        rw [List.getElem?_eq_getElem (by rw [endsV_len]; exact hjn), hE] at h2
        rw [h1]; exact h2
      clear RE
      by_cases hEt : E ≤ to
      · have f2 : decide ((E : Int) ≤ (to : Int)) = true := by simp; omega
        have HE := Lib.hid hE
        clear hE hrG hSG
        go_wp2_with (first
          | go_skip
          | ((with_reducible show wpList _ _ _ (_ :: _) _ _); (with_reducible apply wpl_loadCell cell_int); (· rfl); (· rfl); (· exact hcE); (simp only [Act.put, List.setIfInBounds_toArray, List.set_cons_zero, List.set_cons_succ])))
        refine ⟨?_, ?_⟩
        · exact ⟨⟨j + 1, by go_num, by rw [HE.out], by omega, by rw [HE.out]; exact hEt, H⟩⟩
        · simp [intOf]; omega
      · have f2 : decide ((E : Int) ≤ (to : Int)) = false := by simp; omega
        have hread := readOf_cut HA.out (n := j) (to := to) (by rw [HI.out.2]; omega) hle (.inr ⟨by rw [HI.out.2]; exact hjn, by rw [hE]; omega⟩)
        clear hE
        have hk5 := hread.eq hrG
        obtain ⟨hG, rfl⟩ := hk5
        have hGl : G.length = j := by
          have := congrArg List.length hG
          rw [List.length_map, List.length_take, HI.out.2] at this
          omega
        have HGG := Lib.hid (And.intro hG (And.intro hSG hGl))
        clear hread hrG hG hSG
        rw [hGl]
        have e1 : ((j : Int) != (j : Int)) = false := by simp
        have e2 : (((frs ((L.map (·.2)).take j)).length : Int) != ((frs ((L.map (·.2)).take j)).length : Int)) = false := by simp
        generalize (frs ((L.map (·.2)).take j)).length = last at *
        go_wp2_with (first | go_skip | ((with_reducible show wpList _ _ _ (_ :: _) _ _); (with_reducible apply wpl_loadCell cell_int); (· rfl); (· rfl); (· exact hcE); (simp only [Act.put, List.setIfInBounds_toArray, List.set_cons_zero, List.set_cons_succ])))
        go_loopw [12] (fun i wr => ∃ i' : Nat, i' ≤ j ∧ i = .int .i64 i' ∧ Heap W LL wr) (fun i _ => j - (intOf i).toNat)
        case atStart => exact ⟨0, Nat.zero_le _, rfl, H⟩
        case round =>
          obtain ⟨i, hij, rfl, H'⟩ := hrel
          clear H
          have H := H'
          clear H'
          by_cases hlt : i < j
          · have hiG : i < G.length := by rw [HGG.out.2.2]; exact hlt
            have hin : i < n := by omega
            obtain ⟨ag, cg, eg⟩ := HGG.out.2.1 G[i] (List.getElem_mem hiG)
            have mg := HM.out.2.2 G[i] (List.getElem_mem hiG)
            unfold bT at mg
            rw [eg] at mg
            obtain ⟨g2, o2, hag, _⟩ := (H.ownRd HM.out.2.1).lt (by rw [List.length_map]; omega)
            obtain ⟨gi, oi, ai, ci, ha, hc0, hx1, hx2, hrd⟩ := HI.out.1.cell H hin
            subst ha hag
            have heq : G[i].2 = (L[i]'(by rw [HI.out.1.len]; exact hin)).2 := by
              have := congrArg (fun l => l[i]?) HGG.out.1
              simp only [List.getElem?_map, List.getElem?_eq_getElem hiG, Option.map_some] at this
              rw [List.getElem?_take_of_lt hlt, List.getElem?_map, List.getElem?_eq_getElem (by rw [HI.out.1.len]; exact hin)] at this
              exact Option.some.inj this
            have K1 := Lib.hid (show ∀ w', Heap W LL w' → w'.cell? ⟨g2, o2 + i, none⟩ = some (.slice ag G[i].2.length cg) from fun w' h => by
              have := (h.ownRd HM.out.2.1).get (i := i) (by rw [List.length_map]; exact hiG)
              rw [this, List.getElem_map, eg])
            have K2 := Lib.hid (show ∀ w', Heap W LL w' → w'.cell? ⟨gi, oi + i, none⟩ = some (.slice ai (L[i]'(by rw [HI.out.1.len]; exact hin)).2.length ci) from fun w' h => by
              have := (h.rd HI.out.1.rd).get (i := i) (by rw [List.length_map, HI.out.1.len]; exact hin)
              have h5 := (H.rd HI.out.1.rd).get (i := i) (by rw [List.length_map, HI.out.1.len]; exact hin)
              rw [h5] at hc0
              rw [this]
              exact hc0)
            clear hc0 eg
            rw [← heq] at K2 hrd
            generalize G[i].2 = x at *
            clear heq
            have RG := Lib.hid (show ∀ w', Heap W LL w' → Rd w' ag (x.map B8) from fun w' h => h.ownRd mg)
            have RL := Lib.hid (show ∀ w', Heap W LL w' → Rd w' ai (x.map B8) from fun w' h => h.rd hrd)
            have ss : ((strOf x).toList != (strOf x).toList) = false := by simp
            clear mg hrd hx1 hx2 hiG hin
            go_wp2_with (go_skip)
            refine wp_region_H H (by kernel_rfl) (by kernel_rfl) ?_
            repeat (first | go_big_quiet_skip | (first | ((with_reducible apply wpQ_loadCell); (· exact cell_sl); (· rfl); (· rfl); (· first | exact K1.out | exact K2.out); (simp only [Act.put, List.setIfInBounds_toArray, List.set_cons_zero, List.set_cons_succ])) | ((with_reducible apply wpQ_toStr); (· rfl); (· rfl); (· rfl); (· first | exact RG.out | exact RL.out); (simp only [Act.put, List.setIfInBounds_toArray, List.set_cons_zero, List.set_cons_succ]))) | go_big_quiet_step (fail))
            refine wpQuiet_nil ?_
            clear H
            intro _ H
            go_wp2_with (go_skip)
            go_roundw
            case rel => exact ⟨i + 1, by omega, by go_num, H⟩
            case measure => simp [intOf]; omega
          · obtain rfl : i = j := by omega
            go_wp2_with (go_skip)
            refine (fread_H ab N cb (frs (L.map (·.2))) HZ.out.1 (by omega) HZ.out.2.1 HZ.out.2.2 T (fun l' w' hs H' => H'.ownRd (hs _ HM.out.1)) H).mono ?_
            clear H
            rintro e w5 ⟨G2, k2, a6, c6, rfl, hr2, hS2, H⟩
            obtain ⟨hG2, rfl⟩ := (readOf_frs HA.out).eq hr2
            have hGl2 : G2.length = n := by
              have := congrArg List.length hG2
              rw [List.length_map, HI.out.2] at this
              exact this
            rw [hGl2, HZ.out.1]
            have e3 : ((n : Int) == (n : Int)) = true := by simp
            have e4 : ((N : Int) == (N : Int)) = true := by simp
            clear hr2 hS2 hG2 hGl2
            go_wp2_with (first | go_skip | ((with_reducible refine (LV _ _ H).mono ?_); clear H; rintro _ _ ⟨rfl, H⟩))
            go_ret
            exact ⟨rfl, H.sub ((HM2.out.trans (List.sublist_append_right _ _)).trans (List.sublist_cons_self _ _))⟩
    · have f1 : decide ((j : Int) < n) = false := by simp; omega
      have hjn2 : j = n := by omega
      have hread := readOf_cut HA.out (n := j) (to := to) (by rw [HI.out.2]; omega) hle (.inl ⟨by rw [HI.out.2]; exact hjn2, by rw [HN.out]; exact htoN⟩)
      clear hjn2
      have hk5 := hread.eq hrG
      obtain ⟨hG, rfl⟩ := hk5
      have hGl : G.length = j := by
        have := congrArg List.length hG
        rw [List.length_map, List.length_take, HI.out.2] at this
        omega
      have HGG := Lib.hid (And.intro hG (And.intro hSG hGl))
      clear hread hrG hG hSG
      rw [hGl]
      have e1 : ((j : Int) != (j : Int)) = false := by simp
      have e2 : (((frs ((L.map (·.2)).take j)).length : Int) != ((frs ((L.map (·.2)).take j)).length : Int)) = false := by simp
      generalize (frs ((L.map (·.2)).take j)).length = last at *
      go_wp2_with (first | go_skip)
      go_loopw [12] (fun i wr => ∃ i' : Nat, i' ≤ j ∧ i = .int .i64 i' ∧ Heap W LL wr) (fun i _ => j - (intOf i).toNat)
      case atStart => exact ⟨0, Nat.zero_le _, rfl, H⟩
      case round =>
        obtain ⟨i, hij, rfl, H'⟩ := hrel
        clear H
        have H := H'
        clear H'
        by_cases hlt : i < j
        · have hiG : i < G.length := by rw [HGG.out.2.2]; exact hlt
          have hin : i < n := by omega
          obtain ⟨ag, cg, eg⟩ := HGG.out.2.1 G[i] (List.getElem_mem hiG)
          have mg := HM.out.2.2 G[i] (List.getElem_mem hiG)
          unfold bT at mg
          rw [eg] at mg
          obtain ⟨g2, o2, hag, _⟩ := (H.ownRd HM.out.2.1).lt (by rw [List.length_map]; omega)
          obtain ⟨gi, oi, ai, ci, ha, hc0, hx1, hx2, hrd⟩ := HI.out.1.cell H hin
          subst ha hag
          have heq : G[i].2 = (L[i]'(by rw [HI.out.1.len]; exact hin)).2 := by
            have := congrArg (fun l => l[i]?) HGG.out.1
            simp only [List.getElem?_map, List.getElem?_eq_getElem hiG, Option.map_some] at this
            rw [List.getElem?_take_of_lt hlt, List.getElem?_map, List.getElem?_eq_getElem (by rw [HI.out.1.len]; exact hin)] at this
            exact Option.some.inj this
          have K1 := Lib.hid (show ∀ w', Heap W LL w' → w'.cell? ⟨g2, o2 + i, none⟩ = some (.slice ag G[i].2.length cg) from fun w' h => by
            have := (h.ownRd HM.out.2.1).get (i := i) (by rw [List.length_map]; exact hiG)
            rw [this, List.getElem_map, eg])
          have K2 := Lib.hid (show ∀ w', Heap W LL w' → w'.cell? ⟨gi, oi + i, none⟩ = some (.slice ai (L[i]'(by rw [HI.out.1.len]; exact hin)).2.length ci) from fun w' h => by
            have := (h.rd HI.out.1.rd).get (i := i) (by rw [List.length_map, HI.out.1.len]; exact hin)
            have h5 := (H.rd HI.out.1.rd).get (i := i) (by rw [List.length_map, HI.out.1.len]; exact hin)
            rw [h5] at hc0
            rw [this]
            exact hc0)
          clear hc0 eg
          rw [← heq] at K2 hrd
          generalize G[i].2 = x at *
          clear heq
          have RG := Lib.hid (show ∀ w', Heap W LL w' → Rd w' ag (x.map B8) from fun w' h => h.ownRd mg)
          have RL := Lib.hid (show ∀ w', Heap W LL w' → Rd w' ai (x.map B8) from fun w' h => h.rd hrd)
          have ss : ((strOf x).toList != (strOf x).toList) = false := by simp
          clear mg hrd hx1 hx2 hiG hin
          go_wp2_with (go_skip)
          refine wp_region_H H (by kernel_rfl) (by kernel_rfl) ?_
          repeat (first | go_big_quiet_skip | (first | ((with_reducible apply wpQ_loadCell); (· exact cell_sl); (· rfl); (· rfl); (· first | exact K1.out | exact K2.out); (simp only [Act.put, List.setIfInBounds_toArray, List.set_cons_zero, List.set_cons_succ])) | ((with_reducible apply wpQ_toStr); (· rfl); (· rfl); (· rfl); (· first | exact RG.out | exact RL.out); (simp only [Act.put, List.setIfInBounds_toArray, List.set_cons_zero, List.set_cons_succ]))) | go_big_quiet_step (fail))
          refine wpQuiet_nil ?_
          clear H
          intro _ H
          go_wp2_with (go_skip)
          go_roundw
          case rel => exact ⟨i + 1, by omega, by go_num, H⟩
          case measure => simp [intOf]; omega
        · obtain rfl : i = j := by omega
          go_wp2_with (go_skip)
          refine (fread_H ab N cb (frs (L.map (·.2))) HZ.out.1 (by omega) HZ.out.2.1 HZ.out.2.2 T (fun l' w' hs H' => H'.ownRd (hs _ HM.out.1)) H).mono ?_
          clear H
          rintro e w5 ⟨G2, k2, a6, c6, rfl, hr2, hS2, H⟩
          obtain ⟨hG2, rfl⟩ := (readOf_frs HA.out).eq hr2
          have hGl2 : G2.length = n := by
            have := congrArg List.length hG2
            rw [List.length_map, HI.out.2] at this
            exact this
          rw [hGl2, HZ.out.1]
          have e3 : ((n : Int) == (n : Int)) = true := by simp
          have e4 : ((N : Int) == (N : Int)) = true := by simp
          clear hr2 hS2 hG2 hGl2
          go_wp2_with (first | go_skip | ((with_reducible refine (LV _ _ H).mono ?_); clear H; rintro _ _ ⟨rfl, H⟩))
          go_ret
          exact ⟨rfl, H.sub ((HM2.out.trans (List.sublist_append_right _ _)).trans (List.sublist_cons_self _ _))⟩
end
end Go.Proofs.YtlinhcbjljcgbaaDoor
