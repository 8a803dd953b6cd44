/- ledgers.Ledger: Lines. -/
import Derived.Test.YtacglcpjbepfnaaLed7
namespace Go.Proofs.Ytacglcpjbepfnaa
open Go.RowKit
set_option linter.unusedSimpArgs false
set_option linter.unusedVariables false
theorem kvL_inj {x y : Lin} (h : kvL x = kvL y) : x = y := by
  obtain ⟨a, b, c, d, e⟩ := x
  obtain ⟨a', b', c', d', e'⟩ := y
  simp [kvL, keyL, valL] at h
  obtain ⟨⟨rfl, rfl, rfl⟩, rfl, rfl⟩ := h
  rfl
theorem perm_of_kv : ∀ {A B : List Lin}, (A.map kvL).Perm (B.map kvL) → A.Perm B := by
  intro A
  induction A with
  | nil => intro B h; have := h.length_eq; simp at this; rw [List.eq_nil_of_length_eq_zero this.symm]
  | cons x A ih =>
    intro B h
    have hx : kvL x ∈ B.map kvL := h.mem_iff.1 (List.mem_cons_self ..)
    obtain ⟨y, hy, e⟩ := List.mem_map.1 hx
    obtain rfl := kvL_inj e
    obtain ⟨s, t, rfl⟩ := List.append_of_mem hy
    have h2 : (kvL y :: A.map kvL).Perm (kvL y :: (s ++ t).map kvL) := by
      refine h.trans ?_
      rw [List.map_append, List.map_cons, List.map_append]
      exact List.perm_middle
    exact ((ih h2.cons_inv).cons y).trans List.perm_middle.symm
/-- A list that is told, in a row of its own. -/
def RowPost (W : World) (l : List Thing) (e size : Nat) (xs : List Value) (n : Nat) (r : Ending) (w' : World) : Prop :=
  ∃ g c, r = .returned (.slice (some ⟨g, 0, none⟩) n c) ∧ n ≤ c ∧ c ≤ maxLen ∧ Heap W (Sl g e size n c xs :: l) w'
structure LinesR (W : World) (l : List Thing) (P : List Int) (p q r : Nat) (es : Array MapEntry) (clock : Nat) (v : Value) (wr : World) : Prop where
  out : ∃ (done : List MapEntry) (D : List Lin) (g c c0 : Nat), done.Nodup ∧ (∀ y ∈ done, y ∈ es.toList) ∧ done.map kvOf = D.map kvL ∧ clock ≤ c0 ∧ v = .slice (some ⟨g, 0, none⟩) D.length c ∧
    Heap W (RowT 39 5 (.slice (some ⟨g, 0, none⟩) D.length c) D.length (linL D) :: IterX r q clock (done.map (fun e : MapEntry => e.born)).toArray c0 :: LdC p P (some q) :: MapX q es clock :: l) wr
def lenV : Value → Nat
  | .slice _ n _ => n
  | _ => 0
section
variable {W w : World} {l : List Thing} {p q : Nat} {S : Lgr}
theorem nodup_le {α : Type} : ∀ {A B : List α}, A.Nodup → (∀ x ∈ A, x ∈ B) → A.length ≤ B.length
  | [], _, _, _ => by simp
  | x :: A, B, h, hs => by
    obtain ⟨s, t, rfl⟩ := List.append_of_mem (hs x (List.mem_cons_self ..))
    have h1 := List.nodup_cons.1 h
    have := nodup_le (A := A) (B := s ++ t) h1.2 (fun y hy => by
      have := hs y (List.mem_cons_of_mem _ hy)
      simp only [List.mem_append, List.mem_cons] at this ⊢
      rcases this with h' | rfl | h'
      · exact .inl h'
      · exact absurd hy h1.1
      · exact .inr h')
    simp only [List.length_append, List.length_cons] at this ⊢
    omega
set_option maxRecDepth 100000
set_option maxHeartbeats 2000000
theorem llines_H (G : S.Good) (H : Heap W (LdC p S.P (some q) :: LdM q S.L :: l) w) : Calls Try.prog 21 #[.pointer (some ⟨p, 0, none⟩)] w fun e w' => RowPost W (LdC p S.P (some q) :: LdM q S.L :: l) 39 5 (linL S.L) S.L.length e w' := by
  have hlen := prs_len S.L
  have hfew := G.few
  have h1 : (prs S.L).length ≤ 65536 := by omega
  have h2 : 24 * (prs S.L).length ≤ 281474976710656 := by omega
  have h3 : (prs S.L).length ≤ maxLen := by unfold maxLen; omega
  have HG := Lib.hid G
  have HLEN := Lib.hid hlen
  have HFEW := Lib.hid hfew
  clear G hlen hfew
  go_enter Try.func21, Try.ntmps21
  go_wp2_with (first
    | go_skip
    | ((with_reducible apply lthere_call H); (· (repeat (first | (with_reducible exact List.mem_cons_self) | with_reducible apply List.mem_cons_of_mem))); (clear H; intro _ H))
    | ((with_reducible show wpList _ _ _ (_ :: _) _ _); (with_reducible apply wpl_loadCH); (· exact cell_map); (· rfl); (· rfl); (· exact H); (· (repeat (first | (with_reducible exact List.mem_cons_self) | with_reducible apply List.mem_cons_of_mem))); (· exact ledA_map _ _); (simp only [Act.put, List.setIfInBounds_toArray, List.set_cons_zero, List.set_cons_succ]))
    | ((with_reducible show wpList _ _ _ (_ :: _) _ _); (with_reducible apply wpl_lenM map_ty.und); (· rfl); (· rfl); (· exact H); (· (repeat (first | (with_reducible exact List.mem_cons_self) | with_reducible apply List.mem_cons_of_mem))); (simp only [Act.put, List.setIfInBounds_toArray, List.set_cons_zero, List.set_cons_succ]))
    | ((with_reducible show wpList _ _ _ (_ :: _) _ _); (with_reducible apply wpl_makeC slLin (n := 0) (m := (prs S.L).length)); (· rfl); (· rfl); (· rfl); (· rfl); (· exact Nat.zero_le _); (· exact h1); (· exact h2); (· exact H); (clear H; intro pm _ H); (simp only [Act.put, List.setIfInBounds_toArray, List.set_cons_zero, List.set_cons_succ]); (replace H := ((H.perm (.cons _ (.swap _ _ _))).pull (.there .here)).openM; obtain ⟨es, clock, hes, H⟩ := H))
    | ((with_reducible show wpList _ _ _ (_ :: _) _ _); (with_reducible apply wpl_rangeM map_ty.und); (· rfl); (· rfl); (· exact H); (· (repeat (first | (with_reducible exact List.mem_cons_self) | with_reducible apply List.mem_cons_of_mem))); (clear H; intro pr _ H); (simp only [Act.put, List.setIfInBounds_toArray, List.set_cons_zero, List.set_cons_succ]))
    | ((with_reducible show wpList _ _ _ (_ :: _) _ _); (with_reducible apply wpl_loadCH); (· exact cell_map); (· rfl); (· rfl); (· exact H); (· (repeat (first | (with_reducible exact List.mem_cons_self) | with_reducible apply List.mem_cons_of_mem))); (· exact ledA_map _ _); (simp only [Act.put, List.setIfInBounds_toArray, List.set_cons_zero, List.set_cons_succ])))
  replace H := ((H.pull (.there (.there .here))).celRowA (n := 0) (m := (prs S.L).length) (size := 5) (by rw [size_madeCells]) (Nat.zero_le _) h3)
  simp only [Nat.zero_mul, List.take_zero] at H
  replace H := H.perm (.cons _ (.cons _ (.swap _ _ _)))
  have hsz : es.size = S.L.length := hes.size.trans HLEN.out
  have H0 := H
  clear H
  go_loopw [3] (fun v wr => LinesR W l S.P p q pr es clock v wr) (fun v _ => es.size - lenV v)
  case atStart => exact ⟨[], [], pm, _, clock, .nil, (fun _ h => by cases h), rfl, Nat.le_refl _, rfl, H0⟩
  case round =>
    obtain ⟨done, D, g, c, c0, hnd, hin, hkv, hc0, rfl, H⟩ := hrel.out
    clear H0 hrel
    have hDl : D.length = done.length := by have := congrArg List.length hkv; simpa using this.symm
    have hle : done.length ≤ S.L.length := by
      have := nodup_le hnd hin
      have e : es.toList.length = es.size := by simp
      omega
    have hD1 : D.length + 1 ≤ maxLen := by have := HFEW.out; unfold maxLen; omega
    have hD2 : (D.length + 1) * 24 ≤ 140737488355328 := by have := HFEW.out; omega
    have HKV := Lib.hid hkv
    have HND := Lib.hid hnd
    have HIN := Lib.hid hin
    have HES := Lib.hid hes
    have HDL := Lib.hid hDl
    have HSZ := Lib.hid hsz
    clear hkv hnd hin hDl hsz hes
    go_wp2_with (first
      | go_skip
      | ((with_reducible show wpList _ _ _ (_ :: _) _ _); (with_reducible apply wpl_nextP); (· rfl); (· rfl); (· exact HES.out.st); (· exact hc0); (· exact HIN.out); (· exact HND.out); (· exact H); (· (repeat (first | (with_reducible exact List.mem_cons_self) | with_reducible apply List.mem_cons_of_mem))); (· (repeat (first | (with_reducible exact List.mem_cons_self) | with_reducible apply List.mem_cons_of_mem))); (· intro en; (repeat (first | (with_reducible exact Repl.here) | with_reducible apply Repl.there)))))
    refine ⟨fun hperm => ?_, fun en hen hnin w1 H1 hent => ?_⟩
    · have hp : D.Perm S.L := perm_of_kv (by rw [← HKV.out]; exact (hperm.map kvOf).trans HES.out.perm)
      have hDn : D.length = S.L.length := hp.length_eq
      have hb : D.length ≤ 1000000 := by have := HFEW.out; omega
      have HP := Lib.hid hp
      have HN := Lib.hid hDn
      clear hperm hp hDn
      (simp only [Act.put, List.setIfInBounds_toArray, List.set_cons_zero, List.set_cons_succ])
      go_wp2_with (go_skip)
      refine (lsort_H (g := g) (n := D.length) (c := c) (L := D) H rfl hb HP.out HG.out).mono ?_
      clear H
      rintro e w2 ⟨rfl, H⟩
      go_wp2_with (go_skip)
      go_ret
      replace H := (H.drop (.there .here)).pull (.there (.there .here))
      replace H := (H.shutM HES.out).perm (.swap _ _ _)
      replace H := H.perm (.cons _ (.swap _ _ _))
      obtain ⟨g', c', e', hn', hm'⟩ : ∃ g' c', Value.slice (some ⟨g, 0, none⟩) D.length c = .slice (some ⟨g', 0, none⟩) D.length c' ∧ D.length ≤ c' ∧ c' ≤ maxLen := by
        obtain ⟨_, ⟨h, _⟩ | ⟨g', cap, cur, h, _, _, h4, h5, _⟩⟩ := H.ok _ List.mem_cons_self
        · cases h
        · exact ⟨g', cap, h, h4, h5⟩
      simp only [Value.slice.injEq, Option.some.injEq, Addr.mk.injEq, true_and, and_true] at e'
      obtain ⟨rfl, rfl⟩ := e'
      rw [HN.out] at H hn' ⊢
      exact ⟨g, c, rfl, hn', hm', H⟩
    · have hm := HES.out.mem hen
      obtain ⟨x, hx, hkx⟩ := List.mem_map.1 hm
      have hk : en.key = keyL x.cr x.db x.cu := (congrArg Prod.fst hkx).symm
      have hv : en.val = valL x.lim x.deb := (congrArg Prod.snd hkx).symm
      rw [hk, hv] at hent
      rw [hk, hv]
      have HE := Lib.hid hent
      have HD2 := Lib.hid (show (done ++ [en]).map kvOf = (D ++ [x]).map kvL by rw [List.map_append, List.map_append, HKV.out]; congr 1; simp [kvOf, hkx])
      have HND2 := Lib.hid (show (done ++ [en]).Nodup by
        rw [List.nodup_append]
        refine ⟨HND.out, by simp, fun a ha b hb e => hnin ?_⟩
        obtain rfl : b = en := by simpa using hb
        exact e ▸ ha)
      have HIN2 := Lib.hid (show ∀ y ∈ done ++ [en], y ∈ es.toList from fun y hy => by
        rcases List.mem_append.1 hy with hy | hy
        · exact HIN.out y hy
        · obtain rfl : y = en := by simpa using hy
          exact hen)
      have HLT := Lib.hid (show D.length < es.size by
        have h1 := nodup_le HND2.out HIN2.out
        have e : es.toList.length = es.size := by simp
        rw [List.length_append] at h1
        have := HDL.out
        simp at h1; omega)
      clear hent hk hv hm hkx hx hnin H
      have H := H1
      clear H1
      (simp only [Act.put, List.setIfInBounds_toArray, List.set_cons_zero, List.set_cons_succ])
      go_wp2_with (first
        | ((with_reducible show wpList _ _ _ (_ :: _) _ _); (with_reducible apply wpl_appendH slLin); (· rfl); (· rfl); (· rfl); (· rfl); (· exact H.pull (.there (.there (.there .here)))); (· exact H.celRd List.mem_cons_self); (· rfl); (· exact line_one _ _ _ _ _); (· exact hD1); (· exact hD2); (clear H; intro v2 _ H); (simp only [Act.put, List.setIfInBounds_toArray, List.set_cons_zero, List.set_cons_succ]))
        | ((with_reducible show wpList _ _ _ (_ :: _) _ _); (with_reducible apply wpl_bsRH); (· rfl); (· rfl); (· exact bs_line); (· exact rfl); (· exact H); (clear H; intro pl _ H); (simp only [Act.put, List.setIfInBounds_toArray, List.set_cons_zero, List.set_cons_succ]))
        | go_skip
        | ((with_reducible show wpList _ _ _ (_ :: _) _ _); (with_reducible apply wpl_entryM); (· rfl); (· rfl); (· exact HE.out _ _ H (List.mem_cons_of_mem _ (List.mem_cons_of_mem _ (List.mem_cons_of_mem _ List.mem_cons_self))) (List.mem_cons_of_mem _ List.mem_cons_self)); (simp only [Act.put, List.setIfInBounds_toArray, List.set_cons_zero, List.set_cons_succ]))
        | ((with_reducible show wpList _ _ _ (_ :: _) _ _); (with_reducible apply wpl_allocRH row_ends); (· rfl); (· exact H); (clear H; intro pe _ H); (simp only [Act.put, List.setIfInBounds_toArray, List.set_cons_zero, List.set_cons_succ]))
        | ((with_reducible show wpList _ _ _ (_ :: _) _ _); (with_reducible apply wpl_allocRH row_owe); (· rfl); (· exact H); (clear H; intro po _ H); (simp only [Act.put, List.setIfInBounds_toArray, List.set_cons_zero, List.set_cons_succ]))
        | ((with_reducible show wpList _ _ _ (_ :: _) _ _); (with_reducible apply wpl_storeRH row_ends); (· rfl); (· rfl); (· rfl); (· with_reducible exact ends_cells ..); (· exact H); (· (repeat (first | (with_reducible exact List.mem_cons_self) | with_reducible apply List.mem_cons_of_mem))); (· (simp only [ends_sz, Nat.reduceAdd, Nat.reduceLeDiff, Nat.le_refl]; done)); (· with_reducible exact ends_splice ..); (· (repeat (first | (with_reducible exact Repl.here) | with_reducible apply Repl.there))); (clear H; intro _ H); (simp only [Act.put, List.setIfInBounds_toArray, List.set_cons_zero, List.set_cons_succ]))
        | ((with_reducible show wpList _ _ _ (_ :: _) _ _); (with_reducible apply wpl_storeRH row_owe); (· rfl); (· rfl); (· rfl); (· with_reducible exact owe_cells ..); (· exact H); (· (repeat (first | (with_reducible exact List.mem_cons_self) | with_reducible apply List.mem_cons_of_mem))); (· (simp only [owe_sz, Nat.reduceAdd, Nat.reduceLeDiff, Nat.le_refl]; done)); (· with_reducible exact owe_splice ..); (· (repeat (first | (with_reducible exact Repl.here) | with_reducible apply Repl.there))); (clear H; intro _ H); (simp only [Act.put, List.setIfInBounds_toArray, List.set_cons_zero, List.set_cons_succ]))
        | ((with_reducible show wpList _ _ _ (_ :: _) _ _); (with_reducible apply wpl_loadCH); (· first | exact cell_party | exact cell_cur | exact cell_i64); (· rfl); (· rfl); (· exact H); (· (repeat (first | (with_reducible exact List.mem_cons_self) | with_reducible apply List.mem_cons_of_mem))); (· (with_reducible first | exact ends_g0 .. | exact ends_g1 .. | exact ends_g2 .. | exact owe_g0 .. | exact owe_g1 ..)); (simp only [Act.put, List.setIfInBounds_toArray, List.set_cons_zero, List.set_cons_succ]))
        | ((with_reducible show wpList _ _ _ (_ :: _) _ _); (with_reducible apply wpl_bsRH); (· rfl); (· rfl); (· exact bs_line); (· exact rfl); (· exact H); (clear H; intro pl _ H); (simp only [Act.put, List.setIfInBounds_toArray, List.set_cons_zero, List.set_cons_succ])))
      replace H := ((H.drop (.there .here)).drop (.there .here)).drop (.there .here)
      obtain ⟨g2, c2, rfl, _, _⟩ := RowT.sl (H.ok _ List.mem_cons_self) (Nat.succ_pos _)
      have hapx : linL D ++ (line x.cr x.db x.cu x.lim x.deb).toList = linL (D ++ [x]) := by rw [linL_app]; simp [linL, linV]
      rw [hapx] at H
      have hlx : D.length + 1 = (D ++ [x]).length := by simp
      have HLX := Lib.hid hlx
      go_roundw
      case rel =>
        rw [HLX.out] at H ⊢
        exact ⟨⟨done ++ [en], D ++ [x], g2, c2, clock, HND2.out, HIN2.out, HD2.out, Nat.le_refl _, rfl, H⟩⟩
      case measure =>
        have := HLT.out
        simp only [lenV]
        omega
end
end Go.Proofs.Ytacglcpjbepfnaa
