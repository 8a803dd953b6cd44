/- books: slices.Delete of offers. -/
import Derived.Test.YtacglcpjbepfnaaBok5
import Derived.Test.YtacglcpjbepfnaaRegCut
namespace Go.Proofs.Ytacglcpjbepfnaa
open Go.RowKit
set_option linter.unusedSimpArgs false
set_option linter.unusedVariables false
set_option maxRecDepth 100000
theorem ofrL_take (L : List Ofr) (i : Nat) (h : i ≤ L.length) : (ofrL L).take (i * 7) = ofrL (L.take i) := by
  have e : ofrL L = ofrL (L.take i) ++ ofrL (L.drop i) := by rw [← ofrL_app, List.take_append_drop]
  have hl : (ofrL (L.take i)).length = i * 7 := by rw [ofrL_len, List.length_take, Nat.min_eq_left h]
  rw [e, ← hl]
  exact List.take_left
theorem ofrL_drop (L : List Ofr) (i : Nat) (h : i ≤ L.length) : (ofrL L).drop (i * 7) = ofrL (L.drop i) := by
  have e : ofrL L = ofrL (L.take i) ++ ofrL (L.drop i) := by rw [← ofrL_app, List.take_append_drop]
  have hl : (ofrL (L.take i)).length = i * 7 := by rw [ofrL_len, List.length_take, Nat.min_eq_left h]
  rw [e, ← hl]
  exact List.drop_left
/-- A row that is not empty, as its block. -/
theorem Heap.rowCelO {W w : World} {l : List Thing} {e size n : Nat} {v : Value} {xs : List Value} (H : Heap W (RowT e size v n xs :: l) w) (hn : 0 < n) :
    ∃ g m c, v = .slice (some ⟨g, 0, none⟩) n m ∧ n ≤ m ∧ m ≤ maxLen ∧ c.size = m * size ∧ c.toList.take (n * size) = xs ∧ Heap W (Cel g c e :: l) w := by
  obtain ⟨h1, ⟨_, h2⟩ | ⟨g, m, c, hv, _, hg, hnm, hm, hs, ht⟩⟩ := H.ok _ List.mem_cons_self
  · omega
  · refine ⟨g, m, c, hv, hnm, hm, hs, ht, H.head (World.grownBy.refl _ _) hg (.inl ?_)⟩
    subst hv
    rfl
section
variable {W : World} {G : List Thing → Prop} {loud : List Nat} {K : List Thing → Act → Prop} {l r : List Thing} {a : Act} {ops : Array Oper} {rest : List Oper} {k : Nat} {dst : Option Tmp} {ty : TypeId} {pos : String} {after : Array Edge}
/-- append(s[:i], s[j:]...), in one block. -/
theorem wpW_appendSelf {t e size bytes : Nat} {z : Value} (T : SlTy Try.prog t e size bytes z) {s x : Operand} (hk : loud.contains k = true)
    {g off n m k2 c2 q : Nat} {cur cur1 : Array Value} {news : List Value} (hs : a.eval s = .slice (some ⟨g, 0, none⟩) n m) (hx : a.eval x = .slice (some ⟨g, off, none⟩) k2 c2) (pl : Pull l (Cel g cur e) r)
    (hrd : ∀ w', Heap W l w' → Rd w' (some ⟨g, off, none⟩) news) (hl : news.length = k2 * size) (h1 : OneCells news) (hroom : n + k2 ≤ m) (hfit : n * size + news.length ≤ cur.size) (hq : n + k2 = q)
    (hcur : (cur.toList.take (n * size) ++ news ++ cur.toList.drop (n * size + news.length)).toArray = cur1) (hG : G (Cel g cur1 e :: r))
    (h : wpW Try.prog ops W G loud K rest (k + 1) (Cel g cur1 e :: r) (a.put dst (.slice (some ⟨g, 0, none⟩) q m))) :
    wpW Try.prog ops W G loud K (⟨dst, .call { callee := .builtin .append, args := #[s, x], argTypes := #[t, t] }, ty, pos, after, none⟩ :: rest) k l a := by
  subst hq hcur
  refine wpW_loud hk ⟨rfl, fun w H => ?_⟩
  have H2 := H.pull pl
  have hg := H2.blk List.mem_cons_self
  have hr0 := hrd w H
  obtain ⟨i, hi, hz, hsi, hbi⟩ := T.inf
  subst hsi
  have hr := run_append_roomO (P := Try.prog) w t ty e i T.und hi g 0 n m cur hg ⟨g, off, none⟩ k2 c2 news hl hr0.addr h1 hroom (by omega)
  rw [Nat.zero_add] at hr
  have H3 : Heap W (Cel g (cur.toList.take (n * i.size) ++ news ++ cur.toList.drop (n * i.size + news.length)).toArray e :: r) (w.setRow g (cur.toList.take (n * i.size) ++ news ++ cur.toList.drop (n * i.size + news.length)).toArray) :=
    H2.head ⟨rfl, rfl, rfl, by simp, fun k _ hk => setRow_other w g k _ (fun e => hk (by show some k = some g; rw [e]))⟩ (setRow_heap w g cur _ e _ hg) (.inl rfl)
  refine ⟨_, _, _, .inl ?_, H3, hG, h⟩
  unfold execOp
  simp only [resolve, invoke, builtin, Sem.run_bind, Sem.run_pure, Result.andThen_ok, List.map_toArray, List.map_cons, List.map_nil, hs, hx, hr]
end
section
variable {ops : Array Oper} {rest : List Oper} {a : Act} {w W : World} {l : List Thing}
theorem wpQ_cutAny {t e size bytes : Nat} {z : Value} (T : SlTy Try.prog t e size bytes z) {dst : Option Tmp} {ty : TypeId} {pos : String} {after : Array Edge} {guard : Option (Nat × Bool)} {x y : Operand} {K : Act → Prop} {H : Heap W l w} (hw : Region.wanted ⟨dst, .slice t x (some y) none none, ty, pos, after, guard⟩ (yielded ops a.tmps) = true)
    {g n c lo off : Nat} {v : Int} {k : IntKind} (hx : a.eval x = .slice (some ⟨g, 0, none⟩) n c) (hy : a.eval y = .int k v) (hv : v = (lo : Int)) (hh : lo ≤ n) (ho : cutA (some ⟨g, 0, none⟩) c lo size = some ⟨g, off, none⟩)
    (h : wpQuiet Try.prog ops (fun w' => ∃ d, w' = H.any d) K rest (a.put dst (.slice (some ⟨g, off, none⟩) (n - lo) (c - lo)))) : wpQuiet Try.prog ops (fun w' => ∃ d, w' = H.any d) K (⟨dst, .slice t x (some y) none none, ty, pos, after, guard⟩ :: rest) a := by
  subst hv
  refine BigFrame.wpQuiet_want hw fun K hK => ⟨_, ?_, hK _ h⟩
  rintro _ ⟨d, rfl⟩
  have hr := run_cutFrom (P := Try.prog) T (some ⟨g, 0, none⟩) n c lo k hh (H.any d)
  rw [ho] at hr
  have hs : (Instr.sliceAt t (.slice (some ⟨g, 0, none⟩) n c) (some (.int k (lo : Int))) none none).run Try.prog (H.any d) = .ok (.slice (some ⟨g, off, none⟩) (n - lo) (c - lo)) (H.any d) := by
    unfold Instr.sliceAt
    rw [Sem.run_bind, run_underlying T.und]
    simp only [Result.andThen_ok]
    exact hr
  unfold Oper.quietAt execOp
  simp only [hx, Option.map_some, hy, Option.map_none, Sem.run_bind, hs]
  exact ⟨rfl, rfl⟩
end
theorem cut_some (g c lo : Nat) : ∃ off, cutA (some ⟨g, 0, none⟩) c lo 7 = some ⟨g, off, none⟩ := by
  unfold Proofs.Ytacglcpjbepfnaa.cutA
  split
  · exact ⟨0, rfl⟩
  · exact ⟨lo * 7, by simp [Addr.add]; exact fun h => h.symm⟩
section
variable {W w : World} {l : List Thing}
set_option maxHeartbeats 8000000
theorem deleteO_H {v : Value} {n i : Nat} {L : List Ofr} (hl : L.length = n) (hi : i < n) (hn : n ≤ 1000000) (H : Heap W (OfT v n L :: l) w) :
    Calls Try.prog 111 #[v, .int .i64 (i : Int), .int .i64 ((i : Int) + 1)] w fun e w' => ∃ v', e = .returned v' ∧ Heap W (OfT v' (n - 1) (L.eraseIdx i) :: l) w' := by
  obtain ⟨g, c, cur, rfl, hc1, hc2, hc3, hc4, Hc⟩ := H.rowCelO (by omega)
  clear H
  have H := Hc
  clear Hc
  have hc2' : c ≤ 9223372036854775807 := by unfold maxLen at hc2; omega
  obtain ⟨off, hoff⟩ := cut_some g c (i + 1)
  have hN := Lib.hid (show ((cur.toList.drop ((i + 1) * 7)).take ((n - (i + 1)) * 7)) = ofrL (L.drop (i + 1)) by
    rw [← ofrL_drop L (i + 1) (by omega), ← hc4, List.drop_take]
    congr 1
    rw [← Nat.sub_mul])
  have hR := Lib.hid (show ∀ w', Heap W (Cel g cur 83 :: l) w' → Rd w' (some ⟨g, off, none⟩) (ofrL (L.drop (i + 1))) from fun w' H' => by
    have := (H'.celRd List.mem_cons_self).cutA c (i + 1) n 7 hc1
    rw [hoff, hN.out] at this
    exact this)
  have hnl := Lib.hid (show (ofrL (L.drop (i + 1))).length = (n - (i + 1)) * 7 by rw [ofrL_len, List.length_drop, hl])
  have hfit := Lib.hid (show i * 7 + (ofrL (L.drop (i + 1))).length ≤ cur.size by
    rw [hnl.out, hc3]
    have : (n - (i + 1)) * 7 + i * 7 ≤ c * 7 := by omega
    omega)
  have h0 : ((i : Int) == (i : Int) + 1) = false := by simp; omega
  have hcast : (i : Int) + 1 = ((i + 1 : Nat) : Int) := by omega
  obtain ⟨n', hn'⟩ : ∃ n', n' + 1 = n := ⟨n - 1, by omega⟩
  obtain ⟨cur1, e1⟩ : ∃ x : Array Value, (cur.toList.take (i * 7) ++ ofrL (L.drop (i + 1)) ++ cur.toList.drop (i * 7 + (ofrL (L.drop (i + 1))).length)).toArray = x := ⟨_, rfl⟩
  have hA : cur.toList.take (i * 7) = ofrL (L.take i) := by
    rw [← ofrL_take L i (by omega), ← hc4, List.take_take, Nat.min_eq_left (by omega)]
  have hs1 : cur1.size = c * 7 := by
    have h1 := hfit.out
    rw [← e1]
    simp only [List.size_toArray, List.length_append, List.length_take, List.length_drop, Array.length_toList]
    omega
  have ht1 : cur1.toList.take (n' * 7) = ofrL (L.eraseIdx i) := by
    rw [← e1, List.eraseIdx_eq_take_drop_succ, hA, ofrL_app]
    have h2 : (ofrL (L.take i) ++ ofrL (L.drop (i + 1))).length = n' * 7 := by
      rw [List.length_append, hnl.out, ofrL_len, List.length_take]
      omega
    rw [← h2]
    exact List.take_left
  have hoff2 : cutA (some ⟨g, 0, none⟩) c n' 7 = some ⟨g, n' * 7, none⟩ := by
    unfold Proofs.Ytacglcpjbepfnaa.cutA
    rw [if_neg (by omega)]
    simp [Addr.add]
    exact fun h => h.symm
  have hz1 : ∀ u ∈ (Value.agg (ofrA ofrZ)).cells, u.oneCell' = true := by
    intro u hu
    simp [Value.cells, ofrA, ofrV] at hu
    rcases hu with rfl | rfl | rfl <;> rfl
  have hq : i + (n - (i + 1)) = n' := by omega
  have hq2 : n - n' = 1 := by omega
  have hq3 : n' ≤ n := by omega
  have hin : i + 1 ≤ n := by omega
  have hic : i ≤ c := by omega
  have hroom : i + (n - (i + 1)) ≤ c := by omega
  have hfit2 : n' * 7 + 1 * 7 ≤ cur1.size := by rw [hs1]; omega
  have HL := Lib.hid hl
  have HC := Lib.hid (⟨hc3, hc4, e1, hA, hs1, ht1⟩ : _ ∧ _ ∧ _ ∧ _ ∧ _ ∧ _)
  have HN := Lib.hid (⟨hn', hq, hq2, hroom⟩ : _ ∧ _ ∧ _ ∧ _)
  have HCA := Lib.hid hcast
  have HO2 := Lib.hid hoff2
  have HOF := Lib.hid hoff
  clear hl hc3 hc4 e1 hA hs1 ht1 hn' hq hq2 hroom hcast hoff2 hoff
  go_enter Try.func111, Try.ntmps111
  go_wp2_with (first | go_skip)
  refine wp_region_W [6] (fun _ => True) H trivial (by kernel_rfl) (by kernel_rfl) ?_
  iterate 6 (apply wpW_step; (· rfl); (· rfl); (· exact Nat.le_of_ble_eq_true rfl); (· intro l0 _ w0 H0; (first | go_big_quiet_skip | ((with_reducible apply wpQ_cutTo slO); (· rfl); (· rfl); (· rfl); (· rfl); (· exact hic); (simp only [Act.put, List.setIfInBounds_toArray, List.set_cons_zero, List.set_cons_succ])) | ((with_reducible apply wpQ_cutAny slO); (· rfl); (· rfl); (· rfl); (· exact HCA.out); (· exact hin); (· exact HOF.out); (simp only [Act.put, List.setIfInBounds_toArray, List.set_cons_zero, List.set_cons_succ])) | go_big_quiet_step (fail)); (refine wpQuiet_nil ?_); (simp only [Array.getD_eq_getD_getElem?, List.getElem?_toArray, List.getElem?_cons_succ, List.getElem?_cons_zero, Option.getD_some]; rfl)); (simp only [Act.put, List.setIfInBounds_toArray, List.set_cons_zero, List.set_cons_succ]))
  refine wpW_appendSelf slO rfl rfl rfl .here hR.out hnl.out (ofrL_ones _) HN.out.2.2.2 hfit.out HN.out.2.1 HC.out.2.2.1 trivial ?_
  (simp only [Act.put, List.setIfInBounds_toArray, List.set_cons_zero, List.set_cons_succ])
  (apply wpW_step; (· rfl); (· rfl); (· exact Nat.le_of_ble_eq_true rfl); (· intro l0 _ w0 H0; (first | go_big_quiet_skip | fail | go_big_quiet_step (fail)); (refine wpQuiet_nil ?_); (simp only [Array.getD_eq_getD_getElem?, List.getElem?_toArray, List.getElem?_cons_succ, List.getElem?_cons_zero, Option.getD_some]; rfl)); (simp only [Act.put, List.setIfInBounds_toArray, List.set_cons_zero, List.set_cons_succ]))
  (refine wpW_nil ?_; clear H; intro _ H)
  go_wp2_with (first
    | go_skip
    | ((with_reducible show wpList _ _ _ (_ :: _) _ _); (with_reducible apply wpl_cutBoth slO); (· rfl); (· rfl); (· rfl); (· rfl); (· exact hq3); (· exact hc1); (· exact HO2.out); (· exact HN.out.2.2.1); (· rfl); (simp only [Act.put, List.setIfInBounds_toArray, List.set_cons_zero, List.set_cons_succ]))
    | ((with_reducible show wpList _ _ _ (_ :: _) _ _); (with_reducible apply wpl_clearC slO); (· exact hz1); (· rfl); (· rfl); (· rfl); (· exact H); (· exact hfit2); (clear H; intro c1 _ hk1 hk2 H); (simp only [Act.put, List.setIfInBounds_toArray, List.set_cons_zero, List.set_cons_succ])))
  go_ret
  obtain ⟨hc3, hc4, e1, hA, hs1, ht1⟩ := HC.out
  obtain ⟨hn', hq, _, _⟩ := HN.out
  refine ⟨_, rfl, ?_⟩
  have H2 := H.celRowA (n := n') (m := c) (size := 7) (by rw [hk1, hs1]) (by omega) hc2
  rw [hk2, ht1] at H2
  rw [show n - 1 = n' by omega]
  exact H2
end
end Go.Proofs.Ytacglcpjbepfnaa
