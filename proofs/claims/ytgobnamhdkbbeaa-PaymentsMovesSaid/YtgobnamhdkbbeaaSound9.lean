/- countinghouselaw09: Moved, Sound. -/
import Derived.Test.YtgobnamhdkbbeaaPay9q
import Derived.Test.YtgobnamhdkbbeaaPayGPart15
namespace Go.Proofs.Ytgobnamhdkbbeaa
open Go.RowKit
set_option linter.unusedSimpArgs false
set_option linter.unusedVariables false
set_option maxRecDepth 100000
def stD (L : List Lin) (k : Nat) : List Lin := noDeb (L.take k) ++ L.drop k
theorem noDeb_len (L : List Lin) : (noDeb L).length = L.length := by simp [noDeb]
theorem stD_zero (L : List Lin) : stD L 0 = L := by simp [stD, noDeb]
theorem stD_len (L : List Lin) {k : Nat} (h : k ≤ L.length) : (stD L k).length = L.length := by
  unfold stD
  rw [List.length_append, noDeb_len, List.length_take, List.length_drop]
  omega
theorem stD_at {L : List Lin} {k : Nat} {x : Lin} (h : L[k]? = some x) : (stD L k)[k]? = some x := by
  obtain ⟨hk, rfl⟩ := List.getElem?_eq_some_iff.1 h
  have h1 : (noDeb (L.take k)).length = k := by rw [noDeb_len, List.length_take]; omega
  unfold stD
  rw [List.getElem?_append_right (by omega), h1, Nat.sub_self, List.getElem?_drop]
  exact h
theorem stD_set {L : List Lin} {k : Nat} {x : Lin} (h : L[k]? = some x) : (stD L k).set k { x with deb := 0 } = stD L (k + 1) := by
  obtain ⟨hk, rfl⟩ := List.getElem?_eq_some_iff.1 h
  have h1 : (noDeb (L.take k)).length = k := by rw [noDeb_len, List.length_take]; omega
  unfold stD
  rw [List.drop_eq_getElem_cons hk, List.set_append_right _ _ (by omega), h1, Nat.sub_self, List.set_cons_zero, List.take_succ_eq_append_getElem hk]
  unfold noDeb
  rw [List.map_append, List.map_singleton, List.append_assoc]
  rfl
theorem linL_get9 {L : List Lin} {k : Nat} {x : Lin} (h : L[k]? = some x) : (linL L)[k * 5 + 3]? = some (.int .i64 x.lim) ∧ (linL L)[k * 5 + 4]? = some (.int .i64 x.deb) := by
  obtain ⟨hk, rfl⟩ := List.getElem?_eq_some_iff.1 h
  have h1 := linL_at L k hk
  have key : ∀ j, j < 5 → (linL L)[k * 5 + j]? = (linV L[k])[j]? := fun j hj => by
    rw [← h1, List.getElem?_take, if_pos hj, List.getElem?_drop]
  exact ⟨by rw [key 3 (by omega)]; rfl, by rw [key 4 (by omega)]; rfl⟩
theorem linL_set9 (d : Int) : ∀ (X : List Lin) (k : Nat) (x : Lin), X[k]? = some x → (linL X).set (k * 5 + 4) (.int .i64 d) = linL (X.set k { x with deb := d })
  | [], _, _, h => by simp at h
  | y :: X, 0, x, h => by
    simp at h
    subst h
    rfl
  | y :: X, k + 1, x, h => by
    simp at h
    have := linL_set9 d X k x h
    show (linV y ++ linL X).set ((k + 1) * 5 + 4) _ = linV y ++ linL (X.set k _)
    rw [← this, show (k + 1) * 5 + 4 = (k * 5 + 4) + 5 by omega]
    simp [linV]
theorem rd_at9 {w : World} {xs : List Value} {b i : Nat} {v : Value} (R : Rd w (some ⟨b, 0, none⟩) xs) (h : xs[i]? = some v) : w.cell? ⟨b, i, none⟩ = some v := by
  obtain ⟨hi, rfl⟩ := List.getElem?_eq_some_iff.1 h
  have := R.get hi
  rwa [Nat.zero_add] at this
structure SndR (W : World) (l : List Thing) (A B : List Lin) (g1 g2 n c1 c2 : Nat) (i : Value) (wr : World) : Prop where
  out : ∃ k : Nat, k ≤ n ∧ i = .int .i64 (k : Int) ∧ Heap W (OwnT 84 5 (.slice (some ⟨g2, 0, none⟩) n c2) n (linL (stD B k)) :: OwnT 84 5 (.slice (some ⟨g1, 0, none⟩) n c1) n (linL (stD A k)) :: l) wr
section
variable {W w : World} {l r s r2 s2 : List Thing} {p q p2 q2 : Nat} {S S2 : Lgr} {ops : Array Oper} {rest : List Oper} {a : Act}
theorem wpQ_neqL9 {dst : Option Tmp} {ty : TypeId} {pos : String} {after : Array Edge} {guard : Option (Nat × Bool)} {p q : Operand} {a0 b0 c0 d0 e0 a1 b1 c1 d1 e1 : Int} {K : Act → Prop} {H : Heap W l w} (hw : Region.wanted ⟨dst, .binOp .neq 84 p q 84, ty, pos, after, guard⟩ (yielded ops a.tmps) = true) (hp : a.eval p = .agg (line a0 b0 c0 d0 e0)) (hq : a.eval q = .agg (line a1 b1 c1 d1 e1)) (hs : lineSame a0 b0 c0 d0 e0 a1 b1 c1 d1 e1 = true)
    (h : wpQuiet Try.prog ops (fun w' => ∃ d, w' = H.any d) K rest (a.put dst (.bool false))) : wpQuiet Try.prog ops (fun w' => ∃ d, w' = H.any d) K (⟨dst, .binOp .neq 84 p q 84, ty, pos, after, guard⟩ :: rest) a :=
  wpQ_neqL hw hp hq (by rw [hs]; exact h)
theorem llinesN (G : S.Good) (h1 : Pull l (LdC p S.P (some q)) r) (h2 : Pull r (LdM q S.L) s) (H : Heap W l w) : Calls Try.prog 32 #[.pointer (some ⟨p, 0, none⟩)] w fun e w' => ∃ g c, e = .returned (.slice (some ⟨g, 0, none⟩) S.L.length c) ∧ S.L.length ≤ c ∧ c ≤ maxLen ∧ Heap W (RowT 84 5 (.slice (some ⟨g, 0, none⟩) S.L.length c) S.L.length (linL S.L) :: l) w' := by
  refine (llines_H G (H.top2 h1 h2)).mono ?_
  rintro e w' ⟨g, c, rfl, h3, h4, H⟩
  exact ⟨g, c, rfl, h3, h4, H.perm (.cons _ (h1.perm.trans (h2.perm.cons _)).symm)⟩
set_option maxHeartbeats 8000000
theorem moved_A (a c : Nat) (by0 : Int) (G : S.Good) (G2 : S2.Good) (h1 : Pull l (LdC p S.P (some q)) r) (h2 : Pull r (LdM q S.L) s) (k1 : Pull l (LdC p2 S2.P (some q2)) r2) (k2 : Pull r2 (LdM q2 S2.L) s2) (hb : -1099511627776 ≤ by0 ∧ by0 ≤ 1099511627776) (e : posL S.L a c = posL S2.L a c + by0) :
    AnsH W l 37 #[.pointer (some ⟨p, 0, none⟩), .pointer (some ⟨p2, 0, none⟩), .int .u8 (a : Int), .int .u8 (c : Int), .int .i64 by0] (.bool true) := by
  intro w H
  have A1 := lpos_H (W := W) a c G h1 h2
  have A2 := lpos_H (W := W) a c G2 k1 k2
  have hp := G2.posB a c
  rw [e] at A1
  clear e h1 h2 k1 k2 G G2
  generalize posL S2.L a c = x at *
  have w1 : wrap64 (x + by0) = x + by0 := IntWalk.wrap64_in _ ⟨by omega, by omega⟩
  have q1 : (x + by0 == x + by0) = true := by simp
  go_enter Try.func37, Try.ntmps37
  go_wp2_with (first | go_skip | ((with_reducible refine AnsH.call (by assumption) H ?_); clear H; intro _ H))
  go_ret
  first | exact ⟨rfl, H⟩ | exact ⟨by simp [w1], H⟩
theorem sound_A (G : S.Good) (G2 : S2.Good) (h1 : Pull l (LdC p S.P (some q)) r) (h2 : Pull r (LdM q S.L) s) (k1 : Pull l (LdC p2 S2.P (some q2)) r2) (k2 : Pull r2 (LdM q2 S2.L) s2) (e : noDeb S.L = noDeb S2.L) :
    AnsH W l 36 #[.pointer (some ⟨p, 0, none⟩), .pointer (some ⟨p2, 0, none⟩)] (.bool true) := by
  intro w H
  have hlen : S2.L.length = S.L.length := by
    have := congrArg List.length e
    rw [noDeb_len, noDeb_len] at this
    exact this.symm
  have hfew := G.few
  have HG := Lib.hid G
  have HE := Lib.hid e
  have C2 := Lib.hid (fun (x : Thing) (w' : World) (h : Heap W (x :: l) w') => llinesN (W := W) G2 (.there k1) (.there k2) h)
  have C1 := llinesN (W := W) G h1 h2 H
  rw [hlen] at C2
  obtain ⟨n, hn⟩ : ∃ n, S.L.length = n := ⟨_, rfl⟩
  rw [hn] at C1 C2 hfew hlen
  have HN := Lib.hid (And.intro hn hlen)
  clear e H hn hlen h1 h2 k1 k2 G G2
  go_enter Try.func36, Try.ntmps36
  go_wp2_with (go_skip)
  refine C1.mono ?_
  clear C1
  rintro e w1 ⟨g1, c1, rfl, _, _, H⟩
  replace H := H.slide
  go_wp2_with (go_skip)
  refine (C2.out _ _ H).mono ?_
  clear H C2
  rintro e w2 ⟨g2, c2, rfl, _, _, H⟩
  replace H := H.slide
  go_wp2_with (go_skip)
  have H0 := H
  clear H
  go_loopw [7] (fun i wr => SndR W l S.L S2.L g1 g2 n c1 c2 i wr) (fun i _ => n - (intOf i).toNat)
  case atStart => exact ⟨0, Nat.zero_le _, rfl, by rw [stD_zero, stD_zero]; exact H0⟩
  case round =>
    obtain ⟨k, hk, rfl, H⟩ := hrel.out
    clear H0 hrel
    by_cases hlt : k < n
    · have hkA : k < S.L.length := by rw [HN.out.1]; exact hlt
      have hkB : k < S2.L.length := by rw [HN.out.2]; exact hlt
      obtain ⟨x, hx⟩ : ∃ x, S.L[k]? = some x := ⟨S.L[k], List.getElem?_eq_getElem hkA⟩
      obtain ⟨y, hy⟩ : ∃ y, S2.L[k]? = some y := ⟨S2.L[k], List.getElem?_eq_getElem hkB⟩
      have hxy : ({ x with deb := 0 } : Lin) = { y with deb := 0 } := by
        have := congrArg (fun L : List Lin => L[k]?) HE.out
        simp only [noDeb, List.getElem?_map, hx, hy, Option.map_some] at this
        exact Option.some.inj this
      have hok := HG.out.ok x (List.mem_of_getElem? hx)
      have hd1 := hok.deb.1
      have hd2 := hok.deb.2
      have ax := stD_at hx
      have ay := stD_at hy
      have sx := stD_set hx
      have sy := stD_set hy
      have lenA : (stD S.L k).length = n := by rw [stD_len _ (by omega)]; exact HN.out.1
      have lenB : (stD S2.L k).length = n := by rw [stD_len _ (by omega)]; exact HN.out.2
      have ex := linL_set9 0 _ _ _ ax
      have ey := linL_set9 0 _ _ _ ay
      have gx := linL_get9 ax
      rw [sx] at ex
      rw [sy] at ey
      have zx : (stD S.L (k + 1))[k]? = some { x with deb := 0 } := by rw [← sx]; exact List.getElem?_set_self (by rw [lenA]; exact hlt)
      have zy : (stD S2.L (k + 1))[k]? = some { y with deb := 0 } := by rw [← sy]; exact List.getElem?_set_self (by rw [lenB]; exact hlt)
      have lenA2 : (stD S.L (k + 1)).length = n := by rw [← sx, List.length_set, lenA]
      have lenB2 : (stD S2.L (k + 1)).length = n := by rw [← sy, List.length_set, lenB]
      have rx : (((linL (stD S.L (k + 1))).drop (k * 5)).take 5).toArray = line x.cr x.db x.cu x.lim 0 := by
        obtain ⟨hk', e'⟩ := List.getElem?_eq_some_iff.1 zx
        rw [linL_row _ k hk', e']
      have ry : (((linL (stD S2.L (k + 1))).drop (k * 5)).take 5).toArray = line y.cr y.db y.cu y.lim 0 := by
        obtain ⟨hk', e'⟩ := List.getElem?_eq_some_iff.1 zy
        rw [linL_row _ k hk', e']
      have bx : k * 5 + 5 ≤ (linL (stD S.L (k + 1))).length := by rw [linL_len, lenA2]; omega
      have byy : k * 5 + 5 ≤ (linL (stD S2.L (k + 1))).length := by rw [linL_len, lenB2]; omega
      have tx : k * 5 + 4 < (linL (stD S.L k)).length := by rw [linL_len, lenA]; omega
      have ty : k * 5 + 4 < (linL (stD S2.L k)).length := by rw [linL_len, lenB]; omega
      have hs : lineSame x.cr x.db x.cu x.lim 0 y.cr y.db y.cu y.lim 0 = true := by
        simp only [Lin.mk.injEq] at hxy
        simp [lineSame, hxy.1, hxy.2.1, hxy.2.2.1, hxy.2.2.2.1]
      have d1 : decide (x.deb < 0) = false := decide_eq_false (by omega)
      have d2 : decide (x.deb > x.lim) = false := decide_eq_false (by omega)
      have d3 : decide (x.lim < x.deb) = false := decide_eq_false (by omega)
      have HX := Lib.hid (And.intro ex ey)
      have HA := Lib.hid (show ∀ (w' : World), Heap W (OwnT 84 5 (.slice (some ⟨g2, 0, none⟩) n c2) n (linL (stD S2.L k)) :: OwnT 84 5 (.slice (some ⟨g1, 0, none⟩) n c1) n (linL (stD S.L k)) :: l) w' → w'.cell? ⟨g1, k * 5 + 3, none⟩ = some (.int .i64 x.lim) ∧ w'.cell? ⟨g1, k * 5 + 4, none⟩ = some (.int .i64 x.deb) from fun w' h => by
        have R := h.ownRd (by (repeat (first | (with_reducible exact List.mem_cons_self) | with_reducible apply List.mem_cons_of_mem)) : OwnT 84 5 (.slice (some ⟨g1, 0, none⟩) n c1) n (linL (stD S.L k)) ∈ _)
        exact ⟨rd_at9 R gx.1, rd_at9 R gx.2⟩)
      clear hx hy hxy hok hd1 hd2 ax ay sx sy lenA lenB ex ey gx zx zy lenA2 lenB2 hkA hkB
      go_wp2_with (go_skip)
      refine wp_region_H H (by kernel_rfl) (by kernel_rfl) ?_
      repeat (first | go_big_quiet_skip | ((with_reducible apply wpQ_loadAt); (· exact cell_i64); (· rfl); (· rfl); (· first | exact fun w' h => (HA.out w' h).1 | exact fun w' h => (HA.out w' h).2); (simp only [Act.put, List.setIfInBounds_toArray, List.set_cons_zero, List.set_cons_succ])) | go_big_quiet_step (fail))
      refine wpQuiet_nil ?_
      clear H
      intro _ H
      go_wp2_with (first | go_skip | ((with_reducible show wpList _ _ _ (_ :: _) _ _); (with_reducible apply wpl_storeOwnC); (· exact cell_i64); (· rfl); (· rfl); (· exact (rfl : _ = Value.int .i64 0)); (· exact ⟨rfl, rfl⟩); (· exact H); (· (repeat (first | (with_reducible exact List.mem_cons_self) | with_reducible apply List.mem_cons_of_mem))); (· exact (Nat.zero_add _).symm); (· first | exact tx | exact ty); (· (repeat (first | (with_reducible exact Repl.here) | with_reducible apply Repl.there))); (clear H; intro _ H); (simp only [Act.put, List.setIfInBounds_toArray, List.set_cons_zero, List.set_cons_succ])))
      rw [HX.out.1, HX.out.2] at H
      have RA := Lib.hid (show ∀ (w' : World), Heap W (OwnT 84 5 (.slice (some ⟨g2, 0, none⟩) n c2) n (linL (stD S2.L (k + 1))) :: OwnT 84 5 (.slice (some ⟨g1, 0, none⟩) n c1) n (linL (stD S.L (k + 1))) :: l) w' → Rd w' (some ⟨g1, 0, none⟩) (linL (stD S.L (k + 1))) from fun w' h => h.ownRd (by (repeat (first | (with_reducible exact List.mem_cons_self) | with_reducible apply List.mem_cons_of_mem))))
      have RB := Lib.hid (show ∀ (w' : World), Heap W (OwnT 84 5 (.slice (some ⟨g2, 0, none⟩) n c2) n (linL (stD S2.L (k + 1))) :: OwnT 84 5 (.slice (some ⟨g1, 0, none⟩) n c1) n (linL (stD S.L (k + 1))) :: l) w' → Rd w' (some ⟨g2, 0, none⟩) (linL (stD S2.L (k + 1))) from fun w' h => h.ownRd (by (repeat (first | (with_reducible exact List.mem_cons_self) | with_reducible apply List.mem_cons_of_mem))))
      refine wp_region_H H (by kernel_rfl) (by kernel_rfl) ?_
      repeat (first | go_big_quiet_skip | (first | ((with_reducible apply wpQ_loadRdR0 row_line); (· rfl); (· rfl); (· exact RA.out); (· exact bx); (· decide); (· exact rx); (simp only [Act.put, List.setIfInBounds_toArray, List.set_cons_zero, List.set_cons_succ])) | ((with_reducible apply wpQ_loadRdR0 row_line); (· rfl); (· rfl); (· exact RB.out); (· exact byy); (· decide); (· exact ry); (simp only [Act.put, List.setIfInBounds_toArray, List.set_cons_zero, List.set_cons_succ])) | ((with_reducible apply wpQ_neqL9); (· rfl); (· rfl); (· rfl); (· exact hs); (simp only [Act.put, List.setIfInBounds_toArray, List.set_cons_zero, List.set_cons_succ]))) | go_big_quiet_step (fail))
      refine wpQuiet_nil ?_
      clear H
      intro _ H
      go_wp2_with (go_skip)
      refine ⟨⟨k + 1, by omega, by go_num, H⟩, ?measure⟩
      case measure => simp [intOf]; omega
    · obtain rfl : k = n := by omega
      go_wp2_with (go_skip)
      go_ret
      exact ⟨rfl, H.tail.tail⟩
end
end Go.Proofs.Ytgobnamhdkbbeaa
