/- paths.Round: a round that costs less than nothing. -/
import Derived.Test.YtglehneaphigdaaConcat
import Derived.WalkMore
namespace Go.Proofs.Ytglehneaphigdaa
open Go.RowKit
set_option linter.unusedSimpArgs false
set_option linter.unusedVariables false
def zeroS : Srch := ⟨fun _ => 0, fun _ => 0, 0⟩
/-- So many times through all edges, while something changes. -/
def runS (F : List Edg) : Nat → Srch → Option Srch
  | 0, s => some s
  | n + 1, s => if (onceS F s).last = 0 then none else runS F n (onceS F s)
/-- Who is so many steps ahead. -/
def back (P : Nat → Nat) : Nat → Nat → Nat
  | 0, a => a
  | n + 1, a => back P n (P a)
/-- All who are ahead, each once. -/
def orbit (P : Nat → Nat) : Nat → Nat → List Nat → List Nat
  | 0, _, L => L
  | n + 1, a, L => if a ∈ L then L else orbit P n (P a) (L ++ [a])
def turnL (L : List Nat) : List Nat := L.drop (L.idxOf (minL L)) ++ L.take (L.idxOf (minL L))
/-- The round. -/
def roundOf (F : List Edg) : List Nat := match runS F 16 zeroS with
  | none => []
  | some s => turnL (orbit s.P 18 (back s.P 16 s.last) []).reverse
theorem pc_of {c : Array Value} {L : List Nat} (h : c.toList.take (L.length * 1) = L.map pv) : ∃ r, c = pc L r := by
  refine ⟨c.toList.drop (L.length * 1), ?_⟩
  unfold pc
  rw [← h, List.take_append_drop]
theorem Rd.takeN {w : World} {a : Option Addr} {xs : List Value} (h : Rd w a xs) (n : Nat) : Rd w a (xs.take n) := by
  intro i hi
  have hi2 : i < xs.length := by rw [List.length_take] at hi; omega
  obtain ⟨b, o, he, hc⟩ := h i hi2
  exact ⟨b, o, he, by rw [hc, List.getElem_take]⟩
theorem Rd.dropN {w : World} {g o : Nat} {xs : List Value} (h : Rd w (some ⟨g, o, none⟩) xs) (n : Nat) : Rd w (some ⟨g, o + n, none⟩) (xs.drop n) := by
  intro i hi
  have hi2 : n + i < xs.length := by rw [List.length_drop] at hi; omega
  obtain ⟨b, o', he, hc⟩ := h (n + i) hi2
  cases he
  exact ⟨g, o + n, rfl, by rw [Nat.add_assoc, hc, List.getElem_drop]⟩
theorem minL_mem {L : List Nat} (h : 0 < L.length) : minL L ∈ L := by
  cases L with
  | nil => simp at h
  | cons x L =>
    have key : ∀ (M : List Nat) (a : Nat), M.foldl min a = a ∨ M.foldl min a ∈ M := by
      intro M
      induction M with
      | nil => intro a; exact .inl rfl
      | cons y M ih =>
        intro a
        rcases ih (min a y) with h | h
        · rw [List.foldl_cons, h]
          rcases Nat.le_total a y with e | e
          · rw [Nat.min_eq_left e]; exact .inl rfl
          · rw [Nat.min_eq_right e]; exact .inr List.mem_cons_self
        · exact .inr (List.mem_cons_of_mem _ h)
    unfold minL
    simp only [List.headD_cons]
    rcases key (x :: L) x with h | h
    · rw [h]; exact List.mem_cons_self
    · exact h
theorem pc_rd {w W : World} {l : List Thing} {g : Nat} {L : List Nat} {r : List Value} {t : TypeId} (H : Heap W l w) (m : Cel g (pc L r) t ∈ l) : Rd w (some ⟨g, 0, none⟩) (L.map pv) := by
  have h := (H.celRd m).takeN (L.map pv).length
  unfold pc at h
  rw [List.toList_toArray, List.take_left] at h
  exact h
/-- Who came. -/
def cameB (L : List Nat) : Array Value := tab 17 fun i => .bool (decide (i ∈ L))
theorem cameB_sz (L : List Nat) : (cameB L).size = 17 := tab_size ..
theorem cameB_get (L : List Nat) {i : Nat} (h : i < 17) : (cameB L)[i]? = some (.bool (decide (i ∈ L))) := tab_get _ h
theorem cameB_set (L : List Nat) {i : Nat} (h : i < 17) : (cameB L).setIfInBounds i (.bool true) = cameB (L ++ [i]) := by
  unfold cameB
  rw [tab_set _ _ h]
  apply tab_congr
  intro j _
  by_cases e : j = i
  · subst e; simp
  · simp [e]
theorem row_came : RowTy 87 17 (cameB []) := ⟨⟨_, Try.underlying87, rfl⟩, by kernel_rfl, by kernel_rfl⟩
theorem nodup_le : ∀ (n : Nat) (L : List Nat), L.Nodup → (∀ x ∈ L, x < n) → L.length ≤ n
  | 0, L, _, hb => by
    cases L with
    | nil => exact Nat.le_refl _
    | cons x L => exact absurd (hb x List.mem_cons_self) (Nat.not_lt_zero _)
  | n + 1, L, h, hb => by
    by_cases hm : n ∈ L
    · have h1 := nodup_le n (L.erase n) (h.erase n) fun x hx => by
        have h2 := (h.mem_erase_iff).1 hx
        have := hb x h2.2
        have := h2.1
        omega
      rw [List.length_erase_of_mem hm] at h1
      omega
    · exact Nat.le_succ_of_le (nodup_le n L h fun x hx => by
        have := hb x hx
        have : x ≠ n := fun e => hm (e ▸ hx)
        omega)
theorem nodup_17 {L : List Nat} (h : L.Nodup) (hb : ∀ x ∈ L, x < 17) : L.length ≤ 17 := nodup_le 17 L h hb
theorem orbit_in {P : Nat → Nat} {n a : Nat} {L : List Nat} (h : a ∈ L) : orbit P (n + 1) a L = L := if_pos h
theorem orbit_out {P : Nat → Nat} {n a : Nat} {L : List Nat} (h : a ∉ L) : orbit P (n + 1) a L = orbit P n (P a) (L ++ [a]) := if_neg h
structure BLoop (W : World) (l2 : List Thing) (s : Srch) (ps : Nat) (va vi : Value) (wr : World) : Prop where
  out : ∃ k a : Nat, k ≤ 16 ∧ vi = .int .i64 (k : Int) ∧ va = .int .u8 (a : Int) ∧ a < 17 ∧ back s.P 16 s.last = back s.P (16 - k) a ∧ Heap W (Cel ps (sr s.D s.P) 108 :: l2) wr
structure OLoop (W : World) (l2 : List Thing) (s : Srch) (ps pb a0 m : Nat) (va vo : Value) (wr : World) : Prop where
  out : ∃ (a f : Nat) (L : List Nat), va = .int .u8 (a : Int) ∧ a < 17 ∧ f ≤ m ∧ f + L.length = 18 ∧ L.Nodup ∧ (∀ x ∈ L, x < 17) ∧ orbit s.P 18 a0 [] = orbit s.P f a L ∧ (L = [] → f = 18) ∧ Heap W (RowT 33 1 vo L.length (L.map pv) :: Cel pb (cameB L) 87 :: Cel ps (sr s.D s.P) 108 :: l2) wr
theorem row_sr : RowTy 108 34 (sr (fun _ => 0) (fun _ => 0)) := ⟨⟨_, Try.underlying108, rfl⟩, by kernel_rfl, by kernel_rfl⟩
section
variable {W w : World} {l : List Thing}
set_option maxRecDepth 100000
set_option maxHeartbeats 2000000
theorem indexE_nil (a : Option Addr) (c : Nat) (fv : Value) : Ans 69 #[.slice a 0 c, fv] (.int .i64 (-1)) := by
  intro w
  go_enter Try.func69, Try.ntmps69
  go_wp2_with (go_skip)
  go_loopw [8] (fun i wr => i = .int .i64 0 ∧ wr = w) (fun i _ => 0)
  case atStart => exact ⟨rfl, rfl⟩
  case round =>
    obtain ⟨rfl, rfl⟩ := hrel
    go_wp2_with (go_skip)
    go_ret
    exact ⟨rfl, (by repeat (first | exact Ext.refl _ | refine Ext.alloc ?_ _ | refine Ext.ext ?_ _ | refine Ext.drew ?_))⟩
theorem delete_nil (a : Option Addr) (c : Nat) (fv : Value) : Ans 54 #[.slice a 0 c, fv] (.slice a 0 c) := by
  intro w
  have I := indexE_nil a c fv
  go_enter Try.func54, Try.ntmps54
  go_wp2_with (first | go_skip | ((with_reducible refine Ans.call (by assumption) ?_); intro _))
  go_ret
  exact ⟨rfl, (by repeat (first | exact Ext.refl _ | refine Ext.alloc ?_ _ | refine Ext.ext ?_ _ | refine Ext.drew ?_))⟩
/-- Edges in memory of their own: the list of things ahead of them, and with them. -/
def Held (F : List Edg) (l l1 : List Thing) (a : Option Addr) (c : Nat) : Prop := F.length ≤ c ∧ ((F = [] ∧ l1 = l) ∨ ∃ g r, a = some ⟨g, 0, none⟩ ∧ l1 = Cel g (ec F r) 64 :: l)
theorem clone_G (ea : Option Addr) (en ec0 : Nat) (F : List Edg) (hl : F.length = en) (hn : en ≤ 1000000) (R : ∀ w', Heap W l w' → Rd w' ea (edgL F)) (H : Heap W l w) :
    Calls Try.prog 55 #[.slice ea en ec0] w fun e w' => ∃ a c l1, e = .returned (.slice a F.length c) ∧ Held F l l1 a c ∧ Heap W l1 w' := by
  refine (clone_H ea en ec0 F hl hn R H).mono ?_
  rintro e w' ⟨a, c, rfl, h1, h2, ⟨hF, H⟩ | ⟨g, r, rfl, hs, H⟩⟩
  · exact ⟨a, c, l, rfl, ⟨h1, .inl ⟨hF, rfl⟩⟩, H⟩
  · exact ⟨_, c, _, rfl, ⟨h1, .inr ⟨g, r, rfl, rfl⟩⟩, H⟩
/-- What is left of them. -/
structure Left (W : World) (F : List Edg) (l l2 : List Thing) (a : Option Addr) : Prop where
  rd : ∀ w', Heap W l2 w' → Rd w' a (edgL F)
  tail : ∀ w', Heap W l2 w' → Heap W l w'
  front : ∀ {t : Thing} {w' : World}, Heap W (t :: l2) w' → Heap W (t :: l) w'
theorem delete_G {l1 : List Thing} {F : List Edg} {a : Option Addr} {c : Nat} (hh : Held F l l1 a c) (hn : F.length ≤ 1000000) (hF : ∀ x ∈ F, EdgOk x) (H : Heap W l1 w) :
    Calls Try.prog 54 #[.slice a F.length c, .func (.func 56) #[] #[]] w fun e w' => ∃ l2, e = .returned (.slice a (F.filter keepE).length c) ∧ Left W (F.filter keepE) l l2 a ∧ Heap W l2 w' := by
  obtain ⟨hc, ⟨rfl, rfl⟩ | ⟨g, r, rfl, rfl⟩⟩ := hh
  · refine ((delete_nil a c _).toH w H).mono ?_
    rintro e w' ⟨rfl, H⟩
    refine ⟨_, rfl, ⟨fun w' _ => ?_, fun _ h => h, fun h => h⟩, H⟩
    intro i hi
    simp [edgL] at hi
  · refine (delete_H g F.length c F r rfl hn hc hF H).mono ?_
    rintro e w' ⟨c1, rfl, ht, H⟩
    refine ⟨_, rfl, ⟨fun w' H' => ?_, fun _ h => h.tail, fun h => h.drop (.there .here)⟩, H⟩
    rw [← ht]
    exact (H'.celRd List.mem_cons_self).takeN _
/-- Parties within bounds. -/
def PBnd (s : Srch) : Prop := s.last < 17 ∧ ∀ i, s.P i < 17
theorem PBnd.relax {s : Srch} {e : Edg} (h : PBnd s) (hf : e.f < 17) (ht : e.t < 17) : PBnd (relax s e) := by
  unfold Proofs.Ytglehneaphigdaa.relax
  split
  · refine ⟨ht, fun i => ?_⟩
    simp only [updN]
    split
    · exact hf
    · exact h.2 i
  · exact h
theorem PBnd.foldl : ∀ (F : List Edg) (s : Srch), PBnd s → (∀ x ∈ F, x.f < 17 ∧ x.t < 17) → PBnd (F.foldl Proofs.Ytglehneaphigdaa.relax s)
  | [], _, h, _ => h
  | x :: F, s, h, hF => PBnd.foldl F _ (h.relax (hF x List.mem_cons_self).1 (hF x List.mem_cons_self).2) fun y hy => hF y (List.mem_cons_of_mem _ hy)
theorem PBnd.once {F : List Edg} {s : Srch} (h : PBnd s) (hF : ∀ x ∈ F, x.f < 17 ∧ x.t < 17) : PBnd (onceS F s) := PBnd.foldl F _ ⟨by show 0 < 17; omega, h.2⟩ hF
theorem Bnd.foldl : ∀ (F : List Edg) (s : Srch) (B : Nat), Bnd B s → (∀ x ∈ F, -128 ≤ x.c) → Bnd (B + 128 * F.length) (F.foldl Proofs.Ytglehneaphigdaa.relax s)
  | [], _, _, h, _ => h
  | x :: F, s, B, h, hF => by
    have := Bnd.foldl F _ (B + 128) (h.relax (hF x List.mem_cons_self)) fun y hy => hF y (List.mem_cons_of_mem _ hy)
    rw [List.length_cons, show B + 128 * (F.length + 1) = B + 128 + 128 * F.length by omega]
    exact this
theorem Bnd.once {F : List Edg} {s : Srch} {B : Nat} (h : Bnd B s) (hF : ∀ x ∈ F, -128 ≤ x.c) : Bnd (B + 128 * F.length) (onceS F s) := Bnd.foldl F _ B h hF
theorem keep_ok {F : List Edg} (hF : ∀ x ∈ F, EdgOk x) : ∀ x ∈ F.filter keepE, x.f < 17 ∧ x.t < 17 ∧ -128 ≤ x.c ∧ x.c ≤ 127 := by
  intro x hx
  obtain ⟨h1, h2⟩ := List.mem_filter.1 hx
  have ho := hF x h1
  unfold keepE at h2
  rw [Bool.and_eq_true] at h2
  have m1 := mayP_true h2.1
  have m2 := mayP_true h2.2
  exact ⟨by omega, by omega, ho.2.2.1, ho.2.2.2⟩
def RoundPost (W : World) (l : List Thing) (E : List Edg) (e : Ending) (w' : World) : Prop := ∃ v, e = .returned v ∧ Heap W (OwnT 33 1 v (roundOf E).length ((roundOf E).map pv) :: l) w'
structure SLoop (W : World) (l2 : List Thing) (F : List Edg) (ps : Nat) (va vi : Value) (wr : World) : Prop where
  out : ∃ (k : Nat) (s : Srch), k ≤ 16 ∧ vi = .int .i64 (k : Int) ∧ va = .int .u8 (s.last : Int) ∧ (k ≠ 0 → s.last ≠ 0) ∧ runS F 16 zeroS = runS F (16 - k) s ∧ Bnd (128 * F.length * k) s ∧ PBnd s ∧ Heap W (Cel ps (sr s.D s.P) 108 :: l2) wr
theorem runS_no {F : List Edg} {n : Nat} {s : Srch} (h : (onceS F s).last = 0) : runS F (n + 1) s = none := if_pos h
theorem runS_yes {F : List Edg} {n : Nat} {s : Srch} (h : (onceS F s).last ≠ 0) : runS F (n + 1) s = runS F n (onceS F s) := if_neg h
theorem round_H (ea : Option Addr) (en ec0 : Nat) (F : List Edg) (hl : F.length = en) (hn : en ≤ 1000000) (hF : ∀ x ∈ F, EdgOk x) (R : ∀ w', Heap W l w' → Rd w' ea (edgL F)) (H : Heap W l w) :
    Calls Try.prog 36 #[.slice ea en ec0] w (RoundPost W l (F.filter keepE)) := by
  have hn2 : F.length ≤ 1000000 := by omega
  have hk := keep_ok hF
  have hkl : (F.filter keepE).length ≤ 1000000 := Nat.le_trans (List.length_filter_le ..) hn2
  have C := clone_G (W := W) (l := l) (w := w) ea en ec0 F hl hn R H
  have DG := fun l1 a c w' hh H' => delete_G (W := W) (l := l) (w := w') (l1 := l1) (F := F) (a := a) (c := c) hh hn2 hF H'
  have HK := Lib.hid hk
  clear H R hF hk hl
  go_enter Try.func36, Try.ntmps36
  go_wp2_with (first
    | go_skip
    | ((with_reducible refine C.mono ?_); clear C; rintro _ _ ⟨a, c, l1, rfl, hh, H⟩)
    | ((with_reducible refine (DG _ _ _ _ hh H).mono ?_); clear H DG hh; rintro _ _ ⟨l2, rfl, hL, H⟩)
    | ((with_reducible show wpList _ _ _ (_ :: _) _ _); (with_reducible apply wpl_allocRH row_sr); (· rfl); (· exact H); (clear H; intro ps _ H); (simp only [Act.put, List.setIfInBounds_toArray, List.set_cons_zero, List.set_cons_succ])))
  go_step3
  go_wp2_with (first
    | go_skip
    | ((with_reducible refine C.mono ?_); clear C; rintro _ _ ⟨a, c, l1, rfl, hh, H⟩)
    | ((with_reducible refine (DG _ _ _ _ hh H).mono ?_); clear H DG hh; rintro _ _ ⟨l2, rfl, hL, H⟩)
    | ((with_reducible show wpList _ _ _ (_ :: _) _ _); (with_reducible apply wpl_allocRH row_sr); (· rfl); (· exact H); (clear H; intro ps _ H); (simp only [Act.put, List.setIfInBounds_toArray, List.set_cons_zero, List.set_cons_succ])))
  go_step3
  go_wp2_with (go_skip)
  generalize F.filter keepE = E at *
  have hst : PBnd zeroS := ⟨by decide, fun i => by show 0 < 17; omega⟩
  have H0 := H
  clear H
  go_loopw [5, 12] (fun va vi wr => SLoop W l2 E ps va vi wr) (fun _ vi _ => 16 - (intOf vi).toNat)
  case atStart => exact ⟨0, zeroS, by omega, rfl, rfl, (fun h => absurd rfl h), rfl, (fun i => by show -((128 * E.length * 0 : Nat) : Int) ≤ 0 ∧ (0 : Int) ≤ 0; omega), hst, H0⟩
  case round =>
    obtain ⟨k, s, hk, rfl, rfl, hne, hrun, hb, hp, H'⟩ := hrel.out
    clear H0 hrel hst
    have H := H'
    clear H'
    by_cases hlt : k < 16
    · have hon := once_H (W := W) (l := l2) (w := wr) ps a E.length c E rfl HK.out hL.rd s (128 * E.length * k) hb (by
        have : 128 * E.length * k ≤ 128 * E.length * 16 := Nat.mul_le_mul_left _ hk
        omega) H
      have hb2 := hb.once (F := E) fun x hx => (HK.out x hx).2.2.1
      have hp2 := hp.once (F := E) fun x hx => ⟨(HK.out x hx).1, (HK.out x hx).2.1⟩
      rw [show 16 - k = (15 - k) + 1 by omega] at hrun
      by_cases hz : (onceS E s).last = 0
      · rw [runS_no hz] at hrun
        have HR := Lib.hid hrun
        rw [hz] at hon
        clear hrun hne hb hp hb2 hp2 hz H
        go_wp2_with (first
          | go_skip
          | ((with_reducible refine hon.mono ?_); clear hon; rintro _ _ ⟨rfl, H⟩))
        rw [Exit.noGoto_ret]
        go_ret
        have e0 : roundOf E = [] := by unfold roundOf; rw [HR.out]
        refine ⟨_, rfl, ?_⟩
        rw [e0]
        exact ((hL.tail _ H.tail).nilRow _ _).slide
      · rw [runS_yes hz] at hrun
        have HR := Lib.hid hrun
        have hz1 : (((onceS E s).last : Int) == 0) = false := by simp; exact hz
        have hz2 : decide (((onceS E s).last : Int) = 0) = false := by simp; exact hz
        have HB := Lib.hid hb2
        have HP := Lib.hid hp2
        have HZ := Lib.hid hz
        have hl17 := hp2.1
        clear hrun hne hb hp hb2 hp2 hz H
        generalize onceS E s = s2 at *
        go_wp2_with (first
          | go_skip
          | ((with_reducible refine hon.mono ?_); clear hon; rintro _ _ ⟨rfl, H⟩))
        refine ⟨⟨k + 1, s2, by omega, by go_num, rfl, fun _ => HZ.out, ?_, ?_, HP.out, H⟩, ?measure⟩
        · rw [HR.out, show 16 - (k + 1) = 15 - k by omega]
        · have := HB.out
          rw [show 128 * E.length * (k + 1) = 128 * E.length * k + 128 * E.length by rw [Nat.mul_add, Nat.mul_one]]
          exact this
        case measure => simp [intOf]; omega
    · obtain rfl : k = 16 := by omega
      have hz := hne (by omega)
      have hz1 : ((s.last : Int) == 0) = false := by simp; exact hz
      have hz2 : decide ((s.last : Int) = 0) = false := by simp; exact hz
      have HR := Lib.hid (show runS E 16 zeroS = some s from hrun)
      have HP := Lib.hid hp.2
      have hl17 := hp.1
      clear hrun hne hb hp hz
      go_wp2_with (go_skip)
      have H0 := H
      clear H
      go_loopw [5, 21] (fun va vi wr => BLoop W l2 s ps va vi wr) (fun _ vi _ => 16 - (intOf vi).toNat)
      case atStart => exact ⟨0, s.last, by omega, rfl, rfl, hl17, rfl, H0⟩
      case round =>
        obtain ⟨k, b, hkk, rfl, rfl, hb17, hbk, H'⟩ := hrel.out
        clear H0 hrel
        have H := H'
        clear H'
        by_cases hlt2 : k < 16
        · have hP := HP.out b
          rw [show 16 - k = (15 - k) + 1 by omega] at hbk
          have HBK := Lib.hid (show back s.P 16 s.last = back s.P (15 - k) (s.P b) from hbk)
          clear hbk
          go_wp2_with (first
            | go_skip
            | ((with_reducible show wpList _ _ _ (_ :: _) _ _); (with_reducible apply wpl_loadCH); (· exact cell_party); (· rfl); (· rfl); (· exact H); (· exact List.mem_cons_self); (· exact sr_getP _ _ hb17); (simp only [Act.put, List.setIfInBounds_toArray, List.set_cons_zero, List.set_cons_succ])))
          refine ⟨⟨k + 1, s.P b, by omega, by go_num, rfl, hP, ?_, H⟩, ?measure3⟩
          · rw [HBK.out, show 16 - (k + 1) = 15 - k by omega]
          case measure3 => simp [intOf]; omega
        · obtain rfl : k = 16 := by omega
          have HBK := Lib.hid (show back s.P 16 s.last = b from hbk)
          clear hbk
          go_wp2_with (first | go_skip | ((with_reducible show wpList _ _ _ (_ :: _) _ _); (with_reducible apply wpl_allocRH row_came); (· rfl); (· exact H); (clear H; intro pb _ H); (simp only [Act.put, List.setIfInBounds_toArray, List.set_cons_zero, List.set_cons_succ])))
          have H0 := H.nilRow 33 1
          clear H
          go_loopg [5, 7] 18 (fun m va vo wr => OLoop W l2 s ps pb b m va vo wr)
          case atStart => exact ⟨b, 18, [], rfl, hb17, Nat.le_refl _, rfl, List.nodup_nil, (fun x hx => by cases hx), rfl, fun _ => rfl, H0⟩
          case round =>
            obtain ⟨a1, f, L, rfl, ha17, hfm, hfl, hnd, hL17, hor, hnil, H'⟩ := hrel.out
            clear H0 hrel
            have H := H'
            clear H'
            have hL1 := nodup_17 hnd hL17
            have hq1 : L.length + 1 ≤ maxLen := by unfold maxLen; omega
            have hq2 : (L.length + 1) * 1 ≤ 140737488355328 := by omega
            obtain ⟨f, rfl⟩ : ∃ f', f = f' + 1 := ⟨f - 1, by omega⟩
            by_cases hin : a1 ∈ L
            · rw [orbit_in hin] at hor
              have hget : (cameB L)[a1]? = some (.bool true) := by rw [cameB_get L ha17]; simp [hin]
              have hL0 : 0 < L.length := List.length_pos_of_mem hin
              obtain ⟨gl, ml, cl, rfl, hm1, hm2, hcl, htl, H2⟩ := H.rowCel hL0
              clear H
              have H := H2
              clear H2
              obtain ⟨rl, rfl⟩ := pc_of htl
              have HOR := Lib.hid hor
              clear hor hin hnil hfm hfl
              go_wp2_with (first
                | go_skip
                | ((with_reducible show wpList _ _ _ (_ :: _) _ _); (with_reducible apply wpl_loadCH); (· exact cell_bool); (· rfl); (· rfl); (· exact H); (· exact List.mem_cons_of_mem _ List.mem_cons_self); (· exact hget); (simp only [Act.put, List.setIfInBounds_toArray, List.set_cons_zero, List.set_cons_succ])))
              have hLm : L.length ≤ 1000000 := by omega
              go_wp2_with ((with_reducible refine (reverse_H _ _ _ L _ rfl hLm H).mono ?_); clear H; rintro _ _ ⟨rfl, H⟩)
              have hML : L.reverse.length = L.length := List.length_reverse
              have hM255 : ∀ y ∈ L.reverse, y ≤ 255 := fun y hy => by have := hL17 y (List.mem_reverse.1 hy); omega
              have hmm := minL_mem (L := L.reverse) (by rw [hML]; exact hL0)
              have hmi := hM255 _ hmm
              have hRd : ∀ w', Heap W (Cel gl (pc L.reverse rl) 33 :: Cel pb (cameB L) 87 :: Cel ps (sr s.D s.P) 108 :: l2) w' → Rd w' (some ⟨gl, 0, none⟩) (L.reverse.map pv) := fun w' H' => pc_rd H' List.mem_cons_self
              have MA := min_H gl 0 L.length ml L.reverse hML hL0 (by omega) hM255 hRd
              have IA := index_H gl 0 L.length ml L.reverse (minL L.reverse) hML (by omega) hM255 hmm hRd
              have hidx : L.reverse.idxOf (minL L.reverse) < L.length := by rw [← hML]; exact List.idxOf_lt_length_of_mem hmm
              have HOM := Lib.hid (show roundOf E = turnL L.reverse by unfold roundOf; rw [HR.out]; simp only [HBK.out, HOR.out])
              unfold turnL at HOM
              have HT := Lib.hid hRd
              clear hRd hM255 hnd hL17
              generalize L.reverse = M at *
              generalize M.idxOf (minL M) = j at *
              generalize minL M = mn at *
              go_wp2_with (first | go_skip | ((with_reducible refine AnsH.call (by assumption) H ?_); clear H; intro _ H))
              have hjm : j < ml := by omega
              have hA : (M.drop j).length = L.length - j := by rw [List.length_drop, hML]
              have hB : (M.take j).length = j := by rw [List.length_take, hML]; omega
              clear MA IA hmm
              refine wp_region_H_tail 6 H (by kernel_rfl) (by kernel_rfl) ?_
              simp only [List.take_succ_cons, List.take_zero, List.drop_succ_cons, List.drop_zero]
              repeat (first | go_big_quiet_skip | fail | go_big_quiet_step (fail))
              refine wpQuiet_nil ?_
              clear H
              intro _ H
              have CC : ∀ pq W0, Heap W (Cel pq #[.slice (some ⟨gl, j, none⟩) (L.length - j) (ml - j), .slice (some ⟨gl, 0, none⟩) j ml] 67 :: Cel gl (pc M rl) 33 :: Cel pb (cameB L) 87 :: Cel ps (sr s.D s.P) 108 :: l2) W0 → Calls Try.prog 62 #[.slice (some ⟨pq, 0, none⟩) 2 2] W0 fun e w' => ∃ v, e = .returned v ∧ Heap W (RowT 33 1 v (roundOf E).length ((roundOf E).map pv) :: Cel pq #[.slice (some ⟨gl, j, none⟩) (L.length - j) (ml - j), .slice (some ⟨gl, 0, none⟩) j ml] 67 :: Cel gl (pc M rl) 33 :: Cel pb (cameB L) 87 :: Cel ps (sr s.D s.P) 108 :: l2) w' := by
                intro pq W0 H'
                have hc := concat_H (W := W) (l := Cel pq #[.slice (some ⟨gl, j, none⟩) (L.length - j) (ml - j), .slice (some ⟨gl, 0, none⟩) j ml] 67 :: Cel gl (pc M rl) 33 :: Cel pb (cameB L) 87 :: Cel ps (sr s.D s.P) 108 :: l2) (w := W0) pq gl j (ml - j) 0 ml (M.drop j) (M.take j) (by rw [hA, hB]; omega) (by rw [hA]; omega) (by rw [hB]; omega)
                  (fun w' h => by have := (HT.out w' h.tail).dropN j; rw [Nat.zero_add, ← List.map_drop] at this; exact this)
                  (fun w' h => by have := (HT.out w' h.tail).takeN j; rw [← List.map_take] at this; exact this)
                  (by rw [hA, hB]; exact List.mem_cons_self) H'
                rw [← List.length_append, ← HOM.out] at hc
                exact hc
              clear HT
              go_wp2_with (first
                | go_skip
                | ((with_reducible show wpList _ _ _ (_ :: _) _ _); (with_reducible apply wpl_bsOnes _ [.slice (some ⟨gl, j, none⟩) (L.length - j) (ml - j), .slice (some ⟨gl, 0, none⟩) j ml]); (· rfl); (· rfl); (· rfl); (· decide); (· decide); (· (intro v hv; simp at hv; rcases hv with rfl | rfl <;> rfl)); (· exact ⟨Try.underlying123, by kernel_rfl⟩); (· rfl); (· exact H); (clear H; intro pq _ H); (simp only [Act.put, List.setIfInBounds_toArray, List.set_cons_zero, List.set_cons_succ]))
                | ((with_reducible refine (CC _ _ (H.alloc _ _)).mono ?_); clear H; rintro _ _ ⟨vr, rfl, H⟩))
              rw [Exit.noGoto_ret]
              go_ret
              exact ⟨_, rfl, Heap.slide (hL.front ((((H.drop (.there .here)).drop (.there .here)).drop (.there .here)).drop (.there .here)))⟩
            · rw [orbit_out hin] at hor
              have hget : (cameB L)[a1]? = some (.bool false) := by rw [cameB_get L ha17]; simp [hin]
              have HOR := Lib.hid hor
              have HND := Lib.hid (show (L ++ [a1]).Nodup by
                rw [List.nodup_append]
                exact ⟨hnd, List.nodup_cons.2 ⟨List.not_mem_nil, List.nodup_nil⟩, fun x hx y hy e => by
                  simp at hy; subst hy; subst e; exact hin hx⟩)
              have hP := HP.out a1
              clear hor hin hnil hnd
              go_wp2_with (first
                | go_skip
                | ((with_reducible show wpList _ _ _ (_ :: _) _ _); (with_reducible apply wpl_loadCH); (· exact cell_bool); (· rfl); (· rfl); (· exact H); (· exact List.mem_cons_of_mem _ List.mem_cons_self); (· exact hget); (simp only [Act.put, List.setIfInBounds_toArray, List.set_cons_zero, List.set_cons_succ]))
                | ((with_reducible show wpList _ _ _ (_ :: _) _ _); (with_reducible apply wpl_storeBH); (· exact cell_bool); (· rfl); (· rfl); (· rfl); (· exact H); (· exact List.mem_cons_of_mem _ List.mem_cons_self); (· (rw [cameB_sz]; omega)); (· exact cameB_set _ ha17); (· exact Repl.there Repl.here); (clear H; intro _ H); (simp only [Act.put, List.setIfInBounds_toArray, List.set_cons_zero, List.set_cons_succ]))
                | ((with_reducible show wpList _ _ _ (_ :: _) _ _); (with_reducible apply wpl_bsOnes _ [.int .u8 (a1 : Int)]); (· rfl); (· rfl); (· rfl); (· decide); (· decide); (· exact pv_ones a1); (· exact bs_party); (· rfl); (· exact H); (clear H; intro pk _ H); (simp only [Act.put, List.setIfInBounds_toArray, List.set_cons_zero, List.set_cons_succ]))
                | ((with_reducible show wpList _ _ _ (_ :: _) _ _); (with_reducible apply wpl_appendH slP); (· rfl); (· rfl); (· rfl); (· rfl); (· exact H.perm (.swap _ _ _)); (· exact H.celRd List.mem_cons_self); (· rfl); (· exact pv_one a1); (· exact hq1); (· exact hq2); (clear H; intro v2 _ H); (simp only [Act.put, List.setIfInBounds_toArray, List.set_cons_zero, List.set_cons_succ]))
                | ((with_reducible show wpList _ _ _ (_ :: _) _ _); (with_reducible apply wpl_loadCH); (· exact cell_party); (· rfl); (· rfl); (· exact H); (· (repeat (first | (with_reducible exact List.mem_cons_self) | with_reducible apply List.mem_cons_of_mem))); (· exact sr_getP _ _ ha17); (simp only [Act.put, List.setIfInBounds_toArray, List.set_cons_zero, List.set_cons_succ])))
              go_roundg f
              case measure => omega
              case rel =>
                refine ⟨s.P a1, f, L ++ [a1], rfl, hP, Nat.le_refl _, ?_, HND.out, ?_, HOR.out, ?_, ?_⟩
                · rw [List.length_append, List.length_singleton]; omega
                · intro x hx
                  rcases List.mem_append.1 hx with hx | hx
                  · exact hL17 x hx
                  · rw [List.mem_singleton] at hx; subst hx; exact ha17
                · intro e; exact absurd e (by simp)
                · rw [List.length_append, List.map_append]
                  exact H.drop (.there .here)
end
end Go.Proofs.Ytglehneaphigdaa
