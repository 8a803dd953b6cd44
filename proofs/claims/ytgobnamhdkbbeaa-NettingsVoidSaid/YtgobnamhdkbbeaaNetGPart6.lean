/- Part 6 of what several laws stand on: Round, Cheap, Cheap2, Rnd2, Rnd3, Cheap3, Rnd4, Rnd5, Rnd6. -/
import Derived.Test.YtgobnamhdkbbeaaNetGPart5
import Derived.WalkMore
import Derived.Deep.LoopGhost
/- paths.Round: a round that costs less than nothing. -/
namespace Go.Proofs.Ytgobnamhdkbbeaa
open Go.RowKit
set_option linter.unusedSimpArgs false
set_option linter.unusedVariables false
def zeroS : Srch := ⟨fun _ => 0, fun _ => 0, 0⟩
/-- So many times through all edges, while something changes. -/
def runS (F : List Edg) : Nat → Srch → Option Srch
  | 0, s => some s
  | n + 1, s => if (onceS F s).last = 0 then none else runS F n (onceS F s)
/-- Who is so many steps ahead. -/
def back (P : Nat → Nat) : Nat → Nat → Nat
  | 0, a => a
  | n + 1, a => back P n (P a)
/-- All who are ahead, each once. -/
def orbit (P : Nat → Nat) : Nat → Nat → List Nat → List Nat
  | 0, _, L => L
  | n + 1, a, L => if a ∈ L then L else orbit P n (P a) (L ++ [a])
def turnL (L : List Nat) : List Nat := L.drop (L.idxOf (minL L)) ++ L.take (L.idxOf (minL L))
/-- The round. -/
def roundOf (F : List Edg) : List Nat := match runS F 16 zeroS with
  | none => []
  | some s => turnL (orbit s.P 18 (back s.P 16 s.last) []).reverse
theorem pc_of {c : Array Value} {L : List Nat} (h : c.toList.take (L.length * 1) = L.map pv) : ∃ r, c = pc L r := by
  refine ⟨c.toList.drop (L.length * 1), ?_⟩
  unfold pc
  rw [← h, List.take_append_drop]
theorem Rd.takeN {w : World} {a : Option Addr} {xs : List Value} (h : Rd w a xs) (n : Nat) : Rd w a (xs.take n) := by
  intro i hi
  have hi2 : i < xs.length := by rw [List.length_take] at hi; omega
  obtain ⟨b, o, he, hc⟩ := h i hi2
  exact ⟨b, o, he, by rw [hc, List.getElem_take]⟩
theorem Rd.dropN {w : World} {g o : Nat} {xs : List Value} (h : Rd w (some ⟨g, o, none⟩) xs) (n : Nat) : Rd w (some ⟨g, o + n, none⟩) (xs.drop n) := by
  intro i hi
  have hi2 : n + i < xs.length := by rw [List.length_drop] at hi; omega
  obtain ⟨b, o', he, hc⟩ := h (n + i) hi2
  cases he
  exact ⟨g, o + n, rfl, by rw [Nat.add_assoc, hc, List.getElem_drop]⟩
theorem minL_mem {L : List Nat} (h : 0 < L.length) : minL L ∈ L := by
  cases L with
  | nil => simp at h
  | cons x L =>
    have key : ∀ (M : List Nat) (a : Nat), M.foldl min a = a ∨ M.foldl min a ∈ M := by
      intro M
      induction M with
      | nil => intro a; exact .inl rfl
      | cons y M ih =>
        intro a
        rcases ih (min a y) with h | h
        · rw [List.foldl_cons, h]
          rcases Nat.le_total a y with e | e
          · rw [Nat.min_eq_left e]; exact .inl rfl
          · rw [Nat.min_eq_right e]; exact .inr List.mem_cons_self
        · exact .inr (List.mem_cons_of_mem _ h)
    unfold minL
    simp only [List.headD_cons]
    rcases key (x :: L) x with h | h
    · rw [h]; exact List.mem_cons_self
    · exact h
theorem pc_rd {w W : World} {l : List Thing} {g : Nat} {L : List Nat} {r : List Value} {t : TypeId} (H : Heap W l w) (m : Cel g (pc L r) t ∈ l) : Rd w (some ⟨g, 0, none⟩) (L.map pv) := by
  have h := (H.celRd m).takeN (L.map pv).length
  unfold pc at h
  rw [List.toList_toArray, List.take_left] at h
  exact h
/-- Who came. -/
def cameB (L : List Nat) : Array Value := tab 17 fun i => .bool (decide (i ∈ L))
theorem cameB_sz (L : List Nat) : (cameB L).size = 17 := tab_size ..
theorem cameB_get (L : List Nat) {i : Nat} (h : i < 17) : (cameB L)[i]? = some (.bool (decide (i ∈ L))) := tab_get _ h
theorem cameB_set (L : List Nat) {i : Nat} (h : i < 17) : (cameB L).setIfInBounds i (.bool true) = cameB (L ++ [i]) := by
  unfold cameB
  rw [tab_set _ _ h]
  apply tab_congr
  intro j _
  by_cases e : j = i
  · subst e; simp
  · simp [e]
theorem row_came : RowTy 44 17 (cameB []) := ⟨⟨_, Try.underlying44, rfl⟩, by kernel_rfl, by kernel_rfl⟩
theorem nodup_le : ∀ (n : Nat) (L : List Nat), L.Nodup → (∀ x ∈ L, x < n) → L.length ≤ n
  | 0, L, _, hb => by
    cases L with
    | nil => exact Nat.le_refl _
    | cons x L => exact absurd (hb x List.mem_cons_self) (Nat.not_lt_zero _)
  | n + 1, L, h, hb => by
    by_cases hm : n ∈ L
    · have h1 := nodup_le n (L.erase n) (h.erase n) fun x hx => by
        have h2 := (h.mem_erase_iff).1 hx
        have := hb x h2.2
        have := h2.1
        omega
      rw [List.length_erase_of_mem hm] at h1
      omega
    · exact Nat.le_succ_of_le (nodup_le n L h fun x hx => by
        have := hb x hx
        have : x ≠ n := fun e => hm (e ▸ hx)
        omega)
theorem nodup_17 {L : List Nat} (h : L.Nodup) (hb : ∀ x ∈ L, x < 17) : L.length ≤ 17 := nodup_le 17 L h hb
theorem orbit_in {P : Nat → Nat} {n a : Nat} {L : List Nat} (h : a ∈ L) : orbit P (n + 1) a L = L := if_pos h
theorem orbit_out {P : Nat → Nat} {n a : Nat} {L : List Nat} (h : a ∉ L) : orbit P (n + 1) a L = orbit P n (P a) (L ++ [a]) := if_neg h
structure BLoop (W : World) (l2 : List Thing) (s : Srch) (ps : Nat) (va vi : Value) (wr : World) : Prop where
  out : ∃ k a : Nat, k ≤ 16 ∧ vi = .int .i64 (k : Int) ∧ va = .int .u8 (a : Int) ∧ a < 17 ∧ back s.P 16 s.last = back s.P (16 - k) a ∧ Heap W (Cel ps (sr s.D s.P) 199 :: l2) wr
structure OLoop (W : World) (l2 : List Thing) (s : Srch) (ps pb a0 m : Nat) (va vo : Value) (wr : World) : Prop where
  out : ∃ (a f : Nat) (L : List Nat), va = .int .u8 (a : Int) ∧ a < 17 ∧ f ≤ m ∧ f + L.length = 18 ∧ L.Nodup ∧ (∀ x ∈ L, x < 17) ∧ orbit s.P 18 a0 [] = orbit s.P f a L ∧ (L = [] → f = 18) ∧ Heap W (RowT 30 1 vo L.length (L.map pv) :: Cel pb (cameB L) 44 :: Cel ps (sr s.D s.P) 199 :: l2) wr
theorem row_sr : RowTy 199 34 (sr (fun _ => 0) (fun _ => 0)) := ⟨⟨_, Try.underlying199, rfl⟩, by kernel_rfl, by kernel_rfl⟩
section
variable {W w : World} {l : List Thing}
set_option maxRecDepth 100000
set_option maxHeartbeats 2000000
theorem indexE_nil (a : Option Addr) (c : Nat) (fv : Value) : Ans 159 #[.slice a 0 c, fv] (.int .i64 (-1)) := by
  intro w
  go_enter Try.func159, Try.ntmps159
  go_wp2_with (go_skip)
  go_loopw [8] (fun i wr => i = .int .i64 0 ∧ wr = w) (fun i _ => 0)
  case atStart => exact ⟨rfl, rfl⟩
  case round =>
    obtain ⟨rfl, rfl⟩ := hrel
    go_wp2_with (go_skip)
    go_ret
    exact ⟨rfl, (by repeat (first | exact Ext.refl _ | refine Ext.alloc ?_ _ | refine Ext.ext ?_ _ | refine Ext.drew ?_))⟩
theorem delete_nil (a : Option Addr) (c : Nat) (fv : Value) : Ans 133 #[.slice a 0 c, fv] (.slice a 0 c) := by
  intro w
  have I := indexE_nil a c fv
  go_enter Try.func133, Try.ntmps133
  go_wp2_with (first | go_skip | ((with_reducible refine Ans.call (by assumption) ?_); intro _))
  go_ret
  exact ⟨rfl, (by repeat (first | exact Ext.refl _ | refine Ext.alloc ?_ _ | refine Ext.ext ?_ _ | refine Ext.drew ?_))⟩
/-- Edges in memory of their own: the list of things ahead of them, and with them. -/
def Held (F : List Edg) (l l1 : List Thing) (a : Option Addr) (c : Nat) : Prop := F.length ≤ c ∧ ((F = [] ∧ l1 = l) ∨ ∃ g r, a = some ⟨g, 0, none⟩ ∧ l1 = Cel g (ec F r) 194 :: l)
theorem clone_G (ea : Option Addr) (en ec0 : Nat) (F : List Edg) (hl : F.length = en) (hn : en ≤ 1000000) (R : ∀ w', Heap W l w' → Rd w' ea (edgL F)) (H : Heap W l w) :
    Calls Try.prog 134 #[.slice ea en ec0] w fun e w' => ∃ a c l1, e = .returned (.slice a F.length c) ∧ Held F l l1 a c ∧ Heap W l1 w' := by
  refine (clone_H ea en ec0 F hl hn R H).mono ?_
  rintro e w' ⟨a, c, rfl, h1, h2, ⟨hF, H⟩ | ⟨g, r, rfl, hs, H⟩⟩
  · exact ⟨a, c, l, rfl, ⟨h1, .inl ⟨hF, rfl⟩⟩, H⟩
  · exact ⟨_, c, _, rfl, ⟨h1, .inr ⟨g, r, rfl, rfl⟩⟩, H⟩
/-- What is left of them. -/
structure Left (W : World) (F : List Edg) (l l2 : List Thing) (a : Option Addr) : Prop where
  rd : ∀ w', Heap W l2 w' → Rd w' a (edgL F)
  tail : ∀ w', Heap W l2 w' → Heap W l w'
  front : ∀ {t : Thing} {w' : World}, Heap W (t :: l2) w' → Heap W (t :: l) w'
theorem delete_G {l1 : List Thing} {F : List Edg} {a : Option Addr} {c : Nat} (hh : Held F l l1 a c) (hn : F.length ≤ 1000000) (hF : ∀ x ∈ F, EdgOk x) (H : Heap W l1 w) :
    Calls Try.prog 133 #[.slice a F.length c, .func (.func 135) #[] #[]] w fun e w' => ∃ l2, e = .returned (.slice a (F.filter keepE).length c) ∧ Left W (F.filter keepE) l l2 a ∧ Heap W l2 w' := by
  obtain ⟨hc, ⟨rfl, rfl⟩ | ⟨g, r, rfl, rfl⟩⟩ := hh
  · refine ((delete_nil a c _).toH w H).mono ?_
    rintro e w' ⟨rfl, H⟩
    refine ⟨_, rfl, ⟨fun w' _ => ?_, fun _ h => h, fun h => h⟩, H⟩
    intro i hi
    simp [edgL] at hi
  · refine (delete_H g F.length c F r rfl hn hc hF H).mono ?_
    rintro e w' ⟨c1, rfl, ht, H⟩
    refine ⟨_, rfl, ⟨fun w' H' => ?_, fun _ h => h.tail, fun h => h.drop (.there .here)⟩, H⟩
    rw [← ht]
    exact (H'.celRd List.mem_cons_self).takeN _
/-- Parties within bounds. -/
def PBnd (s : Srch) : Prop := s.last < 17 ∧ ∀ i, s.P i < 17
theorem PBnd.relax {s : Srch} {e : Edg} (h : PBnd s) (hf : e.f < 17) (ht : e.t < 17) : PBnd (relax s e) := by
  unfold Proofs.Ytgobnamhdkbbeaa.relax
  split
  · refine ⟨ht, fun i => ?_⟩
    simp only [updN]
    split
    · exact hf
    · exact h.2 i
  · exact h
theorem PBnd.foldl : ∀ (F : List Edg) (s : Srch), PBnd s → (∀ x ∈ F, x.f < 17 ∧ x.t < 17) → PBnd (F.foldl Proofs.Ytgobnamhdkbbeaa.relax s)
  | [], _, h, _ => h
  | x :: F, s, h, hF => PBnd.foldl F _ (h.relax (hF x List.mem_cons_self).1 (hF x List.mem_cons_self).2) fun y hy => hF y (List.mem_cons_of_mem _ hy)
theorem PBnd.once {F : List Edg} {s : Srch} (h : PBnd s) (hF : ∀ x ∈ F, x.f < 17 ∧ x.t < 17) : PBnd (onceS F s) := PBnd.foldl F _ ⟨by show 0 < 17; omega, h.2⟩ hF
theorem Bnd.foldl : ∀ (F : List Edg) (s : Srch) (B : Nat), Bnd B s → (∀ x ∈ F, -128 ≤ x.c) → Bnd (B + 128 * F.length) (F.foldl Proofs.Ytgobnamhdkbbeaa.relax s)
  | [], _, _, h, _ => h
  | x :: F, s, B, h, hF => by
    have := Bnd.foldl F _ (B + 128) (h.relax (hF x List.mem_cons_self)) fun y hy => hF y (List.mem_cons_of_mem _ hy)
    rw [List.length_cons, show B + 128 * (F.length + 1) = B + 128 + 128 * F.length by omega]
    exact this
theorem Bnd.once {F : List Edg} {s : Srch} {B : Nat} (h : Bnd B s) (hF : ∀ x ∈ F, -128 ≤ x.c) : Bnd (B + 128 * F.length) (onceS F s) := Bnd.foldl F _ B h hF
theorem keep_ok {F : List Edg} (hF : ∀ x ∈ F, EdgOk x) : ∀ x ∈ F.filter keepE, x.f < 17 ∧ x.t < 17 ∧ -128 ≤ x.c ∧ x.c ≤ 127 := by
  intro x hx
  obtain ⟨h1, h2⟩ := List.mem_filter.1 hx
  have ho := hF x h1
  unfold keepE at h2
  rw [Bool.and_eq_true] at h2
  have m1 := mayP_true h2.1
  have m2 := mayP_true h2.2
  exact ⟨by omega, by omega, ho.2.2.1, ho.2.2.2⟩
def RoundPost (W : World) (l : List Thing) (E : List Edg) (e : Ending) (w' : World) : Prop := ∃ v, e = .returned v ∧ Heap W (OwnT 30 1 v (roundOf E).length ((roundOf E).map pv) :: l) w'
structure SLoop (W : World) (l2 : List Thing) (F : List Edg) (ps : Nat) (va vi : Value) (wr : World) : Prop where
  out : ∃ (k : Nat) (s : Srch), k ≤ 16 ∧ vi = .int .i64 (k : Int) ∧ va = .int .u8 (s.last : Int) ∧ (k ≠ 0 → s.last ≠ 0) ∧ runS F 16 zeroS = runS F (16 - k) s ∧ Bnd (128 * F.length * k) s ∧ PBnd s ∧ Heap W (Cel ps (sr s.D s.P) 199 :: l2) wr
theorem runS_no {F : List Edg} {n : Nat} {s : Srch} (h : (onceS F s).last = 0) : runS F (n + 1) s = none := if_pos h
theorem runS_yes {F : List Edg} {n : Nat} {s : Srch} (h : (onceS F s).last ≠ 0) : runS F (n + 1) s = runS F n (onceS F s) := if_neg h
theorem round_H (ea : Option Addr) (en ec0 : Nat) (F : List Edg) (hl : F.length = en) (hn : en ≤ 1000000) (hF : ∀ x ∈ F, EdgOk x) (R : ∀ w', Heap W l w' → Rd w' ea (edgL F)) (H : Heap W l w) :
    Calls Try.prog 108 #[.slice ea en ec0] w (RoundPost W l (F.filter keepE)) := by
  have hn2 : F.length ≤ 1000000 := by omega
  have hk := keep_ok hF
  have hkl : (F.filter keepE).length ≤ 1000000 := Nat.le_trans (List.length_filter_le ..) hn2
  have C := clone_G (W := W) (l := l) (w := w) ea en ec0 F hl hn R H
  have DG := fun l1 a c w' hh H' => delete_G (W := W) (l := l) (w := w') (l1 := l1) (F := F) (a := a) (c := c) hh hn2 hF H'
  have HK := Lib.hid hk
  clear H R hF hk hl
  go_enter Try.func108, Try.ntmps108
  go_wp2_with (first
    | go_skip
    | ((with_reducible refine C.mono ?_); clear C; rintro _ _ ⟨a, c, l1, rfl, hh, H⟩)
    | ((with_reducible refine (DG _ _ _ _ hh H).mono ?_); clear H DG hh; rintro _ _ ⟨l2, rfl, hL, H⟩)
    | ((with_reducible show wpList _ _ _ (_ :: _) _ _); (with_reducible apply wpl_allocRH row_sr); (· rfl); (· exact H); (clear H; intro ps _ H); (simp only [Act.put, List.setIfInBounds_toArray, List.set_cons_zero, List.set_cons_succ])))
  go_step3
  go_wp2_with (first
    | go_skip
    | ((with_reducible refine C.mono ?_); clear C; rintro _ _ ⟨a, c, l1, rfl, hh, H⟩)
    | ((with_reducible refine (DG _ _ _ _ hh H).mono ?_); clear H DG hh; rintro _ _ ⟨l2, rfl, hL, H⟩)
    | ((with_reducible show wpList _ _ _ (_ :: _) _ _); (with_reducible apply wpl_allocRH row_sr); (· rfl); (· exact H); (clear H; intro ps _ H); (simp only [Act.put, List.setIfInBounds_toArray, List.set_cons_zero, List.set_cons_succ])))
  go_step3
  go_wp2_with (go_skip)
  generalize F.filter keepE = E at *
  have hst : PBnd zeroS := ⟨by decide, fun i => by show 0 < 17; omega⟩
  have H0 := H
  clear H
  go_loopw [5, 12] (fun va vi wr => SLoop W l2 E ps va vi wr) (fun _ vi _ => 16 - (intOf vi).toNat)
  case atStart => exact ⟨0, zeroS, by omega, rfl, rfl, (fun h => absurd rfl h), rfl, (fun i => by show -((128 * E.length * 0 : Nat) : Int) ≤ 0 ∧ (0 : Int) ≤ 0; omega), hst, H0⟩
  case round =>
    obtain ⟨k, s, hk, rfl, rfl, hne, hrun, hb, hp, H'⟩ := hrel.out
    clear H0 hrel hst
    have H := H'
    clear H'
    by_cases hlt : k < 16
    · have hon := once_H (W := W) (l := l2) (w := wr) ps a E.length c E rfl HK.out hL.rd s (128 * E.length * k) hb (by
        have : 128 * E.length * k ≤ 128 * E.length * 16 := Nat.mul_le_mul_left _ hk
        omega) H
      have hb2 := hb.once (F := E) fun x hx => (HK.out x hx).2.2.1
      have hp2 := hp.once (F := E) fun x hx => ⟨(HK.out x hx).1, (HK.out x hx).2.1⟩
      rw [show 16 - k = (15 - k) + 1 by omega] at hrun
      by_cases hz : (onceS E s).last = 0
      · rw [runS_no hz] at hrun
        have HR := Lib.hid hrun
        rw [hz] at hon
        clear hrun hne hb hp hb2 hp2 hz H
        go_wp2_with (first
          | go_skip
          | ((with_reducible refine hon.mono ?_); clear hon; rintro _ _ ⟨rfl, H⟩))
        rw [Exit.noGoto_ret]
        go_ret
        have e0 : roundOf E = [] := by unfold roundOf; rw [HR.out]
        refine ⟨_, rfl, ?_⟩
        rw [e0]
        exact ((hL.tail _ H.tail).nilRow _ _).slide
      · rw [runS_yes hz] at hrun
        have HR := Lib.hid hrun
        have hz1 : (((onceS E s).last : Int) == 0) = false := by simp; exact hz
        have hz2 : decide (((onceS E s).last : Int) = 0) = false := by simp; exact hz
        have HB := Lib.hid hb2
        have HP := Lib.hid hp2
        have HZ := Lib.hid hz
        have hl17 := hp2.1
        clear hrun hne hb hp hb2 hp2 hz H
        generalize onceS E s = s2 at *
        go_wp2_with (first
          | go_skip
          | ((with_reducible refine hon.mono ?_); clear hon; rintro _ _ ⟨rfl, H⟩))
        refine ⟨⟨k + 1, s2, by omega, by go_num, rfl, fun _ => HZ.out, ?_, ?_, HP.out, H⟩, ?measure⟩
        · rw [HR.out, show 16 - (k + 1) = 15 - k by omega]
        · have := HB.out
          rw [show 128 * E.length * (k + 1) = 128 * E.length * k + 128 * E.length by rw [Nat.mul_add, Nat.mul_one]]
          exact this
        case measure => simp [intOf]; omega
    · obtain rfl : k = 16 := by omega
      have hz := hne (by omega)
      have hz1 : ((s.last : Int) == 0) = false := by simp; exact hz
      have hz2 : decide ((s.last : Int) = 0) = false := by simp; exact hz
      have HR := Lib.hid (show runS E 16 zeroS = some s from hrun)
      have HP := Lib.hid hp.2
      have hl17 := hp.1
      clear hrun hne hb hp hz
      go_wp2_with (go_skip)
      have H0 := H
      clear H
      go_loopw [5, 21] (fun va vi wr => BLoop W l2 s ps va vi wr) (fun _ vi _ => 16 - (intOf vi).toNat)
      case atStart => exact ⟨0, s.last, by omega, rfl, rfl, hl17, rfl, H0⟩
      case round =>
        obtain ⟨k, b, hkk, rfl, rfl, hb17, hbk, H'⟩ := hrel.out
        clear H0 hrel
        have H := H'
        clear H'
        by_cases hlt2 : k < 16
        · have hP := HP.out b
          rw [show 16 - k = (15 - k) + 1 by omega] at hbk
          have HBK := Lib.hid (show back s.P 16 s.last = back s.P (15 - k) (s.P b) from hbk)
          clear hbk
          go_wp2_with (first
            | go_skip
            | ((with_reducible show wpList _ _ _ (_ :: _) _ _); (with_reducible apply wpl_loadCH); (· exact cell_party); (· rfl); (· rfl); (· exact H); (· exact List.mem_cons_self); (· exact sr_getP _ _ hb17); (simp only [Act.put, List.setIfInBounds_toArray, List.set_cons_zero, List.set_cons_succ])))
          refine ⟨⟨k + 1, s.P b, by omega, by go_num, rfl, hP, ?_, H⟩, ?measure3⟩
          · rw [HBK.out, show 16 - (k + 1) = 15 - k by omega]
          case measure3 => simp [intOf]; omega
        · obtain rfl : k = 16 := by omega
          have HBK := Lib.hid (show back s.P 16 s.last = b from hbk)
          clear hbk
          go_wp2_with (first | go_skip | ((with_reducible show wpList _ _ _ (_ :: _) _ _); (with_reducible apply wpl_allocRH row_came); (· rfl); (· exact H); (clear H; intro pb _ H); (simp only [Act.put, List.setIfInBounds_toArray, List.set_cons_zero, List.set_cons_succ])))
          have H0 := H.nilRow 30 1
          clear H
          go_loopg [5, 7] 18 (fun m va vo wr => OLoop W l2 s ps pb b m va vo wr)
          case atStart => exact ⟨b, 18, [], rfl, hb17, Nat.le_refl _, rfl, List.nodup_nil, (fun x hx => by cases hx), rfl, fun _ => rfl, H0⟩
          case round =>
            obtain ⟨a1, f, L, rfl, ha17, hfm, hfl, hnd, hL17, hor, hnil, H'⟩ := hrel.out
            clear H0 hrel
            have H := H'
            clear H'
            have hL1 := nodup_17 hnd hL17
            have hq1 : L.length + 1 ≤ maxLen := by unfold maxLen; omega
            have hq2 : (L.length + 1) * 1 ≤ 140737488355328 := by omega
            obtain ⟨f, rfl⟩ : ∃ f', f = f' + 1 := ⟨f - 1, by omega⟩
            by_cases hin : a1 ∈ L
            · rw [orbit_in hin] at hor
              have hget : (cameB L)[a1]? = some (.bool true) := by rw [cameB_get L ha17]; simp [hin]
              have hL0 : 0 < L.length := List.length_pos_of_mem hin
              obtain ⟨gl, ml, cl, rfl, hm1, hm2, hcl, htl, H2⟩ := H.rowCel hL0
              clear H
              have H := H2
              clear H2
              obtain ⟨rl, rfl⟩ := pc_of htl
              have HOR := Lib.hid hor
              clear hor hin hnil hfm hfl
              go_wp2_with (first
                | go_skip
                | ((with_reducible show wpList _ _ _ (_ :: _) _ _); (with_reducible apply wpl_loadCH); (· exact cell_bool); (· rfl); (· rfl); (· exact H); (· exact List.mem_cons_of_mem _ List.mem_cons_self); (· exact hget); (simp only [Act.put, List.setIfInBounds_toArray, List.set_cons_zero, List.set_cons_succ])))
              have hLm : L.length ≤ 1000000 := by omega
              go_wp2_with ((with_reducible refine (reverse_H _ _ _ L _ rfl hLm H).mono ?_); clear H; rintro _ _ ⟨rfl, H⟩)
              have hML : L.reverse.length = L.length := List.length_reverse
              have hM255 : ∀ y ∈ L.reverse, y ≤ 255 := fun y hy => by have := hL17 y (List.mem_reverse.1 hy); omega
              have hmm := minL_mem (L := L.reverse) (by rw [hML]; exact hL0)
              have hmi := hM255 _ hmm
              have hRd : ∀ w', Heap W (Cel gl (pc L.reverse rl) 30 :: Cel pb (cameB L) 44 :: Cel ps (sr s.D s.P) 199 :: l2) w' → Rd w' (some ⟨gl, 0, none⟩) (L.reverse.map pv) := fun w' H' => pc_rd H' List.mem_cons_self
              have MA := min_H gl 0 L.length ml L.reverse hML hL0 (by omega) hM255 hRd
              have IA := index_H gl 0 L.length ml L.reverse (minL L.reverse) hML (by omega) hM255 hmm hRd
              have hidx : L.reverse.idxOf (minL L.reverse) < L.length := by rw [← hML]; exact List.idxOf_lt_length_of_mem hmm
              have HOM := Lib.hid (show roundOf E = turnL L.reverse by unfold roundOf; rw [HR.out]; simp only [HBK.out, HOR.out])
              unfold turnL at HOM
              have HT := Lib.hid hRd
              clear hRd hM255 hnd hL17
              generalize L.reverse = M at *
              generalize M.idxOf (minL M) = j at *
              generalize minL M = mn at *
              go_wp2_with (first | go_skip | ((with_reducible refine AnsH.call (by assumption) H ?_); clear H; intro _ H))
              have hjm : j < ml := by omega
              have hA : (M.drop j).length = L.length - j := by rw [List.length_drop, hML]
              have hB : (M.take j).length = j := by rw [List.length_take, hML]; omega
              clear MA IA hmm
              refine wp_region_H_tail 6 H (by kernel_rfl) (by kernel_rfl) ?_
              simp only [List.take_succ_cons, List.take_zero, List.drop_succ_cons, List.drop_zero]
              repeat (first | go_big_quiet_skip | fail | go_big_quiet_step (fail))
              refine wpQuiet_nil ?_
              clear H
              intro _ H
              have CC : ∀ pq W0, Heap W (Cel pq #[.slice (some ⟨gl, j, none⟩) (L.length - j) (ml - j), .slice (some ⟨gl, 0, none⟩) j ml] 100 :: Cel gl (pc M rl) 30 :: Cel pb (cameB L) 44 :: Cel ps (sr s.D s.P) 199 :: l2) W0 → Calls Try.prog 141 #[.slice (some ⟨pq, 0, none⟩) 2 2] W0 fun e w' => ∃ v, e = .returned v ∧ Heap W (RowT 30 1 v (roundOf E).length ((roundOf E).map pv) :: Cel pq #[.slice (some ⟨gl, j, none⟩) (L.length - j) (ml - j), .slice (some ⟨gl, 0, none⟩) j ml] 100 :: Cel gl (pc M rl) 30 :: Cel pb (cameB L) 44 :: Cel ps (sr s.D s.P) 199 :: l2) w' := by
                intro pq W0 H'
                have hc := concat_H (W := W) (l := Cel pq #[.slice (some ⟨gl, j, none⟩) (L.length - j) (ml - j), .slice (some ⟨gl, 0, none⟩) j ml] 100 :: Cel gl (pc M rl) 30 :: Cel pb (cameB L) 44 :: Cel ps (sr s.D s.P) 199 :: l2) (w := W0) pq gl j (ml - j) 0 ml (M.drop j) (M.take j) (by rw [hA, hB]; omega) (by rw [hA]; omega) (by rw [hB]; omega)
                  (fun w' h => by have := (HT.out w' h.tail).dropN j; rw [Nat.zero_add, ← List.map_drop] at this; exact this)
                  (fun w' h => by have := (HT.out w' h.tail).takeN j; rw [← List.map_take] at this; exact this)
                  (by rw [hA, hB]; exact List.mem_cons_self) H'
                rw [← List.length_append, ← HOM.out] at hc
                exact hc
              clear HT
              go_wp2_with (first
                | go_skip
                | ((with_reducible show wpList _ _ _ (_ :: _) _ _); (with_reducible apply wpl_bsOnes _ [.slice (some ⟨gl, j, none⟩) (L.length - j) (ml - j), .slice (some ⟨gl, 0, none⟩) j ml]); (· rfl); (· rfl); (· rfl); (· decide); (· decide); (· (intro v hv; simp at hv; rcases hv with rfl | rfl <;> rfl)); (· exact ⟨Try.underlying224, by kernel_rfl⟩); (· rfl); (· exact H); (clear H; intro pq _ H); (simp only [Act.put, List.setIfInBounds_toArray, List.set_cons_zero, List.set_cons_succ]))
                | ((with_reducible refine (CC _ _ (H.alloc _ _)).mono ?_); clear H; rintro _ _ ⟨vr, rfl, H⟩))
              rw [Exit.noGoto_ret]
              go_ret
              exact ⟨_, rfl, Heap.slide (hL.front ((((H.drop (.there .here)).drop (.there .here)).drop (.there .here)).drop (.there .here)))⟩
            · rw [orbit_out hin] at hor
              have hget : (cameB L)[a1]? = some (.bool false) := by rw [cameB_get L ha17]; simp [hin]
              have HOR := Lib.hid hor
              have HND := Lib.hid (show (L ++ [a1]).Nodup by
                rw [List.nodup_append]
                exact ⟨hnd, List.nodup_cons.2 ⟨List.not_mem_nil, List.nodup_nil⟩, fun x hx y hy e => by
                  simp at hy; subst hy; subst e; exact hin hx⟩)
              have hP := HP.out a1
              clear hor hin hnil hnd
              go_wp2_with (first
                | go_skip
                | ((with_reducible show wpList _ _ _ (_ :: _) _ _); (with_reducible apply wpl_loadCH); (· exact cell_bool); (· rfl); (· rfl); (· exact H); (· exact List.mem_cons_of_mem _ List.mem_cons_self); (· exact hget); (simp only [Act.put, List.setIfInBounds_toArray, List.set_cons_zero, List.set_cons_succ]))
                | ((with_reducible show wpList _ _ _ (_ :: _) _ _); (with_reducible apply wpl_storeBH); (· exact cell_bool); (· rfl); (· rfl); (· rfl); (· exact H); (· exact List.mem_cons_of_mem _ List.mem_cons_self); (· (rw [cameB_sz]; omega)); (· exact cameB_set _ ha17); (· exact Repl.there Repl.here); (clear H; intro _ H); (simp only [Act.put, List.setIfInBounds_toArray, List.set_cons_zero, List.set_cons_succ]))
                | ((with_reducible show wpList _ _ _ (_ :: _) _ _); (with_reducible apply wpl_bsOnes _ [.int .u8 (a1 : Int)]); (· rfl); (· rfl); (· rfl); (· decide); (· decide); (· exact pv_ones a1); (· exact bs_party); (· rfl); (· exact H); (clear H; intro pk _ H); (simp only [Act.put, List.setIfInBounds_toArray, List.set_cons_zero, List.set_cons_succ]))
                | ((with_reducible show wpList _ _ _ (_ :: _) _ _); (with_reducible apply wpl_appendH slP); (· rfl); (· rfl); (· rfl); (· rfl); (· exact H.perm (.swap _ _ _)); (· exact H.celRd List.mem_cons_self); (· rfl); (· exact pv_one a1); (· exact hq1); (· exact hq2); (clear H; intro v2 _ H); (simp only [Act.put, List.setIfInBounds_toArray, List.set_cons_zero, List.set_cons_succ]))
                | ((with_reducible show wpList _ _ _ (_ :: _) _ _); (with_reducible apply wpl_loadCH); (· exact cell_party); (· rfl); (· rfl); (· exact H); (· (repeat (first | (with_reducible exact List.mem_cons_self) | with_reducible apply List.mem_cons_of_mem))); (· exact sr_getP _ _ ha17); (simp only [Act.put, List.setIfInBounds_toArray, List.set_cons_zero, List.set_cons_succ])))
              go_roundg f
              case measure => omega
              case rel =>
                refine ⟨s.P a1, f, L ++ [a1], rfl, hP, Nat.le_refl _, ?_, HND.out, ?_, HOR.out, ?_, ?_⟩
                · rw [List.length_append, List.length_singleton]; omega
                · intro x hx
                  rcases List.mem_append.1 hx with hx | hx
                  · exact hL17 x hx
                  · rw [List.mem_singleton] at hx; subst hx; exact ha17
                · intro e; exact absurd e (by simp)
                · rw [List.length_append, List.map_append]
                  exact H.drop (.there .here)
end
end Go.Proofs.Ytgobnamhdkbbeaa

/- Rounds that cost less than nothing: plain laws of the search. -/
namespace Go.Proofs.Ytgobnamhdkbbeaa
set_option linter.unusedVariables false
set_option linter.unusedSimpArgs false
/-- What so many steps back cost. -/
def sumC (P : Nat → Nat) (C : Nat → Int) : Nat → Nat → Int
  | 0, _ => 0
  | k + 1, v => C v + sumC P C k (P v)
theorem back_add (P : Nat → Nat) : ∀ i j v, back P (i + j) v = back P j (back P i v)
  | 0, j, v => by rw [Nat.zero_add]; rfl
  | i + 1, j, v => by rw [show i + 1 + j = (i + j) + 1 by omega]; exact back_add P i j (P v)
theorem back_succ (P : Nat → Nat) (k v : Nat) : back P (k + 1) v = P (back P k v) := by rw [back_add P k 1 v]; rfl
theorem sumC_add (P : Nat → Nat) (C : Nat → Int) : ∀ i j v, sumC P C (i + j) v = sumC P C i v + sumC P C j (back P i v)
  | 0, j, v => by rw [Nat.zero_add]; simp [sumC, back]
  | i + 1, j, v => by
    rw [show i + 1 + j = (i + j) + 1 by omega]
    show C v + sumC P C (i + j) (P v) = C v + sumC P C i (P v) + sumC P C j (back P i (P v))
    rw [sumC_add P C i j (P v)]
    omega
theorem updN_same {α : Type} (d : Nat → α) (p : Nat) (v : α) : updN d p v p = v := if_pos rfl
theorem updN_ne {α : Type} (d : Nat → α) {p q : Nat} (v : α) (h : q ≠ p) : updN d p v q = d q := if_neg h
theorem upd_off {P : Nat → Nat} {C : Nat → Int} {x u : Nat} {c : Int} : ∀ k v, (∀ i, i < k → back (updN P x u) i v ≠ x) → back (updN P x u) k v = back P k v ∧ sumC (updN P x u) (updN C x c) k v = sumC P C k v
  | 0, v, _ => ⟨rfl, rfl⟩
  | k + 1, v, h => by
    have h0 : v ≠ x := h 0 (by omega)
    have hP : updN P x u v = P v := updN_ne _ _ h0
    have hC : updN C x c v = C v := updN_ne _ _ h0
    have ih := upd_off (P := P) (C := C) (x := x) (u := u) (c := c) k (P v) (fun i hi => by
      have := h (i + 1) (by omega)
      show back (updN P x u) i (P v) ≠ x
      rw [← hP]; exact this)
    constructor
    · show back (updN P x u) k (updN P x u v) = back P k (P v)
      rw [hP]; exact ih.1
    · show updN C x c v + sumC (updN P x u) (updN C x c) k (updN P x u v) = C v + sumC P C k (P v)
      rw [hP, hC, ih.2]
theorem tele {P : Nat → Nat} {D C : Nat → Int} (ht : ∀ v, P v ≠ 0 → D (P v) + C v ≤ D v) : ∀ k v, (∀ i, i < k → P (back P i v) ≠ 0) → D (back P k v) + sumC P C k v ≤ D v
  | 0, v, _ => by simp [back, sumC]
  | k + 1, v, h => by
    have h0 : P v ≠ 0 := h 0 (by omega)
    have ih := tele ht k (P v) (fun i hi => h (i + 1) (by omega))
    have := ht v h0
    show D (back P k (P v)) + (C v + sumC P C k (P v)) ≤ D v
    omega
theorem back_per {P : Nat → Nat} {k v : Nat} (h1 : 1 ≤ k) (h : back P k v = v) : ∀ i, ∃ j, j < k ∧ back P i v = back P j v
  | 0 => ⟨0, by omega, rfl⟩
  | i + 1 => by
    obtain ⟨j, hj, e⟩ := back_per h1 h i
    by_cases hl : j + 1 < k
    · exact ⟨j + 1, hl, by rw [back_succ, back_succ, e]⟩
    · exact ⟨0, by omega, by rw [back_succ, e, ← back_succ P j v, show j + 1 = k by omega, h]; rfl⟩
/-- What is known of who is ahead of whom. -/
structure Par (F : List Edg) (D : Nat → Int) (P : Nat → Nat) (C : Nat → Int) : Prop where
  root : ∀ v, P v = 0 → D v = 0
  edge : ∀ v, P v ≠ 0 → (⟨P v, v, C v⟩ : Edg) ∈ F
  tight : ∀ v, P v ≠ 0 → D (P v) + C v ≤ D v
  neg : ∀ k v, 1 ≤ k → back P k v = v → (∀ i, back P i v ≠ 0) → sumC P C k v < 0
theorem Par.step {F : List Edg} {D : Nat → Int} {P : Nat → Nat} {C : Nat → Int} (h : Par F D P C) {e : Edg} (he : e ∈ F) (hf : e.f ≠ 0) (hlt : D e.f + e.c < D e.t) :
    Par F (updN D e.t (D e.f + e.c)) (updN P e.t e.f) (updN C e.t e.c) := by
  obtain ⟨u, x, c⟩ := e
  simp only at hf hlt
  have hmono : ∀ v, updN D x (D u + c) v ≤ D v := fun v => by
    unfold updN
    split
    · rename_i e; subst e; omega
    · omega
  have cycX : (∀ i, back (updN P x u) i x ≠ 0) → ∀ j, 1 ≤ j → back (updN P x u) j x = x → sumC (updN P x u) (updN C x c) j x < 0 := by
    intro hz j
    induction j using Nat.strongRecOn with
    | ind j ih =>
      intro h1 hj
      by_cases hx : ∃ i, 1 ≤ i ∧ i < j ∧ back (updN P x u) i x = x
      · obtain ⟨i, hi1, hij, hi⟩ := hx
        have s1 := ih i hij hi1 hi
        have e2 : back (updN P x u) (j - i) x = x := by
          have := back_add (updN P x u) i (j - i) x
          rw [show i + (j - i) = j by omega, hj, hi] at this
          exact this.symm
        have s2 := ih (j - i) (by omega) (by omega) e2
        have e3 := sumC_add (updN P x u) (updN C x c) i (j - i) x
        rw [show i + (j - i) = j by omega, hi] at e3
        omega
      · obtain ⟨k, rfl⟩ : ∃ k, j = k + 1 := ⟨j - 1, by omega⟩
        have hPx : updN P x u x = u := updN_same ..
        have hCx : updN C x c x = c := updN_same ..
        have hoff : ∀ i, i < k → back (updN P x u) i u ≠ x := fun i hi e => hx ⟨i + 1, by omega, by omega, by
          show back (updN P x u) i (updN P x u x) = x
          rw [hPx]; exact e⟩
        have ho := fun i (hi : i ≤ k) => upd_off (P := P) (C := C) (x := x) (u := u) (c := c) i u (fun i' h' => hoff i' (by omega))
        have hend : back P k u = x := by
          rw [← (ho k (Nat.le_refl _)).1]
          have := hj
          rw [show back (updN P x u) (k + 1) x = back (updN P x u) k (updN P x u x) from rfl, hPx] at this
          exact this
        have ht := tele (P := P) (D := D) (C := C) h.tight k u (fun i hi => by
          rw [← (ho i (by omega)).1]
          have e1 : updN P x u (back (updN P x u) i u) = P (back (updN P x u) i u) := updN_ne _ _ (hoff i hi)
          rw [← e1, ← back_succ (updN P x u) i u]
          have := hz (i + 2)
          rw [show back (updN P x u) (i + 2) x = back (updN P x u) (i + 1) (updN P x u x) from rfl, hPx] at this
          exact this)
        rw [hend] at ht
        show updN C x c x + sumC (updN P x u) (updN C x c) k (updN P x u x) < 0
        rw [hPx, hCx, (ho k (Nat.le_refl _)).2]
        omega
  refine ⟨fun v hv => ?_, fun v hv => ?_, fun v hv => ?_, fun k v h1 hk hz => ?_⟩
  · by_cases e : v = x
    · subst e
      rw [show updN P v u v = u from updN_same ..] at hv
      exact absurd hv hf
    · rw [show updN P x u v = P v from updN_ne _ _ e] at hv
      rw [show updN D x (D u + c) v = D v from updN_ne _ _ e]
      exact h.root v hv
  · by_cases e : v = x
    · subst e
      rw [show updN P v u v = u from updN_same .., show updN C v c v = c from updN_same ..]
      exact he
    · rw [show updN P x u v = P v from updN_ne _ _ e] at hv ⊢
      rw [show updN C x c v = C v from updN_ne _ _ e]
      exact h.edge v hv
  · by_cases e : v = x
    · subst e
      rw [show updN P v u v = u from updN_same .., show updN C v c v = c from updN_same .., show updN D v (D u + c) v = D u + c from updN_same ..]
      have := hmono u
      show updN D v (D u + c) u + c ≤ D u + c
      omega
    · rw [show updN P x u v = P v from updN_ne _ _ e] at hv ⊢
      rw [show updN C x c v = C v from updN_ne _ _ e, show updN D x (D u + c) v = D v from updN_ne _ _ e]
      have := hmono (P v)
      have := h.tight v hv
      show updN D x (D u + c) (P v) + C v ≤ D v
      omega
  · show sumC (updN P x u) (updN C x c) k v < 0
    replace hk : back (updN P x u) k v = v := hk
    replace hz : ∀ i, back (updN P x u) i v ≠ 0 := hz
    by_cases hx : ∃ i, i < k ∧ back (updN P x u) i v = x
    · obtain ⟨i, hik, hi⟩ := hx
      have e1 : back (updN P x u) (k - i) x = v := by
        have := back_add (updN P x u) i (k - i) v
        rw [show i + (k - i) = k by omega, hk, hi] at this
        exact this.symm
      have e2 : back (updN P x u) k x = x := by
        have := back_add (updN P x u) (k - i) i x
        rw [show k - i + i = k by omega, e1, hi] at this
        exact this
      have s1 := sumC_add (updN P x u) (updN C x c) i (k - i) v
      have s2 := sumC_add (updN P x u) (updN C x c) (k - i) i x
      rw [show i + (k - i) = k by omega, hi] at s1
      rw [show k - i + i = k by omega, e1] at s2
      have := cycX (fun j => by have := hz (i + j); rw [back_add, hi] at this; exact this) k h1 e2
      omega
    · have hoff : ∀ i, i < k → back (updN P x u) i v ≠ x := fun i hi e => hx ⟨i, hi, e⟩
      have ho := fun i (hi : i ≤ k) => upd_off (P := P) (C := C) (x := x) (u := u) (c := c) i v (fun i' h' => hoff i' (by omega))
      rw [(ho k (Nat.le_refl _)).2]
      have hk2 : back P k v = v := by rw [← (ho k (Nat.le_refl _)).1]; exact hk
      refine h.neg k v h1 hk2 fun i => ?_
      obtain ⟨j, hj, e⟩ := back_per h1 hk2 i
      rw [e, ← (ho j (by omega)).1]
      exact hz j
/-- Walks of so many edges to whom, and what they cost. -/
inductive Wk (F : List Edg) : Nat → Nat → Int → Prop
  | nil (v : Nat) : Wk F 0 v 0
  | snoc {k u v : Nat} {w c : Int} : Wk F k u w → (⟨u, v, c⟩ : Edg) ∈ F → Wk F (k + 1) v (w + c)
section
variable {F : List Edg} {s : Srch}
theorem relax_mono (s : Srch) (e : Edg) (v : Nat) : (relax s e).D v ≤ s.D v := by
  by_cases h : s.D e.f + e.c < s.D e.t
  · rw [relax_yes h]
    show updN s.D e.t _ v ≤ _
    unfold updN
    split
    · rename_i e2; subst e2; omega
    · omega
  · rw [relax_no h]; exact Int.le_refl _
theorem relax_done (s : Srch) (e : Edg) : (relax s e).D e.t ≤ s.D e.f + e.c := by
  by_cases h : s.D e.f + e.c < s.D e.t
  · rw [relax_yes h]
    show updN s.D e.t _ e.t ≤ _
    rw [updN_same]; omega
  · rw [relax_no h]; omega
theorem fold_mono : ∀ (G : List Edg) (s : Srch) (v : Nat), (G.foldl relax s).D v ≤ s.D v
  | [], s, v => Int.le_refl _
  | e :: G, s, v => Int.le_trans (fold_mono G (relax s e) v) (relax_mono s e v)
theorem fold_done : ∀ (G : List Edg) (s : Srch) (e : Edg), e ∈ G → (G.foldl relax s).D e.t ≤ s.D e.f + e.c
  | x :: G, s, e, h => by
    rcases List.mem_cons.1 h with rfl | h
    · exact Int.le_trans (fold_mono G (relax s e) e.t) (relax_done s e)
    · have h1 := fold_done G (relax s x) e h
      have h2 := relax_mono s x e.f
      rw [List.foldl_cons]
      omega
theorem fold_par : ∀ (G : List Edg) (s : Srch), (∀ e ∈ G, e ∈ F ∧ e.f ≠ 0) → (∃ C, Par F s.D s.P C) → ∃ C, Par F (G.foldl relax s).D (G.foldl relax s).P C
  | [], s, _, h => h
  | e :: G, s, hG, h => by
    refine fold_par G (relax s e) (fun x hx => hG x (List.mem_cons_of_mem _ hx)) ?_
    obtain ⟨C, hC⟩ := h
    have he := hG e List.mem_cons_self
    by_cases hr : s.D e.f + e.c < s.D e.t
    · rw [relax_yes hr]
      exact ⟨_, hC.step he.1 he.2 hr⟩
    · rw [relax_no hr]
      exact ⟨C, hC⟩
theorem fold_last (D0 : Nat → Int) : ∀ (G : List Edg) (s : Srch), (∀ v, s.D v ≤ D0 v) → (s.last ≠ 0 → s.D s.last < D0 s.last) → ((G.foldl relax s).last ≠ 0 → (G.foldl relax s).D (G.foldl relax s).last < D0 (G.foldl relax s).last)
  | [], s, _, h => h
  | e :: G, s, hle, h => by
    refine fold_last D0 G (relax s e) (fun v => Int.le_trans (relax_mono s e v) (hle v)) ?_
    by_cases hr : s.D e.f + e.c < s.D e.t
    · rw [relax_yes hr]
      intro _
      show updN s.D e.t _ e.t < D0 e.t
      rw [updN_same]
      have := hle e.t
      omega
    · rw [relax_no hr]; exact h
theorem last_stay : ∀ (G : List Edg) (s : Srch), (∀ e ∈ G, e.t ≠ 0) → s.last ≠ 0 → (G.foldl relax s).last ≠ 0
  | [], s, _, h => h
  | e :: G, s, hG, h => by
    refine last_stay G (relax s e) (fun x hx => hG x (List.mem_cons_of_mem _ hx)) ?_
    by_cases hr : s.D e.f + e.c < s.D e.t
    · rw [relax_yes hr]; exact hG e List.mem_cons_self
    · rw [relax_no hr]; exact h
theorem fold_none : ∀ (G : List Edg) (s : Srch), (∀ e ∈ G, e.t ≠ 0) → (G.foldl relax s).last = 0 → ∀ e ∈ G, s.D e.t ≤ s.D e.f + e.c
  | x :: G, s, hG, h, e, he => by
    by_cases hr : s.D x.f + x.c < s.D x.t
    · exfalso
      rw [List.foldl_cons, relax_yes hr] at h
      exact last_stay G _ (fun y hy => hG y (List.mem_cons_of_mem _ hy)) (hG x List.mem_cons_self) h
    · rw [List.foldl_cons, relax_no hr] at h
      rcases List.mem_cons.1 he with rfl | he
      · omega
      · exact fold_none G s (fun y hy => hG y (List.mem_cons_of_mem _ hy)) h e he
theorem last_lt : ∀ (G : List Edg) (s : Srch), (∀ e ∈ G, e.t < 17) → s.last < 17 → (G.foldl relax s).last < 17
  | [], s, _, h => h
  | e :: G, s, hG, h => by
    refine last_lt G (relax s e) (fun x hx => hG x (List.mem_cons_of_mem _ hx)) ?_
    by_cases hr : s.D e.f + e.c < s.D e.t
    · rw [relax_yes hr]; exact hG e List.mem_cons_self
    · rw [relax_no hr]; exact h
/-- Edges between parties. -/
def InH (F : List Edg) : Prop := ∀ e ∈ F, 1 ≤ e.f ∧ e.f ≤ 16 ∧ 1 ≤ e.t ∧ e.t ≤ 16
/-- Behind so many times. -/
structure InvL (F : List Edg) (j : Nat) (s : Srch) : Prop where
  lt : s.last < 17
  low : ∀ k v w, k ≤ j → Wk F k v w → s.D v ≤ w
  par : ∃ C, Par F s.D s.P C
  last : j ≠ 0 → s.last ≠ 0 ∧ ∃ D0 : Nat → Int, (∀ k v w, k + 1 ≤ j → Wk F k v w → D0 v ≤ w) ∧ s.D s.last < D0 s.last
theorem InvL.zero : InvL F 0 zeroS := by
  refine ⟨(by decide : (0 : Nat) < 17), fun k v w hk hw => ?_, ⟨fun _ => 0, ⟨fun v _ => rfl, fun v h => absurd rfl h, fun v h => absurd rfl h, fun k v h1 hk hz => absurd rfl (hz 1)⟩⟩, fun h => absurd rfl h⟩
  cases hw with
  | nil => exact Int.le_refl _
  | snoc _ _ => omega
theorem InvL.step {j : Nat} (hF : InH F) (h : InvL F j s) (hl : (onceS F s).last ≠ 0) : InvL F (j + 1) (onceS F s) := by
  refine ⟨last_lt F ⟨s.D, s.P, 0⟩ (fun e he => by have := hF e he; omega) (by decide : (0 : Nat) < 17), fun k v w hk hw => ?_, ?_, fun _ => ⟨hl, s.D, fun k v w hk hw => h.low k v w (by omega) hw, ?_⟩⟩
  · cases hw with
    | nil =>
      have h1 := fold_mono F ⟨s.D, s.P, 0⟩ v
      have h2 := h.low 0 v 0 (by omega) (.nil v)
      exact Int.le_trans h1 h2
    | @snoc k u v w c hw he =>
      have h1 := fold_done F ⟨s.D, s.P, 0⟩ ⟨u, v, c⟩ he
      have h2 := h.low k u w (by omega) hw
      have h3 : (onceS F s).D v ≤ s.D u + c := h1
      omega
  · exact fold_par F ⟨s.D, s.P, 0⟩ (fun e he => ⟨he, by have := hF e he; omega⟩) h.par
  · exact fold_last s.D F ⟨s.D, s.P, 0⟩ (fun v => Int.le_refl _) (fun h => absurd rfl h) hl
theorem run_some (hF : InH F) : ∀ (n j : Nat) (s r : Srch), InvL F j s → runS F n s = some r → InvL F (j + n) r
  | 0, j, s, r, h, e => by
    rw [runS] at e
    cases e; exact h
  | n + 1, j, s, r, h, e => by
    by_cases hl : (onceS F s).last = 0
    · rw [runS_no hl] at e; cases e
    · rw [runS, if_neg hl] at e
      have := run_some hF n (j + 1) _ r (h.step hF hl) e
      rwa [show j + 1 + n = j + (n + 1) by omega] at this
theorem bnd_fold {B : Nat} : ∀ (G : List Edg) (s : Srch) (B : Nat), (∀ e ∈ G, -128 ≤ e.c) → Bnd B s → Bnd (B + 128 * G.length) (G.foldl relax s)
  | [], s, B, _, h => h
  | e :: G, s, B, hG, h => by
    have := bnd_fold (B := B) G (relax s e) (B + 128) (fun x hx => hG x (List.mem_cons_of_mem _ hx)) (Bnd.relax (e := e) h (hG e List.mem_cons_self))
    rw [List.length_cons, show B + 128 * (G.length + 1) = B + 128 + 128 * G.length by omega]
    exact this
theorem run_none (hF : ∀ e ∈ F, e.t ≠ 0 ∧ -128 ≤ e.c) : ∀ (n : Nat) (s : Srch) (B : Nat), Bnd B s → runS F n s = none → ∃ D : Nat → Int, (∀ i, -((B + 128 * F.length * n : Nat) : Int) ≤ D i ∧ D i ≤ 0) ∧ ∀ e ∈ F, D e.t ≤ D e.f + e.c
  | 0, s, B, h, e => by rw [runS] at e; cases e
  | n + 1, s, B, h, e => by
    by_cases hl : (onceS F s).last = 0
    · refine ⟨s.D, fun i => ?_, fold_none F ⟨s.D, s.P, 0⟩ (fun e he => (hF e he).1) hl⟩
      have := h i
      refine ⟨?_, this.2⟩
      have h2 : B ≤ B + 128 * F.length * (n + 1) := Nat.le_add_right ..
      omega
    · rw [runS, if_neg hl] at e
      obtain ⟨D, h1, h2⟩ := run_none hF n _ (B + 128 * F.length) (bnd_fold (B := B) F ⟨s.D, s.P, 0⟩ B (fun e he => (hF e he).2) h) e
      refine ⟨D, fun i => ?_, h2⟩
      have := h1 i
      rwa [show B + 128 * F.length + 128 * F.length * n = B + 128 * F.length * (n + 1) by rw [Nat.mul_add]; omega] at this
end
end Go.Proofs.Ytgobnamhdkbbeaa

/- The round that is found is one, and costs less than nothing: plain laws. -/
namespace Go.Proofs.Ytgobnamhdkbbeaa
set_option linter.unusedVariables false
set_option linter.unusedSimpArgs false
theorem nodup_range {f : Nat → Nat} {n : Nat} (h : ∀ a b, a < b → b < n → f a ≠ f b) : ((List.range n).map f).Nodup := by
  unfold List.Nodup
  rw [List.pairwise_map]
  refine List.Pairwise.imp_of_mem ?_ List.pairwise_lt_range
  intro a b ha hb hab
  exact h a b hab (by simpa using hb)
/-- Of so many there are two that are the same. -/
theorem two_same {f : Nat → Nat} {n m : Nat} (hb : ∀ i, i < n → f i < m) (hn : m < n) : ∃ a b, a < b ∧ b < n ∧ f a = f b := by
  apply Classical.byContradiction
  intro hno
  have h := nodup_range (f := f) (n := n) (fun a b hab hbn e => hno ⟨a, b, hab, hbn, e⟩)
  have := nodup_le m _ h (fun x hx => by
    obtain ⟨i, hi, rfl⟩ := List.mem_map.1 hx
    exact hb i (by simpa using hi))
  simp at this
  omega
theorem walk_back {F : List Edg} {P : Nat → Nat} {C : Nat → Int} (he : ∀ v, P v ≠ 0 → (⟨P v, v, C v⟩ : Edg) ∈ F) : ∀ j v, (∀ i, i < j → P (back P i v) ≠ 0) → ∃ w, w = sumC P C j v ∧ Wk F j v w
  | 0, v, _ => ⟨0, rfl, .nil v⟩
  | j + 1, v, h => by
    have h0 : P v ≠ 0 := h 0 (by omega)
    obtain ⟨w, hw, hk⟩ := walk_back he j (P v) (fun i hi => h (i + 1) (by omega))
    refine ⟨w + C v, ?_, hk.snoc (he v h0)⟩
    show w + C v = C v + sumC P C j (P v)
    omega
section
variable {F : List Edg} {s : Srch}
/-- Nobody's is never reached. -/
theorem InvL.never (hF : InH F) (h : InvL F 16 s) : ∀ i, back s.P i s.last ≠ 0 := by
  obtain ⟨C, hp⟩ := h.par
  obtain ⟨hl, D0, hD0, hlt⟩ := h.last (by omega)
  have hP17 : ∀ v, s.P v < 17 := fun v => by
    by_cases e : s.P v = 0
    · omega
    · have := hF _ (hp.edge v e); simp only at this; omega
  have hb17 : ∀ i, back s.P i s.last < 17 := fun i => by
    cases i with
    | zero => exact h.lt
    | succ i => rw [back_succ]; exact hP17 _
  intro i
  induction i using Nat.strongRecOn with
  | ind i ih =>
    cases i with
    | zero => exact hl
    | succ j =>
      intro h0
      have hj : j ≤ 15 := by
        apply Classical.byContradiction
        intro hn
        obtain ⟨a, b, hab, hb, e⟩ := two_same (f := fun i => back s.P i s.last) (n := 18) (m := 17) (fun i _ => hb17 i) (by omega)
        have h1 := back_add s.P a (j + 1 - b) s.last
        have h2 := back_add s.P b (j + 1 - b) s.last
        replace e : back s.P a s.last = back s.P b s.last := e
        rw [e, ← h2, show b + (j + 1 - b) = j + 1 by omega, h0] at h1
        exact ih (a + (j + 1 - b)) (by omega) h1
      have hne : ∀ i, i < j → s.P (back s.P i s.last) ≠ 0 := fun i hi => by rw [← back_succ s.P i s.last]; exact ih (i + 1) (by omega)
      obtain ⟨w, hw, hk⟩ := walk_back hp.edge j s.last hne
      have h1 := hD0 j s.last w (by omega) hk
      have h2 := tele hp.tight j s.last hne
      rw [back_succ] at h0
      have h3 := hp.root _ h0
      omega
theorem min_per {P : Nat → Nat} {a : Nat} : ∀ q, 1 ≤ q → back P q a = a → ∃ m, 1 ≤ m ∧ back P m a = a ∧ ∀ i, 1 ≤ i → i < m → back P i a ≠ a := by
  intro q
  induction q using Nat.strongRecOn with
  | ind q ih =>
    intro h1 hq
    by_cases hx : ∃ i, 1 ≤ i ∧ i < q ∧ back P i a = a
    · obtain ⟨i, hi, hlt, e⟩ := hx
      exact ih i hlt hi e
    · exact ⟨q, h1, hq, fun i hi hlt e => hx ⟨i, hi, hlt, e⟩⟩
theorem per_inj {P : Nat → Nat} {a m : Nat} (hm : back P m a = a) (hmin : ∀ i, 1 ≤ i → i < m → back P i a ≠ a) : ∀ i j, i < j → j < m → back P i a ≠ back P j a := by
  intro i j hij hj e
  have h1 := back_add P i (m - j) a
  have h2 := back_add P j (m - j) a
  rw [e, ← h2, show j + (m - j) = m by omega, hm] at h1
  exact hmin (i + (m - j)) (by omega) (by omega) h1
theorem orbit_cyc {P : Nat → Nat} {a m : Nat} (h1 : 1 ≤ m) (hm : back P m a = a) (hmin : ∀ i, 1 ≤ i → i < m → back P i a ≠ a) :
    ∀ f k, k ≤ m → m < f + k → orbit P f (back P k a) ((List.range k).map fun i => back P i a) = (List.range m).map fun i => back P i a
  | 0, k, hk, hf => by omega
  | f + 1, k, hk, hf => by
    by_cases e : k = m
    · subst e
      rw [orbit_in]
      rw [hm]
      exact List.mem_map.2 ⟨0, by simp; omega, rfl⟩
    · rw [orbit_out]
      · have := orbit_cyc h1 hm hmin f (k + 1) (by omega) (by omega)
        rw [List.range_succ, List.map_append] at this
        rw [← back_succ P k a]
        exact this
      · intro hmem
        obtain ⟨i, hi, e2⟩ := List.mem_map.1 hmem
        exact per_inj hm hmin i k (by simpa using hi) (by omega) e2
/-- Sums. -/
def rsum (f : Nat → Int) : Nat → Int
  | 0 => 0
  | n + 1 => rsum f n + f n
theorem rsum_congr {f g : Nat → Int} : ∀ n, (∀ i, i < n → f i = g i) → rsum f n = rsum g n
  | 0, _ => rfl
  | n + 1, h => by rw [rsum, rsum, rsum_congr n (fun i hi => h i (by omega)), h n (by omega)]
theorem rsum_shift (f : Nat → Int) : ∀ n, rsum (fun i => f (i + 1)) n + f 0 = rsum f (n + 1)
  | 0 => by simp [rsum]
  | n + 1 => by
    have := rsum_shift f n
    rw [rsum, rsum, ← this]
    omega
theorem rsum_le {f g : Nat → Int} : ∀ n, (∀ i, i < n → f i ≤ g i) → rsum f n ≤ rsum g n
  | 0, _ => Int.le_refl _
  | n + 1, h => by
    have := rsum_le n (fun i hi => h i (by omega))
    have := h n (by omega)
    rw [rsum, rsum]
    omega
theorem rsum_next (f : Nat → Int) (m : Nat) (hm : 1 ≤ m) : rsum (fun i => f ((i + 1) % m)) m = rsum f m := by
  obtain ⟨k, rfl⟩ : ∃ k, m = k + 1 := ⟨m - 1, by omega⟩
  rw [← rsum_shift f k]
  show rsum (fun i => f ((i + 1) % (k + 1))) k + f ((k + 1) % (k + 1)) = _
  rw [Nat.mod_self, rsum_congr k (fun i hi => by rw [Nat.mod_eq_of_lt (by omega)])]
/-- A round that costs less than nothing, of edges. -/
structure IsRnd (E : List Edg) (T : List Nat) (tf : Nat → Nat) (C : Nat → Int) : Prop where
  pos : 1 ≤ T.length
  max : T.length ≤ 16
  get : ∀ i, i < T.length → T[i]? = some (tf i)
  rng : ∀ i, i < T.length → 1 ≤ tf i ∧ tf i ≤ 16
  inj : ∀ i j, i < j → j < T.length → tf i ≠ tf j
  least : ∀ i, i < T.length → tf 0 ≤ tf i
  edge : ∀ i, i < T.length → (⟨tf i, tf ((i + 1) % T.length), C (tf ((i + 1) % T.length))⟩ : Edg) ∈ E
  cheap : rsum (fun i => C (tf ((i + 1) % T.length))) T.length < 0
theorem idxOf_get {L : List Nat} {x : Nat} (h : x ∈ L) : L[L.idxOf x]? = some x := by
  have := List.idxOf_lt_length_iff.2 h
  rw [List.getElem?_eq_getElem this]
  simp
theorem minL_le {L : List Nat} {x : Nat} (h : x ∈ L) : minL L ≤ x := by
  have key : ∀ (M : List Nat) (a : Nat), M.foldl min a ≤ a ∧ ∀ y ∈ M, M.foldl min a ≤ y := by
    intro M
    induction M with
    | nil => intro a; exact ⟨Nat.le_refl _, by simp⟩
    | cons y M ih =>
      intro a
      have := ih (min a y)
      rw [List.foldl_cons]
      refine ⟨by omega, fun z hz => ?_⟩
      rcases List.mem_cons.1 hz with rfl | hz
      · omega
      · exact this.2 z hz
  exact (key L _).2 x h
theorem round_found {E : List Edg} (hE : InH E) {s : Srch} (hs : runS E 16 zeroS = some s) : ∃ tf C, IsRnd E (roundOf E) tf C := by
  have h := run_some hE 16 0 zeroS s InvL.zero hs
  have hnz := h.never hE
  obtain ⟨C, hp⟩ := h.par
  have hr : ∀ i, 1 ≤ back s.P i s.last ∧ back s.P i s.last ≤ 16 := fun i => by
    have h0 := hnz i
    cases i with
    | zero => have := h.lt; have : s.last ≠ 0 := h0; exact ⟨by show 1 ≤ s.last; omega, by show s.last ≤ 16; omega⟩
    | succ i =>
      rw [back_succ] at h0 ⊢
      have := hE _ (hp.edge _ h0)
      simp only at this
      omega
  obtain ⟨a, b, hab, hb, e⟩ := two_same (f := fun i => back s.P i s.last - 1) (n := 17) (m := 16) (fun i _ => by have := hr i; omega) (by omega)
  replace e : back s.P a s.last = back s.P b s.last := by
    have := hr a
    have := hr b
    replace e : back s.P a s.last - 1 = back s.P b s.last - 1 := e
    omega
  have hq : back s.P (b - a) (back s.P 16 s.last) = back s.P 16 s.last := by
    rw [← back_add, show 16 + (b - a) = b + (16 - a) by omega, back_add, ← e, ← back_add, show a + (16 - a) = 16 by omega]
  obtain ⟨m, hm1, hm, hmin⟩ := min_per (b - a) (by omega) hq
  have hra : ∀ i, 1 ≤ back s.P i (back s.P 16 s.last) ∧ back s.P i (back s.P 16 s.last) ≤ 16 := fun i => by rw [← back_add]; exact hr _
  unfold roundOf
  rw [hs]
  simp only
  generalize back s.P 16 s.last = x at *
  have hinj := per_inj hm hmin
  have hm16 : m ≤ 16 := by
    apply Classical.byContradiction
    intro hn
    obtain ⟨i, j, hij, hj, e⟩ := two_same (f := fun i => back s.P i x - 1) (n := 17) (m := 16) (fun i _ => by have := hra i; omega) (by omega)
    have := hra i
    have := hra j
    replace e : back s.P i x - 1 = back s.P j x - 1 := e
    exact hinj i j hij (by omega) (by omega)
  have ho : orbit s.P 18 x [] = (List.range m).map fun i => back s.P i x := orbit_cyc hm1 hm hmin 18 0 (by omega) (by omega)
  rw [ho]
  generalize hR : ((List.range m).map fun i => back s.P i x).reverse = R
  have hRl : R.length = m := by rw [← hR]; simp
  have hRg : ∀ i, i < m → R[i]? = some (back s.P (m - 1 - i) x) := fun i hi => by
    rw [← hR, List.getElem?_reverse (by simpa using hi)]
    rw [List.length_map, List.length_range, List.getElem?_map, List.getElem?_range (by omega)]
    rfl
  have hmem : ∀ i, i < m → back s.P i x ∈ R := fun i hi => List.mem_iff_getElem?.2 ⟨m - 1 - i, by rw [hRg _ (by omega), show m - 1 - (m - 1 - i) = i by omega]⟩
  have hmm : minL R ∈ R := minL_mem (by omega)
  have hk := List.idxOf_lt_length_iff.2 hmm
  have hkg := idxOf_get hmm
  unfold turnL
  generalize List.idxOf (minL R) R = k at *
  have hTl : (R.drop k ++ R.take k).length = m := by simp; omega
  let rf : Nat → Nat := fun i => back s.P (m - 1 - i) x
  let tf : Nat → Nat := fun i => if i + k < m then rf (i + k) else rf (i + k - m)
  have hrf : ∀ i, i + 1 < m → s.P (rf (i + 1)) = rf i := fun i hi => by
    show s.P (back s.P (m - 1 - (i + 1)) x) = back s.P (m - 1 - i) x
    rw [← back_succ s.P (m - 1 - (i + 1)) x, show m - 1 - (i + 1) + 1 = m - 1 - i by omega]
  have hrf0 : s.P (rf 0) = rf (m - 1) := by
    show s.P (back s.P (m - 1 - 0) x) = back s.P (m - 1 - (m - 1)) x
    rw [← back_succ s.P (m - 1 - 0) x, show m - 1 - 0 + 1 = m by omega, hm, Nat.sub_self]; rfl
  have htf : ∀ i, i + 1 < m → s.P (tf (i + 1)) = tf i := fun i hi => by
    show s.P (if i + 1 + k < m then rf (i + 1 + k) else rf (i + 1 + k - m)) = if i + k < m then rf (i + k) else rf (i + k - m)
    by_cases c1 : i + 1 + k < m
    · rw [if_pos c1, if_pos (by omega), show i + 1 + k = (i + k) + 1 by omega, hrf _ (by omega)]
    · rw [if_neg c1]
      by_cases c2 : i + 1 + k = m
      · rw [if_pos (by omega), show i + 1 + k - m = 0 by omega, hrf0, show m - 1 = i + k by omega]
      · rw [if_neg (by omega), show i + 1 + k - m = (i + k - m) + 1 by omega, hrf _ (by omega)]
  have htf0 : s.P (tf 0) = tf (m - 1) := by
    show s.P (if 0 + k < m then rf (0 + k) else rf (0 + k - m)) = if m - 1 + k < m then rf (m - 1 + k) else rf (m - 1 + k - m)
    rw [if_pos (by omega), Nat.zero_add]
    by_cases c1 : k = 0
    · subst c1
      rw [if_pos (by omega), hrf0, Nat.add_zero]
    · rw [if_neg (by omega), show m - 1 + k - m = k - 1 by omega]
      have := hrf (k - 1) (by omega)
      rwa [show k - 1 + 1 = k by omega] at this
  have hTg : ∀ i, i < m → (R.drop k ++ R.take k)[i]? = some (tf i) := fun i hi => by
    show _ = some (if i + k < m then rf (i + k) else rf (i + k - m))
    by_cases c : i + k < m
    · rw [if_pos c, List.getElem?_append_left (by simp; omega), List.getElem?_drop, Nat.add_comm k i, hRg _ c]
    · rw [if_neg c, List.getElem?_append_right (by simp; omega)]
      have e1 : i - (R.drop k).length = i + k - m := by simp; omega
      rw [e1, List.getElem?_take, if_pos (by omega), hRg _ (by omega)]
  have htr : ∀ i, i < m → 1 ≤ tf i ∧ tf i ≤ 16 := fun i hi => by
    show 1 ≤ (if i + k < m then rf (i + k) else rf (i + k - m)) ∧ (if i + k < m then rf (i + k) else rf (i + k - m)) ≤ 16
    split <;> exact hra _
  have hnext : ∀ i, i < m → s.P (tf ((i + 1) % m)) = tf i := fun i hi => by
    by_cases c : i + 1 < m
    · rw [Nat.mod_eq_of_lt c]; exact htf i c
    · rw [show i + 1 = m by omega, Nat.mod_self, htf0, show m - 1 = i by omega]
  have hback : ∀ j, j < m → back s.P j (tf (m - 1)) = tf (m - 1 - j) := by
    intro j
    induction j with
    | zero => intro _; rfl
    | succ j ih =>
      intro hj
      rw [back_succ, ih (by omega)]
      have := htf (m - 1 - (j + 1)) (by omega)
      rw [show m - 1 - (j + 1) + 1 = m - 1 - j by omega] at this
      exact this
  have hbm : back s.P m (tf (m - 1)) = tf (m - 1) := by
    obtain ⟨q, hq2⟩ : ∃ q, m = q + 1 := ⟨m - 1, by omega⟩
    have h1 := hback (m - 1) (by omega)
    rw [Nat.sub_self] at h1
    have h2 := back_succ s.P (m - 1) (tf (m - 1))
    rw [h1, htf0, show m - 1 + 1 = m by omega] at h2
    exact h2
  have hsum : ∀ j, j < m → sumC s.P C (j + 1) (tf j) = rsum (fun i => C (tf i)) (j + 1) := by
    intro j
    induction j with
    | zero => intro _; simp [sumC, rsum]
    | succ j ih =>
      intro hj
      have := ih (by omega)
      show C (tf (j + 1)) + sumC s.P C (j + 1) (s.P (tf (j + 1))) = rsum (fun i => C (tf i)) (j + 1) + C (tf (j + 1))
      rw [htf j hj, this]
      omega
  have hneg := hp.neg m (tf (m - 1)) hm1 hbm (fun i => by
    obtain ⟨j, hj, e⟩ := back_per hm1 hbm i
    rw [e, hback j hj]
    have := htr (m - 1 - j) (by omega)
    omega)
  have hs2 := hsum (m - 1) (by omega)
  rw [show m - 1 + 1 = m by omega] at hs2
  rw [hs2] at hneg
  refine ⟨tf, C, ?_⟩
  constructor
  · rw [hTl]; exact hm1
  · rw [hTl]; exact hm16
  · rw [hTl]; exact hTg
  · rw [hTl]; exact htr
  · rw [hTl]
    intro i j hij hj e
    have hrinj : ∀ p q, p < m → q < m → rf p = rf q → p = q := fun p q hp' hq' e => by
      rcases Nat.lt_trichotomy p q with c | c | c
      · exact absurd e.symm (hinj (m - 1 - q) (m - 1 - p) (by omega) (by omega))
      · exact c
      · exact absurd e (hinj (m - 1 - p) (m - 1 - q) (by omega) (by omega))
    replace e : (if i + k < m then rf (i + k) else rf (i + k - m)) = (if j + k < m then rf (j + k) else rf (j + k - m)) := e
    by_cases c1 : i + k < m
    · by_cases c2 : j + k < m
      · rw [if_pos c1, if_pos c2] at e
        have := hrinj _ _ c1 c2 e
        omega
      · rw [if_pos c1, if_neg c2] at e
        have := hrinj _ _ c1 (by omega) e
        omega
    · rw [if_neg c1, if_neg (by omega)] at e
      have := hrinj _ _ (by omega) (by omega) e
      omega
  · rw [hTl]
    intro i hi
    have h0 : tf 0 = minL R := by
      have h1 := hTg 0 (by omega)
      have h2 : (R.drop k ++ R.take k)[0]? = some (minL R) := by
        rw [List.getElem?_append_left (by simp; omega), List.getElem?_drop, Nat.add_zero]; exact hkg
      rw [h1] at h2
      exact Option.some.inj h2
    rw [h0]
    refine minL_le ?_
    have := List.mem_iff_getElem?.2 ⟨i, hTg i hi⟩
    rcases List.mem_append.1 this with h | h
    · exact List.mem_of_mem_drop h
    · exact List.mem_of_mem_take h
  · rw [hTl]
    intro i hi
    have h1 := htr i hi
    have h2 := hnext i hi
    have := hp.edge (tf ((i + 1) % m)) (by rw [h2]; omega)
    rwa [h2] at this
  · rw [hTl, rsum_next (fun i => C (tf i)) m hm1]
    exact hneg
end
end Go.Proofs.Ytgobnamhdkbbeaa

/- Rounds of debts: the reckoning. (Plain.) -/
namespace Go.Proofs.Ytgobnamhdkbbeaa
set_option linter.unusedSimpArgs false
set_option linter.unusedVariables false
theorem cfF_lt (x y : Flw) : cfF x y < 0 ↔ x.f < y.f ∨ (x.f = y.f ∧ x.t < y.t) := by
  have h1 : Lib.compareInt (x.f : Int) (y.f : Int) = if x.f < y.f then -1 else if y.f < x.f then 1 else 0 := by
    unfold Lib.compareInt
    simp only [Int.ofNat_lt]
  have h2 : Lib.compareInt (x.t : Int) (y.t : Int) = if x.t < y.t then -1 else if y.t < x.t then 1 else 0 := by
    unfold Lib.compareInt
    simp only [Int.ofNat_lt]
  unfold cfF
  rw [h1, h2]
  rcases Nat.lt_trichotomy x.f y.f with h | h | h
  · simp [orL, h]
  · rcases Nat.lt_trichotomy x.t y.t with k | k | k
    · simp [orL, h, k]
    · simp [orL, h, k]
    · have k2 : ¬ x.t < y.t := by omega
      simp [orL, h, k, k2]
  · have h2 : ¬ x.f < y.f := by omega
    have h3 : ¬ x.f = y.f := by omega
    simp [orL, h, h2, h3]
/-- Debts stand by their ends. -/
theorem MayD.lt {F : List Flw} (h : MayD F) : ∀ (d i : Nat) (x y : Flw), F[i]? = some x → F[i + d + 1]? = some y → x.f < y.f ∨ (x.f = y.f ∧ x.t < y.t)
  | 0, i, x, y, hx, hy => (cfF_lt x y).1 ((h.at hy).2 x (by omega) (by simpa using hx))
  | d + 1, i, x, y, hx, hy => by
    have hlt := (List.getElem?_eq_some_iff.1 hy).1
    have hz : F[i + d + 1]? = some F[i + d + 1] := List.getElem?_eq_getElem (by omega)
    have h1 := MayD.lt h d i x _ hx hz
    have h2 := (cfF_lt _ _).1 ((h.at hy).2 F[i + d + 1] (by omega) (by rw [show i + (d + 1) + 1 - 1 = i + d + 1 by omega]; exact hz))
    omega
theorem MayD.uniq {F : List Flw} (h : MayD F) {i j : Nat} {x y : Flw} (hx : F[i]? = some x) (hy : F[j]? = some y) (h1 : x.f = y.f) (h2 : x.t = y.t) : i = j := by
  rcases Nat.lt_trichotomy i j with e | e | e
  · have := h.lt (j - i - 1) i x y hx (by rw [show i + (j - i - 1) + 1 = j by omega]; exact hy)
    omega
  · exact e
  · have := h.lt (i - j - 1) j y x hy (by rw [show j + (i - j - 1) + 1 = i by omega]; exact hx)
    omega
/-- The edges of one debt, of which so much is left. -/
def edX (x : Flw) (m : Int) : List Edg := (if 0 < m then [⟨x.f, x.t, -1⟩] else []) ++ (if m < x.n then [⟨x.t, x.f, 1⟩] else [])
def edD : List Flw → List Int → List Edg
  | x :: F, m :: N => edX x m ++ edD F N
  | _, _ => []
theorem edX_mem {x : Flw} {m : Int} {e : Edg} : e ∈ edX x m ↔ (0 < m ∧ e = ⟨x.f, x.t, -1⟩) ∨ (m < x.n ∧ e = ⟨x.t, x.f, 1⟩) := by
  unfold edX
  rw [List.mem_append]
  by_cases h1 : 0 < m <;> by_cases h2 : m < x.n <;> simp [h1, h2]
theorem edD_mem {e : Edg} : ∀ {F : List Flw} {N : List Int}, e ∈ edD F N ↔ ∃ (i : Nat) (x : Flw) (m : Int), F[i]? = some x ∧ N[i]? = some m ∧ ((0 < m ∧ e = ⟨x.f, x.t, -1⟩) ∨ (m < x.n ∧ e = ⟨x.t, x.f, 1⟩))
  | [], N => by simp [edD]
  | x :: F, [] => by simp [edD]
  | x :: F, m :: N => by
    rw [edD, List.mem_append, edX_mem, edD_mem (F := F) (N := N)]
    constructor
    · rintro (h | ⟨i, y, k, h1, h2, h3⟩)
      · exact ⟨0, x, m, rfl, rfl, h⟩
      · exact ⟨i + 1, y, k, by simpa using h1, by simpa using h2, h3⟩
    · rintro ⟨i, y, k, h1, h2, h3⟩
      cases i with
      | zero => simp at h1 h2; subst h1 h2; exact .inl h3
      | succ i => exact .inr ⟨i, y, k, by simpa using h1, by simpa using h2, h3⟩
theorem edD_len : ∀ (F : List Flw) (N : List Int), (edD F N).length ≤ 2 * F.length
  | [], N => by simp [edD]
  | x :: F, [] => by simp [edD]
  | x :: F, m :: N => by
    have := edD_len F N
    rw [edD, List.length_append, edX, List.length_append, List.length_cons]
    split <;> split <;> simp <;> omega
/-- The step over which a round goes from a to b: a debt is taken of, or one the other way round is given back. -/
def StepIs (F : List Flw) (N : List Int) (a b i : Nat) (back : Bool) : Prop := ∃ (x : Flw) (m : Int), F[i]? = some x ∧ N[i]? = some m ∧
  ((back = false ∧ x.f = a ∧ x.t = b ∧ 0 < m) ∨ (back = true ∧ x.f = b ∧ x.t = a ∧ m < x.n ∧ ∀ (j : Nat) (y : Flw) (k : Int), F[j]? = some y → N[j]? = some k → y.f = a → y.t = b → ¬ 0 < k))
theorem StepIs.det {F : List Flw} {N : List Int} (h : MayD F) {a b i j : Nat} {p q : Bool} (h1 : StepIs F N a b i p) (h2 : StepIs F N a b j q) : i = j ∧ p = q := by
  obtain ⟨x, m, x1, x2, ⟨rfl, x3, x4, x5⟩ | ⟨rfl, x3, x4, x5, x6⟩⟩ := h1
  · obtain ⟨y, k, y1, y2, ⟨rfl, y3, y4, y5⟩ | ⟨rfl, y3, y4, y5, y6⟩⟩ := h2
    · exact ⟨h.uniq x1 y1 (by omega) (by omega), rfl⟩
    · exact absurd x5 (y6 i x m x1 x2 x3 x4)
  · obtain ⟨y, k, y1, y2, ⟨rfl, y3, y4, y5⟩ | ⟨rfl, y3, y4, y5, y6⟩⟩ := h2
    · exact absurd y5 (x6 j y k y1 y2 y3 y4)
    · exact ⟨h.uniq x1 y1 (by omega) (by omega), rfl⟩
theorem StepIs.ex {F : List Flw} {N : List Int} (hl : N.length = F.length) {e : Edg} (he : e ∈ edD F N) : ∃ i back, StepIs F N e.f e.t i back ∧ (if back then (1 : Int) else -1) ≤ e.c := by
  obtain ⟨i, x, m, h1, h2, ⟨h3, rfl⟩ | ⟨h3, rfl⟩⟩ := edD_mem.1 he
  · exact ⟨i, false, ⟨x, m, h1, h2, .inl ⟨rfl, rfl, rfl, h3⟩⟩, by simp⟩
  · by_cases hf : ∃ (j : Nat) (y : Flw) (k : Int), F[j]? = some y ∧ N[j]? = some k ∧ y.f = x.t ∧ y.t = x.f ∧ 0 < k
    · obtain ⟨j, y, k, g1, g2, g3, g4, g5⟩ := hf
      exact ⟨j, false, ⟨y, k, g1, g2, .inl ⟨rfl, g3, g4, g5⟩⟩, by simp⟩
    · exact ⟨i, true, ⟨x, m, h1, h2, .inr ⟨rfl, rfl, rfl, h3, fun j y k g1 g2 g3 g4 g5 => hf ⟨j, y, k, g1, g2, g3, g4, g5⟩⟩⟩, by simp⟩
end Go.Proofs.Ytgobnamhdkbbeaa

/- Rounds of debts: what a round does. (Plain.) -/
namespace Go.Proofs.Ytgobnamhdkbbeaa
set_option linter.unusedSimpArgs false
set_option linter.unusedVariables false
/-- The steps of a way round. -/
def StepsAre (F : List Flw) (N : List Int) (T : List Nat) (S : List (Nat × Bool)) : Prop := S.length = T.length ∧ ∀ k, k < T.length → ∃ i b, S[k]? = some (i, b) ∧ StepIs F N (T.getD k 0) (T.getD ((k + 1) % T.length) 0) i b
theorem StepsAre.det {F : List Flw} {N : List Int} (h : MayD F) {T : List Nat} {S S' : List (Nat × Bool)} (h1 : StepsAre F N T S) (h2 : StepsAre F N T S') : S = S' := by
  refine List.ext_getElem? fun k => ?_
  by_cases hk : k < T.length
  · obtain ⟨i, b, e1, s1⟩ := h1.2 k hk
    obtain ⟨j, c, e2, s2⟩ := h2.2 k hk
    obtain ⟨rfl, rfl⟩ := s1.det h s2
    rw [e1, e2]
  · rw [List.getElem?_eq_none (by rw [h1.1]; omega), List.getElem?_eq_none (by rw [h2.1]; omega)]
/-- The most that goes over a step. -/
def mostS (F : List Flw) (N : List Int) (i : Nat) (b : Bool) : Int := if b then (F.map Flw.n).getD i 0 - N.getD i 0 else N.getD i 0
/-- The most that goes over all. -/
def minS (F : List Flw) (N : List Int) (m : Int) : List (Nat × Bool) → Int
  | [] => m
  | (i, b) :: S => minS F N (min m (mostS F N i b)) S
/-- What is left, when so much went over these steps. -/
def goS (n : Int) : List (Nat × Bool) → List Int → List Int
  | [], N => N
  | (i, b) :: S, N => goS n S (N.set i (N.getD i 0 + if b then n else -n))
theorem minS_snoc (F : List Flw) (N : List Int) (i : Nat) (b : Bool) : ∀ (S : List (Nat × Bool)) (m : Int), minS F N m (S ++ [(i, b)]) = min (minS F N m S) (mostS F N i b)
  | [], m => rfl
  | (j, c) :: S, m => minS_snoc F N i b S _
theorem goS_snoc (n : Int) (i : Nat) (b : Bool) : ∀ (S : List (Nat × Bool)) (N : List Int), goS n (S ++ [(i, b)]) N = (goS n S N).set i ((goS n S N).getD i 0 + if b then n else -n)
  | [], N => rfl
  | (j, c) :: S, N => goS_snoc n i b S _
theorem goS_len (n : Int) : ∀ (S : List (Nat × Bool)) (N : List Int), (goS n S N).length = N.length
  | [], N => rfl
  | (j, c) :: S, N => by rw [goS, goS_len n S]; simp
theorem minS_le (F : List Flw) (N : List Int) : ∀ (S : List (Nat × Bool)) (m : Int), minS F N m S ≤ m ∧ ∀ x ∈ S, minS F N m S ≤ mostS F N x.1 x.2
  | [], m => ⟨Int.le_refl _, fun x hx => by cases hx⟩
  | (j, c) :: S, m => by
    have ih := minS_le F N S (min m (mostS F N j c))
    refine ⟨by rw [minS]; omega, fun x hx => ?_⟩
    rcases List.mem_cons.1 hx with rfl | hx
    · rw [minS]; simp only; omega
    · exact ih.2 x hx
theorem minS_pos (F : List Flw) (N : List Int) : ∀ (S : List (Nat × Bool)) (m : Int), 1 ≤ m → (∀ x ∈ S, 1 ≤ mostS F N x.1 x.2) → 1 ≤ minS F N m S
  | [], m, h, _ => h
  | (j, c) :: S, m, h, h2 => by
    have h3 := h2 (j, c) List.mem_cons_self
    simp only at h3
    exact minS_pos F N S _ (by omega) fun x hx => h2 x (List.mem_cons_of_mem _ hx)
/-- One round. -/
def RoundTo (F : List Flw) (N N' : List Int) : Prop := ∃ S, StepsAre F N (roundOf (edD F N)) S ∧ N' = goS (minS F N 1099511627776 S) S N
theorem RoundTo.det {F : List Flw} (h : MayD F) {N N1 N2 : List Int} (h1 : RoundTo F N N1) (h2 : RoundTo F N N2) : N1 = N2 := by
  obtain ⟨S, a1, rfl⟩ := h1
  obtain ⟨S', a2, rfl⟩ := h2
  rw [a1.det h a2]
/-- So many rounds, and what is left behind them. -/
inductive RdTr (F : List Flw) : Nat → List Int → Prop
  | nil : RdTr F 0 (F.map Flw.n)
  | step {k : Nat} {N N' : List Int} : RdTr F k N → roundOf (edD F N) ≠ [] → RoundTo F N N' → RdTr F (k + 1) N'
theorem RdTr.det {F : List Flw} (h : MayD F) : ∀ {k : Nat} {N N' : List Int}, RdTr F k N → RdTr F k N' → N = N'
  | 0, _, _, .nil, .nil => rfl
  | k + 1, _, _, .step a1 a2 a3, .step b1 b2 b3 => by
    obtain rfl := RdTr.det h a1 b1
    exact a3.det h b3
theorem RdTr.low {F : List Flw} {k : Nat} {N : List Int} (h : RdTr F k N) : ∀ j, j ≤ k → ∃ N', RdTr F j N' ∧ (j < k → roundOf (edD F N') ≠ []) := by
  induction h with
  | nil => exact fun j hj => ⟨_, (by obtain rfl : j = 0 := by omega
                                     exact .nil), fun h => by omega⟩
  | @step k N N' a1 a2 a3 ih =>
    intro j hj
    by_cases e : j = k + 1
    · subst e
      exact ⟨N', .step a1 a2 a3, fun h => by omega⟩
    · by_cases e2 : j = k
      · subst e2
        exact ⟨N, a1, fun _ => a2⟩
      · obtain ⟨M, m1, m2⟩ := ih j (by omega)
        exact ⟨M, m1, fun _ => m2 (by omega)⟩
/-- It ends behind just one number of rounds. -/
theorem RdTr.fin {F : List Flw} (h : MayD F) {k j : Nat} {N M : List Int} (h1 : RdTr F k N) (h2 : roundOf (edD F N) = []) (g1 : RdTr F j M) (g2 : roundOf (edD F M) = []) : k = j ∧ N = M := by
  rcases Nat.lt_trichotomy k j with e | e | e
  · obtain ⟨N', n1, n2⟩ := g1.low k (by omega)
    obtain rfl := h1.det h n1
    exact absurd h2 (n2 e)
  · subst e
    exact ⟨rfl, h1.det h g1⟩
  · obtain ⟨N', n1, n2⟩ := h1.low j (by omega)
    obtain rfl := g1.det h n1
    exact absurd g2 (n2 e)
/-- What is left, as debts. -/
def leftL : List Flw → List Int → List Flw
  | x :: F, m :: N => (if 0 < m then [⟨x.f, x.t, m⟩] else []) ++ leftL F N
  | _, _ => []
/-- What Least answers: the debts left, how many rounds, what is wrong (1: they may not be; q0: the quota is too little). -/
def LeastOut (q0 : Int) (F : List Flw) (q : Int) (L : List Flw) (k e : Int) : Prop :=
  ((¬ MayD F ∨ q < 0) ∧ L = [] ∧ k = 0 ∧ e = 1) ∨
  (MayD F ∧ 0 ≤ q ∧ ∃ j N, RdTr F j N ∧ (j : Int) ≤ q ∧ ((roundOf (edD F N) = [] ∧ L = leftL F N ∧ k = (j : Int) ∧ e = 0) ∨ (roundOf (edD F N) ≠ [] ∧ (j : Int) = q ∧ L = [] ∧ k = 0 ∧ e = q0)))
theorem LeastOut.det {q0 : Int} {F : List Flw} {q : Int} {L L' : List Flw} {k k' e e' : Int} (h : LeastOut q0 F q L k e) (g : LeastOut q0 F q L' k' e') : L = L' ∧ k = k' ∧ e = e' := by
  rcases h with ⟨h1, rfl, rfl, rfl⟩ | ⟨h1, h2, j, N, h3, h4, h5⟩
  · rcases g with ⟨g1, rfl, rfl, rfl⟩ | ⟨g1, g2, _⟩
    · exact ⟨rfl, rfl, rfl⟩
    · rcases h1 with h1 | h1
      · exact absurd g1 h1
      · omega
  · rcases g with ⟨g1, rfl, rfl, rfl⟩ | ⟨g1, g2, i, M, g3, g4, g5⟩
    · rcases g1 with g1 | g1
      · exact absurd h1 g1
      · omega
    · rcases h5 with ⟨h5, rfl, rfl, rfl⟩ | ⟨h5, h6, rfl, rfl, rfl⟩
      · rcases g5 with ⟨g5, rfl, rfl, rfl⟩ | ⟨g5, g6, rfl, rfl, rfl⟩
        · obtain ⟨rfl, rfl⟩ := h3.fin h1 h5 g3 g5
          exact ⟨rfl, rfl, rfl⟩
        · exfalso
          by_cases e : j = i
          · subst e
            obtain rfl := h3.det h1 g3
            exact g5 h5
          · obtain ⟨N', n1, n2⟩ := g3.low j (by omega)
            obtain rfl := h3.det h1 n1
            exact n2 (by omega) h5
      · rcases g5 with ⟨g5, rfl, rfl, rfl⟩ | ⟨g5, g6, rfl, rfl, rfl⟩
        · exfalso
          by_cases e : j = i
          · subst e
            obtain rfl := h3.det h1 g3
            exact h5 g5
          · obtain ⟨N', n1, n2⟩ := h3.low i (by omega)
            obtain rfl := g3.det h1 n1
            exact n2 (by omega) g5
        · exact ⟨rfl, rfl, rfl⟩
end Go.Proofs.Ytgobnamhdkbbeaa

/- The round as the document tells it: from the least party on, backward. -/
namespace Go.Proofs.Ytgobnamhdkbbeaa
set_option linter.unusedVariables false
set_option linter.unusedSimpArgs false
/-- The round of b, of m parties. -/
def refL (P : Nat → Nat) (b m : Nat) : List Nat := (List.range m).map fun i => back P (m - i) b
theorem refL_len (P : Nat → Nat) (b m : Nat) : (refL P b m).length = m := by simp [refL]
theorem refL_get {P : Nat → Nat} {b m i : Nat} (h : i < m) : (refL P b m)[i]? = some (back P (m - i) b) := by
  unfold refL
  rw [List.getElem?_map, List.getElem?_range h]; rfl
structure Cyc (P : Nat → Nat) (a m : Nat) : Prop where
  pos : 1 ≤ m
  max : m ≤ 16
  per : back P m a = a
  min : ∀ i, 1 ≤ i → i < m → back P i a ≠ a
  rng : ∀ i, 1 ≤ back P i a ∧ back P i a ≤ 16
theorem Cyc.at {P : Nat → Nat} {a m : Nat} (h : Cyc P a m) (k : Nat) : Cyc P (back P k a) m := by
  have hper : back P m (back P k a) = back P k a := by rw [← back_add, Nat.add_comm, back_add, h.per]
  refine ⟨h.pos, h.max, hper, fun i h1 h2 e => ?_, fun i => by rw [← back_add]; exact h.rng _⟩
  have e2 : ∀ j, back P (i + j) (back P k a) = back P j (back P k a) := fun j => by rw [back_add, e]
  obtain ⟨j, hj, ej⟩ := back_per h.pos h.per k
  have hb : back P (m - j) (back P k a) = a := by rw [ej, ← back_add, show j + (m - j) = m by omega, h.per]
  have h3 := e2 (m - j)
  rw [Nat.add_comm, back_add, hb] at h3
  exact h.min i h1 h2 h3
theorem round_cyc {E : List Edg} (hE : InH E) {s : Srch} (hs : runS E 16 zeroS = some s) : ∃ m, Cyc s.P (back s.P 16 s.last) m ∧ roundOf E = turnL ((List.range m).map fun i => back s.P i (back s.P 16 s.last)).reverse := by
  have h := run_some hE 16 0 zeroS s InvL.zero hs
  have hnz := h.never hE
  obtain ⟨C, hp⟩ := h.par
  have hr : ∀ i, 1 ≤ back s.P i s.last ∧ back s.P i s.last ≤ 16 := fun i => by
    have h0 := hnz i
    cases i with
    | zero => have := h.lt; have : s.last ≠ 0 := h0; exact ⟨by show 1 ≤ s.last; omega, by show s.last ≤ 16; omega⟩
    | succ i =>
      rw [back_succ] at h0 ⊢
      have := hE _ (hp.edge _ h0)
      simp only at this
      omega
  obtain ⟨a, b, hab, hb, e⟩ := two_same (f := fun i => back s.P i s.last - 1) (n := 17) (m := 16) (fun i _ => by have := hr i; omega) (by omega)
  replace e : back s.P a s.last = back s.P b s.last := by
    have := hr a
    have := hr b
    replace e : back s.P a s.last - 1 = back s.P b s.last - 1 := e
    omega
  have hq : back s.P (b - a) (back s.P 16 s.last) = back s.P 16 s.last := by
    rw [← back_add, show 16 + (b - a) = b + (16 - a) by omega, back_add, ← e, ← back_add, show a + (16 - a) = 16 by omega]
  obtain ⟨m, hm1, hm, hmin⟩ := min_per (b - a) (by omega) hq
  have hra : ∀ i, 1 ≤ back s.P i (back s.P 16 s.last) ∧ back s.P i (back s.P 16 s.last) ≤ 16 := fun i => by rw [← back_add]; exact hr _
  unfold roundOf
  rw [hs]
  simp only
  generalize back s.P 16 s.last = x at *
  have hinj := per_inj hm hmin
  have hm16 : m ≤ 16 := by
    apply Classical.byContradiction
    intro hn
    obtain ⟨i, j, hij, hj, e⟩ := two_same (f := fun i => back s.P i x - 1) (n := 17) (m := 16) (fun i _ => by have := hra i; omega) (by omega)
    have := hra i
    have := hra j
    replace e : back s.P i x - 1 = back s.P j x - 1 := e
    exact hinj i j hij (by omega) (by omega)
  have ho : orbit s.P 18 x [] = (List.range m).map fun i => back s.P i x := orbit_cyc hm1 hm hmin 18 0 (by omega) (by omega)
  rw [ho]
  exact ⟨m, ⟨hm1, hm16, hm, hmin, hra⟩, rfl⟩
theorem turn_ref {P : Nat → Nat} {x m : Nat} (h : Cyc P x m) : ∃ b k, k < m ∧ b = back P k x ∧ (∀ i, b ≤ back P i x) ∧ turnL ((List.range m).map fun i => back P i x).reverse = refL P b m := by
  have hm1 := h.pos
  generalize hR : ((List.range m).map fun i => back P i x).reverse = R
  have hRl : R.length = m := by rw [← hR]; simp
  have hRg : ∀ i, i < m → R[i]? = some (back P (m - 1 - i) x) := fun i hi => by
    rw [← hR, List.getElem?_reverse (by simpa using hi)]
    rw [List.length_map, List.length_range, List.getElem?_map, List.getElem?_range (by omega)]
    rfl
  have hmem : ∀ i, i < m → back P i x ∈ R := fun i hi => List.mem_iff_getElem?.2 ⟨m - 1 - i, by rw [hRg _ (by omega), show m - 1 - (m - 1 - i) = i by omega]⟩
  have hmm : minL R ∈ R := minL_mem (by omega)
  have hk := List.idxOf_lt_length_iff.2 hmm
  have hkg := idxOf_get hmm
  have hle : ∀ i, minL R ≤ back P i x := fun i => by
    obtain ⟨j, hj, e⟩ := back_per hm1 h.per i
    rw [e]
    exact minL_le (hmem j hj)
  unfold turnL
  generalize List.idxOf (minL R) R = k at *
  have hb : minL R = back P (m - 1 - k) x := by
    rw [hRg k (by omega)] at hkg
    exact (Option.some.inj hkg).symm
  refine ⟨minL R, m - 1 - k, by omega, hb, hle, ?_⟩
  rw [hb]
  apply List.ext_getElem?
  intro i
  by_cases hi : i < m
  · rw [refL_get hi, ← back_add]
    by_cases c : i + k < m
    · rw [List.getElem?_append_left (by simp; omega), List.getElem?_drop, Nat.add_comm k i, hRg _ c, show m - 1 - k + (m - i) = m + (m - 1 - (i + k)) by omega, back_add, h.per]
    · rw [List.getElem?_append_right (by simp; omega)]
      have e1 : i - (R.drop k).length = i + k - m := by simp; omega
      rw [e1, List.getElem?_take, if_pos (by omega), hRg _ (by omega), show m - 1 - (i + k - m) = m - 1 - k + (m - i) by omega]
  · rw [List.getElem?_eq_none (by simp; omega), List.getElem?_eq_none (by rw [refL_len]; omega)]
theorem keep_in (F : List Edg) : InH (F.filter keepE) := fun e he => by
  have h := (List.mem_filter.1 he).2
  unfold keepE at h
  rw [Bool.and_eq_true] at h
  have h1 := mayP_true h.1
  have h2 := mayP_true h.2
  omega
/-- How the document builds it. -/
def buildL (P : Nat → Nat) (b j : Nat) : List Nat := b :: (List.range j).map fun i => back P (j - i) b
theorem buildL_zero (P : Nat → Nat) (b : Nat) : buildL P b 0 = [b] := rfl
theorem buildL_succ (P : Nat → Nat) (b j : Nat) : buildL P b (j + 1) = [b, back P (j + 1) b] ++ (buildL P b j).drop 1 := by
  unfold buildL
  rw [List.range_succ_eq_map, List.map_cons, List.map_map]
  simp
theorem buildL_len (P : Nat → Nat) (b j : Nat) : (buildL P b j).length = j + 1 := by simp [buildL]
theorem buildL_end {P : Nat → Nat} {b m : Nat} (h1 : 1 ≤ m) (h : back P m b = b) : buildL P b (m - 1) = refL P b m := by
  obtain ⟨k, rfl⟩ : ∃ k, m = k + 1 := ⟨m - 1, by omega⟩
  unfold buildL refL
  rw [List.range_succ_eq_map, List.map_cons, List.map_map, Nat.sub_zero, h, Nat.add_sub_cancel]
  congr 1
  apply List.map_congr_left
  intro i hi
  simp
end Go.Proofs.Ytgobnamhdkbbeaa

/- Rounds of debts: a round found goes, and takes something. (Plain.) -/
namespace Go.Proofs.Ytgobnamhdkbbeaa
set_option linter.unusedSimpArgs false
set_option linter.unusedVariables false
/-- What is left lies from 0 to the debt. -/
structure InvN (F : List Flw) (N : List Int) : Prop where
  len : N.length = F.length
  bnd : ∀ (i : Nat) (x : Flw) (m : Int), F[i]? = some x → N[i]? = some m → 0 ≤ m ∧ m ≤ x.n
theorem MayD.okX {F : List Flw} (h : MayD F) {i : Nat} {x : Flw} (hx : F[i]? = some x) : 1 ≤ x.f ∧ x.f ≤ 16 ∧ 1 ≤ x.t ∧ x.t ≤ 16 ∧ x.f ≠ x.t ∧ 1 ≤ x.n ∧ x.n ≤ 1099511627776 := by
  have := (h.at hx).1
  simp [okD, mayP] at this
  omega
theorem InvN.start {F : List Flw} (h : MayD F) : InvN F (F.map Flw.n) := by
  refine ⟨by simp, fun i x m hx hm => ?_⟩
  rw [List.getElem?_map, hx] at hm
  simp at hm
  have := h.okX hx
  omega
theorem edD_ok {F : List Flw} (h : MayD F) {N : List Int} : ∀ e ∈ edD F N, (1 ≤ e.f ∧ e.f ≤ 16) ∧ (1 ≤ e.t ∧ e.t ≤ 16) ∧ -1 ≤ e.c ∧ e.c ≤ 1 := by
  intro e he
  obtain ⟨i, x, m, h1, h2, ⟨h3, rfl⟩ | ⟨h3, rfl⟩⟩ := edD_mem.1 he
  · have := h.okX h1
    simp only; omega
  · have := h.okX h1
    simp only; omega
theorem edD_keep {F : List Flw} (h : MayD F) {N : List Int} : (edD F N).filter keepE = edD F N := by
  rw [List.filter_eq_self]
  intro e he
  have := edD_ok h e he
  simp [keepE, mayP]
  omega
theorem edD_in {F : List Flw} (h : MayD F) {N : List Int} : InH (edD F N) := by
  rw [← edD_keep h]
  exact keep_in _
theorem edD_rnd {F : List Flw} (h : MayD F) {N : List Int} (hr : roundOf (edD F N) ≠ []) : ∃ tf C, IsRnd (edD F N) (roundOf (edD F N)) tf C := by
  cases hs : runS (edD F N) 16 zeroS with
  | none =>
    exfalso
    apply hr
    unfold roundOf
    rw [hs]
  | some s => exact round_found (edD_in h) hs
/-- What a step costs. -/
def cst (b : Bool) : Int := if b then 1 else -1
def cstL (S : List (Nat × Bool)) : Int := (S.map fun x => cst x.2).sum
theorem sum_set : ∀ (N : List Int) (i : Nat) (v : Int), i < N.length → (N.set i v).sum = N.sum + v - N.getD i 0
  | [], i, v, h => by simp at h
  | m :: N, 0, v, _ => by simp; omega
  | m :: N, i + 1, v, h => by
    have := sum_set N i v (by simpa using h)
    simp at this ⊢
    omega
theorem goS_sum (n : Int) : ∀ (S : List (Nat × Bool)) (N : List Int), (∀ x ∈ S, x.1 < N.length) → (goS n S N).sum = N.sum + n * cstL S
  | [], N, _ => by simp [goS, cstL]
  | (i, b) :: S, N, h => by
    have h1 := h (i, b) List.mem_cons_self
    rw [goS, goS_sum n S _ (fun x hx => by rw [List.length_set]; exact h x (List.mem_cons_of_mem _ hx)), sum_set _ _ _ h1]
    have : cstL ((i, b) :: S) = cst b + cstL S := by simp [cstL]
    rw [this, Int.mul_add]
    have : (if b then n else -n) = n * cst b := by cases b <;> simp [cst]
    rw [this]
    simp only
    omega
theorem goS_other (n : Int) (j : Nat) : ∀ (S : List (Nat × Bool)) (N : List Int), (∀ x ∈ S, x.1 ≠ j) → (goS n S N)[j]? = N[j]?
  | [], N, _ => rfl
  | (i, b) :: S, N, h => by
    have h1 := h (i, b) List.mem_cons_self
    rw [goS, goS_other n j S _ (fun x hx => h x (List.mem_cons_of_mem _ hx)), List.getElem?_set_ne h1]
theorem goS_at (n : Int) (j : Nat) (c : Bool) : ∀ (S : List (Nat × Bool)) (N : List Int), (S.map Prod.fst).Nodup → (j, c) ∈ S → j < N.length → (goS n S N)[j]? = some (N.getD j 0 + if c then n else -n)
  | [], N, _, h, _ => by cases h
  | (i, b) :: S, N, hd, h, hj => by
    rw [List.map_cons, List.nodup_cons] at hd
    rw [goS]
    rcases List.mem_cons.1 h with e | h
    · cases e
      rw [goS_other n j S _ (fun x hx e => hd.1 (List.mem_map.2 ⟨x, hx, e⟩)), List.getElem?_set_self hj]
    · have hne : i ≠ j := fun e => hd.1 (List.mem_map.2 ⟨(j, c), h, e.symm⟩)
      rw [goS_at n j c S _ hd.2 h (by rw [List.length_set]; exact hj)]
      simp [List.getD_eq_getElem?_getD, List.getElem?_set_ne hne]
end Go.Proofs.Ytgobnamhdkbbeaa

/- Rounds of debts: the steps of a round that is found. (Plain.) -/
namespace Go.Proofs.Ytgobnamhdkbbeaa
set_option linter.unusedSimpArgs false
set_option linter.unusedVariables false
theorem rsum_list (f : Nat → Int) : ∀ m, ((List.range m).map f).sum = rsum f m
  | 0 => rfl
  | m + 1 => by rw [List.range_succ, List.map_append, List.sum_append, rsum_list f m]; simp [rsum]
theorem StepIs.ends {F : List Flw} {N : List Int} {a b i : Nat} {c : Bool} (h : StepIs F N a b i c) {x : Flw} (hx : F[i]? = some x) : (c = false ∧ x.f = a ∧ x.t = b) ∨ (c = true ∧ x.f = b ∧ x.t = a) := by
  obtain ⟨y, m, h1, h2, h3⟩ := h
  rw [hx] at h1
  cases h1
  rcases h3 with ⟨h3, h4, h5, _⟩ | ⟨h3, h4, h5, _⟩
  · exact .inl ⟨h3, h4, h5⟩
  · exact .inr ⟨h3, h4, h5⟩
theorem StepIs.most {F : List Flw} {N : List Int} {a b i : Nat} {c : Bool} (h : StepIs F N a b i c) : i < F.length ∧ 1 ≤ mostS F N i c := by
  obtain ⟨y, m, h1, h2, h3⟩ := h
  refine ⟨(List.getElem?_eq_some_iff.1 h1).1, ?_⟩
  unfold mostS
  simp only [List.getD_eq_getElem?_getD, List.getElem?_map, h1, h2, Option.map_some, Option.getD_some]
  rcases h3 with ⟨rfl, _, _, h4⟩ | ⟨rfl, _, _, h4, _⟩
  · simp; omega
  · simp; omega
theorem round_go {F : List Flw} {N : List Int} (h : MayD F) (I : InvN F N) (hr : roundOf (edD F N) ≠ []) : ∃ S, StepsAre F N (roundOf (edD F N)) S ∧ (∀ x ∈ S, x.1 < F.length ∧ 1 ≤ mostS F N x.1 x.2) ∧ (S.map Prod.fst).Nodup ∧ cstL S < 0 := by
  obtain ⟨tf, C, R⟩ := edD_rnd h hr
  generalize roundOf (edD F N) = T at *
  obtain ⟨r1, r2, r3, r4, r5, r6, r7, r8⟩ := R
  have hm0 : ∀ k, (k + 1) % T.length < T.length := fun k => Nat.mod_lt _ (by omega)
  have tg : ∀ k, k < T.length → T.getD k 0 = tf k := fun k hk => by rw [List.getD_eq_getElem?_getD, r3 k hk]; rfl
  have inj : ∀ a b, a < T.length → b < T.length → tf a = tf b → a = b := fun a b ha hb e => by
    rcases Nat.lt_trichotomy a b with q | q | q
    · exact absurd e (r5 a b q hb)
    · exact q
    · exact absurd e.symm (r5 b a q ha)
  have H : ∀ k, ∃ p : Nat × Bool, k < T.length → StepIs F N (tf k) (tf ((k + 1) % T.length)) p.1 p.2 ∧ cst p.2 ≤ C (tf ((k + 1) % T.length)) := fun k => by
    by_cases hk : k < T.length
    · obtain ⟨i, b, s1, s2⟩ := StepIs.ex I.len (r7 k hk)
      exact ⟨(i, b), fun _ => ⟨s1, s2⟩⟩
    · exact ⟨(0, false), fun q => absurd q hk⟩
  obtain ⟨g, hg⟩ := Classical.axiomOfChoice H
  have hsum : rsum (fun k => cst (g k).2) T.length < 0 := by
    have := rsum_le (f := fun k => cst (g k).2) (g := fun i => C (tf ((i + 1) % T.length))) T.length (fun k hk => (hg k hk).2)
    omega
  refine ⟨(List.range T.length).map g, ⟨by simp, fun k hk => ⟨(g k).1, (g k).2, by simp [hk], ?_⟩⟩, ?_, ?_, ?_⟩
  · rw [tg k hk, tg _ (hm0 k)]
    exact (hg k hk).1
  · intro x hx
    obtain ⟨k, hk, rfl⟩ := List.mem_map.1 hx
    exact (hg k (List.mem_range.1 hk)).1.most
  · rw [List.map_map]
    unfold List.Nodup
    rw [List.pairwise_iff_getElem]
    intro i j hi hj hij
    simp only [List.length_map, List.length_range] at hi hj
    simp only [List.getElem_map, List.getElem_range, Function.comp]
    intro e
    have s1 := (hg i hi).1
    have s2 := (hg j hj).1
    have hp := s1.most.1
    obtain ⟨x, hx⟩ : ∃ x, F[(g i).1]? = some x := ⟨_, List.getElem?_eq_getElem hp⟩
    have e1 := s1.ends hx
    have e2 := s2.ends (by rw [← e]; exact hx)
    have key : tf i = tf ((j + 1) % T.length) → tf ((i + 1) % T.length) = tf j → i = 0 ∧ j = 1 ∧ T.length = 2 := by
      intro q1 q2
      have q3 := inj _ _ hi (hm0 j) q1
      have q4 := inj _ _ (hm0 i) hj q2
      rw [Nat.mod_eq_of_lt (by omega : i + 1 < T.length)] at q4
      by_cases q5 : j + 1 < T.length
      · rw [Nat.mod_eq_of_lt q5] at q3; omega
      · have : j + 1 = T.length := by omega
        rw [this, Nat.mod_self] at q3
        omega
    have two : (g i).2 ≠ (g j).2 → i = 0 → j = 1 → T.length = 2 → False := by
      intro q1 q2 q3 q4
      subst q2 q3
      rw [q4] at hsum
      simp only [rsum] at hsum
      revert q1 hsum
      generalize (g 0).2 = u
      generalize (g 1).2 = v
      cases u <;> cases v <;> simp [cst]
    rcases e1 with ⟨a1, a2, a3⟩ | ⟨a1, a2, a3⟩
    · rcases e2 with ⟨b1, b2, b3⟩ | ⟨b1, b2, b3⟩
      · exact r5 i j hij hj (by omega)
      · obtain ⟨k1, k2, k3⟩ := key (by omega) (by omega)
        exact two (by rw [a1, b1]; decide) k1 k2 k3
    · rcases e2 with ⟨b1, b2, b3⟩ | ⟨b1, b2, b3⟩
      · obtain ⟨k1, k2, k3⟩ := key (by omega) (by omega)
        exact two (by rw [a1, b1]; decide) k1 k2 k3
      · exact r5 i j hij hj (by omega)
  · unfold cstL
    rw [List.map_map, rsum_list]
    exact hsum
end Go.Proofs.Ytgobnamhdkbbeaa

/- Rounds of debts: they come to an end. (Plain.) -/
namespace Go.Proofs.Ytgobnamhdkbbeaa
set_option linter.unusedSimpArgs false
set_option linter.unusedVariables false
theorem sum_nonneg : ∀ (N : List Int), (∀ m ∈ N, 0 ≤ m) → 0 ≤ N.sum
  | [], _ => by simp
  | m :: N, h => by
    have h1 := h m List.mem_cons_self
    have h2 := sum_nonneg N fun x hx => h x (List.mem_cons_of_mem _ hx)
    simp; omega
theorem InvN.sum0 {F : List Flw} {N : List Int} (I : InvN F N) : 0 ≤ N.sum := by
  refine sum_nonneg N fun m hm => ?_
  obtain ⟨i, hi, rfl⟩ := List.mem_iff_getElem.1 hm
  have hF : i < F.length := by rw [← I.len]; exact hi
  exact (I.bnd i F[i] N[i] (List.getElem?_eq_getElem hF) (List.getElem?_eq_getElem hi)).1
theorem RoundTo.ex {F : List Flw} {N : List Int} (h : MayD F) (I : InvN F N) (hr : roundOf (edD F N) ≠ []) : ∃ N', RoundTo F N N' := by
  obtain ⟨S, h1, _⟩ := round_go h I hr
  exact ⟨_, S, h1, rfl⟩
theorem RoundTo.next {F : List Flw} {N N' : List Int} (h : MayD F) (I : InvN F N) (hr : roundOf (edD F N) ≠ []) (g : RoundTo F N N') : InvN F N' ∧ N'.sum + 1 ≤ N.sum := by
  obtain ⟨S, h1, h2, h3, h4⟩ := round_go h I hr
  obtain ⟨S', g1, rfl⟩ := g
  obtain rfl := h1.det h g1
  have p1 := minS_pos F N S 1099511627776 (by omega) fun x hx => (h2 x hx).2
  have p2 := (minS_le F N S 1099511627776).2
  generalize minS F N 1099511627776 S = n at *
  have hlt : ∀ x ∈ S, x.1 < N.length := fun x hx => by rw [I.len]; exact (h2 x hx).1
  refine ⟨⟨by rw [goS_len, I.len], fun j x m hx hm => ?_⟩, ?_⟩
  · have hj : j < N.length := by rw [I.len]; exact (List.getElem?_eq_some_iff.1 hx).1
    have hN : N[j]? = some N[j] := List.getElem?_eq_getElem hj
    have hb := I.bnd j x N[j] hx hN
    by_cases hin : ∃ c, (j, c) ∈ S
    · obtain ⟨c, hc⟩ := hin
      have q := p2 _ hc
      rw [goS_at n j c S N h3 hc hj] at hm
      unfold mostS at q
      simp only [List.getD_eq_getElem?_getD, List.getElem?_map, hx, hN, Option.map_some, Option.getD_some] at q hm
      cases hm
      cases c
      · simp at q ⊢; omega
      · simp at q ⊢; omega
    · rw [goS_other n j S N (fun x hx e => hin ⟨x.2, by rw [← e]; exact hx⟩), hN] at hm
      cases hm
      exact hb
  · rw [goS_sum n S N hlt]
    have : n * cstL S ≤ n * (-1) := Int.mul_le_mul_of_nonneg_left (by omega) (by omega)
    omega
theorem RdTr.inv {F : List Flw} (h : MayD F) {k : Nat} {N : List Int} (t : RdTr F k N) : InvN F N ∧ N.sum + k ≤ (F.map Flw.n).sum := by
  induction t with
  | nil => exact ⟨.start h, by simp⟩
  | @step k N N' a1 a2 a3 ih =>
    have := a3.next h ih.1 a2
    refine ⟨this.1, ?_⟩
    have e : ((k + 1 : Nat) : Int) = (k : Int) + 1 := by omega
    rw [e]
    omega
/-- It ends. -/
theorem rd_end {F : List Flw} (h : MayD F) : ∃ k N, RdTr F k N ∧ roundOf (edD F N) = [] := by
  have key : ∀ (s k : Nat) (N : List Int), RdTr F k N → N.sum.toNat ≤ s → ∃ k N, RdTr F k N ∧ roundOf (edD F N) = [] := by
    intro s
    induction s with
    | zero =>
      intro k N t hs
      have I := (t.inv h).1
      have := I.sum0
      by_cases hr : roundOf (edD F N) = []
      · exact ⟨k, N, t, hr⟩
      · obtain ⟨N', g⟩ := RoundTo.ex h I hr
        have g2 := g.next h I hr
        have := g2.1.sum0
        omega
    | succ s ih =>
      intro k N t hs
      have I := (t.inv h).1
      by_cases hr : roundOf (edD F N) = []
      · exact ⟨k, N, t, hr⟩
      · obtain ⟨N', g⟩ := RoundTo.ex h I hr
        have g2 := g.next h I hr
        have := g2.1.sum0
        exact ih (k + 1) N' (.step t hr g) (by omega)
  exact key _ 0 _ .nil (Nat.le_refl _)
end Go.Proofs.Ytgobnamhdkbbeaa
