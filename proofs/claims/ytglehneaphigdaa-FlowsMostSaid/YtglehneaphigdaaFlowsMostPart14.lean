/- FlowsMost: part 14 of its proof: Round, SameP, SameP2, Lives05, Lives06, Open. -/
import Derived.Test.YtglehneaphigdaaFlowsMostPart13
import Derived.WalkMore
import Derived.ProofKit
import Derived.OpenShut
import Derived.ChangeOld
/- paths.Round: a round that costs less than nothing. -/
namespace Go.Proofs.Ytglehneaphigdaa
open Go.RowKit
set_option linter.unusedSimpArgs false
set_option linter.unusedVariables false
def zeroS : Srch := ⟨fun _ => 0, fun _ => 0, 0⟩
/-- So many times through all edges, while something changes. -/
def runS (F : List Edg) : Nat → Srch → Option Srch
  | 0, s => some s
  | n + 1, s => if (onceS F s).last = 0 then none else runS F n (onceS F s)
/-- Who is so many steps ahead. -/
def back (P : Nat → Nat) : Nat → Nat → Nat
  | 0, a => a
  | n + 1, a => back P n (P a)
/-- All who are ahead, each once. -/
def orbit (P : Nat → Nat) : Nat → Nat → List Nat → List Nat
  | 0, _, L => L
  | n + 1, a, L => if a ∈ L then L else orbit P n (P a) (L ++ [a])
def turnL (L : List Nat) : List Nat := L.drop (L.idxOf (minL L)) ++ L.take (L.idxOf (minL L))
/-- The round. -/
def roundOf (F : List Edg) : List Nat := match runS F 16 zeroS with
  | none => []
  | some s => turnL (orbit s.P 18 (back s.P 16 s.last) []).reverse
theorem pc_of {c : Array Value} {L : List Nat} (h : c.toList.take (L.length * 1) = L.map pv) : ∃ r, c = pc L r := by
  refine ⟨c.toList.drop (L.length * 1), ?_⟩
  unfold pc
  rw [← h, List.take_append_drop]
theorem Rd.takeN {w : World} {a : Option Addr} {xs : List Value} (h : Rd w a xs) (n : Nat) : Rd w a (xs.take n) := by
  intro i hi
  have hi2 : i < xs.length := by rw [List.length_take] at hi; omega
  obtain ⟨b, o, he, hc⟩ := h i hi2
  exact ⟨b, o, he, by rw [hc, List.getElem_take]⟩
theorem Rd.dropN {w : World} {g o : Nat} {xs : List Value} (h : Rd w (some ⟨g, o, none⟩) xs) (n : Nat) : Rd w (some ⟨g, o + n, none⟩) (xs.drop n) := by
  intro i hi
  have hi2 : n + i < xs.length := by rw [List.length_drop] at hi; omega
  obtain ⟨b, o', he, hc⟩ := h (n + i) hi2
  cases he
  exact ⟨g, o + n, rfl, by rw [Nat.add_assoc, hc, List.getElem_drop]⟩
theorem minL_mem {L : List Nat} (h : 0 < L.length) : minL L ∈ L := by
  cases L with
  | nil => simp at h
  | cons x L =>
    have key : ∀ (M : List Nat) (a : Nat), M.foldl min a = a ∨ M.foldl min a ∈ M := by
      intro M
      induction M with
      | nil => intro a; exact .inl rfl
      | cons y M ih =>
        intro a
        rcases ih (min a y) with h | h
        · rw [List.foldl_cons, h]
          rcases Nat.le_total a y with e | e
          · rw [Nat.min_eq_left e]; exact .inl rfl
          · rw [Nat.min_eq_right e]; exact .inr List.mem_cons_self
        · exact .inr (List.mem_cons_of_mem _ h)
    unfold minL
    simp only [List.headD_cons]
    rcases key (x :: L) x with h | h
    · rw [h]; exact List.mem_cons_self
    · exact h
theorem pc_rd {w W : World} {l : List Thing} {g : Nat} {L : List Nat} {r : List Value} {t : TypeId} (H : Heap W l w) (m : Cel g (pc L r) t ∈ l) : Rd w (some ⟨g, 0, none⟩) (L.map pv) := by
  have h := (H.celRd m).takeN (L.map pv).length
  unfold pc at h
  rw [List.toList_toArray, List.take_left] at h
  exact h
/-- Who came. -/
def cameB (L : List Nat) : Array Value := tab 17 fun i => .bool (decide (i ∈ L))
theorem cameB_sz (L : List Nat) : (cameB L).size = 17 := tab_size ..
theorem cameB_get (L : List Nat) {i : Nat} (h : i < 17) : (cameB L)[i]? = some (.bool (decide (i ∈ L))) := tab_get _ h
theorem cameB_set (L : List Nat) {i : Nat} (h : i < 17) : (cameB L).setIfInBounds i (.bool true) = cameB (L ++ [i]) := by
  unfold cameB
  rw [tab_set _ _ h]
  apply tab_congr
  intro j _
  by_cases e : j = i
  · subst e; simp
  · simp [e]
theorem row_came : RowTy 87 17 (cameB []) := ⟨⟨_, Try.underlying87, rfl⟩, by kernel_rfl, by kernel_rfl⟩
theorem nodup_le : ∀ (n : Nat) (L : List Nat), L.Nodup → (∀ x ∈ L, x < n) → L.length ≤ n
  | 0, L, _, hb => by
    cases L with
    | nil => exact Nat.le_refl _
    | cons x L => exact absurd (hb x List.mem_cons_self) (Nat.not_lt_zero _)
  | n + 1, L, h, hb => by
    by_cases hm : n ∈ L
    · have h1 := nodup_le n (L.erase n) (h.erase n) fun x hx => by
        have h2 := (h.mem_erase_iff).1 hx
        have := hb x h2.2
        have := h2.1
        omega
      rw [List.length_erase_of_mem hm] at h1
      omega
    · exact Nat.le_succ_of_le (nodup_le n L h fun x hx => by
        have := hb x hx
        have : x ≠ n := fun e => hm (e ▸ hx)
        omega)
theorem nodup_17 {L : List Nat} (h : L.Nodup) (hb : ∀ x ∈ L, x < 17) : L.length ≤ 17 := nodup_le 17 L h hb
theorem orbit_in {P : Nat → Nat} {n a : Nat} {L : List Nat} (h : a ∈ L) : orbit P (n + 1) a L = L := if_pos h
theorem orbit_out {P : Nat → Nat} {n a : Nat} {L : List Nat} (h : a ∉ L) : orbit P (n + 1) a L = orbit P n (P a) (L ++ [a]) := if_neg h
structure BLoop (W : World) (l2 : List Thing) (s : Srch) (ps : Nat) (va vi : Value) (wr : World) : Prop where
  out : ∃ k a : Nat, k ≤ 16 ∧ vi = .int .i64 (k : Int) ∧ va = .int .u8 (a : Int) ∧ a < 17 ∧ back s.P 16 s.last = back s.P (16 - k) a ∧ Heap W (Cel ps (sr s.D s.P) 108 :: l2) wr
structure OLoop (W : World) (l2 : List Thing) (s : Srch) (ps pb a0 m : Nat) (va vo : Value) (wr : World) : Prop where
  out : ∃ (a f : Nat) (L : List Nat), va = .int .u8 (a : Int) ∧ a < 17 ∧ f ≤ m ∧ f + L.length = 18 ∧ L.Nodup ∧ (∀ x ∈ L, x < 17) ∧ orbit s.P 18 a0 [] = orbit s.P f a L ∧ (L = [] → f = 18) ∧ Heap W (RowT 33 1 vo L.length (L.map pv) :: Cel pb (cameB L) 87 :: Cel ps (sr s.D s.P) 108 :: l2) wr
theorem row_sr : RowTy 108 34 (sr (fun _ => 0) (fun _ => 0)) := ⟨⟨_, Try.underlying108, rfl⟩, by kernel_rfl, by kernel_rfl⟩
section
variable {W w : World} {l : List Thing}
set_option maxRecDepth 100000
set_option maxHeartbeats 2000000
theorem indexE_nil (a : Option Addr) (c : Nat) (fv : Value) : Ans 69 #[.slice a 0 c, fv] (.int .i64 (-1)) := by
  intro w
  go_enter Try.func69, Try.ntmps69
  go_wp2_with (go_skip)
  go_loopw [8] (fun i wr => i = .int .i64 0 ∧ wr = w) (fun i _ => 0)
  case atStart => exact ⟨rfl, rfl⟩
  case round =>
    obtain ⟨rfl, rfl⟩ := hrel
    go_wp2_with (go_skip)
    go_ret
    exact ⟨rfl, (by repeat (first | exact Ext.refl _ | refine Ext.alloc ?_ _ | refine Ext.ext ?_ _ | refine Ext.drew ?_))⟩
theorem delete_nil (a : Option Addr) (c : Nat) (fv : Value) : Ans 54 #[.slice a 0 c, fv] (.slice a 0 c) := by
  intro w
  have I := indexE_nil a c fv
  go_enter Try.func54, Try.ntmps54
  go_wp2_with (first | go_skip | ((with_reducible refine Ans.call (by assumption) ?_); intro _))
  go_ret
  exact ⟨rfl, (by repeat (first | exact Ext.refl _ | refine Ext.alloc ?_ _ | refine Ext.ext ?_ _ | refine Ext.drew ?_))⟩
/-- Edges in memory of their own: the list of things ahead of them, and with them. -/
def Held (F : List Edg) (l l1 : List Thing) (a : Option Addr) (c : Nat) : Prop := F.length ≤ c ∧ ((F = [] ∧ l1 = l) ∨ ∃ g r, a = some ⟨g, 0, none⟩ ∧ l1 = Cel g (ec F r) 64 :: l)
theorem clone_G (ea : Option Addr) (en ec0 : Nat) (F : List Edg) (hl : F.length = en) (hn : en ≤ 1000000) (R : ∀ w', Heap W l w' → Rd w' ea (edgL F)) (H : Heap W l w) :
    Calls Try.prog 55 #[.slice ea en ec0] w fun e w' => ∃ a c l1, e = .returned (.slice a F.length c) ∧ Held F l l1 a c ∧ Heap W l1 w' := by
  refine (clone_H ea en ec0 F hl hn R H).mono ?_
  rintro e w' ⟨a, c, rfl, h1, h2, ⟨hF, H⟩ | ⟨g, r, rfl, hs, H⟩⟩
  · exact ⟨a, c, l, rfl, ⟨h1, .inl ⟨hF, rfl⟩⟩, H⟩
  · exact ⟨_, c, _, rfl, ⟨h1, .inr ⟨g, r, rfl, rfl⟩⟩, H⟩
/-- What is left of them. -/
structure Left (W : World) (F : List Edg) (l l2 : List Thing) (a : Option Addr) : Prop where
  rd : ∀ w', Heap W l2 w' → Rd w' a (edgL F)
  tail : ∀ w', Heap W l2 w' → Heap W l w'
  front : ∀ {t : Thing} {w' : World}, Heap W (t :: l2) w' → Heap W (t :: l) w'
theorem delete_G {l1 : List Thing} {F : List Edg} {a : Option Addr} {c : Nat} (hh : Held F l l1 a c) (hn : F.length ≤ 1000000) (hF : ∀ x ∈ F, EdgOk x) (H : Heap W l1 w) :
    Calls Try.prog 54 #[.slice a F.length c, .func (.func 56) #[] #[]] w fun e w' => ∃ l2, e = .returned (.slice a (F.filter keepE).length c) ∧ Left W (F.filter keepE) l l2 a ∧ Heap W l2 w' := by
  obtain ⟨hc, ⟨rfl, rfl⟩ | ⟨g, r, rfl, rfl⟩⟩ := hh
  · refine ((delete_nil a c _).toH w H).mono ?_
    rintro e w' ⟨rfl, H⟩
    refine ⟨_, rfl, ⟨fun w' _ => ?_, fun _ h => h, fun h => h⟩, H⟩
    intro i hi
    simp [edgL] at hi
  · refine (delete_H g F.length c F r rfl hn hc hF H).mono ?_
    rintro e w' ⟨c1, rfl, ht, H⟩
    refine ⟨_, rfl, ⟨fun w' H' => ?_, fun _ h => h.tail, fun h => h.drop (.there .here)⟩, H⟩
    rw [← ht]
    exact (H'.celRd List.mem_cons_self).takeN _
/-- Parties within bounds. -/
def PBnd (s : Srch) : Prop := s.last < 17 ∧ ∀ i, s.P i < 17
theorem PBnd.relax {s : Srch} {e : Edg} (h : PBnd s) (hf : e.f < 17) (ht : e.t < 17) : PBnd (relax s e) := by
  unfold Proofs.Ytglehneaphigdaa.relax
  split
  · refine ⟨ht, fun i => ?_⟩
    simp only [updN]
    split
    · exact hf
    · exact h.2 i
  · exact h
theorem PBnd.foldl : ∀ (F : List Edg) (s : Srch), PBnd s → (∀ x ∈ F, x.f < 17 ∧ x.t < 17) → PBnd (F.foldl Proofs.Ytglehneaphigdaa.relax s)
  | [], _, h, _ => h
  | x :: F, s, h, hF => PBnd.foldl F _ (h.relax (hF x List.mem_cons_self).1 (hF x List.mem_cons_self).2) fun y hy => hF y (List.mem_cons_of_mem _ hy)
theorem PBnd.once {F : List Edg} {s : Srch} (h : PBnd s) (hF : ∀ x ∈ F, x.f < 17 ∧ x.t < 17) : PBnd (onceS F s) := PBnd.foldl F _ ⟨by show 0 < 17; omega, h.2⟩ hF
theorem Bnd.foldl : ∀ (F : List Edg) (s : Srch) (B : Nat), Bnd B s → (∀ x ∈ F, -128 ≤ x.c) → Bnd (B + 128 * F.length) (F.foldl Proofs.Ytglehneaphigdaa.relax s)
  | [], _, _, h, _ => h
  | x :: F, s, B, h, hF => by
    have := Bnd.foldl F _ (B + 128) (h.relax (hF x List.mem_cons_self)) fun y hy => hF y (List.mem_cons_of_mem _ hy)
    rw [List.length_cons, show B + 128 * (F.length + 1) = B + 128 + 128 * F.length by omega]
    exact this
theorem Bnd.once {F : List Edg} {s : Srch} {B : Nat} (h : Bnd B s) (hF : ∀ x ∈ F, -128 ≤ x.c) : Bnd (B + 128 * F.length) (onceS F s) := Bnd.foldl F _ B h hF
theorem keep_ok {F : List Edg} (hF : ∀ x ∈ F, EdgOk x) : ∀ x ∈ F.filter keepE, x.f < 17 ∧ x.t < 17 ∧ -128 ≤ x.c ∧ x.c ≤ 127 := by
  intro x hx
  obtain ⟨h1, h2⟩ := List.mem_filter.1 hx
  have ho := hF x h1
  unfold keepE at h2
  rw [Bool.and_eq_true] at h2
  have m1 := mayP_true h2.1
  have m2 := mayP_true h2.2
  exact ⟨by omega, by omega, ho.2.2.1, ho.2.2.2⟩
def RoundPost (W : World) (l : List Thing) (E : List Edg) (e : Ending) (w' : World) : Prop := ∃ v, e = .returned v ∧ Heap W (OwnT 33 1 v (roundOf E).length ((roundOf E).map pv) :: l) w'
structure SLoop (W : World) (l2 : List Thing) (F : List Edg) (ps : Nat) (va vi : Value) (wr : World) : Prop where
  out : ∃ (k : Nat) (s : Srch), k ≤ 16 ∧ vi = .int .i64 (k : Int) ∧ va = .int .u8 (s.last : Int) ∧ (k ≠ 0 → s.last ≠ 0) ∧ runS F 16 zeroS = runS F (16 - k) s ∧ Bnd (128 * F.length * k) s ∧ PBnd s ∧ Heap W (Cel ps (sr s.D s.P) 108 :: l2) wr
theorem runS_no {F : List Edg} {n : Nat} {s : Srch} (h : (onceS F s).last = 0) : runS F (n + 1) s = none := if_pos h
theorem runS_yes {F : List Edg} {n : Nat} {s : Srch} (h : (onceS F s).last ≠ 0) : runS F (n + 1) s = runS F n (onceS F s) := if_neg h
theorem round_H (ea : Option Addr) (en ec0 : Nat) (F : List Edg) (hl : F.length = en) (hn : en ≤ 1000000) (hF : ∀ x ∈ F, EdgOk x) (R : ∀ w', Heap W l w' → Rd w' ea (edgL F)) (H : Heap W l w) :
    Calls Try.prog 36 #[.slice ea en ec0] w (RoundPost W l (F.filter keepE)) := by
  have hn2 : F.length ≤ 1000000 := by omega
  have hk := keep_ok hF
  have hkl : (F.filter keepE).length ≤ 1000000 := Nat.le_trans (List.length_filter_le ..) hn2
  have C := clone_G (W := W) (l := l) (w := w) ea en ec0 F hl hn R H
  have DG := fun l1 a c w' hh H' => delete_G (W := W) (l := l) (w := w') (l1 := l1) (F := F) (a := a) (c := c) hh hn2 hF H'
  have HK := Lib.hid hk
  clear H R hF hk hl
  go_enter Try.func36, Try.ntmps36
  go_wp2_with (first
    | go_skip
    | ((with_reducible refine C.mono ?_); clear C; rintro _ _ ⟨a, c, l1, rfl, hh, H⟩)
    | ((with_reducible refine (DG _ _ _ _ hh H).mono ?_); clear H DG hh; rintro _ _ ⟨l2, rfl, hL, H⟩)
    | ((with_reducible show wpList _ _ _ (_ :: _) _ _); (with_reducible apply wpl_allocRH row_sr); (· rfl); (· exact H); (clear H; intro ps _ H); (simp only [Act.put, List.setIfInBounds_toArray, List.set_cons_zero, List.set_cons_succ])))
  go_step3
  go_wp2_with (first
    | go_skip
    | ((with_reducible refine C.mono ?_); clear C; rintro _ _ ⟨a, c, l1, rfl, hh, H⟩)
    | ((with_reducible refine (DG _ _ _ _ hh H).mono ?_); clear H DG hh; rintro _ _ ⟨l2, rfl, hL, H⟩)
    | ((with_reducible show wpList _ _ _ (_ :: _) _ _); (with_reducible apply wpl_allocRH row_sr); (· rfl); (· exact H); (clear H; intro ps _ H); (simp only [Act.put, List.setIfInBounds_toArray, List.set_cons_zero, List.set_cons_succ])))
  go_step3
  go_wp2_with (go_skip)
  generalize F.filter keepE = E at *
  have hst : PBnd zeroS := ⟨by decide, fun i => by show 0 < 17; omega⟩
  have H0 := H
  clear H
  go_loopw [5, 12] (fun va vi wr => SLoop W l2 E ps va vi wr) (fun _ vi _ => 16 - (intOf vi).toNat)
  case atStart => exact ⟨0, zeroS, by omega, rfl, rfl, (fun h => absurd rfl h), rfl, (fun i => by show -((128 * E.length * 0 : Nat) : Int) ≤ 0 ∧ (0 : Int) ≤ 0; omega), hst, H0⟩
  case round =>
    obtain ⟨k, s, hk, rfl, rfl, hne, hrun, hb, hp, H'⟩ := hrel.out
    clear H0 hrel hst
    have H := H'
    clear H'
    by_cases hlt : k < 16
    · have hon := once_H (W := W) (l := l2) (w := wr) ps a E.length c E rfl HK.out hL.rd s (128 * E.length * k) hb (by
        have : 128 * E.length * k ≤ 128 * E.length * 16 := Nat.mul_le_mul_left _ hk
        omega) H
      have hb2 := hb.once (F := E) fun x hx => (HK.out x hx).2.2.1
      have hp2 := hp.once (F := E) fun x hx => ⟨(HK.out x hx).1, (HK.out x hx).2.1⟩
      rw [show 16 - k = (15 - k) + 1 by omega] at hrun
      by_cases hz : (onceS E s).last = 0
      · rw [runS_no hz] at hrun
        have HR := Lib.hid hrun
        rw [hz] at hon
        clear hrun hne hb hp hb2 hp2 hz H
        go_wp2_with (first
          | go_skip
          | ((with_reducible refine hon.mono ?_); clear hon; rintro _ _ ⟨rfl, H⟩))
        rw [Exit.noGoto_ret]
        go_ret
        have e0 : roundOf E = [] := by unfold roundOf; rw [HR.out]
        refine ⟨_, rfl, ?_⟩
        rw [e0]
        exact ((hL.tail _ H.tail).nilRow _ _).slide
      · rw [runS_yes hz] at hrun
        have HR := Lib.hid hrun
        have hz1 : (((onceS E s).last : Int) == 0) = false := by simp; exact hz
        have hz2 : decide (((onceS E s).last : Int) = 0) = false := by simp; exact hz
        have HB := Lib.hid hb2
        have HP := Lib.hid hp2
        have HZ := Lib.hid hz
        have hl17 := hp2.1
        clear hrun hne hb hp hb2 hp2 hz H
        generalize onceS E s = s2 at *
        go_wp2_with (first
          | go_skip
          | ((with_reducible refine hon.mono ?_); clear hon; rintro _ _ ⟨rfl, H⟩))
        refine ⟨⟨k + 1, s2, by omega, by go_num, rfl, fun _ => HZ.out, ?_, ?_, HP.out, H⟩, ?measure⟩
        · rw [HR.out, show 16 - (k + 1) = 15 - k by omega]
        · have := HB.out
          rw [show 128 * E.length * (k + 1) = 128 * E.length * k + 128 * E.length by rw [Nat.mul_add, Nat.mul_one]]
          exact this
        case measure => simp [intOf]; omega
    · obtain rfl : k = 16 := by omega
      have hz := hne (by omega)
      have hz1 : ((s.last : Int) == 0) = false := by simp; exact hz
      have hz2 : decide ((s.last : Int) = 0) = false := by simp; exact hz
      have HR := Lib.hid (show runS E 16 zeroS = some s from hrun)
      have HP := Lib.hid hp.2
      have hl17 := hp.1
      clear hrun hne hb hp hz
      go_wp2_with (go_skip)
      have H0 := H
      clear H
      go_loopw [5, 21] (fun va vi wr => BLoop W l2 s ps va vi wr) (fun _ vi _ => 16 - (intOf vi).toNat)
      case atStart => exact ⟨0, s.last, by omega, rfl, rfl, hl17, rfl, H0⟩
      case round =>
        obtain ⟨k, b, hkk, rfl, rfl, hb17, hbk, H'⟩ := hrel.out
        clear H0 hrel
        have H := H'
        clear H'
        by_cases hlt2 : k < 16
        · have hP := HP.out b
          rw [show 16 - k = (15 - k) + 1 by omega] at hbk
          have HBK := Lib.hid (show back s.P 16 s.last = back s.P (15 - k) (s.P b) from hbk)
          clear hbk
          go_wp2_with (first
            | go_skip
            | ((with_reducible show wpList _ _ _ (_ :: _) _ _); (with_reducible apply wpl_loadCH); (· exact cell_party); (· rfl); (· rfl); (· exact H); (· exact List.mem_cons_self); (· exact sr_getP _ _ hb17); (simp only [Act.put, List.setIfInBounds_toArray, List.set_cons_zero, List.set_cons_succ])))
          refine ⟨⟨k + 1, s.P b, by omega, by go_num, rfl, hP, ?_, H⟩, ?measure3⟩
          · rw [HBK.out, show 16 - (k + 1) = 15 - k by omega]
          case measure3 => simp [intOf]; omega
        · obtain rfl : k = 16 := by omega
          have HBK := Lib.hid (show back s.P 16 s.last = b from hbk)
          clear hbk
          go_wp2_with (first | go_skip | ((with_reducible show wpList _ _ _ (_ :: _) _ _); (with_reducible apply wpl_allocRH row_came); (· rfl); (· exact H); (clear H; intro pb _ H); (simp only [Act.put, List.setIfInBounds_toArray, List.set_cons_zero, List.set_cons_succ])))
          have H0 := H.nilRow 33 1
          clear H
          go_loopg [5, 7] 18 (fun m va vo wr => OLoop W l2 s ps pb b m va vo wr)
          case atStart => exact ⟨b, 18, [], rfl, hb17, Nat.le_refl _, rfl, List.nodup_nil, (fun x hx => by cases hx), rfl, fun _ => rfl, H0⟩
          case round =>
            obtain ⟨a1, f, L, rfl, ha17, hfm, hfl, hnd, hL17, hor, hnil, H'⟩ := hrel.out
            clear H0 hrel
            have H := H'
            clear H'
            have hL1 := nodup_17 hnd hL17
            have hq1 : L.length + 1 ≤ maxLen := by unfold maxLen; omega
            have hq2 : (L.length + 1) * 1 ≤ 140737488355328 := by omega
            obtain ⟨f, rfl⟩ : ∃ f', f = f' + 1 := ⟨f - 1, by omega⟩
            by_cases hin : a1 ∈ L
            · rw [orbit_in hin] at hor
              have hget : (cameB L)[a1]? = some (.bool true) := by rw [cameB_get L ha17]; simp [hin]
              have hL0 : 0 < L.length := List.length_pos_of_mem hin
              obtain ⟨gl, ml, cl, rfl, hm1, hm2, hcl, htl, H2⟩ := H.rowCel hL0
              clear H
              have H := H2
              clear H2
              obtain ⟨rl, rfl⟩ := pc_of htl
              have HOR := Lib.hid hor
              clear hor hin hnil hfm hfl
              go_wp2_with (first
                | go_skip
                | ((with_reducible show wpList _ _ _ (_ :: _) _ _); (with_reducible apply wpl_loadCH); (· exact cell_bool); (· rfl); (· rfl); (· exact H); (· exact List.mem_cons_of_mem _ List.mem_cons_self); (· exact hget); (simp only [Act.put, List.setIfInBounds_toArray, List.set_cons_zero, List.set_cons_succ])))
              have hLm : L.length ≤ 1000000 := by omega
              go_wp2_with ((with_reducible refine (reverse_H _ _ _ L _ rfl hLm H).mono ?_); clear H; rintro _ _ ⟨rfl, H⟩)
              have hML : L.reverse.length = L.length := List.length_reverse
              have hM255 : ∀ y ∈ L.reverse, y ≤ 255 := fun y hy => by have := hL17 y (List.mem_reverse.1 hy); omega
              have hmm := minL_mem (L := L.reverse) (by rw [hML]; exact hL0)
              have hmi := hM255 _ hmm
              have hRd : ∀ w', Heap W (Cel gl (pc L.reverse rl) 33 :: Cel pb (cameB L) 87 :: Cel ps (sr s.D s.P) 108 :: l2) w' → Rd w' (some ⟨gl, 0, none⟩) (L.reverse.map pv) := fun w' H' => pc_rd H' List.mem_cons_self
              have MA := min_H gl 0 L.length ml L.reverse hML hL0 (by omega) hM255 hRd
              have IA := index_H gl 0 L.length ml L.reverse (minL L.reverse) hML (by omega) hM255 hmm hRd
              have hidx : L.reverse.idxOf (minL L.reverse) < L.length := by rw [← hML]; exact List.idxOf_lt_length_of_mem hmm
              have HOM := Lib.hid (show roundOf E = turnL L.reverse by unfold roundOf; rw [HR.out]; simp only [HBK.out, HOR.out])
              unfold turnL at HOM
              have HT := Lib.hid hRd
              clear hRd hM255 hnd hL17
              generalize L.reverse = M at *
              generalize M.idxOf (minL M) = j at *
              generalize minL M = mn at *
              go_wp2_with (first | go_skip | ((with_reducible refine AnsH.call (by assumption) H ?_); clear H; intro _ H))
              have hjm : j < ml := by omega
              have hA : (M.drop j).length = L.length - j := by rw [List.length_drop, hML]
              have hB : (M.take j).length = j := by rw [List.length_take, hML]; omega
              clear MA IA hmm
              refine wp_region_H_tail 6 H (by kernel_rfl) (by kernel_rfl) ?_
              simp only [List.take_succ_cons, List.take_zero, List.drop_succ_cons, List.drop_zero]
              repeat (first | go_big_quiet_skip | fail | go_big_quiet_step (fail))
              refine wpQuiet_nil ?_
              clear H
              intro _ H
              have CC : ∀ pq W0, Heap W (Cel pq #[.slice (some ⟨gl, j, none⟩) (L.length - j) (ml - j), .slice (some ⟨gl, 0, none⟩) j ml] 67 :: Cel gl (pc M rl) 33 :: Cel pb (cameB L) 87 :: Cel ps (sr s.D s.P) 108 :: l2) W0 → Calls Try.prog 62 #[.slice (some ⟨pq, 0, none⟩) 2 2] W0 fun e w' => ∃ v, e = .returned v ∧ Heap W (RowT 33 1 v (roundOf E).length ((roundOf E).map pv) :: Cel pq #[.slice (some ⟨gl, j, none⟩) (L.length - j) (ml - j), .slice (some ⟨gl, 0, none⟩) j ml] 67 :: Cel gl (pc M rl) 33 :: Cel pb (cameB L) 87 :: Cel ps (sr s.D s.P) 108 :: l2) w' := by
                intro pq W0 H'
                have hc := concat_H (W := W) (l := Cel pq #[.slice (some ⟨gl, j, none⟩) (L.length - j) (ml - j), .slice (some ⟨gl, 0, none⟩) j ml] 67 :: Cel gl (pc M rl) 33 :: Cel pb (cameB L) 87 :: Cel ps (sr s.D s.P) 108 :: l2) (w := W0) pq gl j (ml - j) 0 ml (M.drop j) (M.take j) (by rw [hA, hB]; omega) (by rw [hA]; omega) (by rw [hB]; omega)
                  (fun w' h => by have := (HT.out w' h.tail).dropN j; rw [Nat.zero_add, ← List.map_drop] at this; exact this)
                  (fun w' h => by have := (HT.out w' h.tail).takeN j; rw [← List.map_take] at this; exact this)
                  (by rw [hA, hB]; exact List.mem_cons_self) H'
                rw [← List.length_append, ← HOM.out] at hc
                exact hc
              clear HT
              go_wp2_with (first
                | go_skip
                | ((with_reducible show wpList _ _ _ (_ :: _) _ _); (with_reducible apply wpl_bsOnes _ [.slice (some ⟨gl, j, none⟩) (L.length - j) (ml - j), .slice (some ⟨gl, 0, none⟩) j ml]); (· rfl); (· rfl); (· rfl); (· decide); (· decide); (· (intro v hv; simp at hv; rcases hv with rfl | rfl <;> rfl)); (· exact ⟨Try.underlying123, by kernel_rfl⟩); (· rfl); (· exact H); (clear H; intro pq _ H); (simp only [Act.put, List.setIfInBounds_toArray, List.set_cons_zero, List.set_cons_succ]))
                | ((with_reducible refine (CC _ _ (H.alloc _ _)).mono ?_); clear H; rintro _ _ ⟨vr, rfl, H⟩))
              rw [Exit.noGoto_ret]
              go_ret
              exact ⟨_, rfl, Heap.slide (hL.front ((((H.drop (.there .here)).drop (.there .here)).drop (.there .here)).drop (.there .here)))⟩
            · rw [orbit_out hin] at hor
              have hget : (cameB L)[a1]? = some (.bool false) := by rw [cameB_get L ha17]; simp [hin]
              have HOR := Lib.hid hor
              have HND := Lib.hid (show (L ++ [a1]).Nodup by
                rw [List.nodup_append]
                exact ⟨hnd, List.nodup_cons.2 ⟨List.not_mem_nil, List.nodup_nil⟩, fun x hx y hy e => by
                  simp at hy; subst hy; subst e; exact hin hx⟩)
              have hP := HP.out a1
              clear hor hin hnil hnd
              go_wp2_with (first
                | go_skip
                | ((with_reducible show wpList _ _ _ (_ :: _) _ _); (with_reducible apply wpl_loadCH); (· exact cell_bool); (· rfl); (· rfl); (· exact H); (· exact List.mem_cons_of_mem _ List.mem_cons_self); (· exact hget); (simp only [Act.put, List.setIfInBounds_toArray, List.set_cons_zero, List.set_cons_succ]))
                | ((with_reducible show wpList _ _ _ (_ :: _) _ _); (with_reducible apply wpl_storeBH); (· exact cell_bool); (· rfl); (· rfl); (· rfl); (· exact H); (· exact List.mem_cons_of_mem _ List.mem_cons_self); (· (rw [cameB_sz]; omega)); (· exact cameB_set _ ha17); (· exact Repl.there Repl.here); (clear H; intro _ H); (simp only [Act.put, List.setIfInBounds_toArray, List.set_cons_zero, List.set_cons_succ]))
                | ((with_reducible show wpList _ _ _ (_ :: _) _ _); (with_reducible apply wpl_bsOnes _ [.int .u8 (a1 : Int)]); (· rfl); (· rfl); (· rfl); (· decide); (· decide); (· exact pv_ones a1); (· exact bs_party); (· rfl); (· exact H); (clear H; intro pk _ H); (simp only [Act.put, List.setIfInBounds_toArray, List.set_cons_zero, List.set_cons_succ]))
                | ((with_reducible show wpList _ _ _ (_ :: _) _ _); (with_reducible apply wpl_appendH slP); (· rfl); (· rfl); (· rfl); (· rfl); (· exact H.perm (.swap _ _ _)); (· exact H.celRd List.mem_cons_self); (· rfl); (· exact pv_one a1); (· exact hq1); (· exact hq2); (clear H; intro v2 _ H); (simp only [Act.put, List.setIfInBounds_toArray, List.set_cons_zero, List.set_cons_succ]))
                | ((with_reducible show wpList _ _ _ (_ :: _) _ _); (with_reducible apply wpl_loadCH); (· exact cell_party); (· rfl); (· rfl); (· exact H); (· (repeat (first | (with_reducible exact List.mem_cons_self) | with_reducible apply List.mem_cons_of_mem))); (· exact sr_getP _ _ ha17); (simp only [Act.put, List.setIfInBounds_toArray, List.set_cons_zero, List.set_cons_succ])))
              go_roundg f
              case measure => omega
              case rel =>
                refine ⟨s.P a1, f, L ++ [a1], rfl, hP, Nat.le_refl _, ?_, HND.out, ?_, HOR.out, ?_, ?_⟩
                · rw [List.length_append, List.length_singleton]; omega
                · intro x hx
                  rcases List.mem_append.1 hx with hx | hx
                  · exact hL17 x hx
                  · rw [List.mem_singleton] at hx; subst hx; exact ha17
                · intro e; exact absurd e (by simp)
                · rw [List.length_append, List.map_append]
                  exact H.drop (.there .here)
end
end Go.Proofs.Ytglehneaphigdaa

/- countinghouselaw01's SameParties. -/
namespace Go.Proofs.Ytglehneaphigdaa
open Go.RowKit
set_option linter.unusedSimpArgs false
set_option linter.unusedVariables false
section
variable {ops : Array Oper} {rest : List Oper} {a : Act} {w W : World} {l : List Thing}
theorem wpQ_loadCell {T : TypeId} {dst : Option Tmp} {ty : TypeId} {pos : String} {after : Array Edge} {guard : Option (Nat × Bool)} {x : Operand} {b off : Nat} {K : Act → Prop} {H : Heap W l w} (CT : CellTy T) (hw : Region.wanted ⟨dst, .load T x, ty, pos, after, guard⟩ (yielded ops a.tmps) = true) (hx : a.eval x = .pointer (some ⟨b, off, none⟩))
    {v : Value} (hc : ∀ w', Heap W l w' → w'.cell? ⟨b, off, none⟩ = some v)
    (h : wpQuiet Try.prog ops (fun w' => ∃ d, w' = H.any d) K rest (a.put dst v)) : wpQuiet Try.prog ops (fun w' => ∃ d, w' = H.any d) K (⟨dst, .load T x, ty, pos, after, guard⟩ :: rest) a := by
  refine BigFrame.wpQuiet_want hw fun K hK => ⟨v, ?_, hK _ h⟩
  rintro _ ⟨d, rfl⟩
  have hv := hc _ (H.any_heap d)
  simp only [World.cell?, if_true] at hv
  cases hb : (H.any d).heap[b]? with
  | none => rw [hb] at hv; cases hv
  | some o =>
    rw [hb] at hv
    cases o <;> first | (cases hv; done) | skip
    rename_i cs t f
    unfold Oper.quietAt execOp
    simp only [hx, Sem.run_bind, run_loadC CT hb hv]
    exact ⟨rfl, rfl⟩
end
section
variable {W w : World} {l : List Thing}
set_option maxRecDepth 100000
set_option maxHeartbeats 2000000
theorem same_no {A B : List Nat} (a b : Option Addr) (n m c d : Nat) (hA : A.length = n) (hB : B.length = m) (hn : n ≤ 1000000) (hm : m ≤ 1000000) (hne : n ≠ m) : AnsH W l 63 #[.slice a n c, .slice b m d] (.bool false) := by
  intro w H
  have e1 : ((n : Int) != (m : Int)) = true := by simp; omega
  have e2 : ((n : Int) == (m : Int)) = false := by simp; omega
  go_enter Try.func63, Try.ntmps63
  go_wp2_with (go_skip)
  go_ret
  exact ⟨rfl, H⟩
structure SameLoop (W : World) (l : List Thing) (A B : List Nat) (n : Nat) (vi : Value) (wr : World) : Prop where
  out : ∃ k : Nat, k ≤ n ∧ vi = .int .i64 (k : Int) ∧ A.take k = B.take k ∧ Heap W l wr
theorem same_P {A B : List Nat} (a b : Option Addr) (n c d : Nat) (hA : A.length = n) (hB : B.length = n) (hn : n ≤ 1000000) (hA8 : ∀ x ∈ A, x ≤ 255) (hB8 : ∀ x ∈ B, x ≤ 255) (RA : ∀ w', Heap W l w' → Rd w' a (A.map pv)) (RB : ∀ w', Heap W l w' → Rd w' b (B.map pv)) :
    AnsH W l 63 #[.slice a n c, .slice b n d] (.bool (decide (A = B))) := by
  intro w H
  have HA := Lib.hid hA
  have HB := Lib.hid hB
  have HRA := Lib.hid RA
  have HRB := Lib.hid RB
  clear hA hB RA RB hA8 hB8
  generalize hres : decide (A = B) = res
  have HRES := Lib.hid hres
  clear hres
  go_enter Try.func63, Try.ntmps63
  go_wp2_with (go_skip)
  have H0 := H
  clear H
  go_loopw [5] (fun vi wr => SameLoop W l A B n vi wr) (fun vi _ => n - (intOf vi).toNat)
  case atStart => exact ⟨0, Nat.zero_le _, rfl, rfl, H0⟩
  case round =>
    obtain ⟨k, hk, rfl, ht, H'⟩ := hrel.out
    clear H0 hrel
    have H := H'
    clear H'
    by_cases hlt : k < n
    · have hkA : k < A.length := by rw [HA.out]; exact hlt
      have hkB : k < B.length := by rw [HB.out]; exact hlt
      have hx : A[k]? = some A[k] := List.getElem?_eq_getElem hkA
      have hy : B[k]? = some B[k] := List.getElem?_eq_getElem hkB
      have HT := Lib.hid ht
      clear ht
      generalize A[k] = x at *
      generalize B[k] = y at *
      obtain ⟨ba, oa, rfl, _⟩ := (HRA.out _ H).lt (by rw [List.length_map]; omega)
      obtain ⟨bb, ob, rfl, _⟩ := (HRB.out _ H).lt (by rw [List.length_map]; omega)
      have hcx : ∀ w', Heap W l w' → w'.cell? ⟨ba, oa + k, none⟩ = some (.int .u8 (x : Int)) := fun w' h => rd_party (HRA.out w' h) hx
      have hcy : ∀ w', Heap W l w' → w'.cell? ⟨bb, ob + k, none⟩ = some (.int .u8 (y : Int)) := fun w' h => rd_party (HRB.out w' h) hy
      by_cases he : x = y
      · subst he
        have e1 : ((x : Int) != (x : Int)) = false := by simp
        have HS := Lib.hid (show A.take (k + 1) = B.take (k + 1) by rw [List.take_add_one, List.take_add_one, hx, hy, HT.out])
        clear hx hy
        go_wp2_with (go_skip)
        refine wp_region_H H (by kernel_rfl) (by kernel_rfl) ?_
        repeat (first | go_big_quiet_skip | (first | ((with_reducible apply wpQ_loadCell); (· exact cell_party); (· rfl); (· rfl); (· exact hcx); (simp only [Act.put, List.setIfInBounds_toArray, List.set_cons_zero, List.set_cons_succ])) | ((with_reducible apply wpQ_loadCell); (· exact cell_party); (· rfl); (· rfl); (· exact hcy); (simp only [Act.put, List.setIfInBounds_toArray, List.set_cons_zero, List.set_cons_succ]))) | go_big_quiet_step (fail))
        refine wpQuiet_nil ?_
        clear H
        intro _ H
        go_wp2_with (go_skip)
        refine ⟨⟨k + 1, by omega, by go_num, HS.out, H⟩, ?measure⟩
        case measure => simp [intOf]; omega
      · have e1 : ((x : Int) != (y : Int)) = true := by simp; omega
        have HN := Lib.hid (show A ≠ B from fun e => by subst e; rw [hx] at hy; exact he (Option.some.inj hy))
        clear hx hy he
        go_wp2_with (go_skip)
        refine wp_region_H H (by kernel_rfl) (by kernel_rfl) ?_
        repeat (first | go_big_quiet_skip | (first | ((with_reducible apply wpQ_loadCell); (· exact cell_party); (· rfl); (· rfl); (· exact hcx); (simp only [Act.put, List.setIfInBounds_toArray, List.set_cons_zero, List.set_cons_succ])) | ((with_reducible apply wpQ_loadCell); (· exact cell_party); (· rfl); (· rfl); (· exact hcy); (simp only [Act.put, List.setIfInBounds_toArray, List.set_cons_zero, List.set_cons_succ]))) | go_big_quiet_step (fail))
        refine wpQuiet_nil ?_
        clear H
        intro _ H
        go_wp2_with (go_skip)
        go_ret
        rw [← HRES.out, decide_eq_false HN.out]
        exact ⟨rfl, H⟩
    · obtain rfl : k = n := by omega
      have HE := Lib.hid (show A = B by
        have h := ht
        rw [List.take_of_length_le (by rw [HA.out]; exact Nat.le_refl _), List.take_of_length_le (by rw [HB.out]; exact Nat.le_refl _)] at h
        exact h)
      clear ht
      go_wp2_with (go_skip)
      go_ret
      rw [← HRES.out, decide_eq_true HE.out]
      exact ⟨rfl, H⟩
end
end Go.Proofs.Ytglehneaphigdaa

/- SameParties, over same. -/
namespace Go.Proofs.Ytglehneaphigdaa
open Go.RowKit
set_option linter.unusedSimpArgs false
set_option linter.unusedVariables false
section
variable {W w : World} {l : List Thing}
set_option maxRecDepth 100000
set_option maxHeartbeats 2000000
theorem sameParties_P {A B : List Nat} (a b : Option Addr) (n c d : Nat) (hA : A.length = n) (hB : B.length = n) (hn : n ≤ 1000000) (hA8 : ∀ x ∈ A, x ≤ 255) (hB8 : ∀ x ∈ B, x ≤ 255) (RA : ∀ w', Heap W l w' → Rd w' a (A.map pv)) (RB : ∀ w', Heap W l w' → Rd w' b (B.map pv)) :
    AnsH W l 37 #[.slice a n c, .slice b n d] (.bool (decide (A = B))) := by
  intro w H
  have S := same_P (W := W) (l := l) a b n c d hA hB hn hA8 hB8 RA RB
  clear RA RB
  generalize decide (A = B) = res at *
  go_enter Try.func37, Try.ntmps37
  go_wp2_with (first | go_skip | ((with_reducible refine AnsH.call (by assumption) H ?_); clear H; intro _ H))
  go_ret
  exact ⟨rfl, H⟩
end
end Go.Proofs.Ytglehneaphigdaa

/- countinghouselaw05.lives; graphs.Of of no ledger. -/
namespace Go.Proofs.Ytglehneaphigdaa
open Go.RowKit
set_option linter.unusedSimpArgs false
set_option linter.unusedVariables false
section
variable {ops : Array Oper} {rest : List Oper} {a : Act} {w W : World} {l : List Thing} {Q : Exit → Act → World → Prop}
theorem wpl_loadRdR0 {T n : Nat} {z : Array Value} {dst : Option Tmp} {ty : TypeId} {pos : String} {after : Array Edge} {guard : Option (Nat × Bool)} {x : Operand} {b o : Nat} (RT : RowTy T n z) (hw : Region.wanted ⟨dst, .load T x, ty, pos, after, guard⟩ (yielded ops a.tmps) = true) (hx : a.eval x = .pointer (some ⟨b, o, none⟩))
    {xs : List Value} {c1 : Array Value} (R : Rd w (some ⟨b, o, none⟩) xs) (hn : 0 + n ≤ xs.length) (h0 : 0 < n) (hv : ((xs.drop 0).take n).toArray = c1) (h : wpList Try.prog ops Q rest (a.put dst (.agg c1)) w) : wpList Try.prog ops Q (⟨dst, .load T x, ty, pos, after, guard⟩ :: rest) a w :=
  wpl_loadRdR RT hw hx R rfl hn h0 hv h
end
section
variable {W w : World} {l : List Thing}
set_option maxRecDepth 100000
set_option maxHeartbeats 1000000
theorem lthere_nil : Ans 71 #[.pointer none] (.bool false) := by
  intro w
  go_enter Try.func71, Try.ntmps71
  go_wp2_with fail
  go_ret
  exact ⟨rfl, (by repeat (first | exact Ext.refl _ | refine Ext.alloc ?_ _ | refine Ext.ext ?_ _ | refine Ext.drew ?_))⟩
theorem parties_nil : Ans 66 #[.pointer none] (.slice none 0 0) := by
  intro w
  have h := lthere_nil
  go_enter Try.func66, Try.ntmps66
  go_wp2_with (first | go_skip | ((with_reducible refine Ans.call (by assumption) ?_); intro _))
  go_ret
  exact ⟨rfl, (by repeat (first | exact Ext.refl _ | refine Ext.alloc ?_ _ | refine Ext.ext ?_ _ | refine Ext.drew ?_))⟩
theorem of_nil (H : Heap W l w) (cur : Int) : Calls Try.prog 42 #[.pointer none, .int .u8 cur] w fun e w' => ∃ p, e = .returned (.pointer (some ⟨p, 0, none⟩)) ∧ Heap W (Gr p zeroC :: l) w' := by
  have h := parties_nil
  go_enter Try.func42, Try.ntmps42
  go_wp2_with (first
    | go_skip
    | ((with_reducible show wpList _ _ _ (_ :: _) _ _); (with_reducible apply wpl_boxRH); (· rfl); (· rfl); (· exact H); (clear H; intro p _ H); (simp only [Act.put, List.setIfInBounds_toArray, List.set_cons_zero, List.set_cons_succ]))
    | ((with_reducible refine Ans.callH (by assumption) H ?_); clear H; intro _ H))
  rw [zero_gr] at H
  refine wp_loop_once ?_
  go_wp2_with fail
  go_ret
  exact ⟨p, rfl, H⟩
def lc0 : Caps := upd2 (upd2 zeroC 1 2 5) 2 1 1
def lc1 : Caps := pushC lc0 1 2 3
def lc2 : Caps := pushC lc1 2 1 4
theorem lc2_edges : edgesOf lc2 = [⟨1, 2, 6⟩] := by kernel_rfl
theorem lc_row : (((flwL [⟨1, 2, 6⟩]).drop 0).take 3).toArray = #[.int .u8 1, .int .u8 2, .int .i64 6] := rfl
theorem flw2 : ([.int .u8 1, .int .u8 2, .int .i64 5, .int .u8 2, .int .u8 1, .int .i64 1] : List Value) = flwL [⟨1, 2, 5⟩, ⟨2, 1, 1⟩] := rfl
theorem lives05_H (H : Heap W l w) : Calls Try.prog 12 #[] w fun e w' => e = .returned (.bool true) ∧ Heap W l w' := by
  go_enter Try.func12, Try.ntmps12
  go_wp2_with fail
  have C := new_H (some ⟨w.heap.size, 0, none⟩) 2 2 [⟨1, 2, 5⟩, ⟨2, 1, 1⟩] rfl (by omega) (by simp [FlwOk]) (fun w' H' => H'.celRd List.mem_cons_self) (H.alloc #[.int .u8 1, .int .u8 2, .int .i64 5, .int .u8 2, .int .u8 1, .int .i64 1] 35)
  clear H
  refine C.mono ?_
  clear C
  rw [show newG [⟨1, 2, 5⟩, ⟨2, 1, 1⟩] = some lc0 from rfl]
  rintro e w1 ⟨p, rfl, H⟩
  replace H := H.drop (.there .here)
  go_wp2_with fail
  have C := push_ok (p := p) (c := lc0) 1 2 3 (by decide) (by decide) (by decide) (by decide) H (by decide) (by decide) (by decide) (by decide) (by decide)
  clear H
  refine C.mono ?_
  clear C
  rintro e w1 ⟨rfl, H⟩
  go_wp2_with fail
  rw [show pushC lc0 1 2 3 = lc1 from rfl] at H
  have C := cap_H (W := W) (l := Gr p lc1 :: l) (p := p) (c := lc1) 1 2 (by decide) (by decide) List.mem_cons_self _ H
  clear H
  refine C.mono ?_
  clear C
  rintro e w1 ⟨rfl, H⟩
  rw [show capOf lc1 1 2 = 2 by decide]
  go_wp2_with fail
  have C := cap_H (W := W) (l := Gr p lc1 :: l) (p := p) (c := lc1) 2 1 (by decide) (by decide) List.mem_cons_self _ H
  clear H
  refine C.mono ?_
  clear C
  rintro e w1 ⟨rfl, H⟩
  rw [show capOf lc1 2 1 = 4 by decide]
  go_wp2_with fail
  have C := push_route (W := W) (l := Gr p lc1 :: l) (p := p) (c := lc1) 1 2 3 (by decide) (by decide) List.mem_cons_self (by decide) (by decide) _ H
  clear H
  refine C.mono ?_
  clear C
  rintro e w1 ⟨rfl, H⟩
  go_wp2_with fail
  have C := push_ok (p := p) (c := lc1) 2 1 4 (by decide) (by decide) (by decide) (by decide) H (by decide) (by decide) (by decide) (by decide) (by decide)
  clear H
  refine C.mono ?_
  clear C
  rintro e w1 ⟨rfl, H⟩
  go_wp2_with fail
  rw [show pushC lc1 2 1 4 = lc2 from rfl] at H
  have C := edges_H H List.mem_cons_self
  clear H
  refine C.mono ?_
  clear C
  rintro e w1 hP
  rw [lc2_edges] at hP
  rcases hP with ⟨h0, _⟩ | ⟨_, g, cc, rfl, _, H⟩
  · cases h0
  have HR := Lib.hid (H.slRd List.mem_cons_self)
  go_wp2_with (first
    | go_skip
    | ((with_reducible show wpList _ _ _ (_ :: _) _ _); (with_reducible apply wpl_loadRdR0 row_flow); (· rfl); (· rfl); (· exact HR.out); (· decide); (· decide); (· exact lc_row); (simp only [Act.put, List.setIfInBounds_toArray, List.set_cons_zero, List.set_cons_succ])))
  go_ret
  exact ⟨rfl, H.tail.tail⟩
end
end Go.Proofs.Ytglehneaphigdaa

/- countinghouselaw06.lives. -/
namespace Go.Proofs.Ytglehneaphigdaa
open Go.RowKit
set_option linter.unusedSimpArgs false
set_option linter.unusedVariables false
def l6 : List Flw := [⟨1, 2, 1⟩, ⟨2, 4, 1⟩, ⟨1, 3, 1⟩, ⟨3, 4, 1⟩, ⟨2, 3, 1⟩]
def c6 : Caps := upd2 (upd2 (upd2 (upd2 (upd2 zeroC 1 2 1) 2 4 1) 1 3 1) 3 4 1) 2 3 1
theorem new6 : newG l6 = some c6 := rfl
theorem round6a : roundOf ([⟨1, 2, 1⟩, ⟨2, 3, 1⟩, ⟨3, 1, -3⟩] : List Edg) = [1, 2, 3] := by decide +kernel
theorem round6b : roundOf ([⟨1, 2, 1⟩, ⟨2, 1, -1⟩] : List Edg) = [] := by decide +kernel
theorem round6c : roundOf ([⟨3, 3, -1⟩] : List Edg) = [3] := by decide +kernel
def d4 : Nat → Nat := fun p => if p = 4 then 0 else if p = 2 ∨ p = 3 then 1 else if p = 1 then 2 else 17
def d1 : Nat → Nat := fun p => if p = 1 then 0 else 17
theorem edges6 : ∀ p q : Fin 17, edge c6 p q = true → (p.val = 1 ∧ q.val = 2) ∨ (p.val = 2 ∧ q.val = 4) ∨ (p.val = 1 ∧ q.val = 3) ∨ (p.val = 3 ∧ q.val = 4) ∨ (p.val = 2 ∧ q.val = 3) := by decide +kernel
theorem edge6 {p q : Nat} (h : edge c6 p q = true) : (p = 1 ∧ q = 2) ∨ (p = 2 ∧ q = 4) ∨ (p = 1 ∧ q = 3) ∨ (p = 3 ∧ q = 4) ∨ (p = 2 ∧ q = 3) := by
  have hb := edge_le h
  exact edges6 ⟨p, by omega⟩ ⟨q, by omega⟩ h
theorem dist4 : IsDist (edge c6) 4 d4 := by
  refine ⟨rfl, fun p => ?_, fun p hp => ?_, fun p q h => ?_, fun p hp hne => ?_⟩
  · unfold d4; repeat' split
    all_goals omega
  · unfold d4 at *; repeat' split at hp
    all_goals (repeat' split) <;> omega
  · rcases edge6 h with ⟨rfl, rfl⟩ | ⟨rfl, rfl⟩ | ⟨rfl, rfl⟩ | ⟨rfl, rfl⟩ | ⟨rfl, rfl⟩ <;> decide
  · have : p = 1 ∨ p = 2 ∨ p = 3 := by
      unfold d4 at hp
      rw [if_neg hne] at hp
      split at hp
      · omega
      · split at hp <;> omega
    rcases this with rfl | rfl | rfl
    · exact ⟨2, by decide +kernel, rfl⟩
    · exact ⟨4, by decide +kernel, rfl⟩
    · exact ⟨4, by decide +kernel, rfl⟩
theorem dist1 : IsDist (edge c6) 1 d1 := by
  refine ⟨rfl, fun p => ?_, fun p hp => ?_, fun p q h => ?_, fun p hp hne => ?_⟩
  · unfold d1; split <;> omega
  · unfold d1 at *
    by_cases e : p = 1
    · subst e; exact ⟨by omega, by omega, by decide⟩
    · rw [if_neg e] at hp; omega
  · rcases edge6 h with ⟨rfl, rfl⟩ | ⟨rfl, rfl⟩ | ⟨rfl, rfl⟩ | ⟨rfl, rfl⟩ | ⟨rfl, rfl⟩ <;> decide
  · unfold d1 at hp; rw [if_neg hne] at hp; omega
theorem next12 : IsNext (edge c6) d4 1 2 := ⟨by omega, by omega, ⟨rfl, by decide +kernel⟩, fun q h1 h2 => by
  obtain rfl : q = 1 := by omega
  intro h; exact absurd h.1 (by decide)⟩
theorem next24 : IsNext (edge c6) d4 2 4 := ⟨by omega, by omega, ⟨rfl, by decide +kernel⟩, fun q h1 h2 h => by
  have := edge6 h.2
  have h3 : d4 q + 1 = d4 2 := h.1
  have : q = 3 ∨ q = 4 := by omega
  obtain rfl : q = 3 := by omega
  exact absurd h3 (by decide)⟩
theorem way6 : Way (edge c6) d4 1 4 [1, 2, 4] := ⟨rfl, rfl, rfl, fun i x y h1 h2 => by
  rcases i with _ | _ | i
  · simp at h1 h2; subst h1 h2; exact next12
  · simp at h1 h2; subst h1 h2; exact next24
  · simp at h2⟩
theorem short6 {L : List Nat} (h : IsShort c6 1 4 L) : L = [1, 2, 4] := by
  rcases h with ⟨_, h | h | h | ⟨d, hd, h⟩⟩ | ⟨_, _, _, d, hd, _, hw⟩
  · exact absurd h (by decide)
  · exact absurd h (by decide)
  · omega
  · rw [hd.eq dist4 1] at h; exact absurd h (by decide)
  · obtain rfl : d = d4 := funext (hd.eq dist4)
    exact hw.eq way6
theorem short6b {L : List Nat} (h : IsShort c6 4 1 L) : L = [] := by
  rcases h with ⟨h, _⟩ | ⟨_, _, _, d, hd, h, _⟩
  · exact h
  · rw [hd.eq dist1 4] at h; exact absurd h (by decide)
section
variable {W w : World} {l : List Thing}
set_option maxRecDepth 100000
set_option maxHeartbeats 2000000
theorem lives06_H (H : Heap W l w) : Calls Try.prog 35 #[] w fun e w' => e = .returned (.bool true) ∧ Heap W l w' := by
  go_enter Try.func35, Try.ntmps35
  go_wp2_with (go_skip)
  have C := new_H (some ⟨w.heap.size, 0, none⟩) 5 5 l6 rfl (by omega) (by intro x hx; simp [l6] at hx; rcases hx with rfl | rfl | rfl | rfl | rfl <;> (unfold FlwOk; simp)) (fun w' H' => H'.celRd List.mem_cons_self) (H.alloc #[.int .u8 1, .int .u8 2, .int .i64 1, .int .u8 2, .int .u8 4, .int .i64 1, .int .u8 1, .int .u8 3, .int .i64 1, .int .u8 3, .int .u8 4, .int .i64 1, .int .u8 2, .int .u8 3, .int .i64 1] 35)
  clear H
  refine C.mono ?_
  clear C
  rw [new6]
  rintro e w1 ⟨p, rfl, H⟩
  replace H := H.drop (.there .here)
  go_wp2_with (go_skip)
  have C := short_H 1 4 (by omega) (by omega) (CapsOf.gr (W := W) (p := p) (c := c6) List.mem_cons_self) H
  clear H
  refine C.mono ?_
  clear C
  rintro e w2 ⟨va, La, rfl, hs, H⟩
  obtain rfl := short6 hs
  clear hs
  go_wp2_with (go_skip)
  have C := round_H (some ⟨w2.heap.size, 0, none⟩) 3 3 [⟨1, 2, 1⟩, ⟨2, 3, 1⟩, ⟨3, 1, -3⟩] rfl (by omega) (by intro x hx; simp at hx; rcases hx with rfl | rfl | rfl <;> (unfold EdgOk; simp)) (fun w' H' => H'.celRd List.mem_cons_self) (H.alloc #[.int .u8 1, .int .u8 2, .int .i8 (1), .int .u8 2, .int .u8 3, .int .i8 (1), .int .u8 3, .int .u8 1, .int .i8 (-3)] 64)
  clear H
  refine C.mono ?_
  clear C
  rw [show ([⟨1, 2, 1⟩, ⟨2, 3, 1⟩, ⟨3, 1, -3⟩] : List Edg).filter keepE = [⟨1, 2, 1⟩, ⟨2, 3, 1⟩, ⟨3, 1, -3⟩] from by rfl]
  rintro e w3 ⟨vb, rfl, H⟩
  rw [round6a] at H
  replace H := H.drop (.there .here)
  go_wp2_with (go_skip)
  have C := round_H (some ⟨w3.heap.size, 0, none⟩) 2 2 [⟨1, 2, 1⟩, ⟨2, 1, -1⟩] rfl (by omega) (by intro x hx; simp at hx; rcases hx with rfl | rfl <;> (unfold EdgOk; simp)) (fun w' H' => H'.celRd List.mem_cons_self) (H.alloc #[.int .u8 1, .int .u8 2, .int .i8 (1), .int .u8 2, .int .u8 1, .int .i8 (-1)] 64)
  clear H
  refine C.mono ?_
  clear C
  rw [show ([⟨1, 2, 1⟩, ⟨2, 1, -1⟩] : List Edg).filter keepE = [⟨1, 2, 1⟩, ⟨2, 1, -1⟩] from by rfl]
  rintro e w4 ⟨vc, rfl, H⟩
  rw [round6b] at H
  replace H := H.drop (.there .here)
  go_wp2_with (go_skip)
  have C := round_H (some ⟨w4.heap.size, 0, none⟩) 1 1 [⟨3, 3, -1⟩] rfl (by omega) (by intro x hx; simp at hx; rcases hx with rfl <;> (unfold EdgOk; simp)) (fun w' H' => H'.celRd List.mem_cons_self) (H.alloc #[.int .u8 3, .int .u8 3, .int .i8 (-1)] 64)
  clear H
  refine C.mono ?_
  clear C
  rw [show ([⟨3, 3, -1⟩] : List Edg).filter keepE = [⟨3, 3, -1⟩] from by rfl]
  rintro e w5 ⟨vd, rfl, H⟩
  rw [round6c] at H
  replace H := H.drop (.there .here)
  go_wp2_with (go_skip)
  obtain ⟨aa, ca, rfl⟩ := OwnT.form0 (H.ok _ (List.mem_cons_of_mem _ (List.mem_cons_of_mem _ (List.mem_cons_of_mem _ List.mem_cons_self))))
  have S := sameParties_P (W := W) (l := Cel w5.heap.size #[.int .u8 1, .int .u8 2, .int .u8 4] 33 :: OwnT 33 1 vd [3].length ([3].map pv) :: OwnT 33 1 vc ([] : List Nat).length (([] : List Nat).map pv) :: OwnT 33 1 vb [1, 2, 3].length ([1, 2, 3].map pv) :: OwnT 33 1 (.slice aa 3 ca) [1, 2, 4].length ([1, 2, 4].map pv) :: Gr p c6 :: l) (A := [1, 2, 4]) (B := [1, 2, 4]) aa (some ⟨w5.heap.size, 0, none⟩) 3 ca 3 rfl rfl (by omega) (by simp) (by simp) (fun w' h => h.ownRd (List.mem_cons_of_mem _ (List.mem_cons_of_mem _ (List.mem_cons_of_mem _ (List.mem_cons_of_mem _ List.mem_cons_self))))) (fun w' h => h.celRd List.mem_cons_self)
  refine (S _ (H.alloc _ _)).mono ?_
  clear H S
  rintro e w6 ⟨rfl, H⟩
  replace H := H.tail
  go_wp2_with (go_skip)
  have C := short_H 4 1 (by omega) (by omega) (CapsOf.gr (W := W) (p := p) (c := c6) (List.mem_cons_of_mem _ (List.mem_cons_of_mem _ (List.mem_cons_of_mem _ (List.mem_cons_of_mem _ List.mem_cons_self))))) H
  clear H
  refine C.mono ?_
  clear C
  rintro e w7 ⟨ve, Le, rfl, hs, H⟩
  obtain rfl := short6b hs
  clear hs
  obtain ⟨ae, ce, rfl⟩ := OwnT.form0 (H.ok _ List.mem_cons_self)
  replace H := H.tail
  obtain ⟨ab, cb, rfl⟩ := OwnT.form0 (H.ok _ (List.mem_cons_of_mem _ (List.mem_cons_of_mem _ List.mem_cons_self)))
  obtain ⟨ac, cc, rfl⟩ := OwnT.form0 (H.ok _ (List.mem_cons_of_mem _ List.mem_cons_self))
  obtain ⟨ad, cd, rfl⟩ := OwnT.form0 (H.ok _ List.mem_cons_self)
  go_wp2_with (go_skip)
  have S := sameParties_P (W := W) (l := Cel w7.heap.size #[.int .u8 1, .int .u8 2, .int .u8 3] 33 :: OwnT 33 1 (.slice ad [3].length cd) [3].length ([3].map pv) :: OwnT 33 1 (.slice ac ([] : List Nat).length cc) ([] : List Nat).length (([] : List Nat).map pv) :: OwnT 33 1 (.slice ab [1, 2, 3].length cb) [1, 2, 3].length ([1, 2, 3].map pv) :: OwnT 33 1 (.slice aa 3 ca) [1, 2, 4].length ([1, 2, 4].map pv) :: Gr p c6 :: l) (A := [1, 2, 3]) (B := [1, 2, 3]) ab (some ⟨w7.heap.size, 0, none⟩) 3 cb 3 rfl rfl (by omega) (by simp) (by simp) (fun w' h => h.ownRd (List.mem_cons_of_mem _ (List.mem_cons_of_mem _ (List.mem_cons_of_mem _ List.mem_cons_self)))) (fun w' h => h.celRd List.mem_cons_self)
  refine (S _ (H.alloc _ _)).mono ?_
  clear H S
  rintro e w8 ⟨rfl, H⟩
  replace H := H.tail
  go_wp2_with (go_skip)
  have S := sameParties_P (W := W) (l := Cel w8.heap.size #[.int .u8 3] 33 :: OwnT 33 1 (.slice ad [3].length cd) [3].length ([3].map pv) :: OwnT 33 1 (.slice ac ([] : List Nat).length cc) ([] : List Nat).length (([] : List Nat).map pv) :: OwnT 33 1 (.slice ab [1, 2, 3].length cb) [1, 2, 3].length ([1, 2, 3].map pv) :: OwnT 33 1 (.slice aa 3 ca) [1, 2, 4].length ([1, 2, 4].map pv) :: Gr p c6 :: l) (A := [3]) (B := [3]) ad (some ⟨w8.heap.size, 0, none⟩) 1 cd 1 rfl rfl (by omega) (by simp) (by simp) (fun w' h => h.ownRd (List.mem_cons_of_mem _ List.mem_cons_self)) (fun w' h => h.celRd List.mem_cons_self)
  refine (S _ (H.alloc _ _)).mono ?_
  clear H S
  rintro e w9 ⟨rfl, H⟩
  replace H := H.tail.tail.tail.tail.tail.tail
  go_wp2_with (go_skip)
  go_ret
  exact ⟨rfl, H⟩
end
end Go.Proofs.Ytglehneaphigdaa

/- How an argument's reading gives what a walk asks of it. -/
namespace Go.Proofs.Ytglehneaphigdaa
open Go.ChangeShapes Go.WideShapes Go.ChangeAt Go.RowKit

theorem ints_bytes : ∀ (zs : List Int), (∀ n ∈ zs, (Lit.int .u8 n).wf = true) → ∃ bs : List (BitVec 8), zs = bs.map I8
  | [], _ => ⟨[], rfl⟩
  | z :: zs, h => by
    obtain ⟨bs, rfl⟩ := ints_bytes zs (fun n hn => h n (List.mem_cons_of_mem _ hn))
    have hz := h z (List.mem_cons_self ..)
    have hb := bounds_u8 hz
    obtain ⟨b, rfl⟩ := exists_I8 z (by omega) (by omega)
    exact ⟨b :: bs, rfl⟩

theorem Rd.ofCells {w : World} {x : Addr} {xs : List Value} (h : ∀ i, (hi : i < xs.length) → w.cell? (x.add i) = some xs[i]) : Rd w (some x) xs := by
  obtain ⟨b, o, sp⟩ := x
  intro i hi
  have h0 := h 0 (by omega)
  have hsp : sp = none := by
    rcases sp with _ | s
    · rfl
    · simp only [Addr.add, if_true, World.cell?] at h0
      split at h0 <;> simp at h0
  subst hsp
  exact ⟨b, o, rfl, by rw [← addr_add]; exact h i hi⟩

/-- A slice of bytes that came in. -/
structure IsBytes (w : World) (a : Option Addr) (n c : Nat) (zs : List (BitVec 8)) : Prop where
  len : n = zs.length
  cap : n ≤ c
  max : c ≤ maxLen
  rd : Rd w a (zs.map B8)

theorem open_bytes {H : Type} {enc : TypeId × Value → H} {P : Program} {W : World} {held : Bool} {t e : TypeId} {v : Value} {d : DataW H} {p : List MemPlace} {r : Reach} {base : Nat}
    (ht : P.underlying t = some (.slice e)) (he : P.underlying e = some (.int .u8)) (hc : P.cellsOf e = 1) (hv : Value.okWide P W r base t v)
    (h : DataW.Trod enc P W 0 (fun _ => true) held t v d p) : ∃ a n c zs, v = .slice a n c ∧ IsBytes W a n c zs := by
  obtain ⟨a, n, c, rfl⟩ := okWide_slice ht hv
  obtain ⟨fuel, hf⟩ := h
  rcases open_ints ht he hc hf with ⟨hcs, _⟩ | ⟨x, l, c', zs, hcs, _, hl, hm, hz, _, hcell, hwz⟩
  · simp [Value.cells] at hcs
    obtain ⟨rfl, rfl, rfl⟩ := hcs
    exact ⟨none, 0, 0, [], rfl, rfl, Nat.le_refl _, by unfold maxLen; omega, Rd.nil _ _⟩
  · simp [Value.cells] at hcs
    obtain ⟨rfl, rfl, rfl⟩ := hcs
    obtain ⟨bs, rfl⟩ := ints_bytes zs hwz
    rw [if_pos rfl] at hz
    refine ⟨_, n, c, bs.take n, rfl, ?_, hl, hm, Rd.ofCells fun i hi => ?_⟩
    · simp at hz ⊢; omega
    · simp at hi hz
      rw [hcell i (by simp; omega)]
      simp [List.getD_eq_getElem?_getD, B8, show i < bs.length by omega]
end Go.Proofs.Ytglehneaphigdaa
