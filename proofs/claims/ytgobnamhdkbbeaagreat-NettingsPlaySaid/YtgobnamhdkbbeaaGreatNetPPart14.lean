/- Part 14 of what ProofNettingsPlay stands on: BkApart, Ref06r. -/
import Derived.Test.YtgobnamhdkbbeaaGreatNetPPart13
/- A book of pages, over a memory of things: Apart answers true, where each page's list lies apart. -/
namespace Go.Proofs.YtgobnamhdkbbeaaGreat
open Go.RowKit
set_option linter.unusedSimpArgs false
set_option linter.unusedVariables false
/-- A page: what it is, and its list at three times. -/
structure PageT where
  ty : TypeId
  d : Value
  t0 : Thing
  t1 : Thing
  t2 : Thing
def PageT.v (p : PageT) : Value := .iface p.ty p.d
/-- A method of such a value: one that takes the value itself. -/
structure MethIs (ty : TypeId) (d : Value) (name : String) (f : FuncId) : Prop where
  meth : ∀ fuel w, (method (fuel + 1) ty d name).run Tryz.prog w = .ok (f, d) w
  enter : ∀ args w, (callFunc f args).run Tryz.prog w = .ok (.enter f args) w
structure PageOk (p : PageT) : Prop where
  write : ∃ f, MethIs p.ty p.d "countinghouse/countinghouselaw01.write" f ∧ ∀ (W : World) (l : List Thing) (w : World), Heap W (p.t0 :: l) w → Calls Tryz.prog f #[p.d] w fun e w' => e = .returned (.tuple #[]) ∧ Heap W (p.t1 :: l) w'
  behind : ∃ f, MethIs p.ty p.d "countinghouse/countinghouselaw01.writeBehind" f ∧ ∀ (W : World) (l : List Thing) (w : World), Heap W (p.t1 :: l) w → Calls Tryz.prog f #[p.d] w fun e w' => e = .returned (.tuple #[]) ∧ Heap W (p.t2 :: l) w'
  stands : ∃ f, MethIs p.ty p.d "countinghouse/countinghouselaw01.stands" f ∧ ∀ (W : World) (l : List Thing) (w : World), Heap W (p.t2 :: l) w → Calls Tryz.prog f #[p.d] w fun e w' => e = .returned (.bool true) ∧ Heap W (p.t2 :: l) w'
theorem cell_pages : CellTy 40 := ⟨⟨_, Tryz.underlying40, rfl⟩, by kernel_rfl⟩
/-- A book. -/
abbrev bookC (v : Value) : Array Value := #[v]
theorem bookC_g (v : Value) : (bookC v)[0]? = some v := rfl
theorem row_book : RowTy 42 1 (bookC (.slice none 0 0)) := ⟨⟨_, Tryz.underlying42, rfl⟩, by kernel_rfl, by kernel_rfl⟩
theorem bookC_cells : Cells 1 (bookC (.slice none 0 0)) := ⟨rfl, by simp [Value.oneCell']⟩
theorem bookC_sz (v : Value) : (bookC v).size = 1 := rfl
theorem bookC_splice (v : Value) : splice (bookC v) 0 (bookC (.slice none 0 0)) = bookC (.slice none 0 0) := splice_all rfl
abbrev BkT (kb : Nat) (v : Value) : Thing := Cel kb (bookC v) 42
abbrev PgsT (v : Value) (n : Nat) (vs : List Value) : Thing := RowT 87 1 v n vs
structure ApLoop (W : World) (l : List Thing) (kb : Nat) (v : Value) (vs : List Value) (n : Nat) (ts : Nat → List Thing) (i : Value) (wr : World) : Prop where
  out : ∃ k, i = .int .i64 ((k : Nat) : Int) ∧ k ≤ n ∧ Heap W (BkT kb v :: PgsT v n vs :: (ts k ++ l)) wr
theorem mid_perm {x : Thing} {A B l : List Thing} {b p : Thing} : (b :: p :: (A ++ x :: B ++ l)).Perm (x :: b :: p :: (A ++ B ++ l)) := by
  have h : (A ++ x :: B ++ l).Perm (x :: (A ++ B ++ l)) := by
    rw [List.append_assoc, List.append_assoc, List.cons_append]; exact List.perm_middle
  exact (List.Perm.cons _ (List.Perm.cons _ h)).trans ((List.Perm.cons _ (.swap _ _ _)).trans (.swap _ _ _))
section
variable {W w : World} {l : List Thing}
set_option maxRecDepth 100000
set_option maxHeartbeats 4000000
theorem apart_H (kb : Nat) (a : Option Addr) (n c : Nat) (ps : List PageT) (hn : ps.length = n) (h120 : n ≤ 120) (hok : ∀ p ∈ ps, PageOk p) (H : Heap W (BkT kb (.slice a n c) :: PgsT (.slice a n c) n (ps.map PageT.v) :: (ps.map PageT.t0 ++ l)) w) :
    Calls Tryz.prog 15 #[.pointer (some ⟨kb, 0, none⟩)] w fun e w' => e = .returned (.bool true) ∧ Heap W (BkT kb (.slice a n c) :: PgsT (.slice a n c) n (ps.map PageT.v) :: (ps.map PageT.t2 ++ l)) w' := by
  have HN := Lib.hid hn
  have HO := Lib.hid hok
  clear hn hok
  go_enter Tryz.func15, Tryz.ntmps15
  go_wp2_with (first | go_skip | ((with_reducible show wpList _ _ _ (_ :: _) _ _); (with_reducible apply wpl_loadCH); (· exact cell_pages); (· rfl); (· rfl); (· exact H); (· (repeat (first | (with_reducible exact List.mem_cons_self) | with_reducible apply List.mem_cons_of_mem))); (· exact bookC_g _); (simp only [Act.put, List.setIfInBounds_toArray, List.set_cons_zero, List.set_cons_succ])))
  have H0 := H
  clear H
  go_loopw [3] (fun i wr => ApLoop W l kb (.slice a n c) (ps.map PageT.v) n (fun k => (ps.take k).map PageT.t1 ++ (ps.drop k).map PageT.t0) i wr) (fun i _ => n - (intOf i).toNat)
  case atStart => exact ⟨0, rfl, by omega, by simpa using H0⟩
  case round =>
    obtain ⟨k, rfl, hk, H'⟩ := hrel.out
    clear H0 hrel
    have H := H'
    clear H'
    by_cases hlt : k < n
    · have hkp : k < ps.length := by rw [HN.out]; exact hlt
      have hpo := HO.out ps[k] (List.getElem_mem hkp)
      have hv : ((ps.map PageT.v))[k]? = some (ps[k].v) := by rw [List.getElem?_map, List.getElem?_eq_getElem hkp]; rfl
      have e1 : ps.drop k = ps[k] :: ps.drop (k + 1) := List.drop_eq_getElem_cons hkp
      have e2 : ps.take (k + 1) = ps.take k ++ [ps[k]] := by rw [List.take_add_one, List.getElem?_eq_getElem hkp]; rfl
      have HE := Lib.hid (And.intro e1 e2)
      clear e1 e2
      have hrd := H.rowRd (List.mem_cons_of_mem _ List.mem_cons_self)
      obtain ⟨pa, po, rfl, hpc⟩ := hrd k (by rw [List.length_map]; exact hkp)
      rw [show (ps.map PageT.v)[k]'(by rw [List.length_map]; exact hkp) = ps[k].v from List.getElem_map ..] at hpc
      clear hrd hv
      generalize ps[k] = p at *
      obtain ⟨ty, d, t0, t1, t2⟩ := p
      obtain ⟨f, hm, hcall⟩ := hpo.write
      have hm1 := hm.meth
      have hm2 := hm.enter
      simp only [PageT.v] at hpc hm1
      clear hm
      go_wp2_with (first | go_skip | ((with_reducible show wpList _ _ _ (_ :: _) _ _); (with_reducible apply wpl_loadCH); (· exact cell_pages); (· rfl); (· rfl); (· exact H); (· (repeat (first | (with_reducible exact List.mem_cons_self) | with_reducible apply List.mem_cons_of_mem))); (· exact bookC_g _); (simp only [Act.put, List.setIfInBounds_toArray, List.set_cons_zero, List.set_cons_succ])))
      refine (hcall W _ _ (H.perm (by rw [HE.out.1, List.map_cons]; exact mid_perm))).mono ?_
      clear H hcall hm1 hm2
      rintro e w1 ⟨rfl, H⟩
      go_wp2_with (go_skip)
      refine ⟨?_, ?measure⟩
      · refine ⟨⟨k + 1, by go_num, by omega, ?_⟩⟩
        rw [HE.out.2, List.map_append, List.map_cons, List.map_nil]
        have h2 := H.perm (mid_perm (A := (ps.take k).map PageT.t1) (B := (ps.drop (k + 1)).map PageT.t0) (l := l)).symm
        rwa [List.append_assoc (List.map PageT.t1 (List.take k ps)) [_] _]
      case measure => simp [intOf]; omega
    · obtain rfl : n = k := by omega
      rw [List.take_of_length_le (by rw [HN.out]; exact Nat.le_refl _), List.drop_of_length_le (by rw [HN.out]; exact Nat.le_refl _), List.map_nil, List.append_nil] at H
      go_wp2_with (first | go_skip | ((with_reducible show wpList _ _ _ (_ :: _) _ _); (with_reducible apply wpl_loadCH); (· exact cell_pages); (· rfl); (· rfl); (· exact H); (· (repeat (first | (with_reducible exact List.mem_cons_self) | with_reducible apply List.mem_cons_of_mem))); (· exact bookC_g _); (simp only [Act.put, List.setIfInBounds_toArray, List.set_cons_zero, List.set_cons_succ])))
      have H0 := H
      clear H
      go_loopw [4] (fun i wr => ApLoop W l kb (.slice a n c) (ps.map PageT.v) n (fun k => (ps.take k).map PageT.t2 ++ (ps.drop k).map PageT.t1) i wr) (fun i _ => n - (intOf i).toNat)
      case atStart => exact ⟨0, rfl, by omega, by simpa using H0⟩
      case round =>
        obtain ⟨k, rfl, hk, H'⟩ := hrel.out
        clear H0 hrel
        have H := H'
        clear H'
        by_cases hlt : k < n
        · have hkp : k < ps.length := by rw [HN.out]; exact hlt
          have hpo := HO.out ps[k] (List.getElem_mem hkp)
          have hv : ((ps.map PageT.v))[k]? = some (ps[k].v) := by rw [List.getElem?_map, List.getElem?_eq_getElem hkp]; rfl
          have e1 : ps.drop k = ps[k] :: ps.drop (k + 1) := List.drop_eq_getElem_cons hkp
          have e2 : ps.take (k + 1) = ps.take k ++ [ps[k]] := by rw [List.take_add_one, List.getElem?_eq_getElem hkp]; rfl
          have HE := Lib.hid (And.intro e1 e2)
          clear e1 e2
          have hrd := H.rowRd (List.mem_cons_of_mem _ List.mem_cons_self)
          obtain ⟨pa, po, rfl, hpc⟩ := hrd k (by rw [List.length_map]; exact hkp)
          rw [show (ps.map PageT.v)[k]'(by rw [List.length_map]; exact hkp) = ps[k].v from List.getElem_map ..] at hpc
          clear hrd hv
          generalize ps[k] = p at *
          obtain ⟨ty, d, t0, t1, t2⟩ := p
          obtain ⟨f, hm, hcall⟩ := hpo.behind
          have hm1 := hm.meth
          have hm2 := hm.enter
          simp only [PageT.v] at hpc hm1
          clear hm
          go_wp2_with (first | go_skip | ((with_reducible show wpList _ _ _ (_ :: _) _ _); (with_reducible apply wpl_loadCH); (· exact cell_pages); (· rfl); (· rfl); (· exact H); (· (repeat (first | (with_reducible exact List.mem_cons_self) | with_reducible apply List.mem_cons_of_mem))); (· exact bookC_g _); (simp only [Act.put, List.setIfInBounds_toArray, List.set_cons_zero, List.set_cons_succ])))
          refine (hcall W _ _ (H.perm (by rw [HE.out.1, List.map_cons]; exact mid_perm))).mono ?_
          clear H hcall hm1 hm2
          rintro e w1 ⟨rfl, H⟩
          go_wp2_with (go_skip)
          refine ⟨?_, ?measure⟩
          · refine ⟨⟨k + 1, by go_num, by omega, ?_⟩⟩
            rw [HE.out.2, List.map_append, List.map_cons, List.map_nil]
            have h2 := H.perm (mid_perm (A := (ps.take k).map PageT.t2) (B := (ps.drop (k + 1)).map PageT.t1) (l := l)).symm
            rwa [List.append_assoc (List.map PageT.t2 (List.take k ps)) [_] _]
          case measure => simp [intOf]; omega
        · obtain rfl : n = k := by omega
          rw [List.take_of_length_le (by rw [HN.out]; exact Nat.le_refl _), List.drop_of_length_le (by rw [HN.out]; exact Nat.le_refl _), List.map_nil, List.append_nil] at H
          go_wp2_with (first | go_skip | ((with_reducible show wpList _ _ _ (_ :: _) _ _); (with_reducible apply wpl_loadCH); (· exact cell_pages); (· rfl); (· rfl); (· exact H); (· (repeat (first | (with_reducible exact List.mem_cons_self) | with_reducible apply List.mem_cons_of_mem))); (· exact bookC_g _); (simp only [Act.put, List.setIfInBounds_toArray, List.set_cons_zero, List.set_cons_succ])))
          have H0 := H
          clear H
          go_loopw [5] (fun i wr => ApLoop W l kb (.slice a n c) (ps.map PageT.v) n (fun k => (ps.take k).map PageT.t2 ++ (ps.drop k).map PageT.t2) i wr) (fun i _ => n - (intOf i).toNat)
          case atStart => exact ⟨0, rfl, by omega, by simpa using H0⟩
          case round =>
            obtain ⟨k, rfl, hk, H'⟩ := hrel.out
            clear H0 hrel
            have H := H'
            clear H'
            by_cases hlt : k < n
            · have hkp : k < ps.length := by rw [HN.out]; exact hlt
              have hpo := HO.out ps[k] (List.getElem_mem hkp)
              have hv : ((ps.map PageT.v))[k]? = some (ps[k].v) := by rw [List.getElem?_map, List.getElem?_eq_getElem hkp]; rfl
              have e1 : ps.drop k = ps[k] :: ps.drop (k + 1) := List.drop_eq_getElem_cons hkp
              have e2 : ps.take (k + 1) = ps.take k ++ [ps[k]] := by rw [List.take_add_one, List.getElem?_eq_getElem hkp]; rfl
              have HE := Lib.hid (And.intro e1 e2)
              clear e1 e2
              have hrd := H.rowRd (List.mem_cons_of_mem _ List.mem_cons_self)
              obtain ⟨pa, po, rfl, hpc⟩ := hrd k (by rw [List.length_map]; exact hkp)
              rw [show (ps.map PageT.v)[k]'(by rw [List.length_map]; exact hkp) = ps[k].v from List.getElem_map ..] at hpc
              clear hrd hv
              generalize ps[k] = p at *
              obtain ⟨ty, d, t0, t1, t2⟩ := p
              obtain ⟨f, hm, hcall⟩ := hpo.stands
              have hm1 := hm.meth
              have hm2 := hm.enter
              simp only [PageT.v] at hpc hm1
              clear hm
              go_wp2_with (first | go_skip | ((with_reducible show wpList _ _ _ (_ :: _) _ _); (with_reducible apply wpl_loadCH); (· exact cell_pages); (· rfl); (· rfl); (· exact H); (· (repeat (first | (with_reducible exact List.mem_cons_self) | with_reducible apply List.mem_cons_of_mem))); (· exact bookC_g _); (simp only [Act.put, List.setIfInBounds_toArray, List.set_cons_zero, List.set_cons_succ])))
              refine (hcall W _ _ (H.perm (by rw [HE.out.1, List.map_cons]; exact mid_perm))).mono ?_
              clear H hcall hm1 hm2
              rintro e w1 ⟨rfl, H⟩
              go_wp2_with (go_skip)
              refine ⟨?_, ?measure⟩
              · refine ⟨⟨k + 1, by go_num, by omega, ?_⟩⟩
                rw [HE.out.2, List.map_append, List.map_cons, List.map_nil]
                have h2 := H.perm (mid_perm (A := (ps.take k).map PageT.t2) (B := (ps.drop (k + 1)).map PageT.t2) (l := l)).symm
                rwa [List.append_assoc (List.map PageT.t2 (List.take k ps)) [_] _]
              case measure => simp [intOf]; omega
            · obtain rfl : n = k := by omega
              rw [List.take_of_length_le (by rw [HN.out]; exact Nat.le_refl _), List.drop_of_length_le (by rw [HN.out]; exact Nat.le_refl _), List.map_nil, List.append_nil] at H
              go_wp2_with (first | go_skip | ((with_reducible show wpList _ _ _ (_ :: _) _ _); (with_reducible apply wpl_loadCH); (· exact cell_pages); (· rfl); (· rfl); (· exact H); (· (repeat (first | (with_reducible exact List.mem_cons_self) | with_reducible apply List.mem_cons_of_mem))); (· exact bookC_g _); (simp only [Act.put, List.setIfInBounds_toArray, List.set_cons_zero, List.set_cons_succ])))
              go_ret
              exact ⟨rfl, H⟩
end
/-- The book's pages. -/
theorem slPage : SlTy Tryz.prog 40 87 1 16 .nilIface := slTy_mk Tryz.underlying40 (by kernel_rfl) rfl (by decide)
theorem bs_page : Tryz.prog.underlying 40 = some (.slice 87) ∧ (Tryz.prog.info? 87).map (fun i => (i.size, i.zero)) = some (1, some .nilIface) := ⟨Tryz.underlying40, by kernel_rfl⟩
section
variable {W w : World} {l : List Thing}
set_option maxRecDepth 100000
set_option maxHeartbeats 4000000
theorem number_H (kb : Nat) (a : Option Addr) (n c : Nat) (hn : n ≤ 1000000) (m : BkT kb (.slice a n c) ∈ l) : AnsH W l 34 #[.pointer (some ⟨kb, 0, none⟩)] (.int .i64 ((n : Int) + 1)) := by
  intro w H
  go_enter Tryz.func34, Tryz.ntmps34
  go_wp2_with (first | go_skip | ((with_reducible show wpList _ _ _ (_ :: _) _ _); (with_reducible apply wpl_loadCH); (· exact cell_pages); (· rfl); (· rfl); (· exact H); (· exact m); (· exact bookC_g _); (simp only [Act.put, List.setIfInBounds_toArray, List.set_cons_zero, List.set_cons_succ])))
  go_ret
  exact ⟨rfl, H⟩
/-- A book with its pages so far, and their lists. -/
def Book (W : World) (l : List Thing) (kb : Nat) (ps : List PageT) (w : World) : Prop := ∃ a c, Heap W (BkT kb (.slice a ps.length c) :: PgsT (.slice a ps.length c) ps.length (ps.map PageT.v) :: (ps.map PageT.t0 ++ l)) w ∧ ∀ p ∈ ps, PageOk p
theorem Book.new {kb : Nat} (H : Heap W (BkT kb (.slice none 0 0) :: l) w) : Book W l kb [] w := ⟨none, 0, (H.nilRow _ _).perm (.swap _ _ _), by simp⟩
theorem Book.apart {kb : Nat} {ps : List PageT} (B : Book W l kb ps w) (hn : ps.length ≤ 120) : Calls Tryz.prog 15 #[.pointer (some ⟨kb, 0, none⟩)] w fun e w' => e = .returned (.bool true) ∧ Heap W l w' := by
  obtain ⟨a, c, H, hok⟩ := B
  refine (apart_H kb a ps.length c ps rfl hn hok H).mono ?_
  rintro e w' ⟨rfl, H⟩
  refine ⟨rfl, ?_⟩
  have H2 := H.tail.tail
  have key : ∀ (l1 : List Thing), Heap W (l1 ++ l) w' → Heap W l w' := by
    intro l1
    induction l1 with
    | nil => exact fun h => h
    | cons x l1 ih => exact fun h => ih h.tail
  exact key _ H2
end
end Go.Proofs.YtgobnamhdkbbeaaGreat

/- countinghouseref06.Round: the same round. -/
namespace Go.Proofs.YtgobnamhdkbbeaaGreat
open Go.RowKit
set_option linter.unusedSimpArgs false
set_option linter.unusedVariables false
theorem row_redg : RowTy 120 3 (edg 0 0 0) := ⟨⟨_, Tryz.underlying120, rfl⟩, by kernel_rfl, by kernel_rfl⟩
def par17 (P : Nat → Nat) : Array Value := tab 17 fun i => .int .u8 (P i : Int)
theorem par17_sz (P : Nat → Nat) : (par17 P).size = 17 := tab_size ..
theorem par17_get (P : Nat → Nat) {i : Nat} (h : i < 17) : (par17 P)[i]? = some (.int .u8 (P i : Int)) := tab_get _ h
theorem par17_set (P : Nat → Nat) {i : Nat} (h : i < 17) (v : Nat) : (par17 P).setIfInBounds i (.int .u8 (v : Int)) = par17 (updN P i v) := by
  unfold par17
  rw [tab_set _ _ h]
  apply tab_congr
  intro j hj
  unfold updN
  by_cases e : j = i
  · subst e; rw [if_pos rfl, if_pos rfl]
  · rw [if_neg e, if_neg e]
theorem row_par17 : RowTy 145 17 (par17 fun _ => 0) := ⟨⟨_, Tryz.underlying145, rfl⟩, by kernel_rfl, by kernel_rfl⟩
abbrev srT (pf pa : Nat) (s : Srch) (l : List Thing) : List Thing := Cel pf (row17 s.D) 144 :: Cel pa (par17 s.P) 145 :: l
structure RA (W : World) (l : List Thing) (pf pa : Nat) (E : List Edg) (en : Nat) (va vi : Value) (wr : World) : Prop where
  out : ∃ (k : Nat) (s : Srch), k ≤ 16 ∧ vi = .int .i64 (k : Int) ∧ va = .int .u8 (s.last : Int) ∧ (k ≠ 0 → s.last ≠ 0) ∧ runS E 16 zeroS = runS E (16 - k) s ∧ Bnd (128 * en * k) s ∧ PBnd s ∧ Heap W (srT pf pa s l) wr
structure RB (W : World) (l : List Thing) (pf pa : Nat) (E F : List Edg) (s0 : Srch) (B en : Nat) (va vi : Value) (wr : World) : Prop where
  out : ∃ (k : Nat) (s : Srch), k ≤ en ∧ vi = .int .i64 (k : Int) ∧ va = .int .u8 (s.last : Int) ∧ onceS E s0 = ((F.drop k).filter keepE).foldl relax s ∧ Bnd (B + 128 * k) s ∧ PBnd s ∧ Heap W (srT pf pa s l) wr
structure RC (W : World) (l : List Thing) (pf pa : Nat) (s : Srch) (va vi : Value) (wr : World) : Prop where
  out : ∃ k a : Nat, k ≤ 16 ∧ vi = .int .i64 (k : Int) ∧ va = .int .u8 (a : Int) ∧ a < 17 ∧ back s.P 16 s.last = back s.P (16 - k) a ∧ Heap W (srT pf pa s l) wr
/-- The least of the first ones. -/
def minB (P : Nat → Nat) (x : Nat) : Nat → Nat
  | 0 => x
  | k + 1 => min (minB P x k) (back P (k + 1) x)
theorem minB_le {P : Nat → Nat} {x : Nat} : ∀ k i, i ≤ k → minB P x k ≤ back P i x
  | 0, i, h => by obtain rfl : i = 0 := by omega
                  exact Nat.le_refl _
  | k + 1, i, h => by
    rw [minB]
    by_cases e : i = k + 1
    · subst e; omega
    · have := minB_le (P := P) (x := x) k i (by omega); omega
theorem minB_mem {P : Nat → Nat} {x : Nat} : ∀ k, ∃ i, i ≤ k ∧ minB P x k = back P i x
  | 0 => ⟨0, by omega, rfl⟩
  | k + 1 => by
    obtain ⟨i, hi, e⟩ := minB_mem (P := P) (x := x) k
    rw [minB, e]
    by_cases h : back P i x ≤ back P (k + 1) x
    · exact ⟨i, by omega, by omega⟩
    · exact ⟨k + 1, by omega, by omega⟩
structure RD (W : World) (l : List Thing) (pf pa : Nat) (s : Srch) (x m g : Nat) (vl vp : Value) (wr : World) : Prop where
  out : ∃ k : Nat, k < m ∧ m - k ≤ g ∧ vl = .int .u8 (minB s.P x k : Int) ∧ vp = .int .u8 (back s.P (k + 1) x : Int) ∧ Heap W (srT pf pa s l) wr
structure RE (W : World) (l : List Thing) (pf pa : Nat) (s : Srch) (b m g : Nat) (vo vp : Value) (wr : World) : Prop where
  out : ∃ k : Nat, k < m ∧ m - k ≤ g ∧ vp = .int .u8 (back s.P (k + 1) b : Int) ∧ Heap W (OwnT 30 1 vo (k + 1) ((buildL s.P b k).map pv) :: srT pf pa s l) wr
theorem filter_skip {x : Edg} {F : List Edg} {s : Srch} (h : keepE x = false) : ((x :: F).filter keepE).foldl relax s = (F.filter keepE).foldl relax s := by rw [List.filter_cons_of_neg (by rw [h]; exact Bool.false_ne_true)]
theorem filter_take {x : Edg} {F : List Edg} {s : Srch} (h : keepE x = true) : ((x :: F).filter keepE).foldl relax s = (F.filter keepE).foldl relax (relax s x) := by rw [List.filter_cons_of_pos h, List.foldl_cons]
theorem pv_twos (a b : Nat) : ∀ v ∈ [Value.int .u8 (a : Int), .int .u8 (b : Int)], v.cells = #[v] := by
  intro v hv
  simp at hv
  rcases hv with rfl | rfl <;> rfl
theorem celRow2 {W w : World} {l : List Thing} {g t : Nat} {a b : Value} (H : Heap W (Cel g #[a, b] t :: l) w) : Heap W (RowT t 1 (.slice (some ⟨g, 0, none⟩) 2 2) 2 [a, b] :: l) w := H.celRowA rfl (Nat.le_refl 2) (by unfold maxLen; omega)
theorem tailRd {W w : World} {l : List Thing} {p t g o e n c : Nat} {c2 : Array Value} {xs : List Value} (H : Heap W (Cel p c2 t :: OwnT e 1 (.slice (some ⟨g, o, none⟩) n c) n xs :: l) w) (hn : 1 ≤ n) : Rd w (cutA (some ⟨g, o, none⟩) c 1 1) (xs.drop 1) := (H.tail.ownTail hn).ownRd List.mem_cons_self
attribute [local go_sem high] run_min2
section
variable {W w : World} {l : List Thing}
set_option maxRecDepth 100000
set_option maxHeartbeats 4000000
theorem ref_round_H (ea : Option Addr) (en ec : Nat) (F : List Edg) (hl : F.length = en) (hn : en ≤ 1000) (hF : ∀ x ∈ F, EdgOk x) (R : ∀ l' w', (∀ x ∈ l, x ∈ l') → Heap W l' w' → Rd w' ea (edgL F)) (H : Heap W l w) :
    Calls Tryz.prog 65 #[.slice ea en ec] w (RoundPost W l (F.filter keepE)) := by
  have HF := Lib.hid hF
  have HL := Lib.hid hl
  have HR := Lib.hid R
  have HI := Lib.hid (keep_in F)
  clear hl hF R
  go_enter Tryz.func65, Tryz.ntmps65
  go_wp2_with (first | go_skip | ((with_reducible show wpList _ _ _ (_ :: _) _ _); (with_reducible apply wpl_allocRH row_17i); (· rfl); (· exact H); (clear H; intro pf _ H); (simp only [Act.put, List.setIfInBounds_toArray, List.set_cons_zero, List.set_cons_succ])) | ((with_reducible show wpList _ _ _ (_ :: _) _ _); (with_reducible apply wpl_allocRH row_par17); (· rfl); (· exact H); (clear H; intro pa _ H); (simp only [Act.put, List.setIfInBounds_toArray, List.set_cons_zero, List.set_cons_succ])))
  generalize hE : F.filter keepE = E at *
  have HE := Lib.hid hE
  clear hE
  have H0 : Heap W (srT pf pa zeroS l) _ := H.perm (.swap _ _ _)
  clear H
  go_loopw [5, 6] (fun va vi wr => RA W l pf pa E en va vi wr) (fun _ vi _ => 16 - (intOf vi).toNat)
  case atStart => exact ⟨0, zeroS, by omega, rfl, rfl, (fun h => absurd rfl h), rfl, (fun i => by show -((128 * en * 0 : Nat) : Int) ≤ 0 ∧ (0 : Int) ≤ 0; omega), ⟨by decide, fun i => by show 0 < 17; omega⟩, H0⟩
  case round =>
    obtain ⟨k, s, hk, rfl, rfl, hne, hrun, hb, hp, H'⟩ := hrel.out
    clear H0 hrel
    have H := H'
    clear H'
    by_cases hlt : k < 16
    · have HRUN := Lib.hid hrun
      have HB := Lib.hid hb
      have HP := Lib.hid hp
      have hBn : 128 * en * k ≤ 2048000 := by
        have : 128 * en * k ≤ 128 * en * 16 := Nat.mul_le_mul_left _ hk
        omega
      obtain ⟨B, hBd⟩ : ∃ B, 128 * en * k = B := ⟨_, rfl⟩
      rw [hBd] at hBn HB
      have HBD := Lib.hid hBd
      have hd16 : decide ((k : Int) < 16) = true := by simp; omega
      clear hrun hb hp hne hBd
      go_wp2_with (go_skip)
      have H0 : Heap W (srT pf pa ⟨s.D, s.P, 0⟩ l) _ := H
      clear H
      go_loopw [5, 7] (fun va vi wr => RB W l pf pa E F s B en va vi wr) (fun _ vi _ => en - (intOf vi).toNat)
      case atStart => exact ⟨0, ⟨s.D, s.P, 0⟩, by omega, rfl, rfl, by rw [List.drop_zero, HE.out]; rfl, HB.out, ⟨by show 0 < 17; omega, HP.out.2⟩, H0⟩
      case round =>
        obtain ⟨j, s2, hj, rfl, rfl, hG, hb, hp, H'⟩ := hrel.out
        clear H0 hrel
        have H := H'
        clear H'
        by_cases hlt2 : j < en
        · have hkF : j < F.length := by rw [HL.out]; exact hlt2
          have hok := HF.out F[j] (List.getElem_mem hkF)
          have hat := edgL_at F j hkF
          have hlen : j * 3 + 3 ≤ (edgL F).length := by rw [edgL_len]; omega
          rw [List.drop_eq_getElem_cons hkF] at hG
          generalize F[j] = x at *
          obtain ⟨a, b, n⟩ := x
          have hokk := hok
          obtain ⟨h1, h2, h3, h4⟩ := hok
          simp only at h1 h2 h3 h4
          have hrow : (((edgL F).drop (j * 3)).take 3).toArray = edg a b n := by rw [hat]; rfl
          obtain ⟨eb, eo, rfl, _⟩ := (HR.out _ _ (fun x hx => List.mem_cons_of_mem _ (List.mem_cons_of_mem _ hx)) H).lt (by omega)
          clear hat hkF
          by_cases hk2 : keepE ⟨a, b, n⟩ = true
          · rw [filter_take hk2] at hG
            have hm : mayP a = true ∧ mayP b = true := by unfold keepE at hk2; simpa using hk2
            have a1 := mayP_true hm.1
            have b1 := mayP_true hm.2
            have a17 : a < 17 := by omega
            have b17 : b < 17 := by omega
            have hb2 := hb.relax (e := ⟨a, b, n⟩) h3
            have hp2 := hp.relax (e := ⟨a, b, n⟩) a17 b17
            have HG := Lib.hid hG
            have HB2 := Lib.hid hb2
            have HP2 := Lib.hid hp2
            have hba := hb a
            have hbb := hb b
            have hw1 : wrap64 n = n := IntWalk.wrap64_in _ ⟨by omega, by omega⟩
            have hw2 : wrap64 (s2.D a + n) = s2.D a + n := IntWalk.wrap64_in _ ⟨by omega, by omega⟩
            have g1 : decide ((a : Int) < 1) = false := by simp; omega
            have g2 : decide ((a : Int) > 16) = false := by simp; omega
            have g3 : decide ((b : Int) < 1) = false := by simp; omega
            have g4 : decide ((b : Int) > 16) = false := by simp; omega
            have g5 : decide (16 < (a : Int)) = false := by simp; omega
            have g6 : decide (16 < (b : Int)) = false := by simp; omega
            clear hm hk2 hG hb2 hp2 hb hp hokk
            go_wp2_with (first
              | go_skip
              | ((with_reducible show wpList _ _ _ (_ :: _) _ _); (with_reducible apply wpl_loadRdR row_redg); (· rfl); (· rfl); (· exact HR.out _ _ (fun x hx => by (first | exact hx | exact List.mem_cons_of_mem _ hx | exact List.mem_cons_of_mem _ (List.mem_cons_of_mem _ hx) | exact List.mem_cons_of_mem _ (List.mem_cons_of_mem _ (List.mem_cons_of_mem _ hx)))) H); (· rfl); (· exact hlen); (· decide); (· exact hrow); (simp only [Act.put, List.setIfInBounds_toArray, List.set_cons_zero, List.set_cons_succ]))
              | ((with_reducible show wpList _ _ _ (_ :: _) _ _); (with_reducible apply wpl_allocRH row_redg); (· rfl); (· exact H); (clear H; intro px _ H); (simp only [Act.put, List.setIfInBounds_toArray, List.set_cons_zero, List.set_cons_succ]))
              | ((with_reducible show wpList _ _ _ (_ :: _) _ _); (with_reducible apply wpl_storeRH row_redg); (· rfl); (· rfl); (· rfl); (· with_reducible exact edg_cells ..); (· exact H); (· (repeat (first | (with_reducible exact List.mem_cons_self) | with_reducible apply List.mem_cons_of_mem))); (· (simp only [edg_sz, Nat.reduceAdd, Nat.reduceLeDiff, Nat.le_refl]; done)); (· with_reducible exact edg_splice ..); (· (repeat (first | (with_reducible exact Repl.here) | with_reducible apply Repl.there))); (clear H; intro _ H); (simp only [Act.put, List.setIfInBounds_toArray, List.set_cons_zero, List.set_cons_succ]))
              | ((with_reducible show wpList _ _ _ (_ :: _) _ _); (with_reducible apply wpl_loadCH); (· first | exact cell_party | exact cell_i8); (· rfl); (· rfl); (· exact H); (· (repeat (first | (with_reducible exact List.mem_cons_self) | with_reducible apply List.mem_cons_of_mem))); (· (with_reducible first | exact edg_g0 .. | exact edg_g1 .. | exact edg_g2 ..)); (simp only [Act.put, List.setIfInBounds_toArray, List.set_cons_zero, List.set_cons_succ])))
            refine wp_region_H H (by kernel_rfl) (by kernel_rfl) ?_
            repeat (first | go_big_quiet_skip | ((with_reducible apply wpQ_loadCH); (· first | exact cell_party | exact cell_i8); (· rfl); (· rfl); (· (repeat (first | (with_reducible exact List.mem_cons_self) | with_reducible apply List.mem_cons_of_mem))); (· (with_reducible first | exact edg_g0 .. | exact edg_g1 .. | exact edg_g2 ..)); (simp only [Act.put, List.setIfInBounds_toArray, List.set_cons_zero, List.set_cons_succ])) | ((with_reducible apply wpQ_loadCH); (· exact cell_int); (· rfl); (· rfl); (· (repeat (first | (with_reducible exact List.mem_cons_self) | with_reducible apply List.mem_cons_of_mem))); (· first | exact row17_get _ a17 | exact row17_get _ b17); (simp only [Act.put, List.setIfInBounds_toArray, List.set_cons_zero, List.set_cons_succ])) | go_big_quiet_step (fail))
            refine wpQuiet_nil ?_
            clear H
            intro _ H
            by_cases hc : s2.D a + n < s2.D b
            · have HC := Lib.hid (relax_yes (s := s2) (e := ⟨a, b, n⟩) hc)
              go_wp2_with (go_skip)
              refine wp_region_H_tail 11 H (by kernel_rfl) (by kernel_rfl) ?_
              simp only [List.take_succ_cons, List.take_zero, List.drop_succ_cons, List.drop_zero]
              repeat (first | go_big_quiet_skip | ((with_reducible apply wpQ_loadCH); (· first | exact cell_party | exact cell_i8); (· rfl); (· rfl); (· (repeat (first | (with_reducible exact List.mem_cons_self) | with_reducible apply List.mem_cons_of_mem))); (· (with_reducible first | exact edg_g0 .. | exact edg_g1 .. | exact edg_g2 ..)); (simp only [Act.put, List.setIfInBounds_toArray, List.set_cons_zero, List.set_cons_succ])) | ((with_reducible apply wpQ_loadCH); (· exact cell_int); (· rfl); (· rfl); (· (repeat (first | (with_reducible exact List.mem_cons_self) | with_reducible apply List.mem_cons_of_mem))); (· first | exact row17_get _ a17 | exact row17_get _ b17); (simp only [Act.put, List.setIfInBounds_toArray, List.set_cons_zero, List.set_cons_succ])) | go_big_quiet_step (fail))
              refine wpQuiet_nil ?_
              clear H
              intro _ H
              try rw [hw2]
              go_wp2_with (first
                | go_skip
                | ((with_reducible show wpList _ _ _ (_ :: _) _ _); (with_reducible apply wpl_loadCH); (· first | exact cell_party | exact cell_i8); (· rfl); (· rfl); (· exact H); (· (repeat (first | (with_reducible exact List.mem_cons_self) | with_reducible apply List.mem_cons_of_mem))); (· (with_reducible first | exact edg_g0 .. | exact edg_g1 .. | exact edg_g2 ..)); (simp only [Act.put, List.setIfInBounds_toArray, List.set_cons_zero, List.set_cons_succ]))
                | ((with_reducible show wpList _ _ _ (_ :: _) _ _); (with_reducible apply wpl_storeIH); (· exact cell_int); (· rfl); (· rfl); (· rfl); (· exact H); (· (repeat (first | (with_reducible exact List.mem_cons_self) | with_reducible apply List.mem_cons_of_mem))); (· (rw [row17_sz]; omega)); (· exact row17_set _ b17 _); (· (repeat (first | (with_reducible exact Repl.here) | with_reducible apply Repl.there))); (clear H; intro _ H); (simp only [Act.put, List.setIfInBounds_toArray, List.set_cons_zero, List.set_cons_succ]))
                | ((with_reducible show wpList _ _ _ (_ :: _) _ _); (with_reducible apply wpl_storeIH); (· exact cell_party); (· rfl); (· rfl); (· rfl); (· exact H); (· (repeat (first | (with_reducible exact List.mem_cons_self) | with_reducible apply List.mem_cons_of_mem))); (· (rw [par17_sz]; omega)); (· exact par17_set _ b17 _); (· (repeat (first | (with_reducible exact Repl.here) | with_reducible apply Repl.there))); (clear H; intro _ H); (simp only [Act.put, List.setIfInBounds_toArray, List.set_cons_zero, List.set_cons_succ])))
              refine ⟨?_, ?_⟩
              · refine ⟨⟨j + 1, _, by omega, by go_num, ?_, HG.out, ?_, HP2.out, ?_⟩⟩
                · rw [HC.out]
                · have := HB2.out
                  rw [show B + 128 * (j + 1) = B + 128 * j + 128 by omega]
                  exact this
                · rw [HC.out]; exact H.tail
              · simp [intOf]; omega
            · have HC := Lib.hid (relax_no (s := s2) (e := ⟨a, b, n⟩) hc)
              go_wp2_with (go_skip)
              refine ⟨?_, ?_⟩
              · refine ⟨⟨j + 1, s2, by omega, by go_num, rfl, ?_, ?_, ?_, H.tail⟩⟩
                · rw [HG.out, HC.out]
                · have := HB2.out
                  rw [HC.out] at this
                  rw [show B + 128 * (j + 1) = B + 128 * j + 128 by omega]
                  exact this
                · have := HP2.out
                  rwa [HC.out] at this
              · simp [intOf]; omega
          · have hk3 : keepE ⟨a, b, n⟩ = false := by simpa using hk2
            rw [filter_skip hk3] at hG
            have hcase : a < 1 ∨ (1 ≤ a ∧ 16 < a) ∨ (1 ≤ a ∧ a ≤ 16 ∧ b < 1) ∨ (1 ≤ a ∧ a ≤ 16 ∧ 1 ≤ b ∧ 16 < b) := by
              by_cases x1 : 1 ≤ a
              · by_cases x2 : a ≤ 16
                · by_cases x3 : 1 ≤ b
                  · by_cases x4 : b ≤ 16
                    · exact absurd (by simp [keepE, mayP, x1, x2, x3, x4]) hk2
                    · omega
                  · omega
                · omega
              · omega
            have HG := Lib.hid hG
            have HB2 := Lib.hid hb
            have HP2 := Lib.hid hp
            clear hk2 hk3 hG hb hp hokk
            rcases hcase with c1 | ⟨c1, c2⟩ | ⟨c1, c2, c3⟩ | ⟨c1, c2, c3, c4⟩
            · have g1 : decide ((a : Int) < 1) = true := by simp; omega
              go_wp2_with (first
                | go_skip
                | ((with_reducible show wpList _ _ _ (_ :: _) _ _); (with_reducible apply wpl_loadRdR row_redg); (· rfl); (· rfl); (· exact HR.out _ _ (fun x hx => by (first | exact hx | exact List.mem_cons_of_mem _ hx | exact List.mem_cons_of_mem _ (List.mem_cons_of_mem _ hx) | exact List.mem_cons_of_mem _ (List.mem_cons_of_mem _ (List.mem_cons_of_mem _ hx)))) H); (· rfl); (· exact hlen); (· decide); (· exact hrow); (simp only [Act.put, List.setIfInBounds_toArray, List.set_cons_zero, List.set_cons_succ]))
                | ((with_reducible show wpList _ _ _ (_ :: _) _ _); (with_reducible apply wpl_allocRH row_redg); (· rfl); (· exact H); (clear H; intro px _ H); (simp only [Act.put, List.setIfInBounds_toArray, List.set_cons_zero, List.set_cons_succ]))
                | ((with_reducible show wpList _ _ _ (_ :: _) _ _); (with_reducible apply wpl_storeRH row_redg); (· rfl); (· rfl); (· rfl); (· with_reducible exact edg_cells ..); (· exact H); (· (repeat (first | (with_reducible exact List.mem_cons_self) | with_reducible apply List.mem_cons_of_mem))); (· (simp only [edg_sz, Nat.reduceAdd, Nat.reduceLeDiff, Nat.le_refl]; done)); (· with_reducible exact edg_splice ..); (· (repeat (first | (with_reducible exact Repl.here) | with_reducible apply Repl.there))); (clear H; intro _ H); (simp only [Act.put, List.setIfInBounds_toArray, List.set_cons_zero, List.set_cons_succ]))
                | ((with_reducible show wpList _ _ _ (_ :: _) _ _); (with_reducible apply wpl_loadCH); (· first | exact cell_party | exact cell_i8); (· rfl); (· rfl); (· exact H); (· (repeat (first | (with_reducible exact List.mem_cons_self) | with_reducible apply List.mem_cons_of_mem))); (· (with_reducible first | exact edg_g0 .. | exact edg_g1 .. | exact edg_g2 ..)); (simp only [Act.put, List.setIfInBounds_toArray, List.set_cons_zero, List.set_cons_succ])))
              refine ⟨?_, ?_⟩
              · exact ⟨⟨j + 1, s2, by omega, by go_num, rfl, HG.out, fun i => by have := HB2.out i; omega, HP2.out, H.tail⟩⟩
              · simp [intOf]; omega
            · have g1 : decide ((a : Int) < 1) = false := by simp; omega
              have g2 : decide ((a : Int) > 16) = true := by simp; omega
              have g5 : decide (16 < (a : Int)) = true := by simp; omega
              go_wp2_with (first
                | go_skip
                | ((with_reducible show wpList _ _ _ (_ :: _) _ _); (with_reducible apply wpl_loadRdR row_redg); (· rfl); (· rfl); (· exact HR.out _ _ (fun x hx => by (first | exact hx | exact List.mem_cons_of_mem _ hx | exact List.mem_cons_of_mem _ (List.mem_cons_of_mem _ hx) | exact List.mem_cons_of_mem _ (List.mem_cons_of_mem _ (List.mem_cons_of_mem _ hx)))) H); (· rfl); (· exact hlen); (· decide); (· exact hrow); (simp only [Act.put, List.setIfInBounds_toArray, List.set_cons_zero, List.set_cons_succ]))
                | ((with_reducible show wpList _ _ _ (_ :: _) _ _); (with_reducible apply wpl_allocRH row_redg); (· rfl); (· exact H); (clear H; intro px _ H); (simp only [Act.put, List.setIfInBounds_toArray, List.set_cons_zero, List.set_cons_succ]))
                | ((with_reducible show wpList _ _ _ (_ :: _) _ _); (with_reducible apply wpl_storeRH row_redg); (· rfl); (· rfl); (· rfl); (· with_reducible exact edg_cells ..); (· exact H); (· (repeat (first | (with_reducible exact List.mem_cons_self) | with_reducible apply List.mem_cons_of_mem))); (· (simp only [edg_sz, Nat.reduceAdd, Nat.reduceLeDiff, Nat.le_refl]; done)); (· with_reducible exact edg_splice ..); (· (repeat (first | (with_reducible exact Repl.here) | with_reducible apply Repl.there))); (clear H; intro _ H); (simp only [Act.put, List.setIfInBounds_toArray, List.set_cons_zero, List.set_cons_succ]))
                | ((with_reducible show wpList _ _ _ (_ :: _) _ _); (with_reducible apply wpl_loadCH); (· first | exact cell_party | exact cell_i8); (· rfl); (· rfl); (· exact H); (· (repeat (first | (with_reducible exact List.mem_cons_self) | with_reducible apply List.mem_cons_of_mem))); (· (with_reducible first | exact edg_g0 .. | exact edg_g1 .. | exact edg_g2 ..)); (simp only [Act.put, List.setIfInBounds_toArray, List.set_cons_zero, List.set_cons_succ])))
              refine ⟨?_, ?_⟩
              · exact ⟨⟨j + 1, s2, by omega, by go_num, rfl, HG.out, fun i => by have := HB2.out i; omega, HP2.out, H.tail⟩⟩
              · simp [intOf]; omega
            · have g1 : decide ((a : Int) < 1) = false := by simp; omega
              have g2 : decide ((a : Int) > 16) = false := by simp; omega
              have g5 : decide (16 < (a : Int)) = false := by simp; omega
              have g3 : decide ((b : Int) < 1) = true := by simp; omega
              go_wp2_with (first
                | go_skip
                | ((with_reducible show wpList _ _ _ (_ :: _) _ _); (with_reducible apply wpl_loadRdR row_redg); (· rfl); (· rfl); (· exact HR.out _ _ (fun x hx => by (first | exact hx | exact List.mem_cons_of_mem _ hx | exact List.mem_cons_of_mem _ (List.mem_cons_of_mem _ hx) | exact List.mem_cons_of_mem _ (List.mem_cons_of_mem _ (List.mem_cons_of_mem _ hx)))) H); (· rfl); (· exact hlen); (· decide); (· exact hrow); (simp only [Act.put, List.setIfInBounds_toArray, List.set_cons_zero, List.set_cons_succ]))
                | ((with_reducible show wpList _ _ _ (_ :: _) _ _); (with_reducible apply wpl_allocRH row_redg); (· rfl); (· exact H); (clear H; intro px _ H); (simp only [Act.put, List.setIfInBounds_toArray, List.set_cons_zero, List.set_cons_succ]))
                | ((with_reducible show wpList _ _ _ (_ :: _) _ _); (with_reducible apply wpl_storeRH row_redg); (· rfl); (· rfl); (· rfl); (· with_reducible exact edg_cells ..); (· exact H); (· (repeat (first | (with_reducible exact List.mem_cons_self) | with_reducible apply List.mem_cons_of_mem))); (· (simp only [edg_sz, Nat.reduceAdd, Nat.reduceLeDiff, Nat.le_refl]; done)); (· with_reducible exact edg_splice ..); (· (repeat (first | (with_reducible exact Repl.here) | with_reducible apply Repl.there))); (clear H; intro _ H); (simp only [Act.put, List.setIfInBounds_toArray, List.set_cons_zero, List.set_cons_succ]))
                | ((with_reducible show wpList _ _ _ (_ :: _) _ _); (with_reducible apply wpl_loadCH); (· first | exact cell_party | exact cell_i8); (· rfl); (· rfl); (· exact H); (· (repeat (first | (with_reducible exact List.mem_cons_self) | with_reducible apply List.mem_cons_of_mem))); (· (with_reducible first | exact edg_g0 .. | exact edg_g1 .. | exact edg_g2 ..)); (simp only [Act.put, List.setIfInBounds_toArray, List.set_cons_zero, List.set_cons_succ])))
              refine ⟨?_, ?_⟩
              · exact ⟨⟨j + 1, s2, by omega, by go_num, rfl, HG.out, fun i => by have := HB2.out i; omega, HP2.out, H.tail⟩⟩
              · simp [intOf]; omega
            · have g1 : decide ((a : Int) < 1) = false := by simp; omega
              have g2 : decide ((a : Int) > 16) = false := by simp; omega
              have g5 : decide (16 < (a : Int)) = false := by simp; omega
              have g3 : decide ((b : Int) < 1) = false := by simp; omega
              have g4 : decide ((b : Int) > 16) = true := by simp; omega
              have g6 : decide (16 < (b : Int)) = true := by simp; omega
              go_wp2_with (first
                | go_skip
                | ((with_reducible show wpList _ _ _ (_ :: _) _ _); (with_reducible apply wpl_loadRdR row_redg); (· rfl); (· rfl); (· exact HR.out _ _ (fun x hx => by (first | exact hx | exact List.mem_cons_of_mem _ hx | exact List.mem_cons_of_mem _ (List.mem_cons_of_mem _ hx) | exact List.mem_cons_of_mem _ (List.mem_cons_of_mem _ (List.mem_cons_of_mem _ hx)))) H); (· rfl); (· exact hlen); (· decide); (· exact hrow); (simp only [Act.put, List.setIfInBounds_toArray, List.set_cons_zero, List.set_cons_succ]))
                | ((with_reducible show wpList _ _ _ (_ :: _) _ _); (with_reducible apply wpl_allocRH row_redg); (· rfl); (· exact H); (clear H; intro px _ H); (simp only [Act.put, List.setIfInBounds_toArray, List.set_cons_zero, List.set_cons_succ]))
                | ((with_reducible show wpList _ _ _ (_ :: _) _ _); (with_reducible apply wpl_storeRH row_redg); (· rfl); (· rfl); (· rfl); (· with_reducible exact edg_cells ..); (· exact H); (· (repeat (first | (with_reducible exact List.mem_cons_self) | with_reducible apply List.mem_cons_of_mem))); (· (simp only [edg_sz, Nat.reduceAdd, Nat.reduceLeDiff, Nat.le_refl]; done)); (· with_reducible exact edg_splice ..); (· (repeat (first | (with_reducible exact Repl.here) | with_reducible apply Repl.there))); (clear H; intro _ H); (simp only [Act.put, List.setIfInBounds_toArray, List.set_cons_zero, List.set_cons_succ]))
                | ((with_reducible show wpList _ _ _ (_ :: _) _ _); (with_reducible apply wpl_loadCH); (· first | exact cell_party | exact cell_i8); (· rfl); (· rfl); (· exact H); (· (repeat (first | (with_reducible exact List.mem_cons_self) | with_reducible apply List.mem_cons_of_mem))); (· (with_reducible first | exact edg_g0 .. | exact edg_g1 .. | exact edg_g2 ..)); (simp only [Act.put, List.setIfInBounds_toArray, List.set_cons_zero, List.set_cons_succ])))
              refine ⟨?_, ?_⟩
              · exact ⟨⟨j + 1, s2, by omega, by go_num, rfl, HG.out, fun i => by have := HB2.out i; omega, HP2.out, H.tail⟩⟩
              · simp [intOf]; omega
        · obtain rfl : en = j := by omega
          rw [List.drop_of_length_le (by rw [HL.out]; omega)] at hG
          have hG2 : onceS E s = s2 := hG
          have hrun := HRUN.out
          rw [show 16 - k = (15 - k) + 1 by omega] at hrun
          by_cases hz : s2.last = 0
          · have hr2 : runS E (15 - k + 1) s = none := runS_no (by rw [hG2]; exact hz)
            rw [hr2] at hrun
            clear hr2
            have HRR := Lib.hid hrun
            have hz1 : ((s2.last : Int) == 0) = true := by rw [hz]; rfl
            clear hrun hG hG2 hz hb hp
            go_wp2_with (go_skip)
            go_ret
            have e0 : roundOf E = [] := by unfold roundOf; rw [HRR.out]
            refine ⟨_, rfl, ?_⟩
            rw [e0]
            exact (H.tail.tail.nilRow _ _).slide
          · have hr2 : runS E (15 - k + 1) s = runS E (15 - k) (onceS E s) := runS_yes (by rw [hG2]; exact hz)
            rw [hr2, hG2] at hrun
            clear hr2
            have HRR := Lib.hid hrun
            have hz1 : ((s2.last : Int) == 0) = false := by simp; exact hz
            have hz2 : decide ((s2.last : Int) = 0) = false := by simp; exact hz
            have HZ := Lib.hid hz
            have HB2 := Lib.hid hb
            have HP2 := Lib.hid hp
            clear hrun hG hG2 hz hb hp
            go_wp2_with (go_skip)
            refine ⟨?_, ?_⟩
            · refine ⟨⟨k + 1, s2, by omega, by go_num, rfl, fun _ => HZ.out, ?_, ?_, HP2.out, H⟩⟩
              · rw [HRR.out, show 16 - (k + 1) = 15 - k by omega]
              · have := HB2.out
                rw [← HBD.out] at this
                rw [show 128 * en * (k + 1) = 128 * en * k + 128 * en by rw [Nat.mul_add, Nat.mul_one]]
                exact this
            · simp [intOf]; omega
    · obtain rfl : k = 16 := by omega
      have hrun2 : runS E 16 zeroS = some s := hrun
      obtain ⟨m, hC, hround⟩ := round_cyc HI.out hrun2
      obtain ⟨b, kb, hkb, hbk, hbmin, hturn⟩ := turn_ref hC
      rw [hturn] at hround
      have hl17 := hp.1
      have HP := Lib.hid hp.2
      have HC := Lib.hid hC
      have HX := Lib.hid (And.intro hround (And.intro hkb (And.intro hbk hbmin)))
      clear hrun hrun2 hne hb hp hC hround hkb hbk hbmin hturn
      go_wp2_with (go_skip)
      have H0 := H
      clear H
      go_loopw [5, 9] (fun va vi wr => RC W l pf pa s va vi wr) (fun _ vi _ => 16 - (intOf vi).toNat)
      case atStart => exact ⟨0, s.last, by omega, rfl, rfl, hl17, rfl, H0⟩
      case round =>
        obtain ⟨k, x, hkk, rfl, rfl, hb17, hbk, H'⟩ := hrel.out
        clear H0 hrel
        have H := H'
        clear H'
        by_cases hlt2 : k < 16
        · have hP := HP.out x
          rw [show 16 - k = (15 - k) + 1 by omega] at hbk
          have HBK := Lib.hid (show back s.P 16 s.last = back s.P (15 - k) (s.P x) from hbk)
          clear hbk
          go_wp2_with (first
            | go_skip
            | ((with_reducible show wpList _ _ _ (_ :: _) _ _); (with_reducible apply wpl_loadCH); (· exact cell_party); (· rfl); (· rfl); (· exact H); (· (repeat (first | (with_reducible exact List.mem_cons_self) | with_reducible apply List.mem_cons_of_mem))); (· exact par17_get _ hb17); (simp only [Act.put, List.setIfInBounds_toArray, List.set_cons_zero, List.set_cons_succ])))
          refine ⟨?_, ?_⟩
          · refine ⟨⟨k + 1, s.P x, by omega, by go_num, rfl, hP, ?_, H⟩⟩
            rw [HBK.out, show 16 - (k + 1) = 15 - k by omega]
          · simp [intOf]; omega
        · obtain rfl : k = 16 := by omega
          have hbk2 : back s.P 16 s.last = x := hbk
          rw [hbk2] at HC HX
          clear hbk hbk2
          have hm1 := HC.out.pos
          have hm16 := HC.out.max
          go_wp2_with (first
            | go_skip
            | ((with_reducible show wpList _ _ _ (_ :: _) _ _); (with_reducible apply wpl_loadCH); (· exact cell_party); (· rfl); (· rfl); (· exact H); (· (repeat (first | (with_reducible exact List.mem_cons_self) | with_reducible apply List.mem_cons_of_mem))); (· exact par17_get _ hb17); (simp only [Act.put, List.setIfInBounds_toArray, List.set_cons_zero, List.set_cons_succ])))
          have H0 := H
          clear H
          go_loopg [10, 11] m (fun g vl vp wr => RD W l pf pa s x m g vl vp wr)
          case atStart => exact ⟨0, by omega, by omega, rfl, rfl, H0⟩
          case round =>
            obtain ⟨k, hk, hg, rfl, rfl, H'⟩ := hrel.out
            clear H0 hrel
            have H := H'
            clear H'
            have hrk := HC.out.rng (k + 1)
            by_cases hlast : k + 1 = m
            · have hpx : back s.P (k + 1) x = x := by rw [hlast]; exact HC.out.per
              have hmb : minB s.P x k = b := by
                obtain ⟨i, hi, e⟩ := minB_mem (P := s.P) (x := x) k
                have h1 := HX.out.2.2.2 i
                have h2 := minB_le (P := s.P) (x := x) k kb (by have := HX.out.2.1; omega)
                rw [← HX.out.2.2.1] at h2
                omega
              have hCb := HC.out.at kb
              rw [← HX.out.2.2.1] at hCb
              have hb16 := hCb.rng 0
              have hb17b : b < 17 := by have : b ≤ 16 := hb16.2; omega
              have HCB := Lib.hid hCb
              rw [hpx, hmb] 
              have e1 : ((x : Int) != (x : Int)) = false := by simp
              have HK := Lib.hid hlast
              clear hpx hmb hCb hlast
              go_wp2_with (first
                | go_skip
                | ((with_reducible show wpList _ _ _ (_ :: _) _ _); (with_reducible apply wpl_bsOnes _ [.int .u8 (b : Int)]); (· rfl); (· rfl); (· rfl); (· decide); (· decide); (· exact pv_ones b); (· exact bs_party); (· rfl); (· exact H); (clear H; intro pk _ H); (simp only [Act.put, List.setIfInBounds_toArray, List.set_cons_zero, List.set_cons_succ]))
                | ((with_reducible show wpList _ _ _ (_ :: _) _ _); (with_reducible apply wpl_loadCH); (· exact cell_party); (· rfl); (· rfl); (· exact H); (· (repeat (first | (with_reducible exact List.mem_cons_self) | with_reducible apply List.mem_cons_of_mem))); (· exact par17_get _ hb17b); (simp only [Act.put, List.setIfInBounds_toArray, List.set_cons_zero, List.set_cons_succ])))
              have H0 := H.celOwn (n := 1) (size := 1) rfl (by unfold maxLen; omega)
              clear H
              go_loopg [12, 13] m (fun g vo vp wr => RE W l pf pa s b m g vo vp wr)
              case atStart => exact ⟨0, by omega, by omega, rfl, H0⟩
              case round =>
                obtain ⟨k2, hk2, hg2, rfl, H'⟩ := hrel.out
                clear H0 hrel
                have H := H'
                clear H'
                have hrk2 := HCB.out.rng (k2 + 1)
                by_cases hlast2 : k2 + 1 = m
                · have hpb : back s.P (k2 + 1) b = b := by rw [hlast2]; exact HCB.out.per
                  rw [hpb]
                  have e2 : ((b : Int) != (b : Int)) = false := by simp
                  have HK2 := Lib.hid hlast2
                  clear hpb hlast2
                  go_wp2_with (go_skip)
                  go_ret
                  refine ⟨_, rfl, ?_⟩
                  have e3 : roundOf E = buildL s.P b k2 := by
                    rw [HX.out.1, ← buildL_end hm1 HCB.out.per, show m - 1 = k2 by have := HK2.out; omega]
                  rw [e3, buildL_len]
                  exact (H.drop (.there .here)).drop (.there .here)
                · have hne : back s.P (k2 + 1) b ≠ b := HCB.out.min (k2 + 1) (by omega) (by omega)
                  have e2 : (((back s.P (k2 + 1) b : Nat) : Int) != (b : Int)) = true := by simp; omega
                  have e4 : (((back s.P (k2 + 1) b : Nat) : Int) == (b : Int)) = false := by simp; omega
                  have HN := Lib.hid (show back s.P (k2 + 1 + 1) b = s.P (back s.P (k2 + 1) b) from back_succ ..)
                  have HBL := Lib.hid (buildL_succ s.P b k2)
                  have HBN := Lib.hid (buildL_len s.P b k2)
                  have p17 : back s.P (k2 + 1) b < 17 := by omega
                  obtain ⟨g, o, cc, rfl, hcc, hcm⟩ := OwnT.form (H.ok _ List.mem_cons_self) (by omega)
                  have hk21 : 1 ≤ k2 + 1 := by omega
                  generalize back s.P (k2 + 1) b = q at *
                  have hkm : k2 + 1 < m := by omega
                  have htl : (((buildL s.P b k2).map pv).drop 1).length = (k2 + 1 - 1) * 1 := by rw [List.length_drop, List.length_map, HBN.out, Nat.mul_one]
                  have hone : OneCells (((buildL s.P b k2).map pv).drop 1) := fun u hu => by
                    obtain ⟨y, _, rfl⟩ := List.mem_map.1 (List.mem_of_mem_drop hu)
                    rfl
                  have hn1 : 2 + (k2 + 1 - 1) ≤ maxLen := by unfold maxLen; omega
                  have hn2 : (2 + (k2 + 1 - 1)) * 1 ≤ 140737488355328 := by omega
                  have HT := Lib.hid htl
                  clear hne hlast2 htl
                  unfold maxLen at hcm
                  go_wp2_with (first
                    | go_skip
                    | ((with_reducible show wpList _ _ _ (_ :: _) _ _); (with_reducible apply wpl_bsOnes _ [.int .u8 (b : Int), .int .u8 (q : Int)]); (· rfl); (· rfl); (· rfl); (· decide); (· decide); (· exact pv_twos b q); (· exact bs_party); (· rfl); (· exact H); (clear H; intro pk2 _ H); (simp only [Act.put, List.setIfInBounds_toArray, List.set_cons_zero, List.set_cons_succ]))
                    | ((with_reducible show wpList _ _ _ (_ :: _) _ _); (with_reducible apply wpl_cut1 slP); (· rfl); (· rfl); (· exact hk21); (simp only [Act.put, List.setIfInBounds_toArray, List.set_cons_zero, List.set_cons_succ]))
                    | ((with_reducible show wpList _ _ _ (_ :: _) _ _); (with_reducible apply wpl_appendA slP); (· rfl); (· rfl); (· rfl); (· rfl); (· exact celRow2 H); (· exact tailRd H hk21); (· exact HT.out); (· exact hone); (· exact hn1); (· exact hn2); (clear H; intro v2 _ _ H); (simp only [Act.put, List.setIfInBounds_toArray, List.set_cons_zero, List.set_cons_succ]))
                    | ((with_reducible show wpList _ _ _ (_ :: _) _ _); (with_reducible apply wpl_loadCH); (· exact cell_party); (· rfl); (· rfl); (· exact H); (· (repeat (first | (with_reducible exact List.mem_cons_self) | with_reducible apply List.mem_cons_of_mem))); (· exact par17_get _ p17); (simp only [Act.put, List.setIfInBounds_toArray, List.set_cons_zero, List.set_cons_succ])))
                  go_roundg (m - (k2 + 1))
                  case measure => omega
                  case rel =>
                    refine ⟨⟨k2 + 1, by omega, by omega, by rw [HN.out], ?_⟩⟩
                    have H2 := (H.drop (.there .here)).slide
                    rw [HBL.out, List.map_append, List.map_drop]
                    rw [show k2 + 1 + 1 = 2 + (k2 + 1 - 1) by omega]
                    exact H2
            · have hne : back s.P (k + 1) x ≠ x := HC.out.min (k + 1) (by omega) (by omega)
              have e1 : (((back s.P (k + 1) x : Nat) : Int) != (x : Int)) = true := by simp; omega
              have e2 : (((back s.P (k + 1) x : Nat) : Int) == (x : Int)) = false := by simp; omega
              have HN := Lib.hid (show back s.P (k + 1 + 1) x = s.P (back s.P (k + 1) x) from back_succ ..)
              have HM := Lib.hid (show ((minB s.P x (k + 1) : Nat) : Int) = min ((minB s.P x k : Nat) : Int) ((back s.P (k + 1) x : Nat) : Int) by rw [minB]; omega)
              have p17 : back s.P (k + 1) x < 17 := by omega
              generalize back s.P (k + 1) x = q at *
              generalize minB s.P x k = mb at *
              have hkm : k + 1 < m := by omega
              clear hne hlast
              go_wp2_with (first
                | go_skip
                | ((with_reducible show wpList _ _ _ (_ :: _) _ _); (with_reducible apply wpl_loadCH); (· exact cell_party); (· rfl); (· rfl); (· exact H); (· (repeat (first | (with_reducible exact List.mem_cons_self) | with_reducible apply List.mem_cons_of_mem))); (· exact par17_get _ p17); (simp only [Act.put, List.setIfInBounds_toArray, List.set_cons_zero, List.set_cons_succ])))
              go_roundg (m - (k + 1))
              case measure => omega
              case rel => exact ⟨⟨k + 1, by omega, by omega, by rw [HM.out], by rw [HN.out], H⟩⟩
end
end Go.Proofs.YtgobnamhdkbbeaaGreat
