/- A book of pages, over a memory of things: Apart answers true, where each page's list lies apart. -/
import Derived.Test.YtacglcpjbepfnaaFull
import Derived.Test.YtacglcpjbepfnaaHeapOwn
namespace Go.Proofs.Ytacglcpjbepfnaa
open Go.RowKit
set_option linter.unusedSimpArgs false
set_option linter.unusedVariables false
/-- A page: what it is, and its list at three times. -/
structure PageT where
  ty : TypeId
  d : Value
  t0 : Thing
  t1 : Thing
  t2 : Thing
def PageT.v (p : PageT) : Value := .iface p.ty p.d
/-- A method of such a value: one that takes the value itself. -/
structure MethIs (ty : TypeId) (d : Value) (name : String) (f : FuncId) : Prop where
  meth : ∀ fuel w, (method (fuel + 1) ty d name).run Try.prog w = .ok (f, d) w
  enter : ∀ args w, (callFunc f args).run Try.prog w = .ok (.enter f args) w
structure PageOk (p : PageT) : Prop where
  write : ∃ f, MethIs p.ty p.d "countinghouse/countinghouselaw01.write" f ∧ ∀ (W : World) (l : List Thing) (w : World), Heap W (p.t0 :: l) w → Calls Try.prog f #[p.d] w fun e w' => e = .returned (.tuple #[]) ∧ Heap W (p.t1 :: l) w'
  behind : ∃ f, MethIs p.ty p.d "countinghouse/countinghouselaw01.writeBehind" f ∧ ∀ (W : World) (l : List Thing) (w : World), Heap W (p.t1 :: l) w → Calls Try.prog f #[p.d] w fun e w' => e = .returned (.tuple #[]) ∧ Heap W (p.t2 :: l) w'
  stands : ∃ f, MethIs p.ty p.d "countinghouse/countinghouselaw01.stands" f ∧ ∀ (W : World) (l : List Thing) (w : World), Heap W (p.t2 :: l) w → Calls Try.prog f #[p.d] w fun e w' => e = .returned (.bool true) ∧ Heap W (p.t2 :: l) w'
theorem cell_pages : CellTy 58 := ⟨⟨_, Try.underlying58, rfl⟩, by kernel_rfl⟩
theorem cell_page : CellTy 141 := ⟨⟨_, Try.underlying141, rfl⟩, by kernel_rfl⟩
/-- A book. -/
abbrev bookC (v : Value) : Array Value := #[v]
theorem bookC_g (v : Value) : (bookC v)[0]? = some v := rfl
theorem row_book : RowTy 60 1 (bookC (.slice none 0 0)) := ⟨⟨_, Try.underlying60, rfl⟩, by kernel_rfl, by kernel_rfl⟩
theorem bookC_cells : Cells 1 (bookC (.slice none 0 0)) := ⟨rfl, by simp [Value.oneCell']⟩
theorem bookC_sz (v : Value) : (bookC v).size = 1 := rfl
theorem bookC_splice (v : Value) : splice (bookC v) 0 (bookC (.slice none 0 0)) = bookC (.slice none 0 0) := splice_all rfl
abbrev BkT (kb : Nat) (v : Value) : Thing := Cel kb (bookC v) 60
abbrev PgsT (v : Value) (n : Nat) (vs : List Value) : Thing := RowT 141 1 v n vs
structure ApLoop (W : World) (l : List Thing) (kb : Nat) (v : Value) (vs : List Value) (n : Nat) (ts : Nat → List Thing) (i : Value) (wr : World) : Prop where
  out : ∃ k, i = .int .i64 ((k : Nat) : Int) ∧ k ≤ n ∧ Heap W (BkT kb v :: PgsT v n vs :: (ts k ++ l)) wr
theorem mid_perm {x : Thing} {A B l : List Thing} {b p : Thing} : (b :: p :: (A ++ x :: B ++ l)).Perm (x :: b :: p :: (A ++ B ++ l)) := by
  have h : (A ++ x :: B ++ l).Perm (x :: (A ++ B ++ l)) := by
    rw [List.append_assoc, List.append_assoc, List.cons_append]; exact List.perm_middle
  exact (List.Perm.cons _ (List.Perm.cons _ h)).trans ((List.Perm.cons _ (.swap _ _ _)).trans (.swap _ _ _))
section
variable {W w : World} {l : List Thing}
set_option maxRecDepth 100000
set_option maxHeartbeats 4000000
theorem apart_H (kb : Nat) (a : Option Addr) (n c : Nat) (ps : List PageT) (hn : ps.length = n) (h120 : n ≤ 120) (hok : ∀ p ∈ ps, PageOk p) (H : Heap W (BkT kb (.slice a n c) :: PgsT (.slice a n c) n (ps.map PageT.v) :: (ps.map PageT.t0 ++ l)) w) :
    Calls Try.prog 45 #[.pointer (some ⟨kb, 0, none⟩)] w fun e w' => e = .returned (.bool true) ∧ Heap W (BkT kb (.slice a n c) :: PgsT (.slice a n c) n (ps.map PageT.v) :: (ps.map PageT.t2 ++ l)) w' := by
  have HN := Lib.hid hn
  have HO := Lib.hid hok
  clear hn hok
  go_enter Try.func45, Try.ntmps45
  go_wp2_with (first | go_skip | ((with_reducible show wpList _ _ _ (_ :: _) _ _); (with_reducible apply wpl_loadCH); (· exact cell_pages); (· rfl); (· rfl); (· exact H); (· (repeat (first | (with_reducible exact List.mem_cons_self) | with_reducible apply List.mem_cons_of_mem))); (· exact bookC_g _); (simp only [Act.put, List.setIfInBounds_toArray, List.set_cons_zero, List.set_cons_succ])))
  have H0 := H
  clear H
  go_loopw [3] (fun i wr => ApLoop W l kb (.slice a n c) (ps.map PageT.v) n (fun k => (ps.take k).map PageT.t1 ++ (ps.drop k).map PageT.t0) i wr) (fun i _ => n - (intOf i).toNat)
  case atStart => exact ⟨0, rfl, by omega, by simpa using H0⟩
  case round =>
    obtain ⟨k, rfl, hk, H'⟩ := hrel.out
    clear H0 hrel
    have H := H'
    clear H'
    by_cases hlt : k < n
    · have hkp : k < ps.length := by rw [HN.out]; exact hlt
      have hpo := HO.out ps[k] (List.getElem_mem hkp)
      have hv : ((ps.map PageT.v))[k]? = some (ps[k].v) := by rw [List.getElem?_map, List.getElem?_eq_getElem hkp]; rfl
      have e1 : ps.drop k = ps[k] :: ps.drop (k + 1) := List.drop_eq_getElem_cons hkp
      have e2 : ps.take (k + 1) = ps.take k ++ [ps[k]] := by rw [List.take_add_one, List.getElem?_eq_getElem hkp]; rfl
      have HE := Lib.hid (And.intro e1 e2)
      clear e1 e2
      have hrd := H.rowRd (List.mem_cons_of_mem _ List.mem_cons_self)
      obtain ⟨pa, po, rfl, hpc⟩ := hrd k (by rw [List.length_map]; exact hkp)
      rw [show (ps.map PageT.v)[k]'(by rw [List.length_map]; exact hkp) = ps[k].v from List.getElem_map ..] at hpc
      clear hrd hv
      generalize ps[k] = p at *
      obtain ⟨ty, d, t0, t1, t2⟩ := p
      obtain ⟨f, hm, hcall⟩ := hpo.write
      have hm1 := hm.meth
      have hm2 := hm.enter
      simp only [PageT.v] at hpc hm1
      clear hm
      go_wp2_with (first | go_skip | ((with_reducible show wpList _ _ _ (_ :: _) _ _); (with_reducible apply wpl_loadCH); (· exact cell_pages); (· rfl); (· rfl); (· exact H); (· (repeat (first | (with_reducible exact List.mem_cons_self) | with_reducible apply List.mem_cons_of_mem))); (· exact bookC_g _); (simp only [Act.put, List.setIfInBounds_toArray, List.set_cons_zero, List.set_cons_succ])))
      refine (hcall W _ _ (H.perm (by rw [HE.out.1, List.map_cons]; exact mid_perm))).mono ?_
      clear H hcall hm1 hm2
      rintro e w1 ⟨rfl, H⟩
      go_wp2_with (go_skip)
      refine ⟨?_, ?measure⟩
      · refine ⟨⟨k + 1, by go_num, by omega, ?_⟩⟩
        rw [HE.out.2, List.map_append, List.map_cons, List.map_nil]
        have h2 := H.perm (mid_perm (A := (ps.take k).map PageT.t1) (B := (ps.drop (k + 1)).map PageT.t0) (l := l)).symm
        rwa [List.append_assoc (List.map PageT.t1 (List.take k ps)) [_] _]
      case measure => simp [intOf]; omega
    · obtain rfl : n = k := by omega
      rw [List.take_of_length_le (by rw [HN.out]; exact Nat.le_refl _), List.drop_of_length_le (by rw [HN.out]; exact Nat.le_refl _), List.map_nil, List.append_nil] at H
      go_wp2_with (first | go_skip | ((with_reducible show wpList _ _ _ (_ :: _) _ _); (with_reducible apply wpl_loadCH); (· exact cell_pages); (· rfl); (· rfl); (· exact H); (· (repeat (first | (with_reducible exact List.mem_cons_self) | with_reducible apply List.mem_cons_of_mem))); (· exact bookC_g _); (simp only [Act.put, List.setIfInBounds_toArray, List.set_cons_zero, List.set_cons_succ])))
      have H0 := H
      clear H
      go_loopw [4] (fun i wr => ApLoop W l kb (.slice a n c) (ps.map PageT.v) n (fun k => (ps.take k).map PageT.t2 ++ (ps.drop k).map PageT.t1) i wr) (fun i _ => n - (intOf i).toNat)
      case atStart => exact ⟨0, rfl, by omega, by simpa using H0⟩
      case round =>
        obtain ⟨k, rfl, hk, H'⟩ := hrel.out
        clear H0 hrel
        have H := H'
        clear H'
        by_cases hlt : k < n
        · have hkp : k < ps.length := by rw [HN.out]; exact hlt
          have hpo := HO.out ps[k] (List.getElem_mem hkp)
          have hv : ((ps.map PageT.v))[k]? = some (ps[k].v) := by rw [List.getElem?_map, List.getElem?_eq_getElem hkp]; rfl
          have e1 : ps.drop k = ps[k] :: ps.drop (k + 1) := List.drop_eq_getElem_cons hkp
          have e2 : ps.take (k + 1) = ps.take k ++ [ps[k]] := by rw [List.take_add_one, List.getElem?_eq_getElem hkp]; rfl
          have HE := Lib.hid (And.intro e1 e2)
          clear e1 e2
          have hrd := H.rowRd (List.mem_cons_of_mem _ List.mem_cons_self)
          obtain ⟨pa, po, rfl, hpc⟩ := hrd k (by rw [List.length_map]; exact hkp)
          rw [show (ps.map PageT.v)[k]'(by rw [List.length_map]; exact hkp) = ps[k].v from List.getElem_map ..] at hpc
          clear hrd hv
          generalize ps[k] = p at *
          obtain ⟨ty, d, t0, t1, t2⟩ := p
          obtain ⟨f, hm, hcall⟩ := hpo.behind
          have hm1 := hm.meth
          have hm2 := hm.enter
          simp only [PageT.v] at hpc hm1
          clear hm
          go_wp2_with (first | go_skip | ((with_reducible show wpList _ _ _ (_ :: _) _ _); (with_reducible apply wpl_loadCH); (· exact cell_pages); (· rfl); (· rfl); (· exact H); (· (repeat (first | (with_reducible exact List.mem_cons_self) | with_reducible apply List.mem_cons_of_mem))); (· exact bookC_g _); (simp only [Act.put, List.setIfInBounds_toArray, List.set_cons_zero, List.set_cons_succ])))
          refine (hcall W _ _ (H.perm (by rw [HE.out.1, List.map_cons]; exact mid_perm))).mono ?_
          clear H hcall hm1 hm2
          rintro e w1 ⟨rfl, H⟩
          go_wp2_with (go_skip)
          refine ⟨?_, ?measure⟩
          · refine ⟨⟨k + 1, by go_num, by omega, ?_⟩⟩
            rw [HE.out.2, List.map_append, List.map_cons, List.map_nil]
            have h2 := H.perm (mid_perm (A := (ps.take k).map PageT.t2) (B := (ps.drop (k + 1)).map PageT.t1) (l := l)).symm
            rwa [List.append_assoc (List.map PageT.t2 (List.take k ps)) [_] _]
          case measure => simp [intOf]; omega
        · obtain rfl : n = k := by omega
          rw [List.take_of_length_le (by rw [HN.out]; exact Nat.le_refl _), List.drop_of_length_le (by rw [HN.out]; exact Nat.le_refl _), List.map_nil, List.append_nil] at H
          go_wp2_with (first | go_skip | ((with_reducible show wpList _ _ _ (_ :: _) _ _); (with_reducible apply wpl_loadCH); (· exact cell_pages); (· rfl); (· rfl); (· exact H); (· (repeat (first | (with_reducible exact List.mem_cons_self) | with_reducible apply List.mem_cons_of_mem))); (· exact bookC_g _); (simp only [Act.put, List.setIfInBounds_toArray, List.set_cons_zero, List.set_cons_succ])))
          have H0 := H
          clear H
          go_loopw [5] (fun i wr => ApLoop W l kb (.slice a n c) (ps.map PageT.v) n (fun k => (ps.take k).map PageT.t2 ++ (ps.drop k).map PageT.t2) i wr) (fun i _ => n - (intOf i).toNat)
          case atStart => exact ⟨0, rfl, by omega, by simpa using H0⟩
          case round =>
            obtain ⟨k, rfl, hk, H'⟩ := hrel.out
            clear H0 hrel
            have H := H'
            clear H'
            by_cases hlt : k < n
            · have hkp : k < ps.length := by rw [HN.out]; exact hlt
              have hpo := HO.out ps[k] (List.getElem_mem hkp)
              have hv : ((ps.map PageT.v))[k]? = some (ps[k].v) := by rw [List.getElem?_map, List.getElem?_eq_getElem hkp]; rfl
              have e1 : ps.drop k = ps[k] :: ps.drop (k + 1) := List.drop_eq_getElem_cons hkp
              have e2 : ps.take (k + 1) = ps.take k ++ [ps[k]] := by rw [List.take_add_one, List.getElem?_eq_getElem hkp]; rfl
              have HE := Lib.hid (And.intro e1 e2)
              clear e1 e2
              have hrd := H.rowRd (List.mem_cons_of_mem _ List.mem_cons_self)
              obtain ⟨pa, po, rfl, hpc⟩ := hrd k (by rw [List.length_map]; exact hkp)
              rw [show (ps.map PageT.v)[k]'(by rw [List.length_map]; exact hkp) = ps[k].v from List.getElem_map ..] at hpc
              clear hrd hv
              generalize ps[k] = p at *
              obtain ⟨ty, d, t0, t1, t2⟩ := p
              obtain ⟨f, hm, hcall⟩ := hpo.stands
              have hm1 := hm.meth
              have hm2 := hm.enter
              simp only [PageT.v] at hpc hm1
              clear hm
              go_wp2_with (first | go_skip | ((with_reducible show wpList _ _ _ (_ :: _) _ _); (with_reducible apply wpl_loadCH); (· exact cell_pages); (· rfl); (· rfl); (· exact H); (· (repeat (first | (with_reducible exact List.mem_cons_self) | with_reducible apply List.mem_cons_of_mem))); (· exact bookC_g _); (simp only [Act.put, List.setIfInBounds_toArray, List.set_cons_zero, List.set_cons_succ])))
              refine (hcall W _ _ (H.perm (by rw [HE.out.1, List.map_cons]; exact mid_perm))).mono ?_
              clear H hcall hm1 hm2
              rintro e w1 ⟨rfl, H⟩
              go_wp2_with (go_skip)
              refine ⟨?_, ?measure⟩
              · refine ⟨⟨k + 1, by go_num, by omega, ?_⟩⟩
                rw [HE.out.2, List.map_append, List.map_cons, List.map_nil]
                have h2 := H.perm (mid_perm (A := (ps.take k).map PageT.t2) (B := (ps.drop (k + 1)).map PageT.t2) (l := l)).symm
                rwa [List.append_assoc (List.map PageT.t2 (List.take k ps)) [_] _]
              case measure => simp [intOf]; omega
            · obtain rfl : n = k := by omega
              rw [List.take_of_length_le (by rw [HN.out]; exact Nat.le_refl _), List.drop_of_length_le (by rw [HN.out]; exact Nat.le_refl _), List.map_nil, List.append_nil] at H
              go_wp2_with (first | go_skip | ((with_reducible show wpList _ _ _ (_ :: _) _ _); (with_reducible apply wpl_loadCH); (· exact cell_pages); (· rfl); (· rfl); (· exact H); (· (repeat (first | (with_reducible exact List.mem_cons_self) | with_reducible apply List.mem_cons_of_mem))); (· exact bookC_g _); (simp only [Act.put, List.setIfInBounds_toArray, List.set_cons_zero, List.set_cons_succ])))
              go_ret
              exact ⟨rfl, H⟩
end
/-- The book's pages. -/
theorem slPage : SlTy Try.prog 58 141 1 16 .nilIface := slTy_mk Try.underlying58 (by kernel_rfl) rfl (by decide)
theorem bs_page : Try.prog.underlying 58 = some (.slice 141) ∧ (Try.prog.info? 141).map (fun i => (i.size, i.zero)) = some (1, some .nilIface) := ⟨Try.underlying58, by kernel_rfl⟩
structure BkPost (W : World) (l : List Thing) (kb : Nat) (vs : List Value) (n : Nat) (e : Ending) (w' : World) : Prop where
  ret : e = .returned (.tuple #[])
  heap : ∃ a c, Heap W (BkT kb (.slice a n c) :: PgsT (.slice a n c) n vs :: l) w'
section
variable {W w : World} {l : List Thing}
set_option maxRecDepth 100000
set_option maxHeartbeats 4000000
theorem number_H (kb : Nat) (a : Option Addr) (n c : Nat) (hn : n ≤ 1000000) (m : BkT kb (.slice a n c) ∈ l) : AnsH W l 96 #[.pointer (some ⟨kb, 0, none⟩)] (.int .i64 ((n : Int) + 1)) := by
  intro w H
  go_enter Try.func96, Try.ntmps96
  go_wp2_with (first | go_skip | ((with_reducible show wpList _ _ _ (_ :: _) _ _); (with_reducible apply wpl_loadCH); (· exact cell_pages); (· rfl); (· rfl); (· exact H); (· exact m); (· exact bookC_g _); (simp only [Act.put, List.setIfInBounds_toArray, List.set_cons_zero, List.set_cons_succ])))
  go_ret
  exact ⟨rfl, H⟩
/-- A book with its pages so far, and their lists. -/
def Book (W : World) (l : List Thing) (kb : Nat) (ps : List PageT) (w : World) : Prop := ∃ a c, Heap W (BkT kb (.slice a ps.length c) :: PgsT (.slice a ps.length c) ps.length (ps.map PageT.v) :: (ps.map PageT.t0 ++ l)) w ∧ ∀ p ∈ ps, PageOk p
theorem Book.new {kb : Nat} (H : Heap W (BkT kb (.slice none 0 0) :: l) w) : Book W l kb [] w := ⟨none, 0, (H.nilRow _ _).perm (.swap _ _ _), by simp⟩
theorem Book.apart {kb : Nat} {ps : List PageT} (B : Book W l kb ps w) (hn : ps.length ≤ 120) : Calls Try.prog 45 #[.pointer (some ⟨kb, 0, none⟩)] w fun e w' => e = .returned (.bool true) ∧ Heap W l w' := by
  obtain ⟨a, c, H, hok⟩ := B
  refine (apart_H kb a ps.length c ps rfl hn hok H).mono ?_
  rintro e w' ⟨rfl, H⟩
  refine ⟨rfl, ?_⟩
  have H2 := H.tail.tail
  have key : ∀ (l1 : List Thing), Heap W (l1 ++ l) w' → Heap W l w' := by
    intro l1
    induction l1 with
    | nil => exact fun h => h
    | cons x l1 ih => exact fun h => ih h.tail
  exact key _ H2
end
end Go.Proofs.Ytacglcpjbepfnaa
