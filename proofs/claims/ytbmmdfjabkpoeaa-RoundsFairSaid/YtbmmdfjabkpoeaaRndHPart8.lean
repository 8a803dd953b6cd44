/- Part 8 of what several laws stand on: BkApart, TwinF, BkRows, MarkF, BkFl. -/
import Derived.Test.YtbmmdfjabkpoeaaRndHPart7
/- A book of pages, over a memory of things: Apart answers true, where each page's list lies apart. -/
namespace Go.Proofs.Ytbmmdfjabkpoeaa
open Go.RowKit
set_option linter.unusedSimpArgs false
set_option linter.unusedVariables false
/-- A page: what it is, and its list at three times. -/
structure PageT where
  ty : TypeId
  d : Value
  t0 : Thing
  t1 : Thing
  t2 : Thing
def PageT.v (p : PageT) : Value := .iface p.ty p.d
/-- A method of such a value: one that takes the value itself. -/
structure MethIs (ty : TypeId) (d : Value) (name : String) (f : FuncId) : Prop where
  meth : ∀ fuel w, (method (fuel + 1) ty d name).run Try.prog w = .ok (f, d) w
  enter : ∀ args w, (callFunc f args).run Try.prog w = .ok (.enter f args) w
structure PageOk (p : PageT) : Prop where
  write : ∃ f, MethIs p.ty p.d "countinghouse/countinghouselaw01.write" f ∧ ∀ (W : World) (l : List Thing) (w : World), Heap W (p.t0 :: l) w → Calls Try.prog f #[p.d] w fun e w' => e = .returned (.tuple #[]) ∧ Heap W (p.t1 :: l) w'
  behind : ∃ f, MethIs p.ty p.d "countinghouse/countinghouselaw01.writeBehind" f ∧ ∀ (W : World) (l : List Thing) (w : World), Heap W (p.t1 :: l) w → Calls Try.prog f #[p.d] w fun e w' => e = .returned (.tuple #[]) ∧ Heap W (p.t2 :: l) w'
  stands : ∃ f, MethIs p.ty p.d "countinghouse/countinghouselaw01.stands" f ∧ ∀ (W : World) (l : List Thing) (w : World), Heap W (p.t2 :: l) w → Calls Try.prog f #[p.d] w fun e w' => e = .returned (.bool true) ∧ Heap W (p.t2 :: l) w'
theorem cell_pages : CellTy 30 := ⟨⟨_, Try.underlying30, rfl⟩, by kernel_rfl⟩
theorem cell_page : CellTy 68 := ⟨⟨_, Try.underlying68, rfl⟩, by kernel_rfl⟩
/-- A book. -/
abbrev bookC (v : Value) : Array Value := #[v]
theorem bookC_g (v : Value) : (bookC v)[0]? = some v := rfl
theorem row_book : RowTy 32 1 (bookC (.slice none 0 0)) := ⟨⟨_, Try.underlying32, rfl⟩, by kernel_rfl, by kernel_rfl⟩
theorem bookC_cells : Cells 1 (bookC (.slice none 0 0)) := ⟨rfl, by simp [Value.oneCell']⟩
theorem bookC_sz (v : Value) : (bookC v).size = 1 := rfl
theorem bookC_splice (v : Value) : splice (bookC v) 0 (bookC (.slice none 0 0)) = bookC (.slice none 0 0) := splice_all rfl
abbrev BkT (kb : Nat) (v : Value) : Thing := Cel kb (bookC v) 32
abbrev PgsT (v : Value) (n : Nat) (vs : List Value) : Thing := RowT 68 1 v n vs
structure ApLoop (W : World) (l : List Thing) (kb : Nat) (v : Value) (vs : List Value) (n : Nat) (ts : Nat → List Thing) (i : Value) (wr : World) : Prop where
  out : ∃ k, i = .int .i64 ((k : Nat) : Int) ∧ k ≤ n ∧ Heap W (BkT kb v :: PgsT v n vs :: (ts k ++ l)) wr
theorem mid_perm {x : Thing} {A B l : List Thing} {b p : Thing} : (b :: p :: (A ++ x :: B ++ l)).Perm (x :: b :: p :: (A ++ B ++ l)) := by
  have h : (A ++ x :: B ++ l).Perm (x :: (A ++ B ++ l)) := by
    rw [List.append_assoc, List.append_assoc, List.cons_append]; exact List.perm_middle
  exact (List.Perm.cons _ (List.Perm.cons _ h)).trans ((List.Perm.cons _ (.swap _ _ _)).trans (.swap _ _ _))
section
variable {W w : World} {l : List Thing}
set_option maxRecDepth 100000
set_option maxHeartbeats 4000000
theorem apart_H (kb : Nat) (a : Option Addr) (n c : Nat) (ps : List PageT) (hn : ps.length = n) (h120 : n ≤ 120) (hok : ∀ p ∈ ps, PageOk p) (H : Heap W (BkT kb (.slice a n c) :: PgsT (.slice a n c) n (ps.map PageT.v) :: (ps.map PageT.t0 ++ l)) w) :
    Calls Try.prog 15 #[.pointer (some ⟨kb, 0, none⟩)] w fun e w' => e = .returned (.bool true) ∧ Heap W (BkT kb (.slice a n c) :: PgsT (.slice a n c) n (ps.map PageT.v) :: (ps.map PageT.t2 ++ l)) w' := by
  have HN := Lib.hid hn
  have HO := Lib.hid hok
  clear hn hok
  go_enter Try.func15, Try.ntmps15
  go_wp2_with (first | go_skip | ((with_reducible show wpList _ _ _ (_ :: _) _ _); (with_reducible apply wpl_loadCH); (· exact cell_pages); (· rfl); (· rfl); (· exact H); (· (repeat (first | (with_reducible exact List.mem_cons_self) | with_reducible apply List.mem_cons_of_mem))); (· exact bookC_g _); (simp only [Act.put, List.setIfInBounds_toArray, List.set_cons_zero, List.set_cons_succ])))
  have H0 := H
  clear H
  go_loopw [3] (fun i wr => ApLoop W l kb (.slice a n c) (ps.map PageT.v) n (fun k => (ps.take k).map PageT.t1 ++ (ps.drop k).map PageT.t0) i wr) (fun i _ => n - (intOf i).toNat)
  case atStart => exact ⟨0, rfl, by omega, by simpa using H0⟩
  case round =>
    obtain ⟨k, rfl, hk, H'⟩ := hrel.out
    clear H0 hrel
    have H := H'
    clear H'
    by_cases hlt : k < n
    · have hkp : k < ps.length := by rw [HN.out]; exact hlt
      have hpo := HO.out ps[k] (List.getElem_mem hkp)
      have hv : ((ps.map PageT.v))[k]? = some (ps[k].v) := by rw [List.getElem?_map, List.getElem?_eq_getElem hkp]; rfl
      have e1 : ps.drop k = ps[k] :: ps.drop (k + 1) := List.drop_eq_getElem_cons hkp
      have e2 : ps.take (k + 1) = ps.take k ++ [ps[k]] := by rw [List.take_add_one, List.getElem?_eq_getElem hkp]; rfl
      have HE := Lib.hid (And.intro e1 e2)
      clear e1 e2
      have hrd := H.rowRd (List.mem_cons_of_mem _ List.mem_cons_self)
      obtain ⟨pa, po, rfl, hpc⟩ := hrd k (by rw [List.length_map]; exact hkp)
      rw [show (ps.map PageT.v)[k]'(by rw [List.length_map]; exact hkp) = ps[k].v from List.getElem_map ..] at hpc
      clear hrd hv
      generalize ps[k] = p at *
      obtain ⟨ty, d, t0, t1, t2⟩ := p
      obtain ⟨f, hm, hcall⟩ := hpo.write
      have hm1 := hm.meth
      have hm2 := hm.enter
      simp only [PageT.v] at hpc hm1
      clear hm
      go_wp2_with (first | go_skip | ((with_reducible show wpList _ _ _ (_ :: _) _ _); (with_reducible apply wpl_loadCH); (· exact cell_pages); (· rfl); (· rfl); (· exact H); (· (repeat (first | (with_reducible exact List.mem_cons_self) | with_reducible apply List.mem_cons_of_mem))); (· exact bookC_g _); (simp only [Act.put, List.setIfInBounds_toArray, List.set_cons_zero, List.set_cons_succ])))
      refine (hcall W _ _ (H.perm (by rw [HE.out.1, List.map_cons]; exact mid_perm))).mono ?_
      clear H hcall hm1 hm2
      rintro e w1 ⟨rfl, H⟩
      go_wp2_with (go_skip)
      refine ⟨?_, ?measure⟩
      · refine ⟨⟨k + 1, by go_num, by omega, ?_⟩⟩
        rw [HE.out.2, List.map_append, List.map_cons, List.map_nil]
        have h2 := H.perm (mid_perm (A := (ps.take k).map PageT.t1) (B := (ps.drop (k + 1)).map PageT.t0) (l := l)).symm
        rwa [List.append_assoc (List.map PageT.t1 (List.take k ps)) [_] _]
      case measure => simp [intOf]; omega
    · obtain rfl : n = k := by omega
      rw [List.take_of_length_le (by rw [HN.out]; exact Nat.le_refl _), List.drop_of_length_le (by rw [HN.out]; exact Nat.le_refl _), List.map_nil, List.append_nil] at H
      go_wp2_with (first | go_skip | ((with_reducible show wpList _ _ _ (_ :: _) _ _); (with_reducible apply wpl_loadCH); (· exact cell_pages); (· rfl); (· rfl); (· exact H); (· (repeat (first | (with_reducible exact List.mem_cons_self) | with_reducible apply List.mem_cons_of_mem))); (· exact bookC_g _); (simp only [Act.put, List.setIfInBounds_toArray, List.set_cons_zero, List.set_cons_succ])))
      have H0 := H
      clear H
      go_loopw [4] (fun i wr => ApLoop W l kb (.slice a n c) (ps.map PageT.v) n (fun k => (ps.take k).map PageT.t2 ++ (ps.drop k).map PageT.t1) i wr) (fun i _ => n - (intOf i).toNat)
      case atStart => exact ⟨0, rfl, by omega, by simpa using H0⟩
      case round =>
        obtain ⟨k, rfl, hk, H'⟩ := hrel.out
        clear H0 hrel
        have H := H'
        clear H'
        by_cases hlt : k < n
        · have hkp : k < ps.length := by rw [HN.out]; exact hlt
          have hpo := HO.out ps[k] (List.getElem_mem hkp)
          have hv : ((ps.map PageT.v))[k]? = some (ps[k].v) := by rw [List.getElem?_map, List.getElem?_eq_getElem hkp]; rfl
          have e1 : ps.drop k = ps[k] :: ps.drop (k + 1) := List.drop_eq_getElem_cons hkp
          have e2 : ps.take (k + 1) = ps.take k ++ [ps[k]] := by rw [List.take_add_one, List.getElem?_eq_getElem hkp]; rfl
          have HE := Lib.hid (And.intro e1 e2)
          clear e1 e2
          have hrd := H.rowRd (List.mem_cons_of_mem _ List.mem_cons_self)
          obtain ⟨pa, po, rfl, hpc⟩ := hrd k (by rw [List.length_map]; exact hkp)
          rw [show (ps.map PageT.v)[k]'(by rw [List.length_map]; exact hkp) = ps[k].v from List.getElem_map ..] at hpc
          clear hrd hv
          generalize ps[k] = p at *
          obtain ⟨ty, d, t0, t1, t2⟩ := p
          obtain ⟨f, hm, hcall⟩ := hpo.behind
          have hm1 := hm.meth
          have hm2 := hm.enter
          simp only [PageT.v] at hpc hm1
          clear hm
          go_wp2_with (first | go_skip | ((with_reducible show wpList _ _ _ (_ :: _) _ _); (with_reducible apply wpl_loadCH); (· exact cell_pages); (· rfl); (· rfl); (· exact H); (· (repeat (first | (with_reducible exact List.mem_cons_self) | with_reducible apply List.mem_cons_of_mem))); (· exact bookC_g _); (simp only [Act.put, List.setIfInBounds_toArray, List.set_cons_zero, List.set_cons_succ])))
          refine (hcall W _ _ (H.perm (by rw [HE.out.1, List.map_cons]; exact mid_perm))).mono ?_
          clear H hcall hm1 hm2
          rintro e w1 ⟨rfl, H⟩
          go_wp2_with (go_skip)
          refine ⟨?_, ?measure⟩
          · refine ⟨⟨k + 1, by go_num, by omega, ?_⟩⟩
            rw [HE.out.2, List.map_append, List.map_cons, List.map_nil]
            have h2 := H.perm (mid_perm (A := (ps.take k).map PageT.t2) (B := (ps.drop (k + 1)).map PageT.t1) (l := l)).symm
            rwa [List.append_assoc (List.map PageT.t2 (List.take k ps)) [_] _]
          case measure => simp [intOf]; omega
        · obtain rfl : n = k := by omega
          rw [List.take_of_length_le (by rw [HN.out]; exact Nat.le_refl _), List.drop_of_length_le (by rw [HN.out]; exact Nat.le_refl _), List.map_nil, List.append_nil] at H
          go_wp2_with (first | go_skip | ((with_reducible show wpList _ _ _ (_ :: _) _ _); (with_reducible apply wpl_loadCH); (· exact cell_pages); (· rfl); (· rfl); (· exact H); (· (repeat (first | (with_reducible exact List.mem_cons_self) | with_reducible apply List.mem_cons_of_mem))); (· exact bookC_g _); (simp only [Act.put, List.setIfInBounds_toArray, List.set_cons_zero, List.set_cons_succ])))
          have H0 := H
          clear H
          go_loopw [5] (fun i wr => ApLoop W l kb (.slice a n c) (ps.map PageT.v) n (fun k => (ps.take k).map PageT.t2 ++ (ps.drop k).map PageT.t2) i wr) (fun i _ => n - (intOf i).toNat)
          case atStart => exact ⟨0, rfl, by omega, by simpa using H0⟩
          case round =>
            obtain ⟨k, rfl, hk, H'⟩ := hrel.out
            clear H0 hrel
            have H := H'
            clear H'
            by_cases hlt : k < n
            · have hkp : k < ps.length := by rw [HN.out]; exact hlt
              have hpo := HO.out ps[k] (List.getElem_mem hkp)
              have hv : ((ps.map PageT.v))[k]? = some (ps[k].v) := by rw [List.getElem?_map, List.getElem?_eq_getElem hkp]; rfl
              have e1 : ps.drop k = ps[k] :: ps.drop (k + 1) := List.drop_eq_getElem_cons hkp
              have e2 : ps.take (k + 1) = ps.take k ++ [ps[k]] := by rw [List.take_add_one, List.getElem?_eq_getElem hkp]; rfl
              have HE := Lib.hid (And.intro e1 e2)
              clear e1 e2
              have hrd := H.rowRd (List.mem_cons_of_mem _ List.mem_cons_self)
              obtain ⟨pa, po, rfl, hpc⟩ := hrd k (by rw [List.length_map]; exact hkp)
              rw [show (ps.map PageT.v)[k]'(by rw [List.length_map]; exact hkp) = ps[k].v from List.getElem_map ..] at hpc
              clear hrd hv
              generalize ps[k] = p at *
              obtain ⟨ty, d, t0, t1, t2⟩ := p
              obtain ⟨f, hm, hcall⟩ := hpo.stands
              have hm1 := hm.meth
              have hm2 := hm.enter
              simp only [PageT.v] at hpc hm1
              clear hm
              go_wp2_with (first | go_skip | ((with_reducible show wpList _ _ _ (_ :: _) _ _); (with_reducible apply wpl_loadCH); (· exact cell_pages); (· rfl); (· rfl); (· exact H); (· (repeat (first | (with_reducible exact List.mem_cons_self) | with_reducible apply List.mem_cons_of_mem))); (· exact bookC_g _); (simp only [Act.put, List.setIfInBounds_toArray, List.set_cons_zero, List.set_cons_succ])))
              refine (hcall W _ _ (H.perm (by rw [HE.out.1, List.map_cons]; exact mid_perm))).mono ?_
              clear H hcall hm1 hm2
              rintro e w1 ⟨rfl, H⟩
              go_wp2_with (go_skip)
              refine ⟨?_, ?measure⟩
              · refine ⟨⟨k + 1, by go_num, by omega, ?_⟩⟩
                rw [HE.out.2, List.map_append, List.map_cons, List.map_nil]
                have h2 := H.perm (mid_perm (A := (ps.take k).map PageT.t2) (B := (ps.drop (k + 1)).map PageT.t2) (l := l)).symm
                rwa [List.append_assoc (List.map PageT.t2 (List.take k ps)) [_] _]
              case measure => simp [intOf]; omega
            · obtain rfl : n = k := by omega
              rw [List.take_of_length_le (by rw [HN.out]; exact Nat.le_refl _), List.drop_of_length_le (by rw [HN.out]; exact Nat.le_refl _), List.map_nil, List.append_nil] at H
              go_wp2_with (first | go_skip | ((with_reducible show wpList _ _ _ (_ :: _) _ _); (with_reducible apply wpl_loadCH); (· exact cell_pages); (· rfl); (· rfl); (· exact H); (· (repeat (first | (with_reducible exact List.mem_cons_self) | with_reducible apply List.mem_cons_of_mem))); (· exact bookC_g _); (simp only [Act.put, List.setIfInBounds_toArray, List.set_cons_zero, List.set_cons_succ])))
              go_ret
              exact ⟨rfl, H⟩
end
/-- The book's pages. -/
theorem slPage : SlTy Try.prog 30 68 1 16 .nilIface := slTy_mk Try.underlying30 (by kernel_rfl) rfl (by decide)
theorem bs_page : Try.prog.underlying 30 = some (.slice 68) ∧ (Try.prog.info? 68).map (fun i => (i.size, i.zero)) = some (1, some .nilIface) := ⟨Try.underlying30, by kernel_rfl⟩
structure BkPost (W : World) (l : List Thing) (kb : Nat) (vs : List Value) (n : Nat) (e : Ending) (w' : World) : Prop where
  ret : e = .returned (.tuple #[])
  heap : ∃ a c, Heap W (BkT kb (.slice a n c) :: PgsT (.slice a n c) n vs :: l) w'
section
variable {W w : World} {l : List Thing}
set_option maxRecDepth 100000
set_option maxHeartbeats 4000000
theorem number_H (kb : Nat) (a : Option Addr) (n c : Nat) (hn : n ≤ 1000000) (m : BkT kb (.slice a n c) ∈ l) : AnsH W l 29 #[.pointer (some ⟨kb, 0, none⟩)] (.int .i64 ((n : Int) + 1)) := by
  intro w H
  go_enter Try.func29, Try.ntmps29
  go_wp2_with (first | go_skip | ((with_reducible show wpList _ _ _ (_ :: _) _ _); (with_reducible apply wpl_loadCH); (· exact cell_pages); (· rfl); (· rfl); (· exact H); (· exact m); (· exact bookC_g _); (simp only [Act.put, List.setIfInBounds_toArray, List.set_cons_zero, List.set_cons_succ])))
  go_ret
  exact ⟨rfl, H⟩
/-- A book with its pages so far, and their lists. -/
def Book (W : World) (l : List Thing) (kb : Nat) (ps : List PageT) (w : World) : Prop := ∃ a c, Heap W (BkT kb (.slice a ps.length c) :: PgsT (.slice a ps.length c) ps.length (ps.map PageT.v) :: (ps.map PageT.t0 ++ l)) w ∧ ∀ p ∈ ps, PageOk p
theorem Book.new {kb : Nat} (H : Heap W (BkT kb (.slice none 0 0) :: l) w) : Book W l kb [] w := ⟨none, 0, (H.nilRow _ _).perm (.swap _ _ _), by simp⟩
theorem Book.apart {kb : Nat} {ps : List PageT} (B : Book W l kb ps w) (hn : ps.length ≤ 120) : Calls Try.prog 15 #[.pointer (some ⟨kb, 0, none⟩)] w fun e w' => e = .returned (.bool true) ∧ Heap W l w' := by
  obtain ⟨a, c, H, hok⟩ := B
  refine (apart_H kb a ps.length c ps rfl hn hok H).mono ?_
  rintro e w' ⟨rfl, H⟩
  refine ⟨rfl, ?_⟩
  have H2 := H.tail.tail
  have key : ∀ (l1 : List Thing), Heap W (l1 ++ l) w' → Heap W l w' := by
    intro l1
    induction l1 with
    | nil => exact fun h => h
    | cons x l1 ih => exact fun h => ih h.tail
  exact key _ H2
end
end Go.Proofs.Ytbmmdfjabkpoeaa

/- Twins of flows, and whether they were left. -/
namespace Go.Proofs.Ytbmmdfjabkpoeaa
open Go.RowKit
set_option linter.unusedSimpArgs false
set_option linter.unusedVariables false
abbrev mkF : Array Value := flow 0 0 (-77)
abbrev mkF2 : List Value := [.int .u8 0, .int .u8 0, .int .i64 (-77), .int .u8 0, .int .u8 0, .int .i64 (-77)]
theorem flwL_ones (F : List Flw) : OneCells (flwL F) := fun u hu => by
  unfold flwL at hu
  rw [List.mem_flatMap] at hu
  obtain ⟨x, _, hx⟩ := hu
  simp only [flwV, List.mem_cons, List.not_mem_nil, or_false] at hx
  rcases hx with rfl | rfl | rfl <;> rfl
theorem mkF2_one : OneCells mkF2 := by
  intro u hu
  simp only [mkF2, List.mem_cons, List.not_mem_nil, or_false] at hu
  rcases hu with rfl | rfl | rfl | rfl | rfl | rfl <;> rfl
/-- A twin: the list, and two marks behind it. -/
abbrev TwT (a : Option Addr) (c n : Nat) (F : List Flw) : Thing := RowT 39 3 (.slice a (n + 2) c) (n + 2) (flwL F ++ mkF2)
theorem madeRowF {W w : World} {l : List Thing} {g m : Nat} {z : Value} {e size : Nat} (H : Heap W (Cel g (madeCells z.cells (m * size)) e :: l) w) (hm : m ≤ maxLen) : Heap W (RowT e size (.slice (some ⟨g, 0, none⟩) 0 m) 0 [] :: l) w := by
  have := H.celRowA (n := 0) (m := m) (size := size) (by rw [size_madeCells]) (Nat.zero_le _) hm
  simpa using this
section
variable {ops : Array Oper} {rest : List Oper} {a : Act} {w W : World} {l : List Thing} {Q : Exit → Act → World → Prop}
theorem run_bs2F (w : World) : (Instr.buildSlice 22 2 #[(0, .agg mkF), (1, .agg mkF)]).run Try.prog w = .ok (.slice (some ⟨w.heap.size, 0, none⟩) 2 2) (w.alloc (.cells mkF2.toArray 39)) := by
  obtain ⟨i, hi, hz, hsi, hbi⟩ := slF.inf
  have r1 : (sizeOf 39).run Try.prog w = .ok 3 w := by simp [sizeOf, typeInfo, hi, hsi, go_sem]
  have r2 : (zeroValue 39).run Try.prog w = .ok (.agg (flow 0 0 0)) w := by simp [zeroValue, typeInfo, hi, hz, go_sem]
  unfold Instr.buildSlice
  rw [Sem.run_bind, run_underlying slF.und]
  simp only [Result.andThen_ok]
  rw [Sem.run_bind, r1]
  simp only [Result.andThen_ok]
  rw [if_neg (by decide), if_neg (by decide)]
  have hf : Instr.fill (fun i => some (i * 3, 3)) (Array.map (fun x => (Value.agg (flow 0 0 0)).cells[x % (Value.agg (flow 0 0 0)).cells.size]!) (Array.range (2 * 3))) [(0, Value.agg mkF), (1, Value.agg mkF)] = some mkF2.toArray := by kernel_rfl
  simp only [Sem.run_bind, r2, Result.andThen_ok, Sem.run_pure]
  rw [hf]
  simp [newRow, go_sem]
theorem wpl_bs2F {dst : Option Tmp} {ty : TypeId} {pos : String} {after : Array Edge} {guard : Option (Nat × Bool)} {x y : Operand} (hw : Region.wanted ⟨dst, .buildSlice 22 2 #[(0, x), (1, y)], ty, pos, after, guard⟩ (yielded ops a.tmps) = true)
    (hx : a.eval x = .agg mkF) (hy : a.eval y = .agg mkF) (H : Heap W l w) (h : ∀ p w', Heap W (Cel p mkF2.toArray 39 :: l) w' → wpList Try.prog ops Q rest (a.put dst (.slice (some ⟨p, 0, none⟩) 2 2)) w') : wpList Try.prog ops Q (⟨dst, .buildSlice 22 2 #[(0, x), (1, y)], ty, pos, after, guard⟩ :: rest) a w := by
  refine BigFrame.wpList_want hw fun K hK => ?_
  unfold Oper.wp execOp
  simp only [List.map_toArray, List.map_cons, List.map_nil, hx, hy, Sem.run_bind, run_bs2F, Result.andThen_ok, Sem.run_pure]
  exact hK _ _ (h _ _ (H.alloc _ _))
theorem eqlF_run (a b n x y z : Int) (w : World) : (binOp .eql 39 (.agg (flow a b n)) (.agg (flow x y z))).run Try.prog w = .ok (.bool (flowSame a b n x y z)) w := by
  have h : (Op.equal 39 (.agg (flow a b n)) (.agg (flow x y z))).run Try.prog w = .ok (flowSame a b n x y z) w := eqF_run 9998 a b n x y z w
  simp only [binOp]
  simp [Sem.run_bind, h]
theorem wpQ_eqlF {dst : Option Tmp} {ty : TypeId} {pos : String} {after : Array Edge} {guard : Option (Nat × Bool)} {p q : Operand} {a0 b0 n0 x y n : Int} {K : Act → Prop} {H : Heap W l w} (hw : Region.wanted ⟨dst, .binOp .eql 39 p q 39, ty, pos, after, guard⟩ (yielded ops a.tmps) = true) (hp : a.eval p = .agg (flow a0 b0 n0)) (hq : a.eval q = .agg (flow x y n)) {r : Bool} (hr : flowSame a0 b0 n0 x y n = r)
    (h : wpQuiet Try.prog ops (fun w' => ∃ d, w' = H.any d) K rest (a.put dst (.bool r))) : wpQuiet Try.prog ops (fun w' => ∃ d, w' = H.any d) K (⟨dst, .binOp .eql 39 p q 39, ty, pos, after, guard⟩ :: rest) a := by
  subst hr
  have hg : (Try.prog.eqGuardType Try.prog.depth 39) = false := by kernel_rfl
  refine BigFrame.wpQuiet_want hw fun K hK => ⟨_, ?_, hK _ h⟩
  rintro _ ⟨d, rfl⟩
  unfold Oper.quietAt execOp
  simp only [hp, hq, Sem.run_bind, eqlF_run]
  simp [eqGuard, hg, eqlF_run]
  exact ⟨rfl, rfl⟩
end
section
variable {W w : World} {l : List Thing}
set_option maxRecDepth 100000
set_option maxHeartbeats 4000000
theorem twin_F (ea : Option Addr) (n ec : Nat) (F : List Flw) (hl : F.length = n) (hn : n ≤ 10000) (R : ∀ l' w', (∀ x ∈ l, x ∈ l') → Heap W l' w' → Rd w' ea (flwL F)) (H : Heap W l w) :
    Calls Try.prog 20 #[.slice ea n ec, .agg mkF] w fun e w' => ∃ a c, e = .returned (.slice a n c) ∧ n + 2 ≤ c ∧ c ≤ maxLen ∧ Heap W (TwT a c n F :: l) w' := by
  have HR := Lib.hid R
  have hlen : (flwL F).length = n * 3 := by rw [flwL_len, hl]
  have h1 : 0 + n ≤ maxLen := by unfold maxLen; omega
  have h2 : (0 + n) * 16 ≤ 140737488355328 := by omega
  have h3 : 0 + n + 2 ≤ maxLen := by unfold maxLen; omega
  have h4 : (0 + n + 2) * 16 ≤ 140737488355328 := by omega
  have h5 : n + 2 ≤ maxLen := by unfold maxLen; omega
  have h6 : n + 2 ≤ 65536 := by omega
  have h7 : 16 * (n + 2) ≤ 281474976710656 := by omega
  clear R hl
  go_enter Try.func20, Try.ntmps20
  go_wp2_with (first
    | go_skip
    | ((with_reducible show wpList _ _ _ (_ :: _) _ _); (with_reducible apply wpl_boxRH); (· rfl); (· rfl); (· exact H); (clear H; intro px _ H); (simp only [Act.put, List.setIfInBounds_toArray, List.set_cons_zero, List.set_cons_succ]))
    | ((with_reducible show wpList _ _ _ (_ :: _) _ _); (with_reducible apply wpl_makeC slF (n := 0) (m := n + 2)); (· rfl); (· rfl); (· rfl); (· rfl); (· omega); (· omega); (· omega); (· exact H); (clear H; intro pm _ H); (simp only [Act.put, List.setIfInBounds_toArray, List.set_cons_zero, List.set_cons_succ]))
    | ((with_reducible show wpList _ _ _ (_ :: _) _ _); (with_reducible apply wpl_appendA slF); (· rfl); (· rfl); (· rfl); (· rfl); (· exact madeRowF H h5); (· exact HR.out _ _ (fun x hx => List.mem_cons_of_mem _ (List.mem_cons_of_mem _ hx)) H); (· exact hlen); (· exact flwL_ones F); (· exact h1); (· exact h2); (clear H; intro v1 _ _ H); (simp only [Act.put, List.setIfInBounds_toArray, List.set_cons_zero, List.set_cons_succ]))
    | ((with_reducible show wpList _ _ _ (_ :: _) _ _); (with_reducible apply wpl_loadRH row_flow); (· rfl); (· rfl); (· exact H); (· (repeat (first | (with_reducible exact List.mem_cons_self) | with_reducible apply List.mem_cons_of_mem))); (· (simp only [flow_sz, Nat.reduceAdd, Nat.reduceLeDiff, Nat.le_refl]; done)); (· with_reducible exact flow_all ..); (simp only [Act.put, List.setIfInBounds_toArray, List.set_cons_zero, List.set_cons_succ]))
    | ((with_reducible show wpList _ _ _ (_ :: _) _ _); (with_reducible apply wpl_bs2F); (· rfl); (· rfl); (· rfl); (· exact H); (clear H; intro pk _ H); (simp only [Act.put, List.setIfInBounds_toArray, List.set_cons_zero, List.set_cons_succ]))
    | ((with_reducible show wpList _ _ _ (_ :: _) _ _); (with_reducible apply wpl_appendA slF); (· rfl); (· rfl); (· rfl); (· rfl); (· exact H.pull (.there .here)); (· exact H.celRd List.mem_cons_self); (· rfl); (· exact mkF2_one); (· exact h3); (· exact h4); (clear H; intro v2 _ _ H; obtain ⟨a2, c2, rfl, hc2, hm2⟩ := RowT.form0 (H.ok _ List.mem_cons_self)); (simp only [Act.put, List.setIfInBounds_toArray, List.set_cons_zero, List.set_cons_succ]))
    | ((with_reducible show wpList _ _ _ (_ :: _) _ _); (with_reducible apply wpl_cutTo slF); (· rfl); (· rfl); (· rfl); (· omega); (simp only [Act.put, List.setIfInBounds_toArray, List.set_cons_zero, List.set_cons_succ])))
  go_ret
  simp only [Nat.zero_add, List.nil_append] at H hc2
  exact ⟨a2, c2, rfl, hc2, hm2, (H.drop (.there .here)).drop (.there .here)⟩
theorem twinFlows_H (ea : Option Addr) (n ec : Nat) (F : List Flw) (hl : F.length = n) (hn : n ≤ 10000) (R : ∀ l' w', (∀ x ∈ l, x ∈ l') → Heap W l' w' → Rd w' ea (flwL F)) (H : Heap W l w) :
    Calls Try.prog 9 #[.slice ea n ec] w fun e w' => ∃ a c, e = .returned (.slice a n c) ∧ n + 2 ≤ c ∧ c ≤ maxLen ∧ Heap W (TwT a c n F :: l) w' := by
  have C := twin_F ea n ec F hl hn R H
  clear hl R H
  go_enter Try.func9, Try.ntmps9
  go_wp2_with (go_skip)
  refine C.mono ?_
  clear C
  rintro e w' ⟨a, c, rfl, h1, h2, H⟩
  go_wp2_with (go_skip)
  go_ret
  exact ⟨a, c, rfl, h1, h2, H⟩
theorem left_F (a ea : Option Addr) (n c ec : Nat) (F : List Flw) (hl : F.length = n) (hn : n ≤ 10000) (hc : n + 2 ≤ c) (hm : c ≤ maxLen) (m : TwT a c n F ∈ l) (R : ∀ l' w', (∀ x ∈ l, x ∈ l') → Heap W l' w' → Rd w' ea (flwL F)) :
    AnsH W l 28 #[.slice a n c, .slice ea n ec, .agg mkF] (.bool true) := by
  intro w H
  obtain ⟨g, c', e, _, _⟩ := RowT.sl (H.ok _ m) (by omega)
  simp only [Value.slice.injEq, true_and] at e
  obtain ⟨rfl, rfl⟩ := e
  have hlen : (flwL F).length = n * 3 := by rw [flwL_len, hl]
  have HT := Lib.hid (show ∀ l' w', TwT (some ⟨g, 0, none⟩) c n F ∈ l' → Heap W l' w' → Rd w' (some ⟨g, 0, none⟩) (flwL F ++ mkF2) from fun l' w' m h => h.rowRd m)
  have HTF := fun l' w' m h => by
    have := (HT.out l' w' m h).takeN (flwL F).length
    rwa [List.take_left] at this
  have HS := fun (x : Thing) => sameF_P (W := W) (l := x :: l) (A := F) (B := F) (some ⟨g, 0, none⟩) ea n c ec hl hl (by omega) (fun w' h => HTF _ w' (List.mem_cons_of_mem _ m) h) (fun w' h => R _ w' (fun y hy => List.mem_cons_of_mem _ hy) h)
  rw [decide_eq_true rfl] at HS
  have HS := Lib.hid HS
  obtain ⟨q, hq⟩ : ∃ q, c - n = q := ⟨_, rfl⟩
  have hcut : cutA (some ⟨g, 0, none⟩) c n 3 = some ⟨g, n * 3, none⟩ := by
    unfold cutA
    rw [if_neg (by omega)]
    simp [addr_add]
  have HCUT := Lib.hid (And.intro hcut hq)
  have q1 : decide ((q : Int) < 2) = false := by simp; omega
  have hle2 : n ≤ c := by omega
  have hb1 : n * 3 + 3 ≤ (flwL F ++ mkF2).length := by rw [List.length_append, hlen]; simp [mkF2]
  have hb2 : n * 3 + 3 + 3 ≤ (flwL F ++ mkF2).length := by rw [List.length_append, hlen]; simp [mkF2]
  have hv1 : (((flwL F ++ mkF2).drop (n * 3)).take 3).toArray = mkF := by rw [← hlen, List.drop_left]; rfl
  have hv2 : (((flwL F ++ mkF2).drop (n * 3 + 3)).take 3).toArray = mkF := by
    rw [← hlen, ← List.drop_drop, List.drop_left]; rfl
  have hff : flowSame 0 0 (-77) 0 0 (-77) = true := by decide
  clear hcut HTF hl R hlen
  go_enter Try.func28, Try.ntmps28
  go_wp2_with (first
    | go_skip
    | ((with_reducible show wpList _ _ _ (_ :: _) _ _); (with_reducible apply wpl_boxRH); (· rfl); (· rfl); (· exact H); (clear H; intro px _ H); (simp only [Act.put, List.setIfInBounds_toArray, List.set_cons_zero, List.set_cons_succ]))
    | ((refine (HS.out _ _ H).mono ?_); clear H; rintro _ _ ⟨rfl, H⟩)
    | ((with_reducible show wpList _ _ _ (_ :: _) _ _); (with_reducible apply wpl_cutBoth slF); (· rfl); (· rfl); (· rfl); (· rfl); (· exact hle2); (· exact Nat.le_refl _); (· exact HCUT.out.1); (· exact HCUT.out.2); (· exact HCUT.out.2); (simp only [Act.put, List.setIfInBounds_toArray, List.set_cons_zero, List.set_cons_succ])))
  have hq2 : 2 ≤ q := by have := HCUT.out.2; omega
  have HT1 := Lib.hid (show ∀ w', Heap W (Cel px mkF 39 :: l) w' → Rd w' (some ⟨g, 0, none⟩) (flwL F ++ mkF2) from fun w' h => HT.out _ w' (List.mem_cons_of_mem _ m) h)
  refine wp_region_H H (by kernel_rfl) (by kernel_rfl) ?_
  repeat (first | go_big_quiet_skip | (first | ((with_reducible apply wpQ_loadRdR0 row_flow); (· rfl); (· rfl); (· exact HT1.out); (· exact hb1); (· decide); (· exact hv1); (simp only [Act.put, List.setIfInBounds_toArray, List.set_cons_zero, List.set_cons_succ])) | ((with_reducible apply wpQ_loadRdR0 row_flow); (· rfl); (· rfl); (· exact HT1.out); (· exact hb2); (· decide); (· exact hv2); (simp only [Act.put, List.setIfInBounds_toArray, List.set_cons_zero, List.set_cons_succ])) | ((with_reducible apply wpQ_loadRH row_flow); (· rfl); (· rfl); (· (repeat (first | (with_reducible exact List.mem_cons_self) | with_reducible apply List.mem_cons_of_mem))); (· (simp only [flow_sz, Nat.reduceAdd, Nat.reduceLeDiff, Nat.le_refl]; done)); (· with_reducible exact flow_all ..); (simp only [Act.put, List.setIfInBounds_toArray, List.set_cons_zero, List.set_cons_succ])) | ((with_reducible apply wpQ_eqlF); (· rfl); (· rfl); (· rfl); (· exact hff); (simp only [Act.put, List.setIfInBounds_toArray, List.set_cons_zero, List.set_cons_succ]))) | go_big_quiet_step (fail))
  refine wpQuiet_nil ?_
  clear H
  intro _ H
  go_wp2_with (go_skip)
  go_ret
  exact ⟨rfl, H.tail⟩
theorem leftFlows_H (a ea : Option Addr) (n c ec : Nat) (F : List Flw) (hl : F.length = n) (hn : n ≤ 10000) (hc : n + 2 ≤ c) (hm : c ≤ maxLen) (m : TwT a c n F ∈ l) (R : ∀ l' w', (∀ x ∈ l, x ∈ l') → Heap W l' w' → Rd w' ea (flwL F)) :
    AnsH W l 13 #[.slice a n c, .slice ea n ec] (.bool true) := by
  intro w H
  have C := left_F a ea n c ec F hl hn hc hm m R
  clear hl hm m R
  go_enter Try.func13, Try.ntmps13
  go_wp2_with (first | go_skip | ((refine (C _ H).mono ?_); clear H; rintro _ _ ⟨rfl, H⟩))
  go_ret
  exact ⟨rfl, H⟩
end
end Go.Proofs.Ytbmmdfjabkpoeaa

/- Pages of rows: what is written where. -/
namespace Go.Proofs.Ytbmmdfjabkpoeaa
open Go.RowKit
def bkPut (xs : List Value) (k K : Nat) (m : Array Value) : List Value := xs.take (k * K) ++ m.toList ++ xs.drop (k * K + K)
theorem bkPut_len {xs : List Value} {k K : Nat} {m : Array Value} (hm : m.size = K) (h : k * K + K ≤ xs.length) : (bkPut xs k K m).length = xs.length := by
  unfold bkPut
  simp [hm]
  omega
theorem bkPut_at {xs : List Value} {k K : Nat} {m : Array Value} (hm : m.size = K) (h : k * K + K ≤ xs.length) : ((bkPut xs k K m).drop (k * K)).take K = m.toList := by
  unfold bkPut
  have h1 : (xs.take (k * K)).length = k * K := by simp; omega
  rw [List.append_assoc]
  conv => lhs; rw [← h1]
  rw [h1, List.drop_append_of_le_length (by omega), List.drop_of_length_le (by omega), List.nil_append]
  have h2 : m.toList.length = K := by simpa using hm
  rw [← h2, List.take_left]
theorem bkPut_off {xs : List Value} {k K i : Nat} {m : Array Value} (hm : m.size = K) (h : k * K + K ≤ xs.length) (hi : i ≠ k) : ((bkPut xs k K m).drop (i * K)).take K = (xs.drop (i * K)).take K := by
  unfold bkPut
  have h1 : (xs.take (k * K)).length = k * K := by simp; omega
  have h2 : m.toList.length = K := by simpa using hm
  apply List.ext_getElem?
  intro j
  rw [List.getElem?_take, List.getElem?_take]
  by_cases hj : j < K
  · rw [if_pos hj, if_pos hj, List.getElem?_drop, List.getElem?_drop]
    rcases Nat.lt_or_gt_of_ne hi with hlt | hgt
    · have h3 : i * K + K ≤ k * K := by
        have := Nat.mul_le_mul_right K (show i + 1 ≤ k from hlt)
        rw [Nat.succ_mul] at this
        exact this
      rw [List.append_assoc, List.getElem?_append_left (by omega), List.getElem?_take, if_pos (by omega)]
    · have h3 : k * K + K ≤ i * K := by
        have := Nat.mul_le_mul_right K (show k + 1 ≤ i from hgt)
        rw [Nat.succ_mul] at this
        exact this
      rw [List.append_assoc, List.getElem?_append_right (by omega), List.getElem?_append_right (by omega), List.getElem?_drop]
      congr 1
      omega
  · rw [if_neg hj, if_neg hj]
def MarksR (K : Nat) (m : Array Value) (lo hi : Nat) (xs : List Value) : Prop := ∀ i, lo ≤ i → i < hi → (xs.drop (i * K)).take K = m.toList
theorem MarksR.step {K : Nat} {m : Array Value} {lo k : Nat} {xs : List Value} (h : MarksR K m lo k xs) (hm : m.size = K) (hk : k * K + K ≤ xs.length) : MarksR K m lo (k + 1) (bkPut xs k K m) := by
  intro i h1 h2
  by_cases e : i = k
  · subst e; exact bkPut_at hm hk
  · rw [bkPut_off hm hk e]; exact h i h1 (by omega)
theorem MarksR.off {K : Nat} {m m2 : Array Value} {lo hi k : Nat} {xs : List Value} (h : MarksR K m lo hi xs) (hm : m2.size = K) (hk : k * K + K ≤ xs.length) (hh : hi ≤ k) : MarksR K m lo hi (bkPut xs k K m2) := by
  intro i h1 h2
  rw [bkPut_off hm hk (by omega)]
  exact h i h1 h2
def browR (sl : Value) (m b : Array Value) : Array Value := (sl :: (m.toList ++ b.toList)).toArray
theorem browR_g0 (sl : Value) (m b : Array Value) : (browR sl m b)[0]? = some sl := rfl
theorem browR_sz {sl : Value} {m b : Array Value} {K : Nat} (hm : m.size = K) (hb : b.size = K) : (browR sl m b).size = 1 + K + K := by
  unfold browR
  simp [hm, hb]
  omega
theorem browR_g1 {sl : Value} {m b : Array Value} {K : Nat} (hm : m.size = K) : (browR sl m b).extract 1 (1 + K) = m := by
  unfold browR
  apply Array.ext'
  have h2 : m.toList.length = K := by simpa using hm
  simp only [List.extract_toArray, List.extract_eq_take_drop, List.drop_succ_cons, List.drop_zero]
  rw [show 1 + K - 1 = m.toList.length by omega, List.take_left]
theorem browR_g2 {sl : Value} {m b : Array Value} {K : Nat} (hm : m.size = K) (hb : b.size = K) : (browR sl m b).extract (1 + K) (1 + K + K) = b := by
  unfold browR
  apply Array.ext'
  have h2 : m.toList.length = K := by simpa using hm
  have h3 : b.toList.length = K := by simpa using hb
  simp only [List.extract_toArray, List.extract_eq_take_drop]
  rw [show 1 + K = (sl :: m.toList).length by simp [hm]; omega, ← List.cons_append, List.drop_left, show (sl :: m.toList).length + K - (sl :: m.toList).length = b.toList.length by omega, List.take_length]
theorem mul_slot {k c K : Nat} (h : k < c) : k * K + K ≤ c * K := by
  have := Nat.mul_le_mul_right K (show k + 1 ≤ c from h)
  rw [Nat.succ_mul] at this
  exact this
structure GoodR (K : Nat) (T : TypeId) (m : Array Value) : Prop where
  cells : Cells K m
  neq : ∀ w, (binOp .neq T (.agg m) (.agg m)).run Try.prog w = .ok (.bool false) w
theorem GoodR.sz {K : Nat} {T : TypeId} {m : Array Value} (h : GoodR K T m) : m.size = K := h.cells.1
end Go.Proofs.Ytbmmdfjabkpoeaa

/- The marks of a book's pages of flows. -/
namespace Go.Proofs.Ytbmmdfjabkpoeaa
open Go.RowKit
abbrev mkN (n : Int) : Array Value := #[.int .u8 0, .int .u8 0, .int .i64 n]
abbrev mkM (n : Int) : Array Value := #[.int .u8 0, .int .u8 0, .int .i64 (-n)]
theorem mkN_good (n : Int) : GoodR 3 39 (mkN n) := ⟨⟨rfl, by simp [Value.oneCell']⟩, fun w => by
  have := neqF_run 0 0 n 0 0 n w
  rw [show flowSame 0 0 n 0 0 n = true by simp [flowSame]] at this
  exact this⟩
theorem mkM_good (n : Int) : GoodR 3 39 (mkM n) := mkN_good (-n)
end Go.Proofs.Ytbmmdfjabkpoeaa

/- A book's pages of api.Flow: what write, writeBehind, stands and the book's method do. -/
namespace Go.Proofs.Ytbmmdfjabkpoeaa
open Go.RowKit
set_option linter.unusedSimpArgs false
set_option linter.unusedVariables false
theorem cell_slFl : CellTy 22 := ⟨⟨_, Try.underlying22, rfl⟩, by kernel_rfl⟩
structure WLoopFl (W : World) (l : List Thing) (pb : Nat) (a : Option Addr) (n c lo hi : Nat) (m b v : Array Value) (P : Nat → List Value → Prop) (i : Value) (wr : World) : Prop where
  out : ∃ (k : Nat) (xs : List Value), i = .int .i64 (k : Int) ∧ lo ≤ k ∧ k ≤ hi ∧ P k xs ∧ Heap W (OwnT 39 3 (.slice a c c) c xs :: Cel pb (browR (.slice a n c) m b) 66 :: l) wr
section
variable {W w : World} {l : List Thing} {ops : Array Oper} {rest : List Oper} {a : Act}
theorem wpQ_neqFl {dst : Option Tmp} {ty : TypeId} {pos : String} {after : Array Edge} {guard : Option (Nat × Bool)} {p q : Operand} {m : Array Value} {K : Act → Prop} {H : Heap W l w} (hw : Region.wanted ⟨dst, .binOp .neq 39 p q 39, ty, pos, after, guard⟩ (yielded ops a.tmps) = true) (hp : a.eval p = .agg m) (hq : a.eval q = .agg m) (hr : ∀ w, (binOp .neq 39 (.agg m) (.agg m)).run Try.prog w = .ok (.bool false) w)
    (h : wpQuiet Try.prog ops (fun w' => ∃ d, w' = H.any d) K rest (a.put dst (.bool false))) : wpQuiet Try.prog ops (fun w' => ∃ d, w' = H.any d) K (⟨dst, .binOp .neq 39 p q 39, ty, pos, after, guard⟩ :: rest) a := by
  have hg : (Try.prog.eqGuardType Try.prog.depth 39) = false := by kernel_rfl
  refine BigFrame.wpQuiet_want hw fun K hK => ⟨_, ?_, hK _ h⟩
  rintro _ ⟨d, rfl⟩
  unfold Oper.quietAt execOp
  simp only [hp, hq, Sem.run_bind, hr]
  simp [eqGuard, hg, hr]
  exact ⟨rfl, rfl⟩
end
section
variable {W w : World} {l : List Thing}
set_option maxRecDepth 100000
set_option maxHeartbeats 4000000
theorem write_Fl (a : Option Addr) (n c : Nat) (m b : Array Value) (hm : GoodR 3 39 m) (hb : GoodR 3 39 b) (H : Heap W (FullT 39 3 a n c (fun _ => True) :: l) w) :
    Calls Try.prog 67 #[.agg (browR (.slice a n c) m b)] w fun e w' => e = .returned (.tuple #[]) ∧ Heap W (FullT 39 3 a n c (MarksR 3 m 0 n) :: l) w' := by
  obtain ⟨xs0, -, hn, hc, hl, ha, H'⟩ := H.openFull
  clear H
  have H := H'
  clear H'
  have hcm := hc
  unfold maxLen at hcm
  have HC := Lib.hid hc
  clear ha hc hl
  have hb1 : 1 + 3 ≤ (browR (.slice a n c) m b).size := by rw [browR_sz hm.sz hb.sz]; omega
  have hb2 : 1 + 3 + 3 ≤ (browR (.slice a n c) m b).size := by rw [browR_sz hm.sz hb.sz]; omega
  have he1 : (browR (.slice a n c) m b).extract 1 (1 + 3) = m := browR_g1 hm.sz
  have he2 : (browR (.slice a n c) m b).extract (1 + 3) (1 + 3 + 3) = b := browR_g2 hm.sz hb.sz
  go_enter Try.func67, Try.ntmps67
  go_wp2_with (first | go_skip | ((with_reducible show wpList _ _ _ (_ :: _) _ _); (with_reducible apply wpl_boxRH); (· rfl); (· rfl); (· exact H); (clear H; intro pb _ H); (simp only [Act.put, List.setIfInBounds_toArray, List.set_cons_zero, List.set_cons_succ])))
  have H0 := H.perm (.swap _ _ _)
  clear H
  go_loopw [2] (fun i wr => WLoopFl W l pb a n c 0 n m b m (fun k xs => xs.length = c * 3 ∧ MarksR 3 m 0 k xs) i wr) (fun i _ => n - (intOf i).toNat)
  case atStart => exact ⟨0, xs0, rfl, by omega, by omega, ⟨by have := OwnT.len (H0.ok _ List.mem_cons_self); omega, fun i h1 h2 => by omega⟩, H0⟩
  case round =>
    obtain ⟨k, xs, rfl, -, hk, ⟨hlen, hmk⟩, H'⟩ := hrel.out
    clear H0 hrel
    have H := H'
    clear H'
    by_cases hlt : k < n
    · obtain ⟨g, o, c', e, _, _⟩ := OwnT.form (H.ok _ List.mem_cons_self) (by omega)
      simp only [Value.slice.injEq, true_and] at e
      obtain ⟨rfl, rfl⟩ := e
      have hkl : k * 3 + 3 ≤ xs.length := by have := mul_slot (k := k) (c := c) (K := 3) (by omega); omega
      have HM := Lib.hid (And.intro (by rw [bkPut_len hm.sz hkl]; exact hlen : (bkPut xs k 3 m).length = c * 3) (hmk.step hm.sz hkl))
      clear hmk hlen
      go_wp2_with (first
        | go_skip
        | ((with_reducible show wpList _ _ _ (_ :: _) _ _); (with_reducible apply wpl_loadCH); (· exact cell_slFl); (· rfl); (· rfl); (· exact H); (· (repeat (first | (with_reducible exact List.mem_cons_self) | with_reducible apply List.mem_cons_of_mem))); (· exact browR_g0 ..); (simp only [Act.put, List.setIfInBounds_toArray, List.set_cons_zero, List.set_cons_succ]))
        | ((with_reducible show wpList _ _ _ (_ :: _) _ _); (with_reducible apply wpl_loadRH row_flow); (· rfl); (· rfl); (· exact H); (· (repeat (first | (with_reducible exact List.mem_cons_self) | with_reducible apply List.mem_cons_of_mem))); (· exact hb1); (· exact he1); (simp only [Act.put, List.setIfInBounds_toArray, List.set_cons_zero, List.set_cons_succ]))
        | ((with_reducible show wpList _ _ _ (_ :: _) _ _); (with_reducible apply wpl_storeOwnR row_flow); (· rfl); (· rfl); (· rfl); (· first | exact hm.cells | exact hb.cells); (· exact H); (· (repeat (first | (with_reducible exact List.mem_cons_self) | with_reducible apply List.mem_cons_of_mem))); (· rfl); (· exact hkl); (· rfl); (· (repeat (first | (with_reducible exact Repl.here) | with_reducible apply Repl.there))); (clear H; intro _ H); (simp only [Act.put, List.setIfInBounds_toArray, List.set_cons_zero, List.set_cons_succ])))
      refine ⟨?_, ?_⟩
      · exact ⟨⟨k + 1, _, by go_num, by omega, by omega, ⟨HM.out.1, HM.out.2⟩, H⟩⟩
      · simp [intOf]; omega
    · obtain rfl : n = k := by omega
      have HM := Lib.hid hmk
      clear hmk
      go_wp2_with (first
        | go_skip
        | ((with_reducible show wpList _ _ _ (_ :: _) _ _); (with_reducible apply wpl_loadCH); (· exact cell_slFl); (· rfl); (· rfl); (· exact H); (· (repeat (first | (with_reducible exact List.mem_cons_self) | with_reducible apply List.mem_cons_of_mem))); (· exact browR_g0 ..); (simp only [Act.put, List.setIfInBounds_toArray, List.set_cons_zero, List.set_cons_succ])))
      go_end0
      exact ⟨rfl, (H.drop (.there .here)).shutFull hn HC.out HM.out⟩
theorem behind_Fl (a : Option Addr) (n c : Nat) (m b : Array Value) (hm : GoodR 3 39 m) (hb : GoodR 3 39 b) (H : Heap W (FullT 39 3 a n c (MarksR 3 m 0 n) :: l) w) :
    Calls Try.prog 68 #[.agg (browR (.slice a n c) m b)] w fun e w' => e = .returned (.tuple #[]) ∧ Heap W (FullT 39 3 a n c (fun xs => MarksR 3 m 0 n xs ∧ MarksR 3 b n c xs) :: l) w' := by
  obtain ⟨xs0, hm0, hn, hc, hl, ha, H'⟩ := H.openFull
  clear H
  have H := H'
  clear H'
  have hsl := fun wx => run_cutTo slF a n c c .i64 (Nat.le_refl _) wx
  have hcm := hc
  unfold maxLen at hcm
  have HC := Lib.hid hc
  have HM0 := Lib.hid hm0
  clear ha hc hl hm0
  have hb1 : 1 + 3 ≤ (browR (.slice a n c) m b).size := by rw [browR_sz hm.sz hb.sz]; omega
  have hb2 : 1 + 3 + 3 ≤ (browR (.slice a n c) m b).size := by rw [browR_sz hm.sz hb.sz]; omega
  have he1 : (browR (.slice a n c) m b).extract 1 (1 + 3) = m := browR_g1 hm.sz
  have he2 : (browR (.slice a n c) m b).extract (1 + 3) (1 + 3 + 3) = b := browR_g2 hm.sz hb.sz
  go_enter Try.func68, Try.ntmps68
  go_wp2_with (first
    | go_skip
    | ((with_reducible show wpList _ _ _ (_ :: _) _ _); (with_reducible apply wpl_boxRH); (· rfl); (· rfl); (· exact H); (clear H; intro pb _ H); (simp only [Act.put, List.setIfInBounds_toArray, List.set_cons_zero, List.set_cons_succ]))
    | ((with_reducible show wpList _ _ _ (_ :: _) _ _); (with_reducible apply wpl_loadCH); (· exact cell_slFl); (· rfl); (· rfl); (· exact H); (· (repeat (first | (with_reducible exact List.mem_cons_self) | with_reducible apply List.mem_cons_of_mem))); (· exact browR_g0 ..); (simp only [Act.put, List.setIfInBounds_toArray, List.set_cons_zero, List.set_cons_succ])))
  clear hsl
  have H0 := H.perm (.swap _ _ _)
  clear H
  go_loopw [3] (fun i wr => WLoopFl W l pb a n c n c m b b (fun k xs => xs.length = c * 3 ∧ MarksR 3 m 0 n xs ∧ MarksR 3 b n k xs) i wr) (fun i _ => c - (intOf i).toNat)
  case atStart => exact ⟨n, xs0, rfl, by omega, hn, ⟨by have := OwnT.len (H0.ok _ List.mem_cons_self); omega, HM0.out, fun i h1 h2 => by omega⟩, H0⟩
  case round =>
    obtain ⟨k, xs, rfl, hnk, hk, ⟨hlen, hm1, hmk⟩, H'⟩ := hrel.out
    clear H0 hrel HM0
    have H := H'
    clear H'
    by_cases hlt : k < c
    · obtain ⟨g, o, c', e, _, _⟩ := OwnT.form (H.ok _ List.mem_cons_self) (by omega)
      simp only [Value.slice.injEq, true_and] at e
      obtain ⟨rfl, rfl⟩ := e
      have hkl : k * 3 + 3 ≤ xs.length := by have := mul_slot (k := k) (c := c) (K := 3) (by omega); omega
      have HM := Lib.hid (And.intro (by rw [bkPut_len hb.sz hkl]; exact hlen : (bkPut xs k 3 b).length = c * 3) (And.intro (hm1.off hb.sz hkl hnk) (hmk.step hb.sz hkl)))
      clear hmk hlen hm1
      go_wp2_with (first
        | go_skip
        | ((with_reducible show wpList _ _ _ (_ :: _) _ _); (with_reducible apply wpl_loadRH row_flow); (· rfl); (· rfl); (· exact H); (· (repeat (first | (with_reducible exact List.mem_cons_self) | with_reducible apply List.mem_cons_of_mem))); (· exact hb2); (· exact he2); (simp only [Act.put, List.setIfInBounds_toArray, List.set_cons_zero, List.set_cons_succ]))
        | ((with_reducible show wpList _ _ _ (_ :: _) _ _); (with_reducible apply wpl_storeOwnR row_flow); (· rfl); (· rfl); (· rfl); (· first | exact hm.cells | exact hb.cells); (· exact H); (· (repeat (first | (with_reducible exact List.mem_cons_self) | with_reducible apply List.mem_cons_of_mem))); (· rfl); (· exact hkl); (· rfl); (· (repeat (first | (with_reducible exact Repl.here) | with_reducible apply Repl.there))); (clear H; intro _ H); (simp only [Act.put, List.setIfInBounds_toArray, List.set_cons_zero, List.set_cons_succ])))
      refine ⟨?_, ?_⟩
      · exact ⟨⟨k + 1, _, by go_num, by omega, by omega, ⟨HM.out.1, HM.out.2⟩, H⟩⟩
      · simp [intOf]; omega
    · obtain rfl : c = k := by omega
      have HM := Lib.hid (And.intro hm1 hmk)
      clear hmk hm1
      go_wp2_with (go_skip)
      go_end0
      exact ⟨rfl, (H.drop (.there .here)).shutFull hn HC.out HM.out⟩
structure SLoopFl (W : World) (l : List Thing) (c : Nat) (i : Value) (wr : World) : Prop where
  out : ∃ k : Nat, i = .int .i64 (k : Int) ∧ k ≤ c ∧ Heap W l wr
theorem stands_Fl (a : Option Addr) (n c : Nat) (m b : Array Value) (hm : GoodR 3 39 m) (hb : GoodR 3 39 b) (H : Heap W (FullT 39 3 a n c (fun xs => MarksR 3 m 0 n xs ∧ MarksR 3 b n c xs) :: l) w) :
    Calls Try.prog 66 #[.agg (browR (.slice a n c) m b)] w fun e w' => e = .returned (.bool true) ∧ Heap W (FullT 39 3 a n c (fun xs => MarksR 3 m 0 n xs ∧ MarksR 3 b n c xs) :: l) w' := by
  obtain ⟨xs, hm0, hn, hc, hl, ha, H'⟩ := H.openFull
  clear H
  have H := H'
  clear H'
  have hsl := fun wx => run_cutTo slF a n c c .i64 (Nat.le_refl _) wx
  have hcm := hc
  unfold maxLen at hcm
  have HC := Lib.hid hc
  have HM := Lib.hid hm0
  have HL := Lib.hid hl
  clear ha hc hl hm0
  have hb1 : 1 + 3 ≤ (browR (.slice a n c) m b).size := by rw [browR_sz hm.sz hb.sz]; omega
  have hb2 : 1 + 3 + 3 ≤ (browR (.slice a n c) m b).size := by rw [browR_sz hm.sz hb.sz]; omega
  have he1 : (browR (.slice a n c) m b).extract 1 (1 + 3) = m := browR_g1 hm.sz
  have he2 : (browR (.slice a n c) m b).extract (1 + 3) (1 + 3 + 3) = b := browR_g2 hm.sz hb.sz
  go_enter Try.func66, Try.ntmps66
  go_wp2_with (first
    | go_skip
    | ((with_reducible show wpList _ _ _ (_ :: _) _ _); (with_reducible apply wpl_boxRH); (· rfl); (· rfl); (· exact H); (clear H; intro pb _ H); (simp only [Act.put, List.setIfInBounds_toArray, List.set_cons_zero, List.set_cons_succ]))
    | ((with_reducible show wpList _ _ _ (_ :: _) _ _); (with_reducible apply wpl_loadCH); (· exact cell_slFl); (· rfl); (· rfl); (· exact H); (· (repeat (first | (with_reducible exact List.mem_cons_self) | with_reducible apply List.mem_cons_of_mem))); (· exact browR_g0 ..); (simp only [Act.put, List.setIfInBounds_toArray, List.set_cons_zero, List.set_cons_succ])))
  clear hsl
  have H0 := H
  clear H
  go_loopw [4] (fun i wr => SLoopFl W (Cel pb (browR (.slice a n c) m b) 66 :: OwnT 39 3 (.slice a c c) c xs :: l) c i wr) (fun i _ => c - (intOf i).toNat)
  case atStart => exact ⟨0, rfl, by omega, H0⟩
  case round =>
    obtain ⟨k, rfl, hk, H'⟩ := hrel.out
    clear H0 hrel
    have H := H'
    clear H'
    by_cases hlt : k < c
    · obtain ⟨g, o, c', e, _, _⟩ := OwnT.form (H.ok _ (List.mem_cons_of_mem _ List.mem_cons_self)) (by omega)
      simp only [Value.slice.injEq, true_and] at e
      obtain ⟨rfl, rfl⟩ := e
      have hkl : k * 3 + 3 ≤ xs.length := by have := mul_slot (k := k) (c := c) (K := 3) (by omega); rw [HL.out]; omega
      by_cases hkn : k < n
      · have hx := HM.out.1 k (by omega) hkn
        have HX := Lib.hid (show ∀ w', Heap W (Cel pb (browR (.slice (some ⟨g, o, none⟩) n c) m b) 66 :: OwnT 39 3 (.slice (some ⟨g, o, none⟩) c c) c xs :: l) w' → Rd w' (some ⟨g, o, none⟩) xs from fun w' h => h.ownRd (List.mem_cons_of_mem _ List.mem_cons_self))
        have hxa : ((xs.drop (k * 3)).take 3).toArray = m := by rw [hx]
        clear hx
        have hd1 : decide ((k : Int) < n) = true := by simp; omega
        have hd3 : decide (n ≤ k) = false := by simp; omega
        have hd4 : decide (k < n) = true := by simp; omega
        have hq := hm.neq
        go_wp2_with (go_skip)
        refine wp_region_H H (by kernel_rfl) (by kernel_rfl) ?_
        repeat (first | go_big_quiet_skip | (first | ((with_reducible apply wpQ_loadCH); (· exact cell_slFl); (· rfl); (· rfl); (· (repeat (first | (with_reducible exact List.mem_cons_self) | with_reducible apply List.mem_cons_of_mem))); (· exact browR_g0 ..); (simp only [Act.put, List.setIfInBounds_toArray, List.set_cons_zero, List.set_cons_succ])) | ((with_reducible apply wpQ_loadRH row_flow); (· rfl); (· rfl); (· (repeat (first | (with_reducible exact List.mem_cons_self) | with_reducible apply List.mem_cons_of_mem))); (· exact hb1); (· exact he1); (simp only [Act.put, List.setIfInBounds_toArray, List.set_cons_zero, List.set_cons_succ])) | ((with_reducible apply wpQ_loadRH row_flow); (· rfl); (· rfl); (· (repeat (first | (with_reducible exact List.mem_cons_self) | with_reducible apply List.mem_cons_of_mem))); (· exact hb2); (· exact he2); (simp only [Act.put, List.setIfInBounds_toArray, List.set_cons_zero, List.set_cons_succ])) | ((with_reducible apply wpQ_loadRdR row_flow); (· rfl); (· rfl); (· exact HX.out); (· rfl); (· exact hkl); (· decide); (· exact hxa); (simp only [Act.put, List.setIfInBounds_toArray, List.set_cons_zero, List.set_cons_succ])) | ((with_reducible apply wpQ_neqFl); (· rfl); (· rfl); (· rfl); (· exact hq); (simp only [Act.put, List.setIfInBounds_toArray, List.set_cons_zero, List.set_cons_succ]))) | go_big_quiet_step (fail))
        refine wpQuiet_nil ?_
        clear H
        intro _ H
        go_wp2_with (go_skip)
        refine ⟨?_, ?_⟩
        · exact ⟨⟨k + 1, by go_num, by omega, H⟩⟩
        · simp [intOf]; omega
      · have hx := HM.out.2 k (by omega) hlt
        have HX := Lib.hid (show ∀ w', Heap W (Cel pb (browR (.slice (some ⟨g, o, none⟩) n c) m b) 66 :: OwnT 39 3 (.slice (some ⟨g, o, none⟩) c c) c xs :: l) w' → Rd w' (some ⟨g, o, none⟩) xs from fun w' h => h.ownRd (List.mem_cons_of_mem _ List.mem_cons_self))
        have hxa : ((xs.drop (k * 3)).take 3).toArray = b := by rw [hx]
        clear hx
        have hd1 : decide ((k : Int) < n) = false := by simp; omega
        have hd3 : decide (n ≤ k) = true := by simp; omega
        have hd4 : decide (k < n) = false := by simp; omega
        have hq := hb.neq
        go_wp2_with (go_skip)
        refine wp_region_H H (by kernel_rfl) (by kernel_rfl) ?_
        repeat (first | go_big_quiet_skip | (first | ((with_reducible apply wpQ_loadCH); (· exact cell_slFl); (· rfl); (· rfl); (· (repeat (first | (with_reducible exact List.mem_cons_self) | with_reducible apply List.mem_cons_of_mem))); (· exact browR_g0 ..); (simp only [Act.put, List.setIfInBounds_toArray, List.set_cons_zero, List.set_cons_succ])) | ((with_reducible apply wpQ_loadRH row_flow); (· rfl); (· rfl); (· (repeat (first | (with_reducible exact List.mem_cons_self) | with_reducible apply List.mem_cons_of_mem))); (· exact hb1); (· exact he1); (simp only [Act.put, List.setIfInBounds_toArray, List.set_cons_zero, List.set_cons_succ])) | ((with_reducible apply wpQ_loadRH row_flow); (· rfl); (· rfl); (· (repeat (first | (with_reducible exact List.mem_cons_self) | with_reducible apply List.mem_cons_of_mem))); (· exact hb2); (· exact he2); (simp only [Act.put, List.setIfInBounds_toArray, List.set_cons_zero, List.set_cons_succ])) | ((with_reducible apply wpQ_loadRdR row_flow); (· rfl); (· rfl); (· exact HX.out); (· rfl); (· exact hkl); (· decide); (· exact hxa); (simp only [Act.put, List.setIfInBounds_toArray, List.set_cons_zero, List.set_cons_succ])) | ((with_reducible apply wpQ_neqFl); (· rfl); (· rfl); (· rfl); (· exact hq); (simp only [Act.put, List.setIfInBounds_toArray, List.set_cons_zero, List.set_cons_succ]))) | go_big_quiet_step (fail))
        refine wpQuiet_nil ?_
        clear H
        intro _ H
        go_wp2_with (go_skip)
        refine ⟨?_, ?_⟩
        · exact ⟨⟨k + 1, by go_num, by omega, H⟩⟩
        · simp [intOf]; omega
    · obtain rfl : c = k := by omega
      go_wp2_with (go_skip)
      go_ret
      exact ⟨rfl, H.tail.shutFull hn HC.out HM.out⟩
/-- A page of such a list. -/
def pageFl (a : Option Addr) (n c : Nat) (m b : Array Value) : PageT := ⟨66, .agg (browR (.slice a n c) m b), FullT 39 3 a n c (fun _ => True), FullT 39 3 a n c (MarksR 3 m 0 n), FullT 39 3 a n c (fun xs => MarksR 3 m 0 n xs ∧ MarksR 3 b n c xs)⟩
theorem pageFl_ok (a : Option Addr) (n c : Nat) (m b : Array Value) (hm : GoodR 3 39 m) (hb : GoodR 3 39 b) : PageOk (pageFl a n c m b) :=
  ⟨⟨67, ⟨fun _ _ => by kernel_rfl, Try.call67⟩, fun W l w H => write_Fl a n c m b hm hb H⟩,
   ⟨68, ⟨fun _ _ => by kernel_rfl, Try.call68⟩, fun W l w H => behind_Fl a n c m b hm hb H⟩,
   ⟨66, ⟨fun _ _ => by kernel_rfl, Try.call66⟩, fun W l w H => stands_Fl a n c m b hm hb H⟩⟩
theorem lay_Fl (kb : Nat) (ps : List PageT) (a : Option Addr) (n c : Nat) {xs : List Value} (hp : ps.length < 120) (B : Book W (OwnT 39 3 (.slice a n c) n xs :: l) kb ps w) :
    Calls Try.prog 14 #[.pointer (some ⟨kb, 0, none⟩), .slice a n c] w fun e w' => e = .returned (.tuple #[]) ∧ ∃ p, Book W l kb (ps ++ [p]) w' := by
  obtain ⟨ba, bc, H, hok⟩ := B
  obtain ⟨N, hN⟩ : ∃ N, ps.length = N := ⟨_, rfl⟩
  rw [hN] at H
  have hn1 : N + 1 ≤ maxLen := by unfold maxLen; omega
  have hn2 : (N + 1) * 16 ≤ 140737488355328 := by omega
  have hNB := number_H (W := W) (l := BkT kb (.slice ba N bc) :: PgsT (.slice ba N bc) N (ps.map PageT.v) :: (ps.map PageT.t0 ++ OwnT 39 3 (.slice a n c) n xs :: l)) kb ba N bc (by omega) List.mem_cons_self
  have HO := Lib.hid (And.intro hok hN)
  have hN120 : N < 120 := by omega
  clear hok hN hp
  go_enter Try.func14, Try.ntmps14
  go_wp2_with (first
    | go_skip
    | ((with_reducible refine AnsH.call (by assumption) H ?_); clear H; intro _ H)
    | ((with_reducible show wpList _ _ _ (_ :: _) _ _); (with_reducible apply wpl_loadCH); (· exact cell_pages); (· rfl); (· rfl); (· exact H); (· (repeat (first | (with_reducible exact List.mem_cons_self) | with_reducible apply List.mem_cons_of_mem))); (· exact bookC_g _); (simp only [Act.put, List.setIfInBounds_toArray, List.set_cons_zero, List.set_cons_succ]))
    | ((with_reducible show wpList _ _ _ (_ :: _) _ _); (with_reducible apply wpl_bsOnes _ [(pageFl a n c (mkN ((N : Int) + 1)) (mkM ((N : Int) + 1))).v]); (· rfl); (· rfl); (· rfl); (· decide); (· decide); (· intro v hv; rw [List.mem_singleton.1 hv]; rfl); (· exact bs_page); (· rfl); (· exact H); (clear H; intro pk _ H); (simp only [Act.put, List.setIfInBounds_toArray, List.set_cons_zero, List.set_cons_succ]))
    | ((with_reducible show wpList _ _ _ (_ :: _) _ _); (with_reducible apply wpl_appendH slPage); (· rfl); (· rfl); (· rfl); (· rfl); (· exact H.top2 (.there (.there .here)) .here); (· exact H.celRd List.mem_cons_self); (· rfl); (· intro u hu; rw [List.mem_singleton.1 hu]; rfl); (· exact hn1); (· exact hn2); (clear H; intro v2 _ H; obtain ⟨a2, c2, rfl, _, _⟩ := RowT.form0 (H.ok _ List.mem_cons_self)); (simp only [Act.put, List.setIfInBounds_toArray, List.set_cons_zero, List.set_cons_succ]))
    | ((with_reducible show wpList _ _ _ (_ :: _) _ _); (with_reducible apply wpl_storeSH); (· exact cell_pages); (· rfl); (· rfl); (· rfl); (· exact H); (· (repeat (first | (with_reducible exact List.mem_cons_self) | with_reducible apply List.mem_cons_of_mem))); (· exact Nat.le_refl 1); (· rfl); (· (repeat (first | (with_reducible exact Repl.here) | with_reducible apply Repl.there))); (clear H; intro _ H); (simp only [Act.put, List.setIfInBounds_toArray, List.set_cons_zero, List.set_cons_succ])))
  go_end0
  refine ⟨rfl, pageFl a n c (mkN ((N : Int) + 1)) (mkM ((N : Int) + 1)), a2, c2, ?_, fun p hp => ?_⟩
  · rw [List.length_append, List.length_singleton, HO.out.2, List.map_append, List.map_append]
    have H2 := H.drop (.there .here)
    have p1 : (RowT 68 1 (.slice a2 (N + 1) c2) (N + 1) (ps.map PageT.v ++ [(pageFl a n c (mkN ((N : Int) + 1)) (mkM ((N : Int) + 1))).v]) :: BkT kb (.slice a2 (N + 1) c2) :: (ps.map PageT.t0 ++ OwnT 39 3 (.slice a n c) n xs :: l)).Perm
        (OwnT 39 3 (.slice a n c) n xs :: BkT kb (.slice a2 (N + 1) c2) :: PgsT (.slice a2 (N + 1) c2) (N + 1) (ps.map PageT.v ++ [(pageFl a n c (mkN ((N : Int) + 1)) (mkM ((N : Int) + 1))).v]) :: (ps.map PageT.t0 ++ l)) :=
      (List.Perm.swap _ _ _).trans (((List.Perm.cons _ (List.Perm.cons _ List.perm_middle)).trans (List.Perm.cons _ (.swap _ _ _))).trans (.swap _ _ _))
    have H3 := (H2.perm p1).toFull
    refine H3.perm ?_
    exact (List.Perm.swap _ _ _).trans (List.Perm.cons _ ((List.Perm.swap _ _ _).trans (List.Perm.cons _ (by rw [List.append_assoc]; exact List.perm_middle.symm))))
  · rcases List.mem_append.1 hp with h | h
    · exact HO.out.1 p h
    · rw [List.mem_singleton.1 h]; exact pageFl_ok _ _ _ _ _ (mkN_good _) (mkM_good _)
end
end Go.Proofs.Ytbmmdfjabkpoeaa
