/- FramesSpoilt: part 8 of its proof: FrRef, FrRead, HeapRegion, HeapLoud, HeapCalls. -/
import Derived.Test.YtlinhcbjljcgbaaDoorFramesSpoiltPart7
/- ref18.Get: its answer is getOf too. -/
namespace Go.Proofs.YtlinhcbjljcgbaaDoor
open Go.RowKit
attribute [local go_sem] Oper.semAt_some
set_option linter.unusedSimpArgs false
set_option linter.unusedVariables false
theorem row_tkr : RowTy 70 2 (tkr (.slice none 0 0) 0) := ⟨⟨_, Tryd.underlying70, rfl⟩, by kernel_rfl, by kernel_rfl⟩
section
variable {W w : World} {l : List Thing}
set_option maxRecDepth 100000
set_option maxHeartbeats 800000
theorem rget_H (a : Option Addr) (n c : Nat) (zs : Bs) (hn : zs.length = n) (hl : n ≤ 100000) (hc : n ≤ c) (hm : c ≤ maxLen) (R : RdE W l a zs) (H : Heap W l w) : Calls Tryd.prog 27 #[.slice a n c] w (GetPost W l (getOf zs)) := by
  have C := fun (p : Nat) (V : World) (H : Heap W (TkrT p (.slice a n c) 0 :: l) V) => tkNum_H (W := W) (l := l) (w := V) p a n c zs hn (by omega) hc R H
  unfold TkPost at C
  unfold getOf
  rcases tk_e zs with ⟨h1, h2, h3, h4⟩ | ⟨h1, h2, h3⟩
  · rw [if_neg (by omega)]
    rw [h1] at C
    simp only [forall_const] at C
    generalize (tk zs).n = N at *
    generalize (tk zs).h = K at *
    by_cases hN : 8192 < N
    · rw [if_pos hN]
      have f2 : decide ((N : Int) > 8192) = true := by simp; omega
      have f3 : decide (8192 < (N : Int)) = true := by simp; omega
      go_enter Tryd.func27, Tryd.ntmps27
      go_wp2_with (first | go_skip | ((with_reducible show wpList _ _ _ (_ :: _) _ _); (with_reducible apply wpl_boxRH); (· rfl); (· rfl); (· exact H); (clear H; intro p _ H); (simp only [Act.put, List.setIfInBounds_toArray, List.set_cons_zero, List.set_cons_succ])))
      refine (C p _ H).mono ?_
      clear H C
      rintro e w1 ⟨a1, m, c1, rfl, hmK, H⟩
      go_wp2_with (first
        | go_skip
        | ((with_reducible show wpList _ _ _ (_ :: _) _ _); (with_reducible apply wpl_loadCH); (· first | exact cell_sl | exact cell_err); (· rfl); (· rfl); (· exact H); (· (repeat (first | (with_reducible exact List.mem_cons_self) | with_reducible apply List.mem_cons_of_mem))); (· (with_reducible first | exact tkr_g0 .. | exact tkr_g1 ..)); (simp only [Act.put, List.setIfInBounds_toArray, List.set_cons_zero, List.set_cons_succ])))
      go_ret3
      exact GetPost.no H.tail
    · rw [if_neg hN]
      have f2 : decide ((N : Int) > 8192) = false := by simp; omega
      have f3 : decide (8192 < (N : Int)) = false := by simp; omega
      obtain ⟨A, hA⟩ : ∃ A, A = K + N + 4 := ⟨_, rfl⟩
      obtain ⟨B, hB⟩ : ∃ B, B = K + N := ⟨_, rfl⟩
      have hB1 : (K : Int) + N = (B : Int) := by omega
      have hA2 : (B : Int) + 4 = (A : Int) := by omega
      have hA3 : A ≤ 8206 := by omega
      have hB3 : B ≤ 8202 := by omega
      rw [← hA]
      by_cases hlen : zs.length < A
      · rw [if_pos hlen]
        rw [hn] at hlen
        have g1 : decide ((A : Int) > n) = true := by simp; omega
        have g2 : decide ((n : Int) < A) = true := by simp; omega
        have g3 : decide (n < A) = true := by simpa using hlen
        go_enter Tryd.func27, Tryd.ntmps27
        go_wp2_with (first | go_skip | ((with_reducible show wpList _ _ _ (_ :: _) _ _); (with_reducible apply wpl_boxRH); (· rfl); (· rfl); (· exact H); (clear H; intro p _ H); (simp only [Act.put, List.setIfInBounds_toArray, List.set_cons_zero, List.set_cons_succ])))
        refine (C p _ H).mono ?_
        clear H C
        rintro e w1 ⟨a1, m, c1, rfl, hmK, H⟩
        have hmK1 : (n : Int) - (m : Int) = (K : Int) := by omega
        clear hA hB hmK
        go_wp2_with (first
          | go_skip
          | ((with_reducible show wpList _ _ _ (_ :: _) _ _); (with_reducible apply wpl_loadCH); (· first | exact cell_sl | exact cell_err); (· rfl); (· rfl); (· exact H); (· (repeat (first | (with_reducible exact List.mem_cons_self) | with_reducible apply List.mem_cons_of_mem))); (· (with_reducible first | exact tkr_g0 .. | exact tkr_g1 ..)); (simp only [Act.put, List.setIfInBounds_toArray, List.set_cons_zero, List.set_cons_succ])))
        go_ret3
        exact GetPost.no H.tail
      · rw [if_neg hlen]
        rw [hn] at hlen
        have g1 : decide ((A : Int) > n) = false := by simp; omega
        have g2 : decide ((n : Int) < A) = false := by simp; omega
        have g3 : decide (n < A) = false := by simpa using hlen
        have hAc : A ≤ c := by omega
        have hKB : K ≤ B := by omega
        have hBc : B ≤ c := by omega
        have hBK : B - K = N := by omega
        have HBK := Lib.hid (And.intro hBK (And.intro hKB (And.intro hBc (And.intro hAc hlen))))
        have HR := Lib.hid R
        have D := fun (x : Thing) => rends_H (W := W) (l := x :: l) a A c (zs.take A) (by rw [List.length_take]; omega) (by omega) (by omega) hm (fun w' H' => by rw [List.map_take]; exact (R _ w' (fun x hx => List.mem_cons_of_mem _ hx) H').take _)
        cases he : endsOf (zs.take A)
        · rw [if_pos rfl]
          rw [he] at D
          clear he
          go_enter Tryd.func27, Tryd.ntmps27
          go_wp2_with (first | go_skip | ((with_reducible show wpList _ _ _ (_ :: _) _ _); (with_reducible apply wpl_boxRH); (· rfl); (· rfl); (· exact H); (clear H; intro p _ H); (simp only [Act.put, List.setIfInBounds_toArray, List.set_cons_zero, List.set_cons_succ])))
          refine (C p _ H).mono ?_
          clear H C
          rintro e w1 ⟨a1, m, c1, rfl, hmK, H⟩
          have hmK1 : (n : Int) - (m : Int) = (K : Int) := by omega
          have D1 := D (TkrT p (.slice a1 m c1) 0)
          clear hA hB hmK hKB hBc hBK R D
          go_wp2_with (first
            | go_skip
            | ((with_reducible show wpList _ _ _ (_ :: _) _ _); (with_reducible apply wpl_loadCH); (· first | exact cell_sl | exact cell_err); (· rfl); (· rfl); (· exact H); (· (repeat (first | (with_reducible exact List.mem_cons_self) | with_reducible apply List.mem_cons_of_mem))); (· (with_reducible first | exact tkr_g0 .. | exact tkr_g1 ..)); (simp only [Act.put, List.setIfInBounds_toArray, List.set_cons_zero, List.set_cons_succ]))
            | ((with_reducible refine AnsH.call (by assumption) H ?_); clear H; intro _ H)
            | ((with_reducible show wpList _ _ _ (_ :: _) _ _); (with_reducible apply wpl_cutTo slB); (· rfl); (· rfl); (· rfl); (· exact hAc); (simp only [Act.put, List.setIfInBounds_toArray, List.set_cons_zero, List.set_cons_succ])))
          go_ret3
          exact GetPost.no H.tail
        · rw [if_neg (by simp)]
          rw [he] at D
          clear he
          have hbl : ((zs.drop K).take N).length = N := by rw [List.length_take, List.length_drop]; have := HBK.out; omega
          have hbm : (((zs.drop K).take N).map B8).length = N * 1 := by rw [List.length_map, hbl, Nat.mul_one]
          have h6 : 0 + N ≤ maxLen := by unfold maxLen; omega
          have h7 : (0 + N) * 1 ≤ 140737488355328 := by omega
          have HBL := Lib.hid hbl
          have RC := Lib.hid (show ∀ l' w', (∀ x ∈ l, x ∈ l') → Heap W l' w' → Rd w' (cutA a c K 1) (((zs.drop K).take N).map B8) from fun l' w' hs H' => by
            have := rdCut (HR.out l' w' hs H') c K B HBK.out.2.2.1
            rwa [HBK.out.1] at this)
          clear hbl
          go_enter Tryd.func27, Tryd.ntmps27
          go_wp2_with (first | go_skip | ((with_reducible show wpList _ _ _ (_ :: _) _ _); (with_reducible apply wpl_boxRH); (· rfl); (· rfl); (· exact H); (clear H; intro p _ H); (simp only [Act.put, List.setIfInBounds_toArray, List.set_cons_zero, List.set_cons_succ])))
          refine (C p _ H).mono ?_
          clear H C
          rintro e w1 ⟨a1, m, c1, rfl, hmK, H⟩
          have hmK1 : (n : Int) - (m : Int) = (K : Int) := by omega
          have D1 := D (TkrT p (.slice a1 m c1) 0)
          clear hA hB hmK hKB hBc hBK R D
          go_wp2_with (first
            | ((with_reducible show wpList _ _ _ (_ :: _) _ _); (with_reducible apply wpl_appendA slB); (· rfl); (· rfl); (· rfl); (· rfl); (· exact H.nilRow 5 1); (· exact RC.out _ _ (fun x hx => List.mem_cons_of_mem _ hx) H); (· exact hbm); (· exact oneCell_B8 _); (· exact h6); (· exact h7); (clear H; intro v5 _ _ H); (simp only [Act.put, List.setIfInBounds_toArray, List.set_cons_zero, List.set_cons_succ]))
            | go_skip
            | ((with_reducible show wpList _ _ _ (_ :: _) _ _); (with_reducible apply wpl_loadCH); (· first | exact cell_sl | exact cell_err); (· rfl); (· rfl); (· exact H); (· (repeat (first | (with_reducible exact List.mem_cons_self) | with_reducible apply List.mem_cons_of_mem))); (· (with_reducible first | exact tkr_g0 .. | exact tkr_g1 ..)); (simp only [Act.put, List.setIfInBounds_toArray, List.set_cons_zero, List.set_cons_succ]))
            | ((with_reducible refine AnsH.call (by assumption) H ?_); clear H; intro _ H)
            | ((with_reducible show wpList _ _ _ (_ :: _) _ _); (with_reducible apply wpl_cutTo slB); (· rfl); (· rfl); (· rfl); (· exact hAc); (simp only [Act.put, List.setIfInBounds_toArray, List.set_cons_zero, List.set_cons_succ]))
            | ((with_reducible show wpList _ _ _ (_ :: _) _ _); (with_reducible apply wpl_cutBoth slB); (· rfl); (· rfl); (· rfl); (· rfl); (· exact HBK.out.2.1); (· exact HBK.out.2.2.1); (· rfl); (· exact HBK.out.1); (· rfl); (simp only [Act.put, List.setIfInBounds_toArray, List.set_cons_zero, List.set_cons_succ])))
          go_ret3
          refine ⟨_, rfl, ?_⟩
          show Heap W (OwnB _ ((zs.drop K).take N).length ((zs.drop K).take N) :: l) _
          rw [HBL.out]
          simp only [Nat.zero_add, List.nil_append] at H
          exact (H.drop (.there .here)).slide
  · rw [if_pos (by omega)]
    have f1 : ((tk zs).e != 0) = true := by simp; omega
    have f4 : ¬ (tk zs).e = 0 := by omega
    rw [h3] at C
    generalize (tk zs).e = E at *
    clear h1 h2 h3
    go_enter Tryd.func27, Tryd.ntmps27
    go_wp2_with (first | go_skip | ((with_reducible show wpList _ _ _ (_ :: _) _ _); (with_reducible apply wpl_boxRH); (· rfl); (· rfl); (· exact H); (clear H; intro p _ H); (simp only [Act.put, List.setIfInBounds_toArray, List.set_cons_zero, List.set_cons_succ])))
    refine (C p _ H).mono ?_
    clear H C
    rintro e w1 ⟨a1, m, c1, rfl, _, H⟩
    go_wp2_with (first
      | go_skip
      | ((with_reducible show wpList _ _ _ (_ :: _) _ _); (with_reducible apply wpl_loadCH); (· first | exact cell_sl | exact cell_err); (· rfl); (· rfl); (· exact H); (· (repeat (first | (with_reducible exact List.mem_cons_self) | with_reducible apply List.mem_cons_of_mem))); (· (with_reducible first | exact tkr_g0 .. | exact tkr_g1 ..)); (simp only [Act.put, List.setIfInBounds_toArray, List.set_cons_zero, List.set_cons_succ])))
    refine wp_region_H H (by kernel_rfl) (by kernel_rfl) ?_
    repeat (first | go_big_quiet_skip | ((with_reducible apply wpQ_loadCH); (· exact cell_err); (· rfl); (· rfl); (· (repeat (first | (with_reducible exact List.mem_cons_self) | with_reducible apply List.mem_cons_of_mem))); (· (with_reducible first | exact tkr_g0 .. | exact tkr_g1 ..)); (simp only [Act.put, List.setIfInBounds_toArray, List.set_cons_zero, List.set_cons_succ])) | go_big_quiet_step (fail))
    refine wpQuiet_nil ?_
    clear H
    intro _ H
    go_wp2_with (go_skip)
    go_ret3
    exact GetPost.no H.tail
end
end Go.Proofs.YtlinhcbjljcgbaaDoor

/- ref18.Read: all frames. -/
namespace Go.Proofs.YtlinhcbjljcgbaaDoor
open Go.RowKit
attribute [local go_sem] Oper.semAt_some
set_option linter.unusedSimpArgs false
set_option linter.unusedVariables false
theorem slL : SlTy Tryd.prog 40 22 1 24 (.slice none 0 0) := slTy_mk Tryd.underlying40 (by kernel_rfl) rfl (by decide)
theorem wpl_cutFrom {ops : Array Oper} {rest : List Oper} {a : Act} {w : World} {Q : Exit → Act → World → Prop} {t e size bytes : Nat} {z : Value} (T : SlTy Tryd.prog t e size bytes z) {dst : Option Tmp} {ty : TypeId} {pos : String} {after : Array Edge} {guard : Option (Nat × Bool)} {x u : Operand} (hw : Region.wanted ⟨dst, .slice t x (some u) none none, ty, pos, after, guard⟩ (yielded ops a.tmps) = true)
    {ao : Option Addr} {n c lo : Nat} {k : IntKind} (hx : a.eval x = .slice ao n c) (hu : a.eval u = .int k (lo : Int)) (hn : lo ≤ n) (h : wpList Tryd.prog ops Q rest (a.put dst (.slice (cutA ao c lo size) (n - lo) (c - lo))) w) : wpList Tryd.prog ops Q (⟨dst, .slice t x (some u) none none, ty, pos, after, guard⟩ :: rest) a w := by
  refine wpl_pure hw _ (fun w => ?_) h
  have hr : (Instr.slice t (.slice ao n c) (some (.int k (lo : Int))) none none).run Tryd.prog w = .ok (.slice (cutA ao c lo size) (n - lo) (c - lo)) w := run_cutFrom (P := Tryd.prog) T ao n c lo k hn w
  have hs : (Instr.sliceAt t (.slice ao n c) (some (.int k (lo : Int))) none none).run Tryd.prog w = .ok (.slice (cutA ao c lo size) (n - lo) (c - lo)) w := by
    unfold Instr.sliceAt
    rw [Sem.run_bind, run_underlying T.und]
    simp only [Result.andThen_ok]
    exact hr
  have e : (some u).map a.eval = some (.int k (lo : Int)) := by rw [Option.map_some, hu]
  unfold execOp
  simp only [hx, e, Option.map_none, Sem.run_bind, hs, Result.andThen_ok, Sem.run_pure]
/-- A body in memory. -/
abbrev bT (x : Value × Bs) : Thing := OwnB x.1 x.2.length x.2
abbrev LsT (v : Value) (L : List (Value × Bs)) : Thing := RowT 22 1 v L.length (L.map (·.1))
abbrev LoT (v : Value) (L : List (Value × Bs)) : Thing := OwnT 22 1 v L.length (L.map (·.1))
def SlV (L : List (Value × Bs)) : Prop := ∀ x ∈ L, ∃ a c, x.1 = .slice a x.2.length c
theorem SlV.ones {L : List (Value × Bs)} (h : SlV L) : OneCells (L.map (·.1)) := fun u hu => by
  obtain ⟨x, hx, rfl⟩ := List.mem_map.1 hu
  obtain ⟨a, c, e⟩ := h x hx
  rw [e]; rfl
structure RrL (W : World) (l : List Thing) (zs : Bs) (v i : Value) (wr : World) : Prop where
  out : ∃ (L : List (Value × Bs)) (k : Nat), i = .int .i64 (k : Int) ∧ Fw zs (L.map (·.2)) k ∧ SlV L ∧ Heap W (LsT v L :: (L.map bT ++ l)) wr
def ReadPost (W : World) (l : List Thing) (zs : Bs) (e : Ending) (w' : World) : Prop :=
  ∃ (L : List (Value × Bs)) (k : Nat) (a : Option Addr) (c : Nat), e = .returned (.tuple #[.slice a L.length c, .int .i64 (k : Int)]) ∧ ReadOf zs (L.map (·.2)) k ∧ SlV L ∧ Heap W (LoT (.slice a L.length c) L :: (L.map bT ++ l)) w'
section
variable {W w : World} {l : List Thing}
theorem SlV.snoc {L : List (Value × Bs)} (h : SlV L) {a : Option Addr} {c : Nat} {b : Bs} : SlV (L ++ [(.slice a b.length c, b)]) := fun x hx => by
  rcases List.mem_append.1 hx with hx | hx
  · exact h x hx
  · rw [List.mem_singleton.1 hx]; exact ⟨a, c, rfl⟩
theorem bT_snoc (L : List (Value × Bs)) (x : Value × Bs) (l : List Thing) : (bT x :: (L.map bT ++ l)).Perm ((L ++ [x]).map bT ++ l) := by
  rw [List.map_append, List.append_assoc]
  exact (List.perm_middle (a := bT x) (l₁ := L.map bT) (l₂ := l)).symm
set_option maxRecDepth 100000
set_option maxHeartbeats 800000
theorem rread_H (a : Option Addr) (n c : Nat) (zs : Bs) (hn : zs.length = n) (hl : n ≤ 100000) (hc : n ≤ c) (hm : c ≤ maxLen) (R : RdE W l a zs) (H : Heap W l w) : Calls Tryd.prog 29 #[.slice a n c] w (ReadPost W l zs) := by
  have HN := Lib.hid hn
  have HR := Lib.hid R
  clear hn R
  go_enter Tryd.func29, Tryd.ntmps29
  go_wp2_with (go_skip)
  go_loopw [4, 5] (RrL W l zs) (fun _ i _ => n - (intOf i).toNat)
  case atStart => exact ⟨⟨[], 0, rfl, .nil, (fun x hx => by cases hx), H.nilRow 22 1⟩⟩
  case round =>
    obtain ⟨L, k, rfl, hF, hS, H'⟩ := hrel.out
    clear H hrel
    have H := H'
    clear H'
    have hle := hF.le
    rw [HN.out] at hle
    have hkn := hle.1
    have hkl := hle.2.1
    rw [List.length_map] at hkl
    have G := fun (l' : List Thing) (hs : ∀ x ∈ l, x ∈ l') (V : World) (H : Heap W l' V) => rget_H (W := W) (l := l') (w := V) (cutA a c k 1) (n - k) (c - k) (zs.drop k) (by rw [List.length_drop, HN.out]) (by omega) (by omega) (by omega) (fun l2 w' h2 H2 => by
      have := rdCut (HR.out l2 w' (fun x hx => h2 x (hs x hx)) H2) c k n hc
      rwa [List.take_of_length_le (by rw [List.length_drop, HN.out]; omega)] at this) H
    have HF := Lib.hid (And.intro hF (And.intro hS hle))
    clear hF hS hle
    go_wp2_with (first
      | go_skip
      | ((with_reducible show wpList _ _ _ (_ :: _) _ _); (with_reducible apply wpl_cutFrom slB); (· rfl); (· rfl); (· rfl); (· exact hkn); (simp only [Act.put, List.setIfInBounds_toArray, List.set_cons_zero, List.set_cons_succ])))
    refine (G _ (fun x hx => List.mem_cons_of_mem _ (List.mem_append_right _ hx)) _ H).mono ?_
    clear G H
    rintro e w1 ⟨v1, rfl, H⟩
    by_cases he : (getOf (zs.drop k)).e = 0
    · have hok := getOf_ok he
      rw [List.length_drop, HN.out] at hok
      have f1 : ((getOf (zs.drop k)).e != 0) = false := by rw [he]; rfl
      have h2 := HF.out.1.snoc he
      obtain ⟨a1, c1, hv1⟩ := OwnT.form1 (H.ok _ List.mem_cons_self)
      generalize getOf (zs.drop k) = x at *
      obtain ⟨body, all, ee⟩ := x
      simp only at *
      subst hv1
      have H2 := Lib.hid (And.intro h2 he)
      clear h2 he
      have h3 : L.length + 1 ≤ maxLen := by unfold maxLen; omega
      have h4 : (L.length + 1) * 24 ≤ 140737488355328 := by omega
      go_wp2_with (first
        | ((with_reducible show wpList _ _ _ (_ :: _) _ _); (with_reducible apply wpl_bsOnes _ [.slice a1 body.length c1]); (· rfl); (· rfl); (· rfl); (· decide); (· decide); (· exact fun v hv => by rw [List.mem_singleton.1 hv]; rfl); (· exact bs_lists); (· rfl); (· exact H.pull (.there .here)); (clear H; intro pk _ H); (simp only [Act.put, List.setIfInBounds_toArray, List.set_cons_zero, List.set_cons_succ]))
        | ((with_reducible show wpList _ _ _ (_ :: _) _ _); (with_reducible apply wpl_appendA slL); (· rfl); (· rfl); (· rfl); (· rfl); (· exact H.pull (.there .here)); (· exact H.celRd List.mem_cons_self); (· rfl); (· exact fun u hu => by rw [List.mem_singleton.1 hu]; rfl); (· exact h3); (· exact h4); (clear H; intro v2 _ _ H); (simp only [Act.put, List.setIfInBounds_toArray, List.set_cons_zero, List.set_cons_succ]))
        | go_skip)
      refine ⟨?_, ?_⟩
      · refine ⟨⟨L ++ [(.slice a1 body.length c1, body)], k + all, by go_num, by rw [List.map_append]; exact H2.out.1, HF.out.2.1.snoc, ?_⟩⟩
        have H3 := H.drop (.there .here)
        have e1 : LsT v2 (L ++ [(.slice a1 body.length c1, body)]) = RowT 22 1 v2 (L.length + 1) (L.map (·.1) ++ [.slice a1 body.length c1]) := by
          unfold LsT
          rw [List.length_append, List.map_append]
          rfl
        rw [e1]
        exact H3.perm (List.Perm.cons _ (bT_snoc L (.slice a1 body.length c1, body) l))
      · simp [intOf]; omega
    · have f1 : ((getOf (zs.drop k)).e != 0) = true := by simpa using he
      replace H := H.tail
      obtain ⟨a1, c1, rfl, _, _⟩ := RowT.form0 (H.ok _ List.mem_cons_self)
      have HE := Lib.hid he
      clear he
      generalize (getOf (zs.drop k)).e = E at f1
      go_wp2_with (go_skip)
      go_ret2
      exact ⟨L, k, a1, c1, rfl, ⟨HF.out.1, HE.out⟩, HF.out.2.1, H.slide⟩
end
end Go.Proofs.YtlinhcbjljcgbaaDoor

/- A region that draws its order, over a memory of things: operations that only read, or call what leaves the things so; and loud ones (a make, a store) that stand in one order. One walk in the order of the text serves every order. -/
namespace Go.Proofs.YtlinhcbjljcgbaaDoor
open Go.RowKit
set_option linter.unusedVariables false

section
variable {P : Program} {ops : Array Oper} {md : Region.Mode} {W : World} {G : List Thing → Prop}
/-- In whatever memory of such things the operation yields v, and leaves the things so. -/
def YieldsG (P : Program) (ops : Array Oper) (W : World) (G : List Thing → Prop) (o : Oper) (v : Value) (a : Act) : Prop := ∀ l, G l → ∀ (w : World) (H : Heap W l w), YieldsIn P ops (fun w' => ∃ d, w' = H.any d) o v a
theorem YieldsG.of_same {o : Oper} {v : Value} {a a' : Act} (hy : YieldsG P ops W G o v a) (he : execOp a'.eval o = execOp a.eval o)
    (hw : Region.wanted o (yielded ops a'.tmps) = Region.wanted o (yielded ops a.tmps)) : YieldsG P ops W G o v a' := fun l hl w H => (hy l hl w H).of_same he hw
/-- The operation makes other things of the things. -/
def LoudG (P : Program) (ops : Array Oper) (W : World) (o : Oper) (l : List Thing) (a : Act) (k : List Thing → Value → Prop) : Prop :=
  Region.wanted o (yielded ops a.tmps) = true ∧ ∀ w, Heap W l w → ∃ l' u w', ((execOp a.eval o).run P w = .ok (.value u) w' ∨ ((execOp a.eval o).run P w = .ok .skip w' ∧ u = undef)) ∧ Heap W l' w' ∧ k l' u
theorem LoudG.mono {o : Oper} {l : List Thing} {a : Act} {k k' : List Thing → Value → Prop} (h : LoudG P ops W o l a k) (hk : ∀ l' u, k l' u → k' l' u) : LoudG P ops W o l a k' :=
  ⟨h.1, fun w H => let ⟨l', u, w', h1, h2, h3⟩ := h.2 w H; ⟨l', u, w', h1, h2, hk _ _ h3⟩⟩
theorem LoudG.of_same {o : Oper} {l : List Thing} {a a' : Act} {k : List Thing → Value → Prop} (h : LoudG P ops W o l a k) (he : execOp a'.eval o = execOp a.eval o)
    (hw : Region.wanted o (yielded ops a'.tmps) = Region.wanted o (yielded ops a.tmps)) : LoudG P ops W o l a' k := ⟨by rw [hw]; exact h.1, fun w H => by rw [he]; exact h.2 w H⟩
def WholeG (P : Program) (md : Region.Mode) (ops : Array Oper) (W : World) (G : List Thing → Prop) (K : List Thing → Act → Prop) : Nat → List Thing → Array Bool → Act → Prop
  | 0, l, listed, a => Region.ready md ops listed = [] ∧ K l a
  | f + 1, l, listed, a => Region.ready md ops listed ≠ [] ∧ ∀ i ∈ Region.ready md ops listed, ∃ o, ops[i]? = some o ∧
      ((∃ v, YieldsG P ops W G o v a ∧ WholeG P md ops W G K f l (listed.setIfInBounds i true) (a.put o.dst v)) ∨
       LoudG P ops W o l a fun l' u => G l' ∧ WholeG P md ops W G K f l' (listed.setIfInBounds i true) (a.put o.dst u))
theorem WholeG.any {K : List Thing → Act → Prop} {Q : Exit → Act → World → Prop} (hK : ∀ l a w, Heap W l w → K l a → Q .normal a w) :
    ∀ (f : Nat) (l : List Thing) (listed : Array Bool) (a : Act) (w : World), G l → Heap W l w → WholeG P md ops W G K f l listed a → wpAny P md ops Q f listed a w := by
  intro f
  induction f with
  | zero => intro l listed a w _ H h; exact ⟨h.1, hK _ _ _ H h.2⟩
  | succ f ih =>
    intro l listed a w hG H h
    refine ⟨fun h0 => absurd h0 h.1, fun i hi => ?_⟩
    obtain ⟨o, ho, h⟩ := h.2 i hi
    rcases h with ⟨v, hy, h⟩ | h
    · refine wpOp_of_qOp (C := fun w' => ∃ d, w' = H.any d) (H.any_of H) (fun a' w' hw' ha' => ?_) ((hy l hG w H).qOp ho (K := fun a' => a' = a.put o.dst v) rfl)
      obtain ⟨d, rfl⟩ := hw'
      subst ha'
      exact ih _ _ _ _ hG (H.any_heap d) h
    · obtain ⟨l', u, w', hr, H', hG', hk⟩ := h.2 w H
      unfold wpOp
      simp only [ho]
      rw [if_pos h.1]
      refine .inl ?_
      unfold Oper.wp
      rcases hr with hr | ⟨hr, rfl⟩ <;> rw [hr] <;> exact ih _ _ _ _ hG' H' hk
theorem WholeG.first {i : Nat} {oi : Oper} {v : Value} {K : List Thing → Act → Prop} (hi : ops[i]? = some oi) (hsel : ∀ (j : Nat) (o : Oper) cs b, ops[j]? = some o → o.op ≠ .select cs b) :
    ∀ (f : Nat) (l : List Thing) (listed : Array Bool) (a : Act),
      (∀ j oj, ops[j]? = some oj → j ≠ i → listed.getD j true = false → (∀ e ∈ oj.after, Region.binds md e = true → e.on ≠ i) → oi.apart ops oj = true) →
      i ∈ Region.ready md ops listed → YieldsG P ops W G oi v a → WholeG P md ops W G K f l (listed.setIfInBounds i true) (a.put oi.dst v) → WholeG P md ops W G K (f + 1) l listed a := by
  intro f
  induction f with
  | zero =>
    intro l listed a _ hr hy H
    refine ⟨fun h => by rw [h] at hr; simp at hr, fun j hj => ?_⟩
    by_cases e : j = i
    · subst e; exact ⟨oi, hi, .inl ⟨v, hy, H⟩⟩
    · have := ready_mono hj e
      rw [H.1] at this; cases this
  | succ f ih =>
    intro l listed a hfree hr hy H
    have hun := (mem_ready.1 hr).1
    refine ⟨fun h => by rw [h] at hr; simp at hr, fun j hj => ?_⟩
    by_cases e : j = i
    · subst e; exact ⟨oi, hi, .inl ⟨v, hy, H⟩⟩
    · obtain ⟨hjun, oj, hoj, hall⟩ := mem_ready.1 hj
      have hnot : ∀ e ∈ oj.after, Region.binds md e = true → e.on ≠ i := fun e he hb heq => by
        have := hall e he hb
        rw [heq, getD_both hun] at this
        cases this
      obtain ⟨h1, h2, h3⟩ := Oper.apart_spec (hfree j oj hoj e hjun hnot)
      have hsi := fun cs b => hsel i oi cs b hi
      have hsj := fun cs b => hsel j oj cs b hoj
      have keep : ∀ u, YieldsG P ops W G oi v (a.put oj.dst u) := fun u => hy.of_same (execOp_put oi hsi a oj.dst u h3) (wanted_put oi a oj.dst u h3)
      have hfree' : ∀ k ok, ops[k]? = some ok → k ≠ i → (listed.setIfInBounds j true).getD k true = false →
          (∀ e ∈ ok.after, Region.binds md e = true → e.on ≠ i) → oi.apart ops ok = true := fun k ok hk hki hun hno => by
        refine hfree k ok hk hki ?_ hno
        by_cases hjk : j = k
        · subst hjk; exact hjun
        · rw [getD_set_ne true hjk] at hun; exact hun
      obtain ⟨o', ho', h⟩ := H.2 j (ready_mono hj e)
      obtain rfl : o' = oj := Option.some.inj (ho'.symm.trans hoj)
      refine ⟨o', hoj, ?_⟩
      rcases h with ⟨u, hu, h⟩ | h
      · refine .inl ⟨u, hu.of_same (execOp_put o' hsj a oi.dst v h1).symm (wanted_put o' a oi.dst v h1).symm, ih _ _ _ hfree' (ready_mono hr (Ne.symm e)) (keep _) ?_⟩
        rw [Array.setIfInBounds_comm _ _ e, ← Act.put_comm a v _ h2]
        exact h
      · refine .inr ((h.of_same (execOp_put o' hsj a oi.dst v h1).symm (wanted_put o' a oi.dst v h1).symm).mono fun l' u ⟨hg, h⟩ => ⟨hg, ih _ _ _ hfree' (ready_mono hr (Ne.symm e)) (keep _) ?_⟩)
        rw [Array.setIfInBounds_comm _ _ e, ← Act.put_comm a v _ h2]
        exact h
/-- Is the order of the text one that serves: each quiet operation may come first, each loud one must? -/
def Region.lexW (md : Region.Mode) (ops : Array Oper) (loud : List Nat) : Nat → Nat → Array Bool → Bool
  | 0, _, listed => (Region.ready md ops listed).isEmpty
  | f + 1, k, listed => (if loud.contains k then Region.ready md ops listed == [k] else (Region.ready md ops listed).contains k && Region.free md ops listed k) && Region.lexW md ops loud f (k + 1) (listed.setIfInBounds k true)
def Region.lexWB (ops : Array Oper) (loud : List Nat) : Bool := Region.noSelect ops && Region.lexW .any ops loud ops.size 0 (Array.replicate ops.size false)
/-- The walk in the order of the text. -/
def wpW (P : Program) (ops : Array Oper) (W : World) (G : List Thing → Prop) (loud : List Nat) (K : List Thing → Act → Prop) : List Oper → Nat → List Thing → Act → Prop
  | [], _, l, a => K l a
  | o :: rest, k, l, a => if loud.contains k then LoudG P ops W o l a fun l' u => G l' ∧ wpW P ops W G loud K rest (k + 1) l' (a.put o.dst u)
      else ∃ v, YieldsG P ops W G o v a ∧ wpW P ops W G loud K rest (k + 1) l (a.put o.dst v)
theorem WholeG.lex {loud : List Nat} {K : List Thing → Act → Prop} (hsel : Region.noSelect ops = true) :
    ∀ (rest : List Oper) (k : Nat) (l : List Thing) (listed : Array Bool) (a : Act), (∀ j, j < rest.length → rest[j]? = ops[k + j]?) → Region.lexW md ops loud rest.length k listed = true → wpW P ops W G loud K rest k l a → WholeG P md ops W G K rest.length l listed a := by
  intro rest
  induction rest with
  | nil => intro k l listed a _ hB h; exact ⟨by simpa [Region.lexW] using hB, h⟩
  | cons o rest ih =>
    intro k l listed a hl hB h
    have h0 : ops[k]? = some o := by simpa using (hl 0 (by simp)).symm
    have hl' : ∀ j, j < rest.length → rest[j]? = ops[k + 1 + j]? := fun j hj => by have := hl (j + 1) (by simp; omega); simpa [Nat.add_assoc, Nat.add_comm 1 j] using this
    rw [List.length_cons, Region.lexW] at hB
    simp only [Bool.and_eq_true] at hB
    obtain ⟨hB, hB'⟩ := hB
    unfold wpW at h
    by_cases hk : loud.contains k = true
    · rw [if_pos hk] at h hB
      have hr : Region.ready md ops listed = [k] := by simpa using hB
      refine ⟨by rw [hr]; simp, fun i hi => ?_⟩
      rw [hr] at hi
      obtain rfl : i = k := by simpa using hi
      exact ⟨o, h0, .inr (h.mono fun l' u ⟨hg, h⟩ => ⟨hg, ih _ _ _ _ hl' hB' h⟩)⟩
    · rw [if_neg hk] at h hB
      simp only [Bool.and_eq_true] at hB
      obtain ⟨v, hy, h⟩ := h
      exact WholeG.first h0 (Region.noSelect_spec hsel) rest.length l listed a (Region.free_spec h0 hB.2) (by simpa using hB.1) hy (ih _ _ _ _ hl' hB' h)
theorem wp_region_W {id : Nat} {Q : Exit → Act → World → Prop} {a : Act} {w : World} {l : List Thing} {lo : List Oper} (loud : List Nat) (G : List Thing → Prop) (H : Heap W l w) (hG : G l) (hm : P.follows .mixedOrders = true) (hB : Region.lexWB lo.toArray loud = true)
    (h : wpW P lo.toArray W G loud (fun l' a' => ∀ w', Heap W l' w' → Q .normal a' w') lo 0 l a) : (Code.region id lo.toArray true).wp P Q a w := by
  simp only [Region.lexWB, Bool.and_eq_true] at hB
  refine wp_region_any hm ?_
  have := WholeG.lex (md := .any) hB.1 lo 0 l (Array.replicate lo.toArray.size false) a (fun j hj => by simp) (by simpa using hB.2) h
  have h2 := WholeG.any (Q := Q) (fun l a w H h => h w H) lo.length l _ a _ hG H.drew this
  simpa using h2
/-- Is this order one that serves? -/
def Region.lexO (md : Region.Mode) (ops : Array Oper) (loud : List Nat) : List Nat → Array Bool → Bool
  | [], listed => (Region.ready md ops listed).isEmpty
  | k :: ks, listed => (if loud.contains k then Region.ready md ops listed == [k] else (Region.ready md ops listed).contains k && Region.free md ops listed k) && Region.lexO md ops loud ks (listed.setIfInBounds k true)
def Region.lexOB (ops : Array Oper) (loud ord : List Nat) : Bool := Region.noSelect ops && Region.lexO .any ops loud ord (Array.replicate ops.size false) && ord.length == ops.size
/-- The walk in an order of one's own. -/
def wpO (P : Program) (ops : Array Oper) (W : World) (G : List Thing → Prop) (loud : List Nat) (K : List Thing → Act → Prop) : List Nat → List Thing → Act → Prop
  | [], l, a => K l a
  | k :: ks, l, a => ∃ o, ops[k]? = some o ∧ if loud.contains k then LoudG P ops W o l a fun l' u => G l' ∧ wpO P ops W G loud K ks l' (a.put o.dst u)
      else ∃ v, YieldsG P ops W G o v a ∧ wpO P ops W G loud K ks l (a.put o.dst v)
theorem WholeG.lexO {loud : List Nat} {K : List Thing → Act → Prop} (hsel : Region.noSelect ops = true) :
    ∀ (ks : List Nat) (l : List Thing) (listed : Array Bool) (a : Act), Region.lexO md ops loud ks listed = true → wpO P ops W G loud K ks l a → WholeG P md ops W G K ks.length l listed a := by
  intro ks
  induction ks with
  | nil => intro l listed a hB h; exact ⟨by simpa [Region.lexO] using hB, h⟩
  | cons k ks ih =>
    intro l listed a hB h
    obtain ⟨o, h0, h⟩ := h
    rw [Region.lexO] at hB
    simp only [Bool.and_eq_true] at hB
    obtain ⟨hB, hB'⟩ := hB
    by_cases hk : loud.contains k = true
    · rw [if_pos hk] at h hB
      have hr : Region.ready md ops listed = [k] := by simpa using hB
      refine ⟨by rw [hr]; simp, fun i hi => ?_⟩
      rw [hr] at hi
      obtain rfl : i = k := by simpa using hi
      exact ⟨o, h0, .inr (h.mono fun l' u ⟨hg, h⟩ => ⟨hg, ih _ _ _ hB' h⟩)⟩
    · rw [if_neg hk] at h hB
      simp only [Bool.and_eq_true] at hB
      obtain ⟨v, hy, h⟩ := h
      exact WholeG.first h0 (Region.noSelect_spec hsel) ks.length l listed a (Region.free_spec h0 hB.2) (by simpa using hB.1) hy (ih _ _ _ hB' h)
theorem wp_region_O {id : Nat} {Q : Exit → Act → World → Prop} {a : Act} {w : World} {l : List Thing} {lo : List Oper} (loud ord : List Nat) (G : List Thing → Prop) (H : Heap W l w) (hG : G l) (hm : P.follows .mixedOrders = true) (hB : Region.lexOB lo.toArray loud ord = true)
    (h : wpO P lo.toArray W G loud (fun l' a' => ∀ w', Heap W l' w' → Q .normal a' w') ord l a) : (Code.region id lo.toArray true).wp P Q a w := by
  simp only [Region.lexOB, Bool.and_eq_true, beq_iff_eq] at hB
  refine wp_region_any hm ?_
  have := WholeG.lexO (md := .any) hB.1.1 ord l _ a hB.1.2 h
  have h2 := WholeG.any (Q := Q) (fun l a w H h => h w H) ord.length l _ a _ hG H.drew this
  rw [hB.2] at h2
  exact h2
theorem wpO_nil {loud : List Nat} {K : List Thing → Act → Prop} {l : List Thing} {a : Act} (h : K l a) : wpO P ops W G loud K [] l a := h
theorem wpO_step {lo : List Oper} {loud : List Nat} {K : List Thing → Act → Prop} {o : Oper} {k : Nat} {ks : List Nat} {l : List Thing} {a : Act} {s : Nat} {v : Value} (ho : lo[k]? = some o) (hk : loud.contains k = false) (hd : o.dst = some s) (hlt : s < a.tmps.size)
    (h1 : ∀ l0, G l0 → ∀ (w0 : World) (H0 : Heap W l0 w0), wpQuiet P lo.toArray (fun w' => ∃ d, w' = H0.any d) (fun a' => a'.tmps.getD s undef = v) [o] a) (h2 : wpO P lo.toArray W G loud K ks l (a.put o.dst v)) : wpO P lo.toArray W G loud K (k :: ks) l a := by
  have inj : ∀ u, (a.put o.dst u).tmps.getD s undef = v → u = v := fun u h => by
    rw [hd] at h
    simp [Act.put, hlt] at h
    exact h
  refine ⟨o, by simpa using ho, ?_⟩
  rw [if_neg (by rw [hk]; exact Bool.false_ne_true)]
  refine ⟨v, fun l0 hl0 w0 H0 => ?_, h2⟩
  have h := h1 l0 hl0 w0 H0
  unfold wpQuiet at h
  by_cases hw : Region.wanted o (yielded lo.toArray a.tmps) = true
  · rw [if_pos hw] at h
    obtain ⟨u, hu, hk⟩ := h
    obtain rfl := inj u hk
    exact .inl ⟨hw, hu⟩
  · rw [if_neg hw] at h
    exact .inr ⟨by simpa using hw, (inj undef h).symm⟩
theorem wpO_loud {lo : List Oper} {loud : List Nat} {K : List Thing → Act → Prop} {o : Oper} {k : Nat} {ks : List Nat} {l : List Thing} {a : Act} (ho : lo[k]? = some o) (hk : loud.contains k = true) (h : LoudG P lo.toArray W o l a fun l' u => G l' ∧ wpO P lo.toArray W G loud K ks l' (a.put o.dst u)) : wpO P lo.toArray W G loud K (k :: ks) l a := by
  refine ⟨o, by simpa using ho, ?_⟩
  rw [if_pos hk]
  exact h
theorem wpW_nil {loud : List Nat} {K : List Thing → Act → Prop} {k : Nat} {l : List Thing} {a : Act} (h : K l a) : wpW P ops W G loud K [] k l a := h
theorem wpW_step {loud : List Nat} {K : List Thing → Act → Prop} {o : Oper} {rest : List Oper} {k : Nat} {l : List Thing} {a : Act} {s : Nat} {v : Value} (hk : loud.contains k = false) (hd : o.dst = some s) (hlt : s < a.tmps.size)
    (h1 : ∀ l0, G l0 → ∀ (w0 : World) (H0 : Heap W l0 w0), wpQuiet P ops (fun w' => ∃ d, w' = H0.any d) (fun a' => a'.tmps.getD s undef = v) [o] a) (h2 : wpW P ops W G loud K rest (k + 1) l (a.put o.dst v)) : wpW P ops W G loud K (o :: rest) k l a := by
  have inj : ∀ u, (a.put o.dst u).tmps.getD s undef = v → u = v := fun u h => by
    rw [hd] at h
    simp [Act.put, hlt] at h
    exact h
  unfold wpW
  rw [if_neg (by rw [hk]; exact Bool.false_ne_true)]
  refine ⟨v, fun l0 hl0 w0 H0 => ?_, h2⟩
  have h := h1 l0 hl0 w0 H0
  unfold wpQuiet at h
  by_cases hw : Region.wanted o (yielded ops a.tmps) = true
  · rw [if_pos hw] at h
    obtain ⟨u, hu, hk⟩ := h
    obtain rfl := inj u hk
    exact .inl ⟨hw, hu⟩
  · rw [if_neg hw] at h
    exact .inr ⟨by simpa using hw, (inj undef h).symm⟩
theorem wpW_loud {loud : List Nat} {K : List Thing → Act → Prop} {o : Oper} {rest : List Oper} {k : Nat} {l : List Thing} {a : Act} (hk : loud.contains k = true) (h : LoudG P ops W o l a fun l' u => G l' ∧ wpW P ops W G loud K rest (k + 1) l' (a.put o.dst u)) : wpW P ops W G loud K (o :: rest) k l a := by
  unfold wpW
  rw [if_pos hk]
  exact h
end
section
variable {ops : Array Oper} {W : World} {G : List Thing → Prop} {loud : List Nat} {K : List Thing → Act → Prop} {rest : List Oper} {k : Nat} {l : List Thing} {a : Act} {T n : Nat} {z : Array Value}
theorem wpW_allocR {dst : Option Tmp} {ty : TypeId} {pos : String} {after : Array Edge} {guard : Option (Nat × Bool)} (RT : RowTy T n z) (hk : loud.contains k = true) (hw : Region.wanted ⟨dst, .alloc T, ty, pos, after, guard⟩ (yielded ops a.tmps) = true)
    (hG : ∀ p, G (Cel p z T :: l)) (h : ∀ p, wpW Tryd.prog ops W G loud K rest (k + 1) (Cel p z T :: l) (a.put dst (.pointer (some ⟨p, 0, none⟩)))) : wpW Tryd.prog ops W G loud K (⟨dst, .alloc T, ty, pos, after, guard⟩ :: rest) k l a := by
  refine wpW_loud hk ⟨hw, fun w H => ⟨Cel w.heap.size z T :: l, .pointer (some ⟨w.heap.size, 0, none⟩), w.alloc (.cells z T), .inl ?_, H.alloc _ _, hG _, h _⟩⟩
  have hz := RT.zero
  cases hi : Tryd.prog.info? T with
  | none => rw [hi] at hz; cases hz
  | some i =>
    rw [hi] at hz
    have hz' : i.zero = some (.agg z) := hz
    have r2 : (zeroValue T).run Tryd.prog w = .ok (.agg z) w := by simp [zeroValue, typeInfo, hi, hz', go_sem]
    unfold execOp
    simp only [Instr.alloc, Sem.run_bind, r2, Result.andThen_ok, newVar, newRow, Value.cells]
    rfl
theorem run_storeR (RT : RowTy T n z) {w : World} {b off : Nat} {c c0 : Array Value} {t : TypeId} (hc : Cells n c) (hb : w.heap[b]? = some (.cells c0 t (0, 0))) (hn : off + n ≤ c0.size) :
    (Instr.storeAt T (.pointer (some ⟨b, off, none⟩)) (.agg c)).run Tryd.prog w = .ok () (setBlk w b (splice c0 off c)) := by
  have ht : w.there b off c.size := fun j hj => ⟨by
    rw [cell_of_row w b (off + j) c0 t _ hb, Array.getElem?_eq_getElem (by have := hc.1; omega)]; rfl, frozen_of_row w b (off + j) c0 t hb⟩
  simp only [Instr.storeAt, Instr.sureAddr, Sem.run_bind, Sem.run_pure, Result.andThen_ok, run_storeVar_mid w b off T c ht (by rw [RT.size, hc.1]) hc.2]
  rw [setCells_blk b c.toList off w c0 t _ hb (by have := hc.1; simp; omega)]
  unfold splice
  simp
theorem wpW_storeR {dst : Option Tmp} {ty : TypeId} {pos : String} {after : Array Edge} {guard : Option (Nat × Bool)} {x y : Operand} {b off : Nat} {c2 : Array Value} (RT : RowTy T n z) (hk : loud.contains k = true) (hw : Region.wanted ⟨dst, .store T x y, ty, pos, after, guard⟩ (yielded ops a.tmps) = true) (hx : a.eval x = .pointer (some ⟨b, off, none⟩)) (hy : a.eval y = .agg c2) (hc : Cells n c2)
    {c c1 : Array Value} {t : TypeId} {l' : List Thing} (m : Cel b c t ∈ l) (hn : off + n ≤ c.size) (hs : splice c off c2 = c1) (r : Repl l (Cel b c t) (Cel b c1 t) l') (hG : G l')
    (h : wpW Tryd.prog ops W G loud K rest (k + 1) l' (a.put dst undef)) : wpW Tryd.prog ops W G loud K (⟨dst, .store T x y, ty, pos, after, guard⟩ :: rest) k l a := by
  subst hs
  refine wpW_loud hk ⟨hw, fun w H => ⟨l', undef, setBlk w b (splice c off c2), .inr ⟨?_, rfl⟩, H.set r, hG, h⟩⟩
  unfold execOp
  simp only [hx, hy, Sem.run_bind, run_storeR RT hc (H.blk m) hn, Result.andThen_ok]
  rfl
theorem run_storeC {T : TypeId} (CT : CellTy T) {w : World} {b off : Nat} {v : Value} {c0 : Array Value} {t : TypeId} (hc : v.cells = #[v] ∧ v.oneCell' = true) (hb : w.heap[b]? = some (.cells c0 t (0, 0))) (hn : off < c0.size) :
    (Instr.storeAt T (.pointer (some ⟨b, off, none⟩)) v).run Tryd.prog w = .ok () (setBlk w b (c0.setIfInBounds off v)) := by
  have hsz : (sizeOf T).run Tryd.prog w = .ok 1 w := by
    have := CT.size
    cases hi : Tryd.prog.info? T with
    | none => rw [hi] at this; cases this
    | some i => rw [hi] at this; simp at this; simp [sizeOf, typeInfo, hi, this, go_sem]
  have hcell : (w.cell? ⟨b, off, none⟩).isSome = true := by rw [cell_of_row w b off c0 t _ hb, Array.getElem?_eq_getElem hn]; rfl
  have hfr : w.frozen? ⟨b, off, none⟩ = false := frozen_of_row w b off c0 t hb
  have e : setBlk w b (c0.setIfInBounds off v) = w.setCell ⟨b, off, none⟩ v := by
    refine World.eq_of ?_ rfl rfl rfl rfl
    apply Array.ext_getElem?
    intro j
    by_cases e : j = b
    · subst e; rw [setBlk_same _ j _ c0 t _ hb, Joins.block_setCell (i := off) hb]
    · rw [setBlk_block _ _ _ _ e, Below.heap_setCell _ _ _ _ e]
  rw [e]
  obtain ⟨u, hu⟩ := Option.isSome_iff_exists.1 hcell
  simp only [Instr.storeAt, Instr.sureAddr, storeVar, Sem.run_bind, Sem.run_pure, Result.andThen_ok, hsz, hc.1]
  have hst : (store ⟨b, off, none⟩ v).run Tryd.prog w = .ok () (w.setCell ⟨b, off, none⟩ v) := by rw [run_store _ _ _ _ _ hc.2, hu]; simp [hfr]
  simp [storeCells, go_sem, hst]
theorem wpO_storeC {lo : List Oper} {ks : List Nat} {k : Nat} {T : TypeId} {dst : Option Tmp} {ty : TypeId} {pos : String} {after : Array Edge} {guard : Option (Nat × Bool)} {x y : Operand} {b off : Nat} {v : Value} (CT : CellTy T) (ho : lo[k]? = some ⟨dst, .store T x y, ty, pos, after, guard⟩) (hk : loud.contains k = true) (hw : Region.wanted ⟨dst, .store T x y, ty, pos, after, guard⟩ (yielded lo.toArray a.tmps) = true) (hx : a.eval x = .pointer (some ⟨b, off, none⟩)) (hy : a.eval y = v) (hc : v.cells = #[v] ∧ v.oneCell' = true)
    {c c1 : Array Value} {t : TypeId} {l' : List Thing} (m : Cel b c t ∈ l) (hn : off < c.size) (hs : c.setIfInBounds off v = c1) (r : Repl l (Cel b c t) (Cel b c1 t) l') (hG : G l')
    (h : wpO Tryd.prog lo.toArray W G loud K ks l' (a.put dst undef)) : wpO Tryd.prog lo.toArray W G loud K (k :: ks) l a := by
  subst hs
  refine wpO_loud ho hk ⟨hw, fun w H => ⟨l', undef, setBlk w b (c.setIfInBounds off v), .inr ⟨?_, rfl⟩, H.set r, hG, h⟩⟩
  unfold execOp
  simp only [hx, hy, Sem.run_bind, run_storeC CT hc (H.blk m) hn, Result.andThen_ok]
  rfl
theorem wpO_storeI {lo : List Oper} {ks : List Nat} {k : Nat} {T : TypeId} {dst : Option Tmp} {ty : TypeId} {pos : String} {after : Array Edge} {guard : Option (Nat × Bool)} {x y : Operand} {b off : Nat} {k0 : IntKind} {n0 : Int} (CT : CellTy T) (ho : lo[k]? = some ⟨dst, .store T x y, ty, pos, after, guard⟩) (hk : loud.contains k = true) (hw : Region.wanted ⟨dst, .store T x y, ty, pos, after, guard⟩ (yielded lo.toArray a.tmps) = true) (hx : a.eval x = .pointer (some ⟨b, off, none⟩)) (hy : a.eval y = .int k0 n0)
    {c c1 : Array Value} {t : TypeId} {l' : List Thing} (m : Cel b c t ∈ l) (hn : off < c.size) (hs : c.setIfInBounds off (.int k0 n0) = c1) (r : Repl l (Cel b c t) (Cel b c1 t) l') (hG : G l')
    (h : wpO Tryd.prog lo.toArray W G loud K ks l' (a.put dst undef)) : wpO Tryd.prog lo.toArray W G loud K (k :: ks) l a := wpO_storeC CT ho hk hw hx hy ⟨rfl, rfl⟩ m hn hs r hG h
theorem wpO_storeB {lo : List Oper} {ks : List Nat} {k : Nat} {T : TypeId} {dst : Option Tmp} {ty : TypeId} {pos : String} {after : Array Edge} {guard : Option (Nat × Bool)} {x y : Operand} {b off : Nat} {b0 : Bool} (CT : CellTy T) (ho : lo[k]? = some ⟨dst, .store T x y, ty, pos, after, guard⟩) (hk : loud.contains k = true) (hw : Region.wanted ⟨dst, .store T x y, ty, pos, after, guard⟩ (yielded lo.toArray a.tmps) = true) (hx : a.eval x = .pointer (some ⟨b, off, none⟩)) (hy : a.eval y = .bool b0)
    {c c1 : Array Value} {t : TypeId} {l' : List Thing} (m : Cel b c t ∈ l) (hn : off < c.size) (hs : c.setIfInBounds off (.bool b0) = c1) (r : Repl l (Cel b c t) (Cel b c1 t) l') (hG : G l')
    (h : wpO Tryd.prog lo.toArray W G loud K ks l' (a.put dst undef)) : wpO Tryd.prog lo.toArray W G loud K (k :: ks) l a := wpO_storeC CT ho hk hw hx hy ⟨rfl, rfl⟩ m hn hs r hG h
end
end Go.Proofs.YtlinhcbjljcgbaaDoor

/- Loud operations in a region that draws: a slice literal of one row, an append. -/
namespace Go.Proofs.YtlinhcbjljcgbaaDoor
open Go.RowKit
set_option linter.unusedVariables false
section
variable {W : World} {G : List Thing → Prop} {loud : List Nat} {K : List Thing → Act → Prop} {l r : List Thing} {a : Act} {lo : List Oper} {ks : List Nat} {k : Nat} {dst : Option Tmp} {ty : TypeId} {pos : String} {after : Array Edge}
theorem wpO_bsR {x : Operand} {t e : TypeId} {c zs : Array Value} (ho : lo[k]? = some ⟨dst, .buildSlice t 1 #[(0, x)], ty, pos, after, none⟩) (hk : loud.contains k = true) (hx : a.eval x = .agg c)
    (hT : Tryd.prog.underlying t = some (.slice e) ∧ (Tryd.prog.info? e).map (fun i => (i.size, i.zero.map Value.cells)) = some (zs.size, some zs) ∧ 0 < zs.size ∧ zs.size ≤ 65536) (hv : c.size = zs.size)
    (hG : ∀ p, G (Cel p c e :: l)) (h : ∀ p, wpO Tryd.prog lo.toArray W G loud K ks (Cel p c e :: l) (a.put dst (.slice (some ⟨p, 0, none⟩) 1 1))) : wpO Tryd.prog lo.toArray W G loud K (k :: ks) l a := by
  refine wpO_loud ho hk ⟨rfl, fun w H => ⟨_, _, _, .inl ?_, H.alloc c e, hG _, h _⟩⟩
  unfold execOp
  simp only [List.map_toArray, List.map_cons, List.map_nil, hx, Sem.run_bind, run_buildSlice1 hT.1 hT.2.1 hT.2.2.1 hT.2.2.2 (.agg c) hv, Result.andThen_ok, Sem.run_pure]
  rfl
theorem wpO_append {t e size bytes : Nat} {z : Value} (T : SlTy Tryd.prog t e size bytes z) {s x : Operand} (ho : lo[k]? = some ⟨dst, .call { callee := .builtin .append, args := #[s, x], argTypes := #[t, t] }, ty, pos, after, none⟩) (hk : loud.contains k = true)
    {v : Value} {b m c n : Nat} {xs news : List Value} {cc : Array Value} {te : TypeId} (hs : a.eval s = v) (hx : a.eval x = .slice (some ⟨b, 0, none⟩) m c) (pl : Pull l (RowT e size v n xs) r) (mb : Cel b cc te ∈ l) (hnews : cc.toList = news)
    (hl : news.length = m * size) (h1 : OneCells news) (h63 : n + m ≤ maxLen) (hbytes : (n + m) * bytes ≤ 140737488355328)
    (hG : ∀ v', G (RowT e size v' (n + m) (xs ++ news) :: r)) (h : ∀ v', wpO Tryd.prog lo.toArray W G loud K ks (RowT e size v' (n + m) (xs ++ news) :: r) (a.put dst v')) : wpO Tryd.prog lo.toArray W G loud K (k :: ks) l a := by
  refine wpO_loud ho hk ⟨rfl, fun w H => ?_⟩
  have H2 := H.pull pl
  have hown : w.ownsRow 0 e size v n xs := H2.ok _ List.mem_cons_self
  have hrd := H.celRd mb
  rw [hnews] at hrd
  obtain ⟨i, hi, hz, hsz, hb⟩ := T.inf
  have hnw := hrd.addr
  obtain ⟨v1, w1, hr1, hbl⟩ := run_append_block w T ty 0 v n xs hown ⟨b, 0, none⟩ m c news hl hnw h1 h63 hbytes
  obtain ⟨v', w', hr, h2, h3, h4⟩ := run_append_own (P := Tryd.prog) w 0 t ty e i z size bytes T.und hi hz hsz hb T.zc T.pos v n xs hown ⟨b, 0, none⟩ m c news hl hnw h1 h63 hbytes (Nat.zero_le _)
  rw [hr1] at hr
  simp only [Result.ok.injEq] at hr
  obtain ⟨rfl, rfl⟩ := hr
  refine ⟨_, v1, w1, .inl ?_, H2.head h3 h2 ?_, hG _, h _⟩
  · unfold execOp
    simp only [resolve, invoke, builtin, Sem.run_bind, Sem.run_pure, Result.andThen_ok, List.map_toArray, List.map_cons, List.map_nil, hs, hx, hr1]
  · rcases hbl with hbl | hbl
    · exact .inl hbl
    · refine .inr fun j hj => ?_
      have h5 := ownsRow_fp h2 j hj
      have hj' : v1.ownBlock = some j := hj
      rw [hbl] at hj'
      cases hj'
      exact ⟨Nat.le_refl _, h5.2⟩
end
end Go.Proofs.YtlinhcbjljcgbaaDoor

/- A region that draws its order, over a memory of things, with loud operations in one order: stores, makes, and calls that make or change things. A quiet operation must yield the same while some things stay ('base', a list that may grow behind a loud one): one walk in an order of one's own serves every order. -/
namespace Go.Proofs.YtlinhcbjljcgbaaDoor
open Go.RowKit
set_option linter.unusedVariables false
def Keeps (base l : List Thing) : Prop := ∀ t, t ∈ base → t ∈ l
section
variable {P : Program} {ops : Array Oper} {md : Region.Mode} {W : World}
def YieldsK (P : Program) (ops : Array Oper) (W : World) (base : List Thing) (o : Oper) (v : Value) (a : Act) : Prop := ∀ l, Keeps base l → ∀ (w : World) (H : Heap W l w), YieldsIn P ops (fun w' => ∃ d, w' = H.any d) o v a
theorem YieldsK.of_same {base : List Thing} {o : Oper} {v : Value} {a a' : Act} (hy : YieldsK P ops W base o v a) (he : execOp a'.eval o = execOp a.eval o)
    (hw : Region.wanted o (yielded ops a'.tmps) = Region.wanted o (yielded ops a.tmps)) : YieldsK P ops W base o v a' := fun l hl w H => (hy l hl w H).of_same he hw
theorem YieldsK.more {base base' : List Thing} {o : Oper} {v : Value} {a : Act} (hy : YieldsK P ops W base o v a) (h : Keeps base base') : YieldsK P ops W base' o v a := fun l hl w H => hy l (fun t ht => hl t (h t ht)) w H
def LoudK (P : Program) (ops : Array Oper) (W : World) (o : Oper) (l : List Thing) (a : Act) (k : List Thing → Value → Prop) : Prop :=
  Region.wanted o (yielded ops a.tmps) = true ∧ ∀ w, Heap W l w →
    (∃ l' u w', ((execOp a.eval o).run P w = .ok (.value u) w' ∨ ((execOp a.eval o).run P w = .ok .skip w' ∧ u = undef)) ∧ Heap W l' w' ∧ k l' u) ∨
    (∃ f args w0, (execOp a.eval o).run P w = .ok (.enter f args) w0 ∧ Calls P f args w0 fun e w' => ∃ l' u, e = .returned u ∧ Heap W l' w' ∧ k l' u)
theorem LoudK.mono {o : Oper} {l : List Thing} {a : Act} {k k' : List Thing → Value → Prop} (h : LoudK P ops W o l a k) (hk : ∀ l' u, k l' u → k' l' u) : LoudK P ops W o l a k' :=
  ⟨h.1, fun w H => by
    rcases h.2 w H with ⟨l', u, w', h1, h2, h3⟩ | ⟨f, args, w0, h1, h2⟩
    · exact .inl ⟨l', u, w', h1, h2, hk _ _ h3⟩
    · exact .inr ⟨f, args, w0, h1, h2.mono fun e w' ⟨l', u, h3, h4, h5⟩ => ⟨l', u, h3, h4, hk _ _ h5⟩⟩⟩
theorem LoudK.of_same {o : Oper} {l : List Thing} {a a' : Act} {k : List Thing → Value → Prop} (h : LoudK P ops W o l a k) (he : execOp a'.eval o = execOp a.eval o)
    (hw : Region.wanted o (yielded ops a'.tmps) = Region.wanted o (yielded ops a.tmps)) : LoudK P ops W o l a' k := ⟨by rw [hw]; exact h.1, fun w H => by rw [he]; exact h.2 w H⟩
def WholeK (P : Program) (md : Region.Mode) (ops : Array Oper) (W : World) (K : List Thing → Act → Prop) : Nat → List Thing → List Thing → Array Bool → Act → Prop
  | 0, base, l, listed, a => Region.ready md ops listed = [] ∧ K l a
  | f + 1, base, l, listed, a => Region.ready md ops listed ≠ [] ∧ ∀ i ∈ Region.ready md ops listed, ∃ o, ops[i]? = some o ∧
      ((∃ v, YieldsK P ops W base o v a ∧ WholeK P md ops W K f base l (listed.setIfInBounds i true) (a.put o.dst v)) ∨
       LoudK P ops W o l a fun l' u => ∃ base', Keeps base base' ∧ Keeps base' l' ∧ WholeK P md ops W K f base' l' (listed.setIfInBounds i true) (a.put o.dst u))
theorem WholeK.any {K : List Thing → Act → Prop} {Q : Exit → Act → World → Prop} (hK : ∀ l a w, Heap W l w → K l a → Q .normal a w) :
    ∀ (f : Nat) (base l : List Thing) (listed : Array Bool) (a : Act) (w : World), Keeps base l → Heap W l w → WholeK P md ops W K f base l listed a → wpAny P md ops Q f listed a w := by
  intro f
  induction f with
  | zero => intro base l listed a w _ H h; exact ⟨h.1, hK _ _ _ H h.2⟩
  | succ f ih =>
    intro base l listed a w hG H h
    refine ⟨fun h0 => absurd h0 h.1, fun i hi => ?_⟩
    obtain ⟨o, ho, h⟩ := h.2 i hi
    rcases h with ⟨v, hy, h⟩ | h
    · refine wpOp_of_qOp (C := fun w' => ∃ d, w' = H.any d) (H.any_of H) (fun a' w' hw' ha' => ?_) ((hy l hG w H).qOp ho (K := fun a' => a' = a.put o.dst v) rfl)
      obtain ⟨d, rfl⟩ := hw'
      subst ha'
      exact ih _ _ _ _ _ hG (H.any_heap d) h
    · unfold wpOp
      simp only [ho]
      rw [if_pos h.1]
      refine .inl ?_
      unfold Oper.wp
      rcases h.2 w H with ⟨l', u, w', hr, H', base', h1, h2, hk⟩ | ⟨g, args, w0, hr, hc⟩
      · rcases hr with hr | ⟨hr, rfl⟩ <;> rw [hr] <;> exact ih _ _ _ _ _ h2 H' hk
      · rw [hr, Oper.upon_enter]
        refine hc.mono ?_
        rintro e w' ⟨l', u, rfl, H', base', h1, h2, hk⟩
        exact ih _ _ _ _ _ h2 H' hk
theorem WholeK.first {i : Nat} {oi : Oper} {v : Value} {K : List Thing → Act → Prop} (hi : ops[i]? = some oi) (hsel : ∀ (j : Nat) (o : Oper) cs b, ops[j]? = some o → o.op ≠ .select cs b) :
    ∀ (f : Nat) (base l : List Thing) (listed : Array Bool) (a : Act),
      (∀ j oj, ops[j]? = some oj → j ≠ i → listed.getD j true = false → (∀ e ∈ oj.after, Region.binds md e = true → e.on ≠ i) → oi.apart ops oj = true) →
      i ∈ Region.ready md ops listed → YieldsK P ops W base oi v a → WholeK P md ops W K f base l (listed.setIfInBounds i true) (a.put oi.dst v) → WholeK P md ops W K (f + 1) base l listed a := by
  intro f
  induction f with
  | zero =>
    intro base l listed a _ hr hy H
    refine ⟨fun h => by rw [h] at hr; simp at hr, fun j hj => ?_⟩
    by_cases e : j = i
    · subst e; exact ⟨oi, hi, .inl ⟨v, hy, H⟩⟩
    · have := ready_mono hj e
      rw [H.1] at this; cases this
  | succ f ih =>
    intro base l listed a hfree hr hy H
    have hun := (mem_ready.1 hr).1
    refine ⟨fun h => by rw [h] at hr; simp at hr, fun j hj => ?_⟩
    by_cases e : j = i
    · subst e; exact ⟨oi, hi, .inl ⟨v, hy, H⟩⟩
    · obtain ⟨hjun, oj, hoj, hall⟩ := mem_ready.1 hj
      have hnot : ∀ e ∈ oj.after, Region.binds md e = true → e.on ≠ i := fun e he hb heq => by
        have := hall e he hb
        rw [heq, getD_both hun] at this
        cases this
      obtain ⟨h1, h2, h3⟩ := Oper.apart_spec (hfree j oj hoj e hjun hnot)
      have hsi := fun cs b => hsel i oi cs b hi
      have hsj := fun cs b => hsel j oj cs b hoj
      have keep : ∀ u, YieldsK P ops W base oi v (a.put oj.dst u) := fun u => hy.of_same (execOp_put oi hsi a oj.dst u h3) (wanted_put oi a oj.dst u h3)
      have hfree' : ∀ k ok, ops[k]? = some ok → k ≠ i → (listed.setIfInBounds j true).getD k true = false →
          (∀ e ∈ ok.after, Region.binds md e = true → e.on ≠ i) → oi.apart ops ok = true := fun k ok hk hki hun hno => by
        refine hfree k ok hk hki ?_ hno
        by_cases hjk : j = k
        · subst hjk; exact hjun
        · rw [getD_set_ne true hjk] at hun; exact hun
      obtain ⟨o', ho', h⟩ := H.2 j (ready_mono hj e)
      obtain rfl : o' = oj := Option.some.inj (ho'.symm.trans hoj)
      refine ⟨o', hoj, ?_⟩
      rcases h with ⟨u, hu, h⟩ | h
      · refine .inl ⟨u, hu.of_same (execOp_put o' hsj a oi.dst v h1).symm (wanted_put o' a oi.dst v h1).symm, ih _ _ _ _ hfree' (ready_mono hr (Ne.symm e)) (keep _) ?_⟩
        rw [Array.setIfInBounds_comm _ _ e, ← Act.put_comm a v _ h2]
        exact h
      · refine .inr ((h.of_same (execOp_put o' hsj a oi.dst v h1).symm (wanted_put o' a oi.dst v h1).symm).mono fun l' u ⟨base', hb1, hb2, h⟩ => ⟨base', hb1, hb2, ih _ _ _ _ hfree' (ready_mono hr (Ne.symm e)) ((keep _).more hb1) ?_⟩)
        rw [Array.setIfInBounds_comm _ _ e, ← Act.put_comm a v _ h2]
        exact h
/-- The walk in an order of one's own. -/
def wpK (P : Program) (ops : Array Oper) (W : World) (loud : List Nat) (K : List Thing → Act → Prop) : List Nat → List Thing → List Thing → Act → Prop
  | [], base, l, a => K l a
  | k :: ks, base, l, a => ∃ o, ops[k]? = some o ∧ if loud.contains k then LoudK P ops W o l a fun l' u => ∃ base', Keeps base base' ∧ Keeps base' l' ∧ wpK P ops W loud K ks base' l' (a.put o.dst u)
      else ∃ v, YieldsK P ops W base o v a ∧ wpK P ops W loud K ks base l (a.put o.dst v)
theorem WholeK.lexO {loud : List Nat} {K : List Thing → Act → Prop} (hsel : Region.noSelect ops = true) :
    ∀ (ks : List Nat) (base l : List Thing) (listed : Array Bool) (a : Act), Region.lexO md ops loud ks listed = true → wpK P ops W loud K ks base l a → WholeK P md ops W K ks.length base l listed a := by
  intro ks
  induction ks with
  | nil => intro base l listed a hB h; exact ⟨by simpa [Region.lexO] using hB, h⟩
  | cons k ks ih =>
    intro base l listed a hB h
    obtain ⟨o, h0, h⟩ := h
    rw [Region.lexO] at hB
    simp only [Bool.and_eq_true] at hB
    obtain ⟨hB, hB'⟩ := hB
    by_cases hk : loud.contains k = true
    · rw [if_pos hk] at h hB
      have hr : Region.ready md ops listed = [k] := by simpa using hB
      refine ⟨by rw [hr]; simp, fun i hi => ?_⟩
      rw [hr] at hi
      obtain rfl : i = k := by simpa using hi
      exact ⟨o, h0, .inr (h.mono fun l' u ⟨base', h1, h2, h⟩ => ⟨base', h1, h2, ih _ _ _ _ hB' h⟩)⟩
    · rw [if_neg hk] at h hB
      simp only [Bool.and_eq_true] at hB
      obtain ⟨v, hy, h⟩ := h
      exact WholeK.first h0 (Region.noSelect_spec hsel) ks.length base l listed a (Region.free_spec h0 hB.2) (by simpa using hB.1) hy (ih _ _ _ _ hB' h)
theorem wp_region_K {id : Nat} {Q : Exit → Act → World → Prop} {a : Act} {w : World} {l : List Thing} {lo : List Oper} (loud ord : List Nat) (base : List Thing) (H : Heap W l w) (hG : Keeps base l) (hm : P.follows .mixedOrders = true) (hB : Region.lexOB lo.toArray loud ord = true)
    (h : wpK P lo.toArray W loud (fun l' a' => ∀ w', Heap W l' w' → Q .normal a' w') ord base l a) : (Code.region id lo.toArray true).wp P Q a w := by
  simp only [Region.lexOB, Bool.and_eq_true, beq_iff_eq] at hB
  refine wp_region_any hm ?_
  have := WholeK.lexO (md := .any) hB.1.1 ord base l _ a hB.1.2 h
  have h2 := WholeK.any (Q := Q) (fun l a w H h => h w H) ord.length base l _ a _ hG H.drew this
  rw [hB.2] at h2
  exact h2
theorem wp_region_K0 {id : Nat} {Q : Exit → Act → World → Prop} {a : Act} {w : World} {l : List Thing} {lo : List Oper} (loud ord : List Nat) (H : Heap W l w) (hm : P.follows .mixedOrders = true) (hB : Region.lexOB lo.toArray loud ord = true)
    (h : wpK P lo.toArray W loud (fun l' a' => ∀ w', Heap W l' w' → Q .normal a' w') ord l l a) : (Code.region id lo.toArray true).wp P Q a w :=
  wp_region_K loud ord l H (fun _ h => h) hm hB h
theorem wpK_nil {loud : List Nat} {K : List Thing → Act → Prop} {base l : List Thing} {a : Act} (h : K l a) : wpK P ops W loud K [] base l a := h
theorem wpK_step {lo : List Oper} {loud : List Nat} {K : List Thing → Act → Prop} {o : Oper} {k : Nat} {ks : List Nat} {base l : List Thing} {a : Act} {s : Nat} {v : Value} (ho : lo[k]? = some o) (hk : loud.contains k = false) (hd : o.dst = some s) (hlt : s < a.tmps.size)
    (h1 : ∀ l0, Keeps base l0 → ∀ (w0 : World) (H0 : Heap W l0 w0), wpQuiet P lo.toArray (fun w' => ∃ d, w' = H0.any d) (fun a' => a'.tmps.getD s undef = v) [o] a) (h2 : wpK P lo.toArray W loud K ks base l (a.put o.dst v)) : wpK P lo.toArray W loud K (k :: ks) base l a := by
  have inj : ∀ u, (a.put o.dst u).tmps.getD s undef = v → u = v := fun u h => by
    rw [hd] at h
    simp [Act.put, hlt] at h
    exact h
  refine ⟨o, by simpa using ho, ?_⟩
  rw [if_neg (by rw [hk]; exact Bool.false_ne_true)]
  refine ⟨v, fun l0 hl0 w0 H0 => ?_, h2⟩
  have h := h1 l0 hl0 w0 H0
  unfold wpQuiet at h
  by_cases hw : Region.wanted o (yielded lo.toArray a.tmps) = true
  · rw [if_pos hw] at h
    obtain ⟨u, hu, hk⟩ := h
    obtain rfl := inj u hk
    exact .inl ⟨hw, hu⟩
  · rw [if_neg hw] at h
    exact .inr ⟨by simpa using hw, (inj undef h).symm⟩
/-- A loud one whose guard says no. -/
theorem wpK_skip {lo : List Oper} {loud : List Nat} {K : List Thing → Act → Prop} {o : Oper} {k : Nat} {ks : List Nat} {base l : List Thing} {a : Act} (ho : lo[k]? = some o) (hk : loud.contains k = false) (hw : Region.wanted o (yielded lo.toArray a.tmps) = false) (h2 : wpK P lo.toArray W loud K ks base l (a.put o.dst undef)) : wpK P lo.toArray W loud K (k :: ks) base l a := by
  refine ⟨o, by simpa using ho, ?_⟩
  rw [if_neg (by rw [hk]; exact Bool.false_ne_true)]
  exact ⟨undef, fun _ _ _ _ => .inr ⟨hw, rfl⟩, h2⟩
theorem wpK_loud {lo : List Oper} {loud : List Nat} {K : List Thing → Act → Prop} {o : Oper} {k : Nat} {ks : List Nat} {base l : List Thing} {a : Act} (ho : lo[k]? = some o) (hk : loud.contains k = true) (h : LoudK P lo.toArray W o l a fun l' u => ∃ base', Keeps base base' ∧ Keeps base' l' ∧ wpK P lo.toArray W loud K ks base' l' (a.put o.dst u)) : wpK P lo.toArray W loud K (k :: ks) base l a := by
  refine ⟨o, by simpa using ho, ?_⟩
  rw [if_pos hk]
  exact h
/-- A call, by what it does: in the end 'base' may grow. -/
theorem wpK_call {lo : List Oper} {loud : List Nat} {K : List Thing → Act → Prop} {k : Nat} {ks : List Nat} {base l : List Thing} {a : Act} {dst : Option Tmp} {ty : TypeId} {pos : String} {after : Array Edge} {guard : Option (Nat × Bool)} {f : FuncId} {xs : Array Operand} {ats : Array TypeId} {argl : List Value}
    (ho : lo[k]? = some ⟨dst, .call { callee := .value (.func f), args := xs, argTypes := ats }, ty, pos, after, guard⟩) (hk : loud.contains k = true) (hw : Region.wanted ⟨dst, .call { callee := .value (.func f), args := xs, argTypes := ats }, ty, pos, after, guard⟩ (yielded lo.toArray a.tmps) = true)
    (hf : ∀ args w, (callFunc f args).run P w = .ok (.enter f args) w) (ha : xs.toList.map a.eval = argl)
    (hc : ∀ w, Heap W l w → Calls P f argl.toArray w fun e w' => ∃ l' u, e = .returned u ∧ Heap W l' w' ∧ ∃ base', Keeps base base' ∧ Keeps base' l' ∧ wpK P lo.toArray W loud K ks base' l' (a.put dst u)) : wpK P lo.toArray W loud K (k :: ks) base l a := by
  refine wpK_loud ho hk ⟨hw, fun w H => .inr ⟨f, argl.toArray, w, ?_, hc w H⟩⟩
  have e : #[] ++ xs.map a.eval ++ #[] = argl.toArray := by subst ha; apply Array.ext'; simp
  rw [execOp_call_go, e]
  exact hf _ w
theorem Keeps.refl (l : List Thing) : Keeps l l := fun _ h => h
end
end Go.Proofs.YtlinhcbjljcgbaaDoor
