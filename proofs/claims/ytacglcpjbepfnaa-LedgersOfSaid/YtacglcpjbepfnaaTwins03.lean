/- Twins of parties and of lines. -/
import Derived.Test.YtacglcpjbepfnaaAppend
import Derived.Test.YtacglcpjbepfnaaSameQ
import Derived.Test.YtacglcpjbepfnaaBkApart
import Derived.Test.YtacglcpjbepfnaaSameL
import Derived.Test.YtacglcpjbepfnaaLed7
/- Twins of parties, and whether they were left. -/
namespace Go.Proofs.Ytacglcpjbepfnaa
open Go.RowKit
set_option linter.unusedSimpArgs false
set_option linter.unusedVariables false
abbrev mkQ2 : List Value := [.int .u8 195, .int .u8 195]
theorem mkQ2_one : OneCells mkQ2 := by
  intro u hu
  simp only [mkQ2, List.mem_cons, List.not_mem_nil, or_false] at hu
  rcases hu with rfl | rfl <;> rfl
abbrev TwQ (a : Option Addr) (c n : Nat) (P : List Int) : Thing := RowT 23 1 (.slice a (n + 2) c) (n + 2) (pI P ++ mkQ2)
theorem bs_Q : Try.prog.underlying 43 = some (.slice 23) ∧ (Try.prog.info? 23).map (fun i => (i.size, i.zero)) = some (1, some (.int .u8 0)) := ⟨Try.underlying43, by kernel_rfl⟩
theorem madeRowQ {W w : World} {l : List Thing} {g m : Nat} {z : Value} {e size : Nat} (H : Heap W (Cel g (madeCells z.cells (m * size)) e :: l) w) (hm : m ≤ maxLen) : Heap W (RowT e size (.slice (some ⟨g, 0, none⟩) 0 m) 0 [] :: l) w := by
  have := H.celRowA (n := 0) (m := m) (size := size) (by rw [size_madeCells]) (Nat.zero_le _) hm
  simpa using this
theorem rd_takeQ {w : World} {a : Option Addr} {xs : List Value} (h : Rd w a xs) (n : Nat) : Rd w a (xs.take n) := fun i hi => by
  have hi2 : i < xs.length := by rw [List.length_take] at hi; omega
  obtain ⟨b, o, e, hc⟩ := h i hi2
  exact ⟨b, o, e, by rw [hc, List.getElem_take]⟩
section
variable {W w : World} {l : List Thing}
set_option maxRecDepth 100000
set_option maxHeartbeats 4000000
theorem twin_Q (ea : Option Addr) (n ec : Nat) (P : List Int) (hl : P.length = n) (hn : n ≤ 10000) (R : ∀ l' w', (∀ x ∈ l, x ∈ l') → Heap W l' w' → Rd w' ea (pI P)) (H : Heap W l w) :
    Calls Try.prog 83 #[.slice ea n ec, .int .u8 195] w fun e w' => ∃ a c, e = .returned (.slice a n c) ∧ n + 2 ≤ c ∧ c ≤ maxLen ∧ Heap W (TwQ a c n P :: l) w' := by
  have HR := Lib.hid R
  have hlen : (pI P).length = n * 1 := by rw [pI_len, hl, Nat.mul_one]
  have h1 : 0 + n ≤ maxLen := by unfold maxLen; omega
  have h2 : (0 + n) * 1 ≤ 140737488355328 := by omega
  have h3 : 0 + n + 2 ≤ maxLen := by unfold maxLen; omega
  have h4 : (0 + n + 2) * 1 ≤ 140737488355328 := by omega
  have h5 : n + 2 ≤ maxLen := by unfold maxLen; omega
  have h6 : n + 2 ≤ 65536 := by omega
  have h7 : 1 * (n + 2) ≤ 281474976710656 := by omega
  clear R hl
  go_enter Try.func83, Try.ntmps83
  go_wp2_with (first
    | ((with_reducible show wpList _ _ _ (_ :: _) _ _); (with_reducible apply wpl_makeC slPa (n := 0) (m := n + 2)); (· rfl); (· rfl); (· rfl); (· rfl); (· omega); (· omega); (· omega); (· exact H); (clear H; intro pm _ H); (simp only [Act.put, List.setIfInBounds_toArray, List.set_cons_zero, List.set_cons_succ]))
    | ((with_reducible show wpList _ _ _ (_ :: _) _ _); (with_reducible apply wpl_appendA slPa); (· rfl); (· rfl); (· rfl); (· rfl); (· exact madeRowQ H h5); (· exact HR.out _ _ (fun x hx => List.mem_cons_of_mem _ hx) H); (· exact hlen); (· exact pI_one P); (· exact h1); (· exact h2); (clear H; intro v1 _ _ H); (simp only [Act.put, List.setIfInBounds_toArray, List.set_cons_zero, List.set_cons_succ]))
    | ((with_reducible show wpList _ _ _ (_ :: _) _ _); (with_reducible apply wpl_bsOnes _ [.int .u8 195, .int .u8 195]); (· rfl); (· rfl); (· rfl); (· decide); (· decide); (· (intro v hv; simp at hv; subst hv; rfl)); (· exact bs_Q); (· rfl); (· exact H); (clear H; intro pk _ H); (simp only [Act.put, List.setIfInBounds_toArray, List.set_cons_zero, List.set_cons_succ]))
    | ((with_reducible show wpList _ _ _ (_ :: _) _ _); (with_reducible apply wpl_appendA slPa); (· rfl); (· rfl); (· rfl); (· rfl); (· exact H.pull (.there .here)); (· exact H.celRd List.mem_cons_self); (· rfl); (· exact mkQ2_one); (· exact h3); (· exact h4); (clear H; intro v2 _ _ H; obtain ⟨a2, c2, rfl, hc2, hm2⟩ := RowT.form0 (H.ok _ List.mem_cons_self)); (simp only [Act.put, List.setIfInBounds_toArray, List.set_cons_zero, List.set_cons_succ]))
    | ((with_reducible show wpList _ _ _ (_ :: _) _ _); (with_reducible apply wpl_cutTo slPa); (· rfl); (· rfl); (· rfl); (· omega); (simp only [Act.put, List.setIfInBounds_toArray, List.set_cons_zero, List.set_cons_succ]))
    | go_skip)
  go_ret
  simp only [Nat.zero_add, List.nil_append] at H hc2
  exact ⟨a2, c2, rfl, hc2, hm2, H.drop (.there .here)⟩
theorem twinParties_H (ea : Option Addr) (n ec : Nat) (P : List Int) (hl : P.length = n) (hn : n ≤ 10000) (R : ∀ l' w', (∀ x ∈ l, x ∈ l') → Heap W l' w' → Rd w' ea (pI P)) (H : Heap W l w) :
    Calls Try.prog 24 #[.slice ea n ec] w fun e w' => ∃ a c, e = .returned (.slice a n c) ∧ n + 2 ≤ c ∧ c ≤ maxLen ∧ Heap W (TwQ a c n P :: l) w' := by
  have C := twin_Q ea n ec P hl hn R H
  clear hl R H
  go_enter Try.func24, Try.ntmps24
  go_wp2_with (go_skip)
  refine C.mono ?_
  clear C
  rintro e w' ⟨a, c, rfl, h1, h2, H⟩
  go_wp2_with (go_skip)
  go_ret
  exact ⟨a, c, rfl, h1, h2, H⟩
theorem left_Q (a ea : Option Addr) (n c ec : Nat) (P : List Int) (hl : P.length = n) (hn : n ≤ 10000) (hc : n + 2 ≤ c) (hm : c ≤ maxLen) (m : TwQ a c n P ∈ l) (R : ∀ l' w', (∀ x ∈ l, x ∈ l') → Heap W l' w' → Rd w' ea (pI P)) :
    AnsH W l 90 #[.slice a n c, .slice ea n ec, .int .u8 195] (.bool true) := by
  intro w H
  obtain ⟨g, c', e, _, _⟩ := RowT.sl (H.ok _ m) (by omega)
  simp only [Value.slice.injEq, true_and] at e
  obtain ⟨rfl, rfl⟩ := e
  have hlen : (pI P).length = n := by rw [pI_len, hl]
  have HT := fun (w' : World) (h : Heap W l w') => h.rowRd m
  have HS := sameQ_P (W := W) (l := l) (A := P) (B := P) (some ⟨g, 0, none⟩) ea n c ec hl hl (by omega) (fun w' h => by have := rd_takeQ (HT w' h) (pI P).length; rwa [List.take_left] at this) (fun w' h => R _ w' (fun y hy => hy) h)
  rw [decide_eq_true rfl] at HS
  have HS := Lib.hid HS
  obtain ⟨q, hq⟩ : ∃ q, c - n = q := ⟨_, rfl⟩
  have hcut : cutA (some ⟨g, 0, none⟩) c n 1 = some ⟨g, n, none⟩ := by
    unfold cutA
    rw [if_neg (by omega)]
    simp [addr_add]
  have HCUT := Lib.hid (And.intro hcut hq)
  have q1 : decide ((q : Int) < 2) = false := by simp; omega
  have hle2 : n ≤ c := by omega
  have hb1 : ∀ w', Heap W l w' → w'.cell? ⟨g, n, none⟩ = some (.int .u8 195) := fun w' h => by
    have h3 := (HT w' h).get (i := n) (by rw [List.length_append, hlen]; simp [mkQ2])
    rw [Nat.zero_add] at h3
    rw [h3, List.getElem_append_right (by omega)]
    simp [hlen]
  have hb2 : ∀ w', Heap W l w' → w'.cell? ⟨g, n + 1, none⟩ = some (.int .u8 195) := fun w' h => by
    have h3 := (HT w' h).get (i := n + 1) (by rw [List.length_append, hlen]; simp [mkQ2])
    rw [Nat.zero_add] at h3
    rw [h3, List.getElem_append_right (by omega)]
    simp [hlen]
  have q2 : 2 ≤ q := by omega
  clear hcut hl R hlen HT
  go_enter Try.func90, Try.ntmps90
  go_wp2_with (first
    | go_skip
    | ((refine (HS.out _ H).mono ?_); clear H; rintro _ _ ⟨rfl, H⟩)
    | ((with_reducible show wpList _ _ _ (_ :: _) _ _); (with_reducible apply wpl_cutBoth slPa); (· rfl); (· rfl); (· rfl); (· rfl); (· exact hle2); (· exact Nat.le_refl _); (· exact HCUT.out.1); (· exact HCUT.out.2); (· exact HCUT.out.2); (simp only [Act.put, List.setIfInBounds_toArray, List.set_cons_zero, List.set_cons_succ]))
    | ((with_reducible show wpList _ _ _ (_ :: _) _ _); (with_reducible apply wpl_loadCell); (· exact cell_party); (· rfl); (· rfl); (· first | exact hb1 _ H | exact hb2 _ H); (simp only [Act.put, List.setIfInBounds_toArray, List.set_cons_zero, List.set_cons_succ])))
  go_ret
  exact ⟨rfl, H⟩
theorem leftParties_H (a ea : Option Addr) (n c ec : Nat) (P : List Int) (hl : P.length = n) (hn : n ≤ 10000) (hc : n + 2 ≤ c) (hm : c ≤ maxLen) (m : TwQ a c n P ∈ l) (R : ∀ l' w', (∀ x ∈ l, x ∈ l') → Heap W l' w' → Rd w' ea (pI P)) :
    AnsH W l 28 #[.slice a n c, .slice ea n ec] (.bool true) := by
  intro w H
  have C := left_Q a ea n c ec P hl hn hc hm m R
  clear hl hm m R
  go_enter Try.func28, Try.ntmps28
  go_wp2_with (first | go_skip | ((refine (C _ H).mono ?_); clear H; rintro _ _ ⟨rfl, H⟩))
  go_ret
  exact ⟨rfl, H⟩
end
end Go.Proofs.Ytacglcpjbepfnaa

/- Twins of lines, and whether they were left. -/
namespace Go.Proofs.Ytacglcpjbepfnaa
open Go.RowKit
set_option linter.unusedSimpArgs false
set_option linter.unusedVariables false
abbrev mkL : Array Value := line 0 0 0 (-77) 0
abbrev mkL2 : List Value := [.int .u8 0, .int .u8 0, .int .u8 0, .int .i64 (-77), .int .i64 0, .int .u8 0, .int .u8 0, .int .u8 0, .int .i64 (-77), .int .i64 0]
theorem rd_takeL {w : World} {a : Option Addr} {xs : List Value} (h : Rd w a xs) (n : Nat) : Rd w a (xs.take n) := fun i hi => by
  have hi2 : i < xs.length := by rw [List.length_take] at hi; omega
  obtain ⟨b, o, e, hc⟩ := h i hi2
  exact ⟨b, o, e, by rw [hc, List.getElem_take]⟩
theorem mkL2_one : OneCells mkL2 := by
  intro u hu
  simp only [mkL2, List.mem_cons, List.not_mem_nil, or_false] at hu
  rcases hu with rfl | rfl | rfl | rfl | rfl | rfl | rfl | rfl | rfl | rfl <;> rfl
/-- A twin: the list, and two marks behind it. -/
abbrev TwL (a : Option Addr) (c n : Nat) (F : List Lin) : Thing := RowT 39 5 (.slice a (n + 2) c) (n + 2) (linL F ++ mkL2)
theorem madeRowL {W w : World} {l : List Thing} {g m : Nat} {z : Value} {e size : Nat} (H : Heap W (Cel g (madeCells z.cells (m * size)) e :: l) w) (hm : m ≤ maxLen) : Heap W (RowT e size (.slice (some ⟨g, 0, none⟩) 0 m) 0 [] :: l) w := by
  have := H.celRowA (n := 0) (m := m) (size := size) (by rw [size_madeCells]) (Nat.zero_le _) hm
  simpa using this
section
variable {ops : Array Oper} {rest : List Oper} {a : Act} {w W : World} {l : List Thing} {Q : Exit → Act → World → Prop}
theorem run_bs2L (w : World) : (Instr.buildSlice 35 2 #[(0, .agg mkL), (1, .agg mkL)]).run Try.prog w = .ok (.slice (some ⟨w.heap.size, 0, none⟩) 2 2) (w.alloc (.cells mkL2.toArray 39)) := by
  obtain ⟨i, hi, hz, hsi, hbi⟩ := slLin.inf
  have r1 : (sizeOf 39).run Try.prog w = .ok 5 w := by simp [sizeOf, typeInfo, hi, hsi, go_sem]
  have r2 : (zeroValue 39).run Try.prog w = .ok (.agg (line 0 0 0 0 0)) w := by simp [zeroValue, typeInfo, hi, hz, go_sem]
  unfold Instr.buildSlice
  rw [Sem.run_bind, run_underlying slLin.und]
  simp only [Result.andThen_ok]
  rw [Sem.run_bind, r1]
  simp only [Result.andThen_ok]
  rw [if_neg (by decide), if_neg (by decide)]
  have hf : Instr.fill (fun i => some (i * 5, 5)) (Array.map (fun x => (Value.agg (line 0 0 0 0 0)).cells[x % (Value.agg (line 0 0 0 0 0)).cells.size]!) (Array.range (2 * 5))) [(0, Value.agg mkL), (1, Value.agg mkL)] = some mkL2.toArray := by kernel_rfl
  simp only [Sem.run_bind, r2, Result.andThen_ok, Sem.run_pure]
  rw [hf]
  simp [newRow, go_sem]
theorem wpl_bs2L {dst : Option Tmp} {ty : TypeId} {pos : String} {after : Array Edge} {guard : Option (Nat × Bool)} {x y : Operand} (hw : Region.wanted ⟨dst, .buildSlice 35 2 #[(0, x), (1, y)], ty, pos, after, guard⟩ (yielded ops a.tmps) = true)
    (hx : a.eval x = .agg mkL) (hy : a.eval y = .agg mkL) (H : Heap W l w) (h : ∀ p w', Heap W (Cel p mkL2.toArray 39 :: l) w' → wpList Try.prog ops Q rest (a.put dst (.slice (some ⟨p, 0, none⟩) 2 2)) w') : wpList Try.prog ops Q (⟨dst, .buildSlice 35 2 #[(0, x), (1, y)], ty, pos, after, guard⟩ :: rest) a w := by
  refine BigFrame.wpList_want hw fun K hK => ?_
  unfold Oper.wp execOp
  simp only [List.map_toArray, List.map_cons, List.map_nil, hx, hy, Sem.run_bind, run_bs2L, Result.andThen_ok, Sem.run_pure]
  exact hK _ _ (h _ _ (H.alloc _ _))
theorem eqlL_run (a b c d e x y z u v : Int) (w : World) : (binOp .eql 39 (.agg (line a b c d e)) (.agg (line x y z u v))).run Try.prog w = .ok (.bool (lineSame a b c d e x y z u v)) w := by
  have h : (Op.equal 39 (.agg (line a b c d e)) (.agg (line x y z u v))).run Try.prog w = .ok (lineSame a b c d e x y z u v) w := eqL_run 9998 a b c d e x y z u v w
  simp only [binOp]
  simp [Sem.run_bind, h]
theorem wpQ_eqlL {dst : Option Tmp} {ty : TypeId} {pos : String} {after : Array Edge} {guard : Option (Nat × Bool)} {p q : Operand} {a0 b0 c0 d0 e0 x y z u v : Int} {K : Act → Prop} {H : Heap W l w} (hw : Region.wanted ⟨dst, .binOp .eql 39 p q 39, ty, pos, after, guard⟩ (yielded ops a.tmps) = true) (hp : a.eval p = .agg (line a0 b0 c0 d0 e0)) (hq : a.eval q = .agg (line x y z u v)) {r : Bool} (hr : lineSame a0 b0 c0 d0 e0 x y z u v = r)
    (h : wpQuiet Try.prog ops (fun w' => ∃ d, w' = H.any d) K rest (a.put dst (.bool r))) : wpQuiet Try.prog ops (fun w' => ∃ d, w' = H.any d) K (⟨dst, .binOp .eql 39 p q 39, ty, pos, after, guard⟩ :: rest) a := by
  subst hr
  have hg : (Try.prog.eqGuardType Try.prog.depth 39) = false := by kernel_rfl
  refine BigFrame.wpQuiet_want hw fun K hK => ⟨_, ?_, hK _ h⟩
  rintro _ ⟨d, rfl⟩
  unfold Oper.quietAt execOp
  simp only [hp, hq, Sem.run_bind, eqlL_run]
  simp [eqGuard, hg, eqlL_run]
  exact ⟨rfl, rfl⟩
end
section
variable {W w : World} {l : List Thing}
set_option maxRecDepth 100000
set_option maxHeartbeats 4000000
theorem twin_L (ea : Option Addr) (n ec : Nat) (F : List Lin) (hl : F.length = n) (hn : n ≤ 10000) (R : ∀ l' w', (∀ x ∈ l, x ∈ l') → Heap W l' w' → Rd w' ea (linL F)) (H : Heap W l w) :
    Calls Try.prog 84 #[.slice ea n ec, .agg mkL] w fun e w' => ∃ a c, e = .returned (.slice a n c) ∧ n + 2 ≤ c ∧ c ≤ maxLen ∧ Heap W (TwL a c n F :: l) w' := by
  have HR := Lib.hid R
  have hlen : (linL F).length = n * 5 := by rw [linL_len, hl]
  have h1 : 0 + n ≤ maxLen := by unfold maxLen; omega
  have h2 : (0 + n) * 24 ≤ 140737488355328 := by omega
  have h3 : 0 + n + 2 ≤ maxLen := by unfold maxLen; omega
  have h4 : (0 + n + 2) * 24 ≤ 140737488355328 := by omega
  have h5 : n + 2 ≤ maxLen := by unfold maxLen; omega
  have h6 : n + 2 ≤ 65536 := by omega
  have h7 : 24 * (n + 2) ≤ 281474976710656 := by omega
  clear R hl
  go_enter Try.func84, Try.ntmps84
  go_wp2_with (first
    | go_skip
    | ((with_reducible show wpList _ _ _ (_ :: _) _ _); (with_reducible apply wpl_boxRH); (· rfl); (· rfl); (· exact H); (clear H; intro px _ H); (simp only [Act.put, List.setIfInBounds_toArray, List.set_cons_zero, List.set_cons_succ]))
    | ((with_reducible show wpList _ _ _ (_ :: _) _ _); (with_reducible apply wpl_makeC slLin (n := 0) (m := n + 2)); (· rfl); (· rfl); (· rfl); (· rfl); (· omega); (· omega); (· omega); (· exact H); (clear H; intro pm _ H); (simp only [Act.put, List.setIfInBounds_toArray, List.set_cons_zero, List.set_cons_succ]))
    | ((with_reducible show wpList _ _ _ (_ :: _) _ _); (with_reducible apply wpl_appendA slLin); (· rfl); (· rfl); (· rfl); (· rfl); (· exact madeRowL H h5); (· exact HR.out _ _ (fun x hx => List.mem_cons_of_mem _ (List.mem_cons_of_mem _ hx)) H); (· exact hlen); (· exact linL_ones F); (· exact h1); (· exact h2); (clear H; intro v1 _ _ H); (simp only [Act.put, List.setIfInBounds_toArray, List.set_cons_zero, List.set_cons_succ]))
    | ((with_reducible show wpList _ _ _ (_ :: _) _ _); (with_reducible apply wpl_loadRH row_line); (· rfl); (· rfl); (· exact H); (· (repeat (first | (with_reducible exact List.mem_cons_self) | with_reducible apply List.mem_cons_of_mem))); (· (simp only [line_sz, Nat.reduceAdd, Nat.reduceLeDiff, Nat.le_refl]; done)); (· with_reducible exact line_all ..); (simp only [Act.put, List.setIfInBounds_toArray, List.set_cons_zero, List.set_cons_succ]))
    | ((with_reducible show wpList _ _ _ (_ :: _) _ _); (with_reducible apply wpl_bs2L); (· rfl); (· rfl); (· rfl); (· exact H); (clear H; intro pk _ H); (simp only [Act.put, List.setIfInBounds_toArray, List.set_cons_zero, List.set_cons_succ]))
    | ((with_reducible show wpList _ _ _ (_ :: _) _ _); (with_reducible apply wpl_appendA slLin); (· rfl); (· rfl); (· rfl); (· rfl); (· exact H.pull (.there .here)); (· exact H.celRd List.mem_cons_self); (· rfl); (· exact mkL2_one); (· exact h3); (· exact h4); (clear H; intro v2 _ _ H; obtain ⟨a2, c2, rfl, hc2, hm2⟩ := RowT.form0 (H.ok _ List.mem_cons_self)); (simp only [Act.put, List.setIfInBounds_toArray, List.set_cons_zero, List.set_cons_succ]))
    | ((with_reducible show wpList _ _ _ (_ :: _) _ _); (with_reducible apply wpl_cutTo slLin); (· rfl); (· rfl); (· rfl); (· omega); (simp only [Act.put, List.setIfInBounds_toArray, List.set_cons_zero, List.set_cons_succ])))
  go_ret
  simp only [Nat.zero_add, List.nil_append] at H hc2
  exact ⟨a2, c2, rfl, hc2, hm2, (H.drop (.there .here)).drop (.there .here)⟩
theorem twinLines_H (ea : Option Addr) (n ec : Nat) (F : List Lin) (hl : F.length = n) (hn : n ≤ 10000) (R : ∀ l' w', (∀ x ∈ l, x ∈ l') → Heap W l' w' → Rd w' ea (linL F)) (H : Heap W l w) :
    Calls Try.prog 25 #[.slice ea n ec] w fun e w' => ∃ a c, e = .returned (.slice a n c) ∧ n + 2 ≤ c ∧ c ≤ maxLen ∧ Heap W (TwL a c n F :: l) w' := by
  have C := twin_L ea n ec F hl hn R H
  clear hl R H
  go_enter Try.func25, Try.ntmps25
  go_wp2_with (go_skip)
  refine C.mono ?_
  clear C
  rintro e w' ⟨a, c, rfl, h1, h2, H⟩
  go_wp2_with (go_skip)
  go_ret
  exact ⟨a, c, rfl, h1, h2, H⟩
theorem left_L (a ea : Option Addr) (n c ec : Nat) (F : List Lin) (hl : F.length = n) (hn : n ≤ 10000) (hc : n + 2 ≤ c) (hm : c ≤ maxLen) (m : TwL a c n F ∈ l) (R : ∀ l' w', (∀ x ∈ l, x ∈ l') → Heap W l' w' → Rd w' ea (linL F)) :
    AnsH W l 91 #[.slice a n c, .slice ea n ec, .agg mkL] (.bool true) := by
  intro w H
  obtain ⟨g, c', e, _, _⟩ := RowT.sl (H.ok _ m) (by omega)
  simp only [Value.slice.injEq, true_and] at e
  obtain ⟨rfl, rfl⟩ := e
  have hlen : (linL F).length = n * 5 := by rw [linL_len, hl]
  have HT := Lib.hid (show ∀ l' w', TwL (some ⟨g, 0, none⟩) c n F ∈ l' → Heap W l' w' → Rd w' (some ⟨g, 0, none⟩) (linL F ++ mkL2) from fun l' w' m h => h.rowRd m)
  have HTF := fun l' w' m h => by
    have := rd_takeL (HT.out l' w' m h) (linL F).length
    rwa [List.take_left] at this
  have HS := fun (x : Thing) => sameL_P (W := W) (l := x :: l) (A := F) (B := F) (some ⟨g, 0, none⟩) ea n c ec hl hl (by omega) (fun w' h => HTF _ w' (List.mem_cons_of_mem _ m) h) (fun w' h => R _ w' (fun y hy => List.mem_cons_of_mem _ hy) h)
  rw [decide_eq_true rfl] at HS
  have HS := Lib.hid HS
  obtain ⟨q, hq⟩ : ∃ q, c - n = q := ⟨_, rfl⟩
  have hcut : cutA (some ⟨g, 0, none⟩) c n 5 = some ⟨g, n * 5, none⟩ := by
    unfold cutA
    rw [if_neg (by omega)]
    simp [addr_add]
  have HCUT := Lib.hid (And.intro hcut hq)
  have q1 : decide ((q : Int) < 2) = false := by simp; omega
  have hle2 : n ≤ c := by omega
  have hb1 : n * 5 + 5 ≤ (linL F ++ mkL2).length := by rw [List.length_append, hlen]; simp [mkL2]
  have hb2 : n * 5 + 5 + 5 ≤ (linL F ++ mkL2).length := by rw [List.length_append, hlen]; simp [mkL2]
  have hv1 : (((linL F ++ mkL2).drop (n * 5)).take 5).toArray = mkL := by rw [← hlen, List.drop_left]; rfl
  have hv2 : (((linL F ++ mkL2).drop (n * 5 + 5)).take 5).toArray = mkL := by
    rw [← hlen, ← List.drop_drop, List.drop_left]; rfl
  have hff : lineSame 0 0 0 (-77) 0 0 0 0 (-77) 0 = true := by decide
  clear hcut HTF hl R hlen
  go_enter Try.func91, Try.ntmps91
  go_wp2_with (first
    | go_skip
    | ((with_reducible show wpList _ _ _ (_ :: _) _ _); (with_reducible apply wpl_boxRH); (· rfl); (· rfl); (· exact H); (clear H; intro px _ H); (simp only [Act.put, List.setIfInBounds_toArray, List.set_cons_zero, List.set_cons_succ]))
    | ((refine (HS.out _ _ H).mono ?_); clear H; rintro _ _ ⟨rfl, H⟩)
    | ((with_reducible show wpList _ _ _ (_ :: _) _ _); (with_reducible apply wpl_cutBoth slLin); (· rfl); (· rfl); (· rfl); (· rfl); (· exact hle2); (· exact Nat.le_refl _); (· exact HCUT.out.1); (· exact HCUT.out.2); (· exact HCUT.out.2); (simp only [Act.put, List.setIfInBounds_toArray, List.set_cons_zero, List.set_cons_succ])))
  have hq2 : 2 ≤ q := by have := HCUT.out.2; omega
  have HT1 := Lib.hid (show ∀ w', Heap W (Cel px mkL 39 :: l) w' → Rd w' (some ⟨g, 0, none⟩) (linL F ++ mkL2) from fun w' h => HT.out _ w' (List.mem_cons_of_mem _ m) h)
  refine wp_region_H H (by kernel_rfl) (by kernel_rfl) ?_
  repeat (first | go_big_quiet_skip | (first | ((with_reducible apply wpQ_loadRdR0 row_line); (· rfl); (· rfl); (· exact HT1.out); (· exact hb1); (· decide); (· exact hv1); (simp only [Act.put, List.setIfInBounds_toArray, List.set_cons_zero, List.set_cons_succ])) | ((with_reducible apply wpQ_loadRdR0 row_line); (· rfl); (· rfl); (· exact HT1.out); (· exact hb2); (· decide); (· exact hv2); (simp only [Act.put, List.setIfInBounds_toArray, List.set_cons_zero, List.set_cons_succ])) | ((with_reducible apply wpQ_loadRH row_line); (· rfl); (· rfl); (· (repeat (first | (with_reducible exact List.mem_cons_self) | with_reducible apply List.mem_cons_of_mem))); (· (simp only [line_sz, Nat.reduceAdd, Nat.reduceLeDiff, Nat.le_refl]; done)); (· with_reducible exact line_all ..); (simp only [Act.put, List.setIfInBounds_toArray, List.set_cons_zero, List.set_cons_succ])) | ((with_reducible apply wpQ_eqlL); (· rfl); (· rfl); (· rfl); (· exact hff); (simp only [Act.put, List.setIfInBounds_toArray, List.set_cons_zero, List.set_cons_succ]))) | go_big_quiet_step (fail))
  refine wpQuiet_nil ?_
  clear H
  intro _ H
  go_wp2_with (go_skip)
  go_ret
  exact ⟨rfl, H.tail⟩
theorem leftLines_H (a ea : Option Addr) (n c ec : Nat) (F : List Lin) (hl : F.length = n) (hn : n ≤ 10000) (hc : n + 2 ≤ c) (hm : c ≤ maxLen) (m : TwL a c n F ∈ l) (R : ∀ l' w', (∀ x ∈ l, x ∈ l') → Heap W l' w' → Rd w' ea (linL F)) :
    AnsH W l 29 #[.slice a n c, .slice ea n ec] (.bool true) := by
  intro w H
  have C := left_L a ea n c ec F hl hn hc hm m R
  clear hl hm m R
  go_enter Try.func29, Try.ntmps29
  go_wp2_with (first | go_skip | ((refine (C _ H).mono ?_); clear H; rintro _ _ ⟨rfl, H⟩))
  go_ret
  exact ⟨rfl, H⟩
end
end Go.Proofs.Ytacglcpjbepfnaa
