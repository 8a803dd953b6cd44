/- ledgers.Ledger: Position, Total. -/
import Derived.Test.YtacglcpjbepfnaaLed8
namespace Go.Proofs.Ytacglcpjbepfnaa
open Go.RowKit
set_option linter.unusedSimpArgs false
set_option linter.unusedVariables false
theorem linL_get (L : List Lin) (k : Nat) (h : k < L.length) : (((linL L).drop (k * 5)).take 5).toArray = line L[k].cr L[k].db L[k].cu L[k].lim L[k].deb := linL_row L k h
theorem take_snoc {α : Type} (L : List α) (k : Nat) (h : k < L.length) : L.take (k + 1) = L.take k ++ [L[k]] := by simp
theorem Heap.untop2 {W w : World} {l r s : List Thing} {x y : Thing} (H : Heap W (x :: y :: s) w) (h1 : Pull l x r) (h2 : Pull r y s) : Heap W l w := H.perm ((h1.perm.trans (h2.perm.cons _)).symm)
structure SumR (W : World) (l : List Thing) (n : Nat) (f : Nat → Int) (v i : Value) (wr : World) : Prop where
  out : ∃ k : Nat, k ≤ n ∧ i = .int .i64 (k : Int) ∧ v = .int .i64 (f k) ∧ Heap W l wr
section
variable {W w : World} {l r s : List Thing} {p q : Nat} {S : Lgr}
set_option maxRecDepth 100000
set_option maxHeartbeats 2000000
theorem lpos_H (a c : Nat) (G : S.Good) (h1 : Pull l (LdC p S.P (some q)) r) (h2 : Pull r (LdM q S.L) s) : AnsH W l 22 #[.pointer (some ⟨p, 0, none⟩), .int .u8 (a : Int), .int .u8 (c : Int)] (.int .i64 (posL S.L a c)) := by
  intro w H
  have H := H.top2 h1 h2
  have HU := Lib.hid (And.intro h1 h2)
  have HG := Lib.hid G
  have HF := Lib.hid G.few
  clear G h1 h2
  go_enter Try.func22, Try.ntmps22
  go_wp2_with (go_skip)
  refine (llines_H HG.out H).mono ?_
  clear H
  rintro e w1 ⟨g, cc, rfl, hn, hm, H⟩
  clear hn hm
  generalize hL : S.L = L at *
  generalize hn : L.length = n at *
  have HN := Lib.hid hn
  have HLL := Lib.hid hL
  clear hn hL
  have H0 := H
  clear H
  go_wp2_with (go_skip)
  go_loopw [6, 12] (fun v i wr => SumR W (Sl g 39 5 n cc (linL L) :: LdC p S.P (some q) :: LdM q L :: s) n (fun k => posL (L.take k) a c) v i wr) (fun _ i _ => n - (intOf i).toNat)
  case atStart => exact ⟨0, Nat.zero_le _, rfl, rfl, H0⟩
  case round =>
    obtain ⟨k, hk, rfl, rfl, H⟩ := hrel.out
    clear H0 hrel
    by_cases hlt : k < n
    · have hkL : k < L.length := by rw [HN.out]; exact hlt
      have hlen : k * 5 + 5 ≤ (linL L).length := by rw [linL_len]; omega
      have hrow := linL_get L k hkL
      have htk := take_snoc L k hkL
      have hmem : L[k] ∈ S.L := by rw [HLL.out]; exact List.getElem_mem hkL
      have hdeb := HG.out.debs _ hmem
      have hok := HG.out.ok _ hmem
      have hbnd := posL_bound (L := L.take k) (fun x hx => HG.out.debs x (by rw [HLL.out]; exact List.mem_of_mem_take hx)) (a : Int) (c : Int)
      have hfew := HF.out
      have hlk : (L.take k).length = k := by simp; omega
      rw [hlk] at hbnd
      have hk64 : k ≤ 64 := by omega
      have HR := Lib.hid (H.slRd List.mem_cons_self)
      generalize L[k] = x at *
      obtain ⟨xr, xd, xu, xl, xe⟩ := x
      have hne := hok.ne
      simp only at hrow hdeb hne
      have hsn : posL (L.take (k + 1)) a c = posL (L.take k) a c + posX ⟨xr, xd, xu, xl, xe⟩ a c := by rw [htk, posL_snoc]
      have HSN := Lib.hid hsn
      generalize posL (L.take k) a c = s0 at *
      have hw1 : wrap64 (s0 + xe) = s0 + xe := IntWalk.wrap64_in _ ⟨by omega, by omega⟩
      have hw2 : wrap64 (s0 - xe) = s0 - xe := IntWalk.wrap64_in _ ⟨by omega, by omega⟩
      clear hsn htk hmem hok hbnd hfew hlk hdeb
      by_cases e1 : xu = c
      · by_cases e2 : xr = a
        · have b1 : (xu != (c : Int)) = false := by simpa using e1
          have b2 : (xr == (a : Int)) = true := by simpa using e2
          have HE := Lib.hid (show posL (L.take (k + 1)) a c = s0 + xe by rw [HSN.out]; unfold posX; simp only; rw [if_pos ⟨e1, e2⟩, if_neg (fun h => hne (e2.trans h.2.symm))]; omega)
          clear e1 e2 hne
          go_wp2_with (first
            | go_skip
            | ((with_reducible show wpList _ _ _ (_ :: _) _ _); (with_reducible apply wpl_loadRdR row_line); (· rfl); (· rfl); (· exact HR.out); (· exact (Nat.zero_add _).symm); (· exact hlen); (· decide); (· exact hrow); (simp only [Act.put, List.setIfInBounds_toArray, List.set_cons_zero, List.set_cons_succ]))
            | ((with_reducible show wpList _ _ _ (_ :: _) _ _); (with_reducible apply wpl_allocRH row_line); (· rfl); (· exact H); (clear H; intro px _ H); (simp only [Act.put, List.setIfInBounds_toArray, List.set_cons_zero, List.set_cons_succ]))
            | ((with_reducible show wpList _ _ _ (_ :: _) _ _); (with_reducible apply wpl_storeRH row_line); (· rfl); (· rfl); (· rfl); (· with_reducible exact line_cells ..); (· exact H); (· (repeat (first | (with_reducible exact List.mem_cons_self) | with_reducible apply List.mem_cons_of_mem))); (· (simp only [line_sz, Nat.reduceAdd, Nat.reduceLeDiff, Nat.le_refl]; done)); (· with_reducible exact line_splice ..); (· (repeat (first | (with_reducible exact Repl.here) | with_reducible apply Repl.there))); (clear H; intro _ H); (simp only [Act.put, List.setIfInBounds_toArray, List.set_cons_zero, List.set_cons_succ]))
            | ((with_reducible show wpList _ _ _ (_ :: _) _ _); (with_reducible apply wpl_loadCH); (· first | exact cell_party | exact cell_cur | exact cell_i64); (· rfl); (· rfl); (· exact H); (· (repeat (first | (with_reducible exact List.mem_cons_self) | with_reducible apply List.mem_cons_of_mem))); (· with_reducible first | exact line_g0 .. | exact line_g1 .. | exact line_g2 .. | exact line_g4 ..); (simp only [Act.put, List.setIfInBounds_toArray, List.set_cons_zero, List.set_cons_succ])))
          refine ⟨⟨k + 1, by omega, by go_num, by rw [HE.out]; first | rw [hw1] | rfl, H.tail⟩, ?measure⟩
          case measure => simp [intOf]; omega
        · by_cases e3 : xd = a
          · have b1 : (xu != (c : Int)) = false := by simpa using e1
            have b2 : (xr == (a : Int)) = false := by simpa using e2
            have b3 : (xd == (a : Int)) = true := by simpa using e3
            have HE := Lib.hid (show posL (L.take (k + 1)) a c = s0 - xe by rw [HSN.out]; unfold posX; simp only; rw [if_neg (fun h => e2 h.2), if_pos ⟨e1, e3⟩]; omega)
            clear e1 e2 e3 hne
            go_wp2_with (first
              | go_skip
              | ((with_reducible show wpList _ _ _ (_ :: _) _ _); (with_reducible apply wpl_loadRdR row_line); (· rfl); (· rfl); (· exact HR.out); (· exact (Nat.zero_add _).symm); (· exact hlen); (· decide); (· exact hrow); (simp only [Act.put, List.setIfInBounds_toArray, List.set_cons_zero, List.set_cons_succ]))
              | ((with_reducible show wpList _ _ _ (_ :: _) _ _); (with_reducible apply wpl_allocRH row_line); (· rfl); (· exact H); (clear H; intro px _ H); (simp only [Act.put, List.setIfInBounds_toArray, List.set_cons_zero, List.set_cons_succ]))
              | ((with_reducible show wpList _ _ _ (_ :: _) _ _); (with_reducible apply wpl_storeRH row_line); (· rfl); (· rfl); (· rfl); (· with_reducible exact line_cells ..); (· exact H); (· (repeat (first | (with_reducible exact List.mem_cons_self) | with_reducible apply List.mem_cons_of_mem))); (· (simp only [line_sz, Nat.reduceAdd, Nat.reduceLeDiff, Nat.le_refl]; done)); (· with_reducible exact line_splice ..); (· (repeat (first | (with_reducible exact Repl.here) | with_reducible apply Repl.there))); (clear H; intro _ H); (simp only [Act.put, List.setIfInBounds_toArray, List.set_cons_zero, List.set_cons_succ]))
              | ((with_reducible show wpList _ _ _ (_ :: _) _ _); (with_reducible apply wpl_loadCH); (· first | exact cell_party | exact cell_cur | exact cell_i64); (· rfl); (· rfl); (· exact H); (· (repeat (first | (with_reducible exact List.mem_cons_self) | with_reducible apply List.mem_cons_of_mem))); (· with_reducible first | exact line_g0 .. | exact line_g1 .. | exact line_g2 .. | exact line_g4 ..); (simp only [Act.put, List.setIfInBounds_toArray, List.set_cons_zero, List.set_cons_succ])))
            refine ⟨⟨k + 1, by omega, by go_num, by rw [HE.out]; first | rw [hw2] | rfl, H.tail⟩, ?measure2⟩
            case measure2 => simp [intOf]; omega
          · have b1 : (xu != (c : Int)) = false := by simpa using e1
            have b2 : (xr == (a : Int)) = false := by simpa using e2
            have b3 : (xd == (a : Int)) = false := by simpa using e3
            have HE := Lib.hid (show posL (L.take (k + 1)) a c = s0 by rw [HSN.out]; unfold posX; simp only; rw [if_neg (fun h => e2 h.2), if_neg (fun h => e3 h.2)]; omega)
            clear e1 e2 e3 hne
            go_wp2_with (first
              | go_skip
              | ((with_reducible show wpList _ _ _ (_ :: _) _ _); (with_reducible apply wpl_loadRdR row_line); (· rfl); (· rfl); (· exact HR.out); (· exact (Nat.zero_add _).symm); (· exact hlen); (· decide); (· exact hrow); (simp only [Act.put, List.setIfInBounds_toArray, List.set_cons_zero, List.set_cons_succ]))
              | ((with_reducible show wpList _ _ _ (_ :: _) _ _); (with_reducible apply wpl_allocRH row_line); (· rfl); (· exact H); (clear H; intro px _ H); (simp only [Act.put, List.setIfInBounds_toArray, List.set_cons_zero, List.set_cons_succ]))
              | ((with_reducible show wpList _ _ _ (_ :: _) _ _); (with_reducible apply wpl_storeRH row_line); (· rfl); (· rfl); (· rfl); (· with_reducible exact line_cells ..); (· exact H); (· (repeat (first | (with_reducible exact List.mem_cons_self) | with_reducible apply List.mem_cons_of_mem))); (· (simp only [line_sz, Nat.reduceAdd, Nat.reduceLeDiff, Nat.le_refl]; done)); (· with_reducible exact line_splice ..); (· (repeat (first | (with_reducible exact Repl.here) | with_reducible apply Repl.there))); (clear H; intro _ H); (simp only [Act.put, List.setIfInBounds_toArray, List.set_cons_zero, List.set_cons_succ]))
              | ((with_reducible show wpList _ _ _ (_ :: _) _ _); (with_reducible apply wpl_loadCH); (· first | exact cell_party | exact cell_cur | exact cell_i64); (· rfl); (· rfl); (· exact H); (· (repeat (first | (with_reducible exact List.mem_cons_self) | with_reducible apply List.mem_cons_of_mem))); (· with_reducible first | exact line_g0 .. | exact line_g1 .. | exact line_g2 .. | exact line_g4 ..); (simp only [Act.put, List.setIfInBounds_toArray, List.set_cons_zero, List.set_cons_succ])))
            refine ⟨⟨k + 1, by omega, by go_num, by rw [HE.out], H.tail⟩, ?measure3⟩
            case measure3 => simp [intOf]; omega
      · have b1 : (xu != (c : Int)) = true := by simpa using e1
        have HE := Lib.hid (show posL (L.take (k + 1)) a c = s0 by rw [HSN.out]; unfold posX; simp only; rw [if_neg (fun h => e1 h.1), if_neg (fun h => e1 h.1)]; omega)
        clear e1 hne
        go_wp2_with (first
          | go_skip
          | ((with_reducible show wpList _ _ _ (_ :: _) _ _); (with_reducible apply wpl_loadRdR row_line); (· rfl); (· rfl); (· exact HR.out); (· exact (Nat.zero_add _).symm); (· exact hlen); (· decide); (· exact hrow); (simp only [Act.put, List.setIfInBounds_toArray, List.set_cons_zero, List.set_cons_succ]))
          | ((with_reducible show wpList _ _ _ (_ :: _) _ _); (with_reducible apply wpl_allocRH row_line); (· rfl); (· exact H); (clear H; intro px _ H); (simp only [Act.put, List.setIfInBounds_toArray, List.set_cons_zero, List.set_cons_succ]))
          | ((with_reducible show wpList _ _ _ (_ :: _) _ _); (with_reducible apply wpl_storeRH row_line); (· rfl); (· rfl); (· rfl); (· with_reducible exact line_cells ..); (· exact H); (· (repeat (first | (with_reducible exact List.mem_cons_self) | with_reducible apply List.mem_cons_of_mem))); (· (simp only [line_sz, Nat.reduceAdd, Nat.reduceLeDiff, Nat.le_refl]; done)); (· with_reducible exact line_splice ..); (· (repeat (first | (with_reducible exact Repl.here) | with_reducible apply Repl.there))); (clear H; intro _ H); (simp only [Act.put, List.setIfInBounds_toArray, List.set_cons_zero, List.set_cons_succ]))
          | ((with_reducible show wpList _ _ _ (_ :: _) _ _); (with_reducible apply wpl_loadCH); (· first | exact cell_party | exact cell_cur | exact cell_i64); (· rfl); (· rfl); (· exact H); (· (repeat (first | (with_reducible exact List.mem_cons_self) | with_reducible apply List.mem_cons_of_mem))); (· with_reducible first | exact line_g0 .. | exact line_g1 .. | exact line_g2 .. | exact line_g4 ..); (simp only [Act.put, List.setIfInBounds_toArray, List.set_cons_zero, List.set_cons_succ])))
        refine ⟨⟨k + 1, by omega, by go_num, by rw [HE.out], H.tail⟩, ?measure4⟩
        case measure4 => simp [intOf]; omega
    · obtain rfl : k = n := by omega
      have HE := Lib.hid (show posL (L.take k) a c = posL L a c by rw [List.take_of_length_le (by rw [HN.out]; exact Nat.le_refl _)])
      go_wp2_with (go_skip)
      go_ret
      exact ⟨by rw [HLL.out, ← HE.out]; rfl, H.tail.untop2 HU.out.1 HU.out.2⟩
theorem ltot_H (c : Nat) (G : S.Good) (h1 : Pull l (LdC p S.P (some q)) r) (h2 : Pull r (LdM q S.L) s) : AnsH W l 38 #[.pointer (some ⟨p, 0, none⟩), .int .u8 (c : Int)] (.int .i64 (totL S.L c)) := by
  intro w H
  have H := H.top2 h1 h2
  have HU := Lib.hid (And.intro h1 h2)
  have HG := Lib.hid G
  have HF := Lib.hid G.few
  clear G h1 h2
  go_enter Try.func38, Try.ntmps38
  go_wp2_with (go_skip)
  refine (llines_H HG.out H).mono ?_
  clear H
  rintro e w1 ⟨g, cc, rfl, hn, hm, H⟩
  clear hn hm
  generalize hL : S.L = L at *
  generalize hn : L.length = n at *
  have HN := Lib.hid hn
  have HLL := Lib.hid hL
  clear hn hL
  have H0 := H
  clear H
  go_wp2_with (go_skip)
  go_loopw [4, 10] (fun v i wr => SumR W (Sl g 39 5 n cc (linL L) :: LdC p S.P (some q) :: LdM q L :: s) n (fun k => totL (L.take k) c) v i wr) (fun _ i _ => n - (intOf i).toNat)
  case atStart => exact ⟨0, Nat.zero_le _, rfl, rfl, H0⟩
  case round =>
    obtain ⟨k, hk, rfl, rfl, H⟩ := hrel.out
    clear H0 hrel
    by_cases hlt : k < n
    · have hkL : k < L.length := by rw [HN.out]; exact hlt
      have hlen : k * 5 + 5 ≤ (linL L).length := by rw [linL_len]; omega
      have hrow := linL_get L k hkL
      have htk := take_snoc L k hkL
      have hmem : L[k] ∈ S.L := by rw [HLL.out]; exact List.getElem_mem hkL
      have hdeb := HG.out.debs _ hmem
      have hbnd := totL_bound (L := L.take k) (fun x hx => HG.out.debs x (by rw [HLL.out]; exact List.mem_of_mem_take hx)) (c : Int)
      have hfew := HF.out
      have hlk : (L.take k).length = k := by simp; omega
      rw [hlk] at hbnd
      have hk64 : k ≤ 64 := by omega
      have HR := Lib.hid (H.slRd List.mem_cons_self)
      generalize L[k] = x at *
      obtain ⟨xr, xd, xu, xl, xe⟩ := x
      simp only at hrow hdeb
      have hsn : totL (L.take (k + 1)) c = totL (L.take k) c + (if xu = c then xe else 0) := by rw [htk, totL_snoc]
      have HSN := Lib.hid hsn
      generalize totL (L.take k) c = s0 at *
      have hw1 : wrap64 (s0 + xe) = s0 + xe := IntWalk.wrap64_in _ ⟨by omega, by omega⟩
      clear hsn htk hmem hbnd hfew hlk hdeb
      by_cases e1 : xu = c
      · have b1 : (xu == (c : Int)) = true := by simpa using e1
        have HE := Lib.hid (show totL (L.take (k + 1)) c = s0 + xe by rw [HSN.out, if_pos e1])
        clear e1
        go_wp2_with (first
          | go_skip
          | ((with_reducible show wpList _ _ _ (_ :: _) _ _); (with_reducible apply wpl_loadRdR row_line); (· rfl); (· rfl); (· exact HR.out); (· exact (Nat.zero_add _).symm); (· exact hlen); (· decide); (· exact hrow); (simp only [Act.put, List.setIfInBounds_toArray, List.set_cons_zero, List.set_cons_succ]))
          | ((with_reducible show wpList _ _ _ (_ :: _) _ _); (with_reducible apply wpl_allocRH row_line); (· rfl); (· exact H); (clear H; intro px _ H); (simp only [Act.put, List.setIfInBounds_toArray, List.set_cons_zero, List.set_cons_succ]))
          | ((with_reducible show wpList _ _ _ (_ :: _) _ _); (with_reducible apply wpl_storeRH row_line); (· rfl); (· rfl); (· rfl); (· with_reducible exact line_cells ..); (· exact H); (· (repeat (first | (with_reducible exact List.mem_cons_self) | with_reducible apply List.mem_cons_of_mem))); (· (simp only [line_sz, Nat.reduceAdd, Nat.reduceLeDiff, Nat.le_refl]; done)); (· with_reducible exact line_splice ..); (· (repeat (first | (with_reducible exact Repl.here) | with_reducible apply Repl.there))); (clear H; intro _ H); (simp only [Act.put, List.setIfInBounds_toArray, List.set_cons_zero, List.set_cons_succ]))
          | ((with_reducible show wpList _ _ _ (_ :: _) _ _); (with_reducible apply wpl_loadCH); (· first | exact cell_party | exact cell_cur | exact cell_i64); (· rfl); (· rfl); (· exact H); (· (repeat (first | (with_reducible exact List.mem_cons_self) | with_reducible apply List.mem_cons_of_mem))); (· with_reducible first | exact line_g0 .. | exact line_g1 .. | exact line_g2 .. | exact line_g4 ..); (simp only [Act.put, List.setIfInBounds_toArray, List.set_cons_zero, List.set_cons_succ])))
        refine ⟨⟨k + 1, by omega, by go_num, by rw [HE.out]; first | rw [hw1] | rfl, H.tail⟩, ?measure⟩
        case measure => simp [intOf]; omega
      · have b1 : (xu == (c : Int)) = false := by simpa using e1
        have HE := Lib.hid (show totL (L.take (k + 1)) c = s0 by rw [HSN.out, if_neg e1]; omega)
        clear e1
        go_wp2_with (first
          | go_skip
          | ((with_reducible show wpList _ _ _ (_ :: _) _ _); (with_reducible apply wpl_loadRdR row_line); (· rfl); (· rfl); (· exact HR.out); (· exact (Nat.zero_add _).symm); (· exact hlen); (· decide); (· exact hrow); (simp only [Act.put, List.setIfInBounds_toArray, List.set_cons_zero, List.set_cons_succ]))
          | ((with_reducible show wpList _ _ _ (_ :: _) _ _); (with_reducible apply wpl_allocRH row_line); (· rfl); (· exact H); (clear H; intro px _ H); (simp only [Act.put, List.setIfInBounds_toArray, List.set_cons_zero, List.set_cons_succ]))
          | ((with_reducible show wpList _ _ _ (_ :: _) _ _); (with_reducible apply wpl_storeRH row_line); (· rfl); (· rfl); (· rfl); (· with_reducible exact line_cells ..); (· exact H); (· (repeat (first | (with_reducible exact List.mem_cons_self) | with_reducible apply List.mem_cons_of_mem))); (· (simp only [line_sz, Nat.reduceAdd, Nat.reduceLeDiff, Nat.le_refl]; done)); (· with_reducible exact line_splice ..); (· (repeat (first | (with_reducible exact Repl.here) | with_reducible apply Repl.there))); (clear H; intro _ H); (simp only [Act.put, List.setIfInBounds_toArray, List.set_cons_zero, List.set_cons_succ]))
          | ((with_reducible show wpList _ _ _ (_ :: _) _ _); (with_reducible apply wpl_loadCH); (· first | exact cell_party | exact cell_cur | exact cell_i64); (· rfl); (· rfl); (· exact H); (· (repeat (first | (with_reducible exact List.mem_cons_self) | with_reducible apply List.mem_cons_of_mem))); (· with_reducible first | exact line_g0 .. | exact line_g1 .. | exact line_g2 .. | exact line_g4 ..); (simp only [Act.put, List.setIfInBounds_toArray, List.set_cons_zero, List.set_cons_succ])))
        refine ⟨⟨k + 1, by omega, by go_num, by rw [HE.out], H.tail⟩, ?measure2⟩
        case measure2 => simp [intOf]; omega
    · obtain rfl : k = n := by omega
      have HE := Lib.hid (show totL (L.take k) c = totL L c by rw [List.take_of_length_le (by rw [HN.out]; exact Nat.le_refl _)])
      go_wp2_with (go_skip)
      go_ret
      exact ⟨by rw [HLL.out, ← HE.out]; rfl, H.tail.untop2 HU.out.1 HU.out.2⟩
end
end Go.Proofs.Ytacglcpjbepfnaa
