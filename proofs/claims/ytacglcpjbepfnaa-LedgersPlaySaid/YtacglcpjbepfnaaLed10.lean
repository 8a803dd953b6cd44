/- ledgers.Ledger: Parties, Copy. -/
import Derived.Test.YtacglcpjbepfnaaLed9
import Derived.Test.YtacglcpjbepfnaaHeapCalls
namespace Go.Proofs.Ytacglcpjbepfnaa
open Go.RowKit
set_option linter.unusedSimpArgs false
set_option linter.unusedVariables false
def parTo (P : List Int) : Nat → List Int
  | 0 => []
  | k + 1 => parTo P k ++ (if hasP P (k : Int) = true then [(k : Int)] else [])
theorem parTo_mem (P : List Int) (q : Int) : ∀ k, q ∈ parTo P k ↔ (0 ≤ q ∧ q < k) ∧ q ∈ P
  | 0 => by simp [parTo]; omega
  | k + 1 => by
    rw [parTo, List.mem_append, parTo_mem P q k]
    constructor
    · rintro (⟨h, h'⟩ | h)
      · exact ⟨by omega, h'⟩
      · split at h
        · rename_i h'
          obtain rfl : q = (k : Int) := by simpa using h
          exact ⟨by omega, by simpa [hasP] using h'⟩
        · cases h
    · rintro ⟨h, h'⟩
      by_cases e : q = (k : Int)
      · subst e
        rw [if_pos (by simpa [hasP] using h')]
        exact .inr (by simp)
      · exact .inl ⟨by omega, h'⟩
theorem parTo_sorted (P : List Int) : ∀ k, (parTo P k).Pairwise (· < ·)
  | 0 => .nil
  | k + 1 => by
    rw [parTo, List.pairwise_append]
    refine ⟨parTo_sorted P k, by split <;> simp, fun a ha b hb => ?_⟩
    have := (parTo_mem P a k).1 ha
    split at hb
    · obtain rfl : b = (k : Int) := by simpa using hb
      omega
    · cases hb
theorem parTo_len (P : List Int) : ∀ k, (parTo P k).length ≤ k
  | 0 => by simp [parTo]
  | k + 1 => by
    have := parTo_len P k
    rw [parTo, List.length_append]
    split <;> simp <;> omega
theorem parTo_all {P : List Int} (h : P.Pairwise (· < ·)) (h1 : ∀ p ∈ P, 1 ≤ p ∧ p ≤ 16) : parTo P 17 = P :=
  sortedI_ext (parTo_sorted _ _) h fun q => by
    rw [parTo_mem]
    exact ⟨fun h => h.2, fun hq => ⟨by have := h1 q hq; omega, hq⟩⟩
def pI (L : List Int) : List Value := L.map (Value.int .u8)
theorem pI_len (L : List Int) : (pI L).length = L.length := by simp [pI]
theorem pI_app (L M : List Int) : pI (L ++ M) = pI L ++ pI M := by simp [pI]
theorem pI_one (L : List Int) : OneCells (pI L) := fun u hu => by
  obtain ⟨x, _, rfl⟩ := List.mem_map.1 hu
  rfl
theorem slPa : SlTy Try.prog 43 23 1 1 (.int .u8 0) := slTy_mk Try.underlying43 (by kernel_rfl) rfl (by decide)
theorem bs_pa : Try.prog.underlying 43 = some (.slice 23) ∧ (Try.prog.info? 23).map (fun i => (i.size, i.zero)) = some (1, some (.int .u8 0)) := ⟨Try.underlying43, by kernel_rfl⟩
section
variable {ops : Array Oper} {rest : List Oper} {a : Act} {w W : World} {l r s : List Thing} {Q : Exit → Act → World → Prop} {p q : Nat} {S : Lgr} {P : List Int}
theorem wpl_indexPar {dst : Option Tmp} {ty : TypeId} {pos : String} {after : Array Edge} {guard : Option (Nat × Bool)} {x y : Operand} {i : Nat} {b : Bool} (hw : Region.wanted ⟨dst, .index 65 x y, ty, pos, after, guard⟩ (yielded ops a.tmps) = true) (hx : a.eval x = .agg (parA P)) (hy : a.eval y = .int .i64 (i : Int)) (hi : i < 17) (hb : hasP P (i : Int) = b)
    (h : wpList Try.prog ops Q rest (a.put dst (.bool b)) w) : wpList Try.prog ops Q (⟨dst, .index 65 x y, ty, pos, after, guard⟩ :: rest) a w := by
  subst hb
  refine wpl_pure hw _ (fun w => ?_) h
  have hu := Try.underlying65
  have hu2 := Try.underlying4
  have hs : (sizeOf 4).run Try.prog w = .ok 1 w := by kernel_rfl
  have hp : (part 4 (parA P) i).run Try.prog w = .ok (.bool (hasP P (i : Int))) w := by
    have e := parA_get P hi
    simp [part, isAgg, run_underlying hu2, e]
  unfold execOp
  simp only [hx, hy]
  simp [Instr.index, asIntOf, run_underlying hu, Sem.run_bind, hs, hi, hp]
theorem clipPa_nil : Ans 97 #[.slice none 0 0] (.slice none 0 0) := by
  intro w
  go_enter Try.func97, Try.ntmps97
  go_wp2
  go_ret
  exact ⟨rfl, (by repeat (first | exact Ext.refl _ | refine Ext.alloc ?_ _ | refine Ext.ext ?_ _ | refine Ext.drew ?_))⟩
theorem clipPa (a : Addr) (n c : Nat) (hn : n ≤ c) (hc : c ≤ maxLen) : Ans 97 #[.slice (some a) n c] (.slice (some a) n n) := by
  intro w
  unfold maxLen at hc
  have ha : a.add 0 = a := by simp [Addr.add]
  go_enter Try.func97, Try.ntmps97
  go_wp2
  go_ret
  exact ⟨rfl, (by repeat (first | exact Ext.refl _ | refine Ext.alloc ?_ _ | refine Ext.ext ?_ _ | refine Ext.drew ?_))⟩
structure ParR (W : World) (l : List Thing) (P : List Int) (v i : Value) (wr : World) : Prop where
  out : ∃ k : Nat, k ≤ 17 ∧ i = .int .i64 (k : Int) ∧ ((parTo P k).length = 0 → v = .slice none 0 0) ∧ Heap W (RowT 23 1 v (parTo P k).length (pI (parTo P k)) :: l) wr
set_option maxRecDepth 100000
set_option maxHeartbeats 2000000
theorem lparties_H (hs : P.Pairwise (· < ·)) (hP : ∀ p ∈ P, 1 ≤ p ∧ p ≤ 16) (H : Heap W l w) (hm : LdC p P (some q) ∈ l) : Calls Try.prog 43 #[.pointer (some ⟨p, 0, none⟩)] w fun e w' => ListPost W l 23 1 (pI P) P.length e w' := by
  have HALL := Lib.hid (parTo_all hs hP)
  clear hs hP
  go_enter Try.func43, Try.ntmps43
  go_wp2_with (first
    | go_skip
    | ((with_reducible apply lthere_call H); (· exact hm); (clear H; intro _ H))
    | ((with_reducible show wpList _ _ _ (_ :: _) _ _); (with_reducible apply wpl_loadRH row_par); (· rfl); (· rfl); (· exact H); (· exact hm); (· (simp only [ledA_sz, Nat.reduceAdd, Nat.reduceLeDiff]; done)); (· exact ledA_par _ _); (simp only [Act.put, List.setIfInBounds_toArray, List.set_cons_zero, List.set_cons_succ])))
  have H0 := H.nilRow 23 1
  clear H
  go_loopw [3, 13] (fun v i wr => ParR W l P v i wr) (fun _ i _ => 17 - (intOf i).toNat)
  case atStart => exact ⟨0, by omega, rfl, fun _ => rfl, H0⟩
  case round =>
    obtain ⟨k, hk, rfl, hz, H⟩ := hrel.out
    clear H0 hrel
    have HZ := Lib.hid hz
    clear hz
    by_cases hlt : k < 17
    · have hb := parTo_len P k
      have h1 : (parTo P k).length + 1 ≤ maxLen := by unfold maxLen; omega
      have h2 : ((parTo P k).length + 1) * 1 ≤ 140737488355328 := by omega
      have hu : IntKind.u8.wrap (k : Int) = k := IntWalk.u8_in _ (by omega)
      cases e1 : hasP P (k : Int)
      · have HE := Lib.hid (show parTo P (k + 1) = parTo P k by rw [parTo, e1, if_neg Bool.false_ne_true, List.append_nil])
        have E1 := Lib.hid e1
        clear e1
        go_wp2_with (first
          | go_skip
          | ((with_reducible show wpList _ _ _ (_ :: _) _ _); (with_reducible apply wpl_indexPar); (· rfl); (· rfl); (· rfl); (· exact hlt); (· exact E1.out); (simp only [Act.put, List.setIfInBounds_toArray, List.set_cons_zero, List.set_cons_succ])))
        refine ⟨⟨k + 1, by omega, by go_num, by rw [HE.out]; exact ⟨HZ.out, H⟩⟩, ?measure⟩
        case measure => simp [intOf]; omega
      · have HE := Lib.hid (show parTo P (k + 1) = parTo P k ++ [(k : Int)] by rw [parTo, e1, if_pos rfl])
        have E1 := Lib.hid e1
        clear e1
        go_wp2_with (first
          | ((with_reducible show wpList _ _ _ (_ :: _) _ _); (with_reducible apply wpl_bsOnes _ [.int .u8 (k : Int)]); (· rfl); (· rfl); (· rfl); (· decide); (· decide); (· (intro v hv; simp at hv; subst hv; rfl)); (· exact bs_pa); (· rfl); (· exact H); (clear H; intro pl _ H); (simp only [Act.put, List.setIfInBounds_toArray, List.set_cons_zero, List.set_cons_succ]))
          | ((with_reducible show wpList _ _ _ (_ :: _) _ _); (with_reducible apply wpl_appendH slPa); (· rfl); (· rfl); (· rfl); (· rfl); (· exact H.perm (.swap _ _ _)); (· exact H.celRd List.mem_cons_self); (· rfl); (· exact pI_one [(k : Int)]); (· exact h1); (· exact h2); (clear H; intro v2 _ H); (simp only [Act.put, List.setIfInBounds_toArray, List.set_cons_zero, List.set_cons_succ]))
          | go_skip
          | ((with_reducible show wpList _ _ _ (_ :: _) _ _); (with_reducible apply wpl_indexPar); (· rfl); (· rfl); (· rfl); (· exact hlt); (· exact E1.out); (simp only [Act.put, List.setIfInBounds_toArray, List.set_cons_zero, List.set_cons_succ])))
        have H2 := H.drop (.there .here)
        clear H
        refine ⟨⟨k + 1, by omega, by go_num, ?_⟩, ?measure2⟩
        case measure2 => simp [intOf]; omega
        rw [HE.out, pI_app, List.length_append]
        exact ⟨fun h => by simp at h, H2⟩
    · obtain rfl : k = 17 := by omega
      have HZ2 := Lib.hid HZ.out
      clear HZ
      rw [HALL.out] at H HZ2
      by_cases h0 : P.length = 0
      · obtain rfl := HZ2.out h0
        have hcl := clipPa_nil
        have H0 := Lib.hid h0
        clear h0
        go_wp2_with (first | go_skip | ((with_reducible refine Ans.callH (by assumption) H ?_); clear H; intro _ H))
        go_ret
        exact ListPost.nil H0.out H.tail
      · obtain ⟨g, cc, rfl, hc, hm⟩ := RowT.sl (H.ok _ List.mem_cons_self) (by omega)
        have hcl := clipPa ⟨g, 0, none⟩ P.length cc hc hm
        have hp : 0 < P.length := by omega
        have HP := Lib.hid hp
        clear hp h0
        generalize hn : P.length = n at *
        have HN := Lib.hid hn
        clear hn
        go_wp2_with (first | go_skip | ((with_reducible refine Ans.callH (by assumption) H ?_); clear H; intro _ H))
        go_ret
        rw [HN.out]
        exact ListPost.some HP.out g cc hc H
end
end Go.Proofs.Ytacglcpjbepfnaa
