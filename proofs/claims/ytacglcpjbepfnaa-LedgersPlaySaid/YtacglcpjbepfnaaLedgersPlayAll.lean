/- LedgersPlay: the statement, out of its walk. -/
import Derived.Test.YtacglcpjbepfnaaDuo3
import Derived.Test.YtacglcpjbepfnaaBkLedg
import Derived.Test.YtacglcpjbepfnaaLives03
import Derived.Test.YtacglcpjbepfnaaLed11
import Derived.Test.YtacglcpjbepfnaaRows
import Derived.Test.YtacglcpjbepfnaaOpen
import Derived.ShutString
/- LedgersPlay: its walk. -/
namespace Go.Proofs.Ytacglcpjbepfnaa
open Go.RowKit
set_option linter.unusedSimpArgs false
set_option linter.unusedVariables false
theorem Heap.left {W w : World} {A B : List Thing} (H : Heap W (A ++ B) w) : Heap W A w :=
  ⟨H.low, fun x hx => H.ok x (List.mem_append_left _ hx), fun x hx => H.fp x (List.mem_append_left _ hx), (List.pairwise_append.1 H.apart).1⟩
theorem Heap.cut11 {W w : World} {x1 x2 x3 x4 x5 x6 x7 x8 x9 x10 x11 : Thing} {X : List Thing} (H : Heap W (x1 :: x2 :: x3 :: x4 :: x5 :: x6 :: x7 :: x8 :: x9 :: x10 :: x11 :: X) w) : Heap W [x1, x2, x3, x4, x5, x6, x7, x8, x9, x10, x11] w := Heap.left (A := [x1, x2, x3, x4, x5, x6, x7, x8, x9, x10, x11]) H
theorem Heap.cut5 {W w : World} {x1 x2 x3 x4 x5 : Thing} {X : List Thing} (H : Heap W (x1 :: x2 :: x3 :: x4 :: x5 :: X) w) : Heap W [x1, x2, x3, x4, x5] w := Heap.left (A := [x1, x2, x3, x4, x5]) H
theorem Heap.top5 {W w : World} {l r1 r2 r3 r4 r5 : List Thing} {x1 x2 x3 x4 x5 : Thing} (H : Heap W l w) (h1 : Pull l x1 r1) (h2 : Pull r1 x2 r2) (h3 : Pull r2 x3 r3) (h4 : Pull r3 x4 r4) (h5 : Pull r4 x5 r5) : Heap W (x1 :: x2 :: x3 :: x4 :: x5 :: r5) w :=
  H.perm (h1.perm.trans ((h2.perm.trans ((h3.perm.trans ((h4.perm.trans (h5.perm.cons _)).cons _)).cons _)).cons _))
theorem AnsH.on {W w : World} {l : List Thing} {f : FuncId} {args : Array Value} {v : Value} (_ : Heap W l w) (h : AnsH W l f args v) : AnsH W l f args v := h
def CopyR (X : List Thing) (v5 v6 : Value) : Prop := (X = [] ∧ v5 = .pointer none ∧ v6 = .pointer none) ∨
  ∃ (p q rp : Nat) (S : Lgr) (a b : Option Addr) (n c m d : Nat), v5 = .pointer (some ⟨p, 0, none⟩) ∧ v6 = .pointer (some ⟨rp, 0, none⟩) ∧ S.Good ∧ S.P.length = n ∧ S.L.length = m ∧ X = [RefC rp (.slice a n c) (.slice b m d), RowT 23 1 (.slice a n c) n (pI S.P), RowT 39 5 (.slice b m d) m (linL S.L), LdC p S.P (some q), LdM q S.L]
structure PlayR (W : World) (p q rp n : Nat) (v5 v6 i : Value) (wr : World) : Prop where
  out : ∃ (k : Nat) (S : Lgr) (X : List Thing), k ≤ n ∧ i = .int .i64 (k : Int) ∧ S.Good ∧ CopyR X v5 v6 ∧ DuoH W X p q rp S wr
section
variable {W w : World} {l : List Thing} {ops : Array Oper} {rest : List Oper} {a : Act}
set_option maxRecDepth 100000
set_option maxHeartbeats 8000000
theorem wpQ_neqL0 {dst : Option Tmp} {ty : TypeId} {pos : String} {after : Array Edge} {guard : Option (Nat × Bool)} {p q : Operand} {a0 b0 c0 d0 e0 a1 b1 c1 d1 e1 : Int} {K : Act → Prop} {H : Heap W l w} (hw : Region.wanted ⟨dst, .binOp .neq 39 p q 39, ty, pos, after, guard⟩ (yielded ops a.tmps) = true) (hp : a.eval p = .agg (line a0 b0 c0 d0 e0)) (hq : a.eval q = .agg (line a1 b1 c1 d1 e1)) (hs : lineSame a0 b0 c0 d0 e0 a1 b1 c1 d1 e1 = true)
    (h : wpQuiet Try.prog ops (fun w' => ∃ d, w' = H.any d) K rest (a.put dst (.bool false))) : wpQuiet Try.prog ops (fun w' => ∃ d, w' = H.any d) K (⟨dst, .binOp .neq 39 p q 39, ty, pos, after, guard⟩ :: rest) a :=
  wpQ_neqL hw hp hq (by rw [hs]; exact h)
theorem ledgersPlay_great (w : World) (ea : Option Addr) (an ac : Nat) (hn : 120 < an) (hm : an ≤ maxLen) :
    Calls Try.prog 6 #[.slice ea an ac] w fun e w' => e = .returned (.bool true) ∧ Below w.heap.size w w' := by
  have H := Heap.start w
  have hcnt : 120 < (an : Int) := by omega
  unfold maxLen at hm
  go_enter Try.func6, Try.ntmps6
  go_wp2_with (first | go_skip)
  refine (lives03_H H).mono ?_
  clear H
  rintro e w7 ⟨rfl, H⟩
  go_wp2_with (go_skip)
  go_ret
  exact ⟨rfl, H.low⟩
theorem ledgersPlay_main (w : World) (ea : Option Addr) (an ac : Nat) (F : List LAct) (hl : F.length = an) (hn : an ≤ 120) (hF : ∀ x ∈ F, ActOk x) (R : Rd w ea (actL F)) :
    Calls Try.prog 6 #[.slice ea an ac] w fun e w' => e = .returned (.bool true) ∧ Below w.heap.size w w' := by
  have H := Heap.start w
  have hcnt : ¬ (120 < (an : Int)) := by omega
  have HR := Lib.hid (show ∀ (l' : List Thing) w', Heap w l' w' → Rd w' ea (actL F) from fun l' w' H' => R.below H'.low)
  have HL := Lib.hid hl
  have HF := Lib.hid hF
  clear R hl hF
  go_enter Try.func6, Try.ntmps6
  go_wp2_with (first | go_skip)
  refine (lnew_H H).mono ?_
  clear H
  rintro e w1 ⟨p, q, rfl, H⟩
  go_wp2_with (go_skip)
  refine (rnewL_H H).mono ?_
  clear H
  rintro e w2 ⟨rp, rfl, HH⟩
  obtain ⟨a0, n0, c0, b0, m0, d0, hl1, hl2, _, H⟩ := HH.open3
  have H0 : DuoH w [] p q rp Lgr.new w2 := ⟨a0, n0, c0, b0, m0, d0, hl1, hl2, H.top2 (.there (.there (.there .here))) (.there (.there (.there .here)))⟩
  clear H HH hl1 hl2
  have H := Heap.start w
  go_wp2_with (go_skip)
  clear H
  go_loopw [5, 6, 7] (fun c d i wr => PlayR w p q rp an c d i wr) (fun _ _ i _ => an - (intOf i).toNat)
  case atStart => exact ⟨0, Lgr.new, [], Nat.zero_le _, rfl, Lgr.new_good, .inl ⟨rfl, rfl, rfl⟩, H0⟩
  case round =>
    obtain ⟨k, S, X, hk, rfl, hG, hX, HD⟩ := hrel.out
    clear H0 hrel
    obtain ⟨ra, rn, rc, rb, rm, rd, hl1, hl2, H⟩ := HD
    have HLR := Lib.hid (And.intro hl1 hl2)
    have HG := Lib.hid hG
    have HX := Lib.hid hX
    clear hG hX hl1 hl2
    by_cases hlt : k < an
    · have hkF : k < F.length := by rw [HL.out]; exact hlt
      have hlen : k * 5 + 5 ≤ (actL F).length := by rw [actL_len]; omega
      have hrow := actL_row F k hkF
      have hok := HF.out F[k] (List.getElem_mem hkF)
      generalize F[k] = x at *
      obtain ⟨ba, oa, rfl, _⟩ := (HR.out _ _ H).lt (by omega)
      have HRd := Lib.hid (show Rd wr (some ⟨ba, oa, none⟩) (actL F) from HR.out _ _ H)
      have DO := Lib.hid (fun (l' : List Thing) (w' : World) (h : DuoH w l' p q rp S w') => does_H x hok HG.out h)
      have HG2 := Lib.hid (doesS_good HG.out x)
      obtain ⟨xk, xa, xb, xc, xn⟩ := x
      obtain ⟨o0, o1, o2, o3, o4⟩ := hok
      simp only at o0 o1 o2 o3 o4 hrow
      generalize doesS S ⟨xk, xa, xb, xc, xn⟩ = S2 at *
      clear hkF o4
      by_cases h16 : xk % 16 = 7
      · have h8 : Int.tmod (xk : Int) 16 = 7 := by rw [Int.tmod_eq_emod_of_nonneg (by omega)]; omega
        clear h16
        go_wp2_with (first
          | go_skip
          | ((with_reducible show wpList _ _ _ (_ :: _) _ _); (with_reducible apply wpl_loadRdR row_act); (· rfl); (· rfl); (· exact HRd.out); (· rfl); (· exact hlen); (· decide); (· exact hrow); (simp only [Act.put, List.setIfInBounds_toArray, List.set_cons_zero, List.set_cons_succ]))
          | ((with_reducible show wpList _ _ _ (_ :: _) _ _); (with_reducible apply wpl_allocRH row_act); (· rfl); (· exact H); (clear H; intro px _ H); (simp only [Act.put, List.setIfInBounds_toArray, List.set_cons_zero, List.set_cons_succ]))
          | ((with_reducible show wpList _ _ _ (_ :: _) _ _); (with_reducible apply wpl_storeRH row_act); (· rfl); (· rfl); (· rfl); (· with_reducible exact act_cells ..); (· exact H); (· (repeat (first | (with_reducible exact List.mem_cons_self) | with_reducible apply List.mem_cons_of_mem))); (· (simp only [act_sz, Nat.reduceAdd, Nat.reduceLeDiff, Nat.le_refl]; done)); (· with_reducible exact act_splice ..); (· (repeat (first | (with_reducible exact Repl.here) | with_reducible apply Repl.there))); (clear H; intro _ H); (simp only [Act.put, List.setIfInBounds_toArray, List.set_cons_zero, List.set_cons_succ]))
          | ((with_reducible show wpList _ _ _ (_ :: _) _ _); (with_reducible apply wpl_loadCH); (· first | exact cell_u8 | exact cell_party | exact cell_cur | exact cell_i64); (· rfl); (· rfl); (· exact H); (· (repeat (first | (with_reducible exact List.mem_cons_self) | with_reducible apply List.mem_cons_of_mem))); (· with_reducible first | exact act_g0 .. | exact act_g1 .. | exact act_g2 .. | exact act_g3 .. | exact act_g4 ..); (simp only [Act.put, List.setIfInBounds_toArray, List.set_cons_zero, List.set_cons_succ]))
          | ((with_reducible show wpList _ _ _ (_ :: _) _ _); (with_reducible apply wpl_loadRH row_act); (· rfl); (· rfl); (· exact H); (· (repeat (first | (with_reducible exact List.mem_cons_self) | with_reducible apply List.mem_cons_of_mem))); (· (simp only [act_sz, Nat.reduceAdd, Nat.reduceLeDiff, Nat.le_refl]; done)); (· with_reducible exact act_all ..); (simp only [Act.put, List.setIfInBounds_toArray, List.set_cons_zero, List.set_cons_succ])))
        refine (lcopy_H (p := p) (q := q) (S := S) H (by (repeat (first | (with_reducible exact List.mem_cons_self) | with_reducible apply List.mem_cons_of_mem))) (by (repeat (first | (with_reducible exact List.mem_cons_self) | with_reducible apply List.mem_cons_of_mem)))).mono ?_
        clear H
        rintro e w3 ⟨cp, cq, rfl, H⟩
        go_wp2_with (go_skip)
        refine (rcopyL_H (p := rp) (S := S) HG.out ⟨ra, rn, rc, rb, rm, rd, HLR.out.1, HLR.out.2, by (repeat (first | (with_reducible exact List.mem_cons_self) | with_reducible apply List.mem_cons_of_mem)), by (repeat (first | (with_reducible exact List.mem_cons_self) | with_reducible apply List.mem_cons_of_mem)), by (repeat (first | (with_reducible exact List.mem_cons_self) | with_reducible apply List.mem_cons_of_mem))⟩ H).mono ?_
        clear H
        rintro e w4 ⟨crp, rfl, HH⟩
        obtain ⟨ca, cn, cc, cb, cm, cd, hl1, hl2, _, H⟩ := HH.open3
        have HLC := Lib.hid (And.intro hl1 hl2)
        clear HH hl1 hl2
        go_wp2_with (first
          | go_skip
          | ((with_reducible show wpList _ _ _ (_ :: _) _ _); (with_reducible apply wpl_loadRdR row_act); (· rfl); (· rfl); (· exact HRd.out); (· rfl); (· exact hlen); (· decide); (· exact hrow); (simp only [Act.put, List.setIfInBounds_toArray, List.set_cons_zero, List.set_cons_succ]))
          | ((with_reducible show wpList _ _ _ (_ :: _) _ _); (with_reducible apply wpl_allocRH row_act); (· rfl); (· exact H); (clear H; intro px _ H); (simp only [Act.put, List.setIfInBounds_toArray, List.set_cons_zero, List.set_cons_succ]))
          | ((with_reducible show wpList _ _ _ (_ :: _) _ _); (with_reducible apply wpl_storeRH row_act); (· rfl); (· rfl); (· rfl); (· with_reducible exact act_cells ..); (· exact H); (· (repeat (first | (with_reducible exact List.mem_cons_self) | with_reducible apply List.mem_cons_of_mem))); (· (simp only [act_sz, Nat.reduceAdd, Nat.reduceLeDiff, Nat.le_refl]; done)); (· with_reducible exact act_splice ..); (· (repeat (first | (with_reducible exact Repl.here) | with_reducible apply Repl.there))); (clear H; intro _ H); (simp only [Act.put, List.setIfInBounds_toArray, List.set_cons_zero, List.set_cons_succ]))
          | ((with_reducible show wpList _ _ _ (_ :: _) _ _); (with_reducible apply wpl_loadCH); (· first | exact cell_u8 | exact cell_party | exact cell_cur | exact cell_i64); (· rfl); (· rfl); (· exact H); (· (repeat (first | (with_reducible exact List.mem_cons_self) | with_reducible apply List.mem_cons_of_mem))); (· with_reducible first | exact act_g0 .. | exact act_g1 .. | exact act_g2 .. | exact act_g3 .. | exact act_g4 ..); (simp only [Act.put, List.setIfInBounds_toArray, List.set_cons_zero, List.set_cons_succ]))
          | ((with_reducible show wpList _ _ _ (_ :: _) _ _); (with_reducible apply wpl_loadRH row_act); (· rfl); (· rfl); (· exact H); (· (repeat (first | (with_reducible exact List.mem_cons_self) | with_reducible apply List.mem_cons_of_mem))); (· (simp only [act_sz, Nat.reduceAdd, Nat.reduceLeDiff, Nat.le_refl]; done)); (· with_reducible exact act_all ..); (simp only [Act.put, List.setIfInBounds_toArray, List.set_cons_zero, List.set_cons_succ])))
        refine (DO.out _ _ ⟨ra, rn, rc, rb, rm, rd, HLR.out.1, HLR.out.2, H.top5 (.there (.there (.there (.there (.there (.there .here)))))) (.there (.there (.there (.there (.there (.there .here)))))) (.there (.there (.there (.there (.there (.there .here)))))) (.there (.there (.there (.there (.there (.there .here)))))) (.there (.there (.there (.there (.there (.there .here))))))⟩).mono ?_
        clear H
        rintro e w5 ⟨rfl, ra2, rn2, rc2, rb2, rm2, rd2, hl1, hl2, H⟩
        have HL2 := Lib.hid (And.intro hl1 hl2)
        clear hl1 hl2
        have SM := AnsH.on H (sameLed_A (p := p) (q := q) (rp := rp) HG2.out .here .here ⟨ra2, rn2, rc2, rb2, rm2, rd2, HL2.out.1, HL2.out.2, by (repeat (first | (with_reducible exact List.mem_cons_self) | with_reducible apply List.mem_cons_of_mem)), by (repeat (first | (with_reducible exact List.mem_cons_self) | with_reducible apply List.mem_cons_of_mem)), by (repeat (first | (with_reducible exact List.mem_cons_self) | with_reducible apply List.mem_cons_of_mem))⟩)
        obtain ⟨x1, y1, z1, k1, _⟩ := lineC_form (S := S2) xa xb xc
        have A1 := AnsH.on H (lline_H (p := p) (q := q) (S := S2) xa xb xc o1 o2 o3 HG2.out (by (repeat (first | (with_reducible exact List.mem_cons_self) | with_reducible apply List.mem_cons_of_mem))) (by (repeat (first | (with_reducible exact List.mem_cons_self) | with_reducible apply List.mem_cons_of_mem))))
        rw [k1] at A1
        have HFEW := Lib.hid HG2.out.few
        have LR := Lib.hid (fun (l' : List Thing) (m1 : RefC rp (.slice ra2 rn2 rc2) (.slice rb2 rm2 rd2) ∈ l') (m2 : RowT 23 1 (.slice ra2 rn2 rc2) rn2 (pI S2.P) ∈ l') (m3 : RowT 39 5 (.slice rb2 rm2 rd2) rm2 (linL S2.L) ∈ l') => rline_H (W := w) (l := l') (p := rp) (S := S2) xa xb xc ⟨ra2, rn2, rc2, rb2, rm2, rd2, HL2.out.1, HL2.out.2, m1, m2, m3⟩ o1 o2 o3 (by have := HFEW.out; omega))
        rw [k1] at LR
        generalize hib : isLine S2.L (xa : Int) (xb : Int) (xc : Int) = ib at *
        clear hib k1
        generalize hll : limOf S2.L (xa : Int) (xb : Int) (xc : Int) = ll at *
        clear hll
        generalize hdd : debOf S2.L (xa : Int) (xb : Int) (xc : Int) = dd at *
        clear hdd
        go_wp2_with (first | go_skip | ((with_reducible refine AnsH.call (by assumption) H ?_); clear H; intro _ H) | ((with_reducible show wpList _ _ _ (_ :: _) _ _); (with_reducible apply wpl_allocRH row_line); (· rfl); (· exact H); (clear H; intro pl _ H); (simp only [Act.put, List.setIfInBounds_toArray, List.set_cons_zero, List.set_cons_succ])) | ((with_reducible show wpList _ _ _ (_ :: _) _ _); (with_reducible apply wpl_storeRH row_line); (· rfl); (· rfl); (· rfl); (· with_reducible exact line_cells ..); (· exact H); (· (repeat (first | (with_reducible exact List.mem_cons_self) | with_reducible apply List.mem_cons_of_mem))); (· (simp only [line_sz, Nat.reduceAdd, Nat.reduceLeDiff, Nat.le_refl]; done)); (· with_reducible exact line_splice ..); (· (repeat (first | (with_reducible exact Repl.here) | with_reducible apply Repl.there))); (clear H; intro _ H); (simp only [Act.put, List.setIfInBounds_toArray, List.set_cons_zero, List.set_cons_succ])) | ((with_reducible show wpList _ _ _ (_ :: _) _ _); (with_reducible apply wpl_loadCH); (· first | exact cell_party | exact cell_cur); (· rfl); (· rfl); (· exact H); (· (repeat (first | (with_reducible exact List.mem_cons_self) | with_reducible apply List.mem_cons_of_mem))); (· with_reducible first | exact act_g1 .. | exact act_g2 .. | exact act_g3 ..); (simp only [Act.put, List.setIfInBounds_toArray, List.set_cons_zero, List.set_cons_succ])))
        clear SM A1
        have A2 := AnsH.on H (LR.out _ (by (repeat (first | (with_reducible exact List.mem_cons_self) | with_reducible apply List.mem_cons_of_mem))) (by (repeat (first | (with_reducible exact List.mem_cons_self) | with_reducible apply List.mem_cons_of_mem))) (by (repeat (first | (with_reducible exact List.mem_cons_self) | with_reducible apply List.mem_cons_of_mem))))
        clear LR
        go_wp2_with (first | go_skip | ((with_reducible refine AnsH.call (by assumption) H ?_); clear H; intro _ H) | ((with_reducible show wpList _ _ _ (_ :: _) _ _); (with_reducible apply wpl_allocRH row_line); (· rfl); (· exact H); (clear H; intro pl2 _ H); (simp only [Act.put, List.setIfInBounds_toArray, List.set_cons_zero, List.set_cons_succ])) | ((with_reducible show wpList _ _ _ (_ :: _) _ _); (with_reducible apply wpl_storeRH row_line); (· rfl); (· rfl); (· rfl); (· with_reducible exact line_cells ..); (· exact H); (· (repeat (first | (with_reducible exact List.mem_cons_self) | with_reducible apply List.mem_cons_of_mem))); (· (simp only [line_sz, Nat.reduceAdd, Nat.reduceLeDiff, Nat.le_refl]; done)); (· with_reducible exact line_splice ..); (· (repeat (first | (with_reducible exact Repl.here) | with_reducible apply Repl.there))); (clear H; intro _ H); (simp only [Act.put, List.setIfInBounds_toArray, List.set_cons_zero, List.set_cons_succ])) | ((with_reducible show wpList _ _ _ (_ :: _) _ _); (with_reducible apply wpl_loadCH); (· first | exact cell_party | exact cell_cur); (· rfl); (· rfl); (· exact H); (· (repeat (first | (with_reducible exact List.mem_cons_self) | with_reducible apply List.mem_cons_of_mem))); (· with_reducible first | exact act_g1 .. | exact act_g2 .. | exact act_g3 ..); (simp only [Act.put, List.setIfInBounds_toArray, List.set_cons_zero, List.set_cons_succ])))
        clear A2
        have B1 := AnsH.on H (lroom_H (p := p) (q := q) (S := S2) xa xb xc o1 o2 o3 HG2.out (by (repeat (first | (with_reducible exact List.mem_cons_self) | with_reducible apply List.mem_cons_of_mem))) (by (repeat (first | (with_reducible exact List.mem_cons_self) | with_reducible apply List.mem_cons_of_mem))))
        have B2 := AnsH.on H (rroom_H (p := rp) (S := S2) xa xb xc HG2.out ⟨ra2, rn2, rc2, rb2, rm2, rd2, HL2.out.1, HL2.out.2, by (repeat (first | (with_reducible exact List.mem_cons_self) | with_reducible apply List.mem_cons_of_mem)), by (repeat (first | (with_reducible exact List.mem_cons_self) | with_reducible apply List.mem_cons_of_mem)), by (repeat (first | (with_reducible exact List.mem_cons_self) | with_reducible apply List.mem_cons_of_mem))⟩ o1 o2 o3)
        have B3 := AnsH.on H (lpos_H (p := p) (q := q) (S := S2) xa xc HG2.out (.there (.there .here)) (.there (.there .here)))
        have B4 := AnsH.on H (rpos_H (p := rp) (S := S2) xa xc HG2.out ⟨ra2, rn2, rc2, rb2, rm2, rd2, HL2.out.1, HL2.out.2, by (repeat (first | (with_reducible exact List.mem_cons_self) | with_reducible apply List.mem_cons_of_mem)), by (repeat (first | (with_reducible exact List.mem_cons_self) | with_reducible apply List.mem_cons_of_mem)), by (repeat (first | (with_reducible exact List.mem_cons_self) | with_reducible apply List.mem_cons_of_mem))⟩)
        have B5 := AnsH.on H (ltot_H (p := p) (q := q) (S := S2) xc HG2.out (.there (.there .here)) (.there (.there .here)))
        have B6 := AnsH.on H (rtot_H (p := rp) (S := S2) xc HG2.out ⟨ra2, rn2, rc2, rb2, rm2, rd2, HL2.out.1, HL2.out.2, by (repeat (first | (with_reducible exact List.mem_cons_self) | with_reducible apply List.mem_cons_of_mem)), by (repeat (first | (with_reducible exact List.mem_cons_self) | with_reducible apply List.mem_cons_of_mem)), by (repeat (first | (with_reducible exact List.mem_cons_self) | with_reducible apply List.mem_cons_of_mem))⟩)
        have B7 := AnsH.on H (lhas_H (p := p) (q := q) (P := S2.P) xa o1 (by (repeat (first | (with_reducible exact List.mem_cons_self) | with_reducible apply List.mem_cons_of_mem))) HG2.out.par1)
        have B8 := AnsH.on H (rhasM (p := rp) (S := S2) HG2.out ⟨ra2, rn2, rc2, rb2, rm2, rd2, HL2.out.1, HL2.out.2, by (repeat (first | (with_reducible exact List.mem_cons_self) | with_reducible apply List.mem_cons_of_mem)), by (repeat (first | (with_reducible exact List.mem_cons_self) | with_reducible apply List.mem_cons_of_mem)), by (repeat (first | (with_reducible exact List.mem_cons_self) | with_reducible apply List.mem_cons_of_mem))⟩ xa)
        rw [show decide ((xa : Int) ∈ S2.P) = hasP S2.P (xa : Int) from rfl] at B8
        generalize ht1 : roomOf S2 (xa : Int) (xb : Int) (xc : Int) = t1 at *
        clear ht1
        generalize ht2 : posL S2.L (xa : Int) (xc : Int) = t2 at *
        clear ht2
        generalize ht3 : totL S2.L (xc : Int) = t3 at *
        clear ht3
        generalize ht4 : hasP S2.P (xa : Int) = t4 at *
        clear ht4
        have q1 : (t1 != t1) = false := by simp
        have q2 : (t2 != t2) = false := by simp
        have q3 : (t3 != t3) = false := by simp
        have q4 : (t4 != t4) = false := by cases t4 <;> rfl
        have q5 : (ib != ib) = false := by cases ib <;> rfl
        have he : lineSame x1 y1 z1 ll dd x1 y1 z1 ll dd = true := by simp [lineSame]
        refine wp_region_H H (by kernel_rfl) (by kernel_rfl) ?_
        repeat (first | go_big_quiet_skip | (first | ((with_reducible apply wpQ_loadRH row_line); (· rfl); (· rfl); (· (repeat (first | (with_reducible exact List.mem_cons_self) | with_reducible apply List.mem_cons_of_mem))); (· (simp only [line_sz, Nat.reduceAdd, Nat.reduceLeDiff, Nat.le_refl]; done)); (· with_reducible exact line_all ..); (simp only [Act.put, List.setIfInBounds_toArray, List.set_cons_zero, List.set_cons_succ])) | ((with_reducible apply wpQ_neqL0); (· rfl); (· rfl); (· rfl); (· exact he); (simp only [Act.put, List.setIfInBounds_toArray, List.set_cons_zero, List.set_cons_succ])) | ((with_reducible apply wpQ_loadCH); (· first | exact cell_party | exact cell_cur); (· rfl); (· rfl); (· (repeat (first | (with_reducible exact List.mem_cons_self) | with_reducible apply List.mem_cons_of_mem))); (· with_reducible first | exact act_g1 .. | exact act_g2 .. | exact act_g3 ..); (simp only [Act.put, List.setIfInBounds_toArray, List.set_cons_zero, List.set_cons_succ]))) | go_big_quiet_step ((with_reducible first | exact AnsH.quiet (by assumption) | exact Ans.quietH (by assumption))))
        refine wpQuiet_nil ?_
        clear H
        intro _ H
        clear B1 B2 B3 B4 B5 B6 B7 B8 q1 q2 q3 q4 q5 he
        go_wp2_with (go_skip)
        replace H := (Heap.cut11 H.tail.tail).drop (.there (.there (.there (.there (.there (.there (.there (.there (.there (.there .here))))))))))
        refine ⟨⟨k + 1, S2, _, by omega, by go_num, HG2.out, .inr ⟨cp, cq, crp, S, ca, cb, cn, cc, cm, cd, rfl, rfl, HG.out, HLC.out.1, HLC.out.2, rfl⟩, ra2, rn2, rc2, rb2, rm2, rd2, HL2.out.1, HL2.out.2, H⟩, ?measureC⟩
        case measureC => simp [intOf]; omega
      · have h8 : Int.tmod (xk : Int) 16 ≠ 7 := by rw [Int.tmod_eq_emod_of_nonneg (by omega)]; omega
        have h9 : (Int.tmod (xk : Int) 16 == 7) = false := by simpa using h8
        have h10 : ((xk : Int) % 16 == 7) = false := by simp; omega
        have h11 : ¬ ((xk : Int) % 16 = 7) := by omega
        clear h16
        go_wp2_with (first
          | go_skip
          | ((with_reducible show wpList _ _ _ (_ :: _) _ _); (with_reducible apply wpl_loadRdR row_act); (· rfl); (· rfl); (· exact HRd.out); (· rfl); (· exact hlen); (· decide); (· exact hrow); (simp only [Act.put, List.setIfInBounds_toArray, List.set_cons_zero, List.set_cons_succ]))
          | ((with_reducible show wpList _ _ _ (_ :: _) _ _); (with_reducible apply wpl_allocRH row_act); (· rfl); (· exact H); (clear H; intro px _ H); (simp only [Act.put, List.setIfInBounds_toArray, List.set_cons_zero, List.set_cons_succ]))
          | ((with_reducible show wpList _ _ _ (_ :: _) _ _); (with_reducible apply wpl_storeRH row_act); (· rfl); (· rfl); (· rfl); (· with_reducible exact act_cells ..); (· exact H); (· (repeat (first | (with_reducible exact List.mem_cons_self) | with_reducible apply List.mem_cons_of_mem))); (· (simp only [act_sz, Nat.reduceAdd, Nat.reduceLeDiff, Nat.le_refl]; done)); (· with_reducible exact act_splice ..); (· (repeat (first | (with_reducible exact Repl.here) | with_reducible apply Repl.there))); (clear H; intro _ H); (simp only [Act.put, List.setIfInBounds_toArray, List.set_cons_zero, List.set_cons_succ]))
          | ((with_reducible show wpList _ _ _ (_ :: _) _ _); (with_reducible apply wpl_loadCH); (· first | exact cell_u8 | exact cell_party | exact cell_cur | exact cell_i64); (· rfl); (· rfl); (· exact H); (· (repeat (first | (with_reducible exact List.mem_cons_self) | with_reducible apply List.mem_cons_of_mem))); (· with_reducible first | exact act_g0 .. | exact act_g1 .. | exact act_g2 .. | exact act_g3 .. | exact act_g4 ..); (simp only [Act.put, List.setIfInBounds_toArray, List.set_cons_zero, List.set_cons_succ]))
          | ((with_reducible show wpList _ _ _ (_ :: _) _ _); (with_reducible apply wpl_loadRH row_act); (· rfl); (· rfl); (· exact H); (· (repeat (first | (with_reducible exact List.mem_cons_self) | with_reducible apply List.mem_cons_of_mem))); (· (simp only [act_sz, Nat.reduceAdd, Nat.reduceLeDiff, Nat.le_refl]; done)); (· with_reducible exact act_all ..); (simp only [Act.put, List.setIfInBounds_toArray, List.set_cons_zero, List.set_cons_succ])))
        refine (DO.out _ _ ⟨ra, rn, rc, rb, rm, rd, HLR.out.1, HLR.out.2, H.top5 (.there .here) (.there .here) (.there .here) (.there .here) (.there .here)⟩).mono ?_
        clear H
        rintro e w5 ⟨rfl, ra2, rn2, rc2, rb2, rm2, rd2, hl1, hl2, H⟩
        have HL2 := Lib.hid (And.intro hl1 hl2)
        clear hl1 hl2
        have SM := AnsH.on H (sameLed_A (p := p) (q := q) (rp := rp) HG2.out .here .here ⟨ra2, rn2, rc2, rb2, rm2, rd2, HL2.out.1, HL2.out.2, by (repeat (first | (with_reducible exact List.mem_cons_self) | with_reducible apply List.mem_cons_of_mem)), by (repeat (first | (with_reducible exact List.mem_cons_self) | with_reducible apply List.mem_cons_of_mem)), by (repeat (first | (with_reducible exact List.mem_cons_self) | with_reducible apply List.mem_cons_of_mem))⟩)
        obtain ⟨x1, y1, z1, k1, _⟩ := lineC_form (S := S2) xa xb xc
        have A1 := AnsH.on H (lline_H (p := p) (q := q) (S := S2) xa xb xc o1 o2 o3 HG2.out (by (repeat (first | (with_reducible exact List.mem_cons_self) | with_reducible apply List.mem_cons_of_mem))) (by (repeat (first | (with_reducible exact List.mem_cons_self) | with_reducible apply List.mem_cons_of_mem))))
        rw [k1] at A1
        have HFEW := Lib.hid HG2.out.few
        have LR := Lib.hid (fun (l' : List Thing) (m1 : RefC rp (.slice ra2 rn2 rc2) (.slice rb2 rm2 rd2) ∈ l') (m2 : RowT 23 1 (.slice ra2 rn2 rc2) rn2 (pI S2.P) ∈ l') (m3 : RowT 39 5 (.slice rb2 rm2 rd2) rm2 (linL S2.L) ∈ l') => rline_H (W := w) (l := l') (p := rp) (S := S2) xa xb xc ⟨ra2, rn2, rc2, rb2, rm2, rd2, HL2.out.1, HL2.out.2, m1, m2, m3⟩ o1 o2 o3 (by have := HFEW.out; omega))
        rw [k1] at LR
        generalize hib : isLine S2.L (xa : Int) (xb : Int) (xc : Int) = ib at *
        clear hib k1
        generalize hll : limOf S2.L (xa : Int) (xb : Int) (xc : Int) = ll at *
        clear hll
        generalize hdd : debOf S2.L (xa : Int) (xb : Int) (xc : Int) = dd at *
        clear hdd
        go_wp2_with (first | go_skip | ((with_reducible refine AnsH.call (by assumption) H ?_); clear H; intro _ H) | ((with_reducible show wpList _ _ _ (_ :: _) _ _); (with_reducible apply wpl_allocRH row_line); (· rfl); (· exact H); (clear H; intro pl _ H); (simp only [Act.put, List.setIfInBounds_toArray, List.set_cons_zero, List.set_cons_succ])) | ((with_reducible show wpList _ _ _ (_ :: _) _ _); (with_reducible apply wpl_storeRH row_line); (· rfl); (· rfl); (· rfl); (· with_reducible exact line_cells ..); (· exact H); (· (repeat (first | (with_reducible exact List.mem_cons_self) | with_reducible apply List.mem_cons_of_mem))); (· (simp only [line_sz, Nat.reduceAdd, Nat.reduceLeDiff, Nat.le_refl]; done)); (· with_reducible exact line_splice ..); (· (repeat (first | (with_reducible exact Repl.here) | with_reducible apply Repl.there))); (clear H; intro _ H); (simp only [Act.put, List.setIfInBounds_toArray, List.set_cons_zero, List.set_cons_succ])) | ((with_reducible show wpList _ _ _ (_ :: _) _ _); (with_reducible apply wpl_loadCH); (· first | exact cell_party | exact cell_cur); (· rfl); (· rfl); (· exact H); (· (repeat (first | (with_reducible exact List.mem_cons_self) | with_reducible apply List.mem_cons_of_mem))); (· with_reducible first | exact act_g1 .. | exact act_g2 .. | exact act_g3 ..); (simp only [Act.put, List.setIfInBounds_toArray, List.set_cons_zero, List.set_cons_succ])))
        clear SM A1
        have A2 := AnsH.on H (LR.out _ (by (repeat (first | (with_reducible exact List.mem_cons_self) | with_reducible apply List.mem_cons_of_mem))) (by (repeat (first | (with_reducible exact List.mem_cons_self) | with_reducible apply List.mem_cons_of_mem))) (by (repeat (first | (with_reducible exact List.mem_cons_self) | with_reducible apply List.mem_cons_of_mem))))
        clear LR
        go_wp2_with (first | go_skip | ((with_reducible refine AnsH.call (by assumption) H ?_); clear H; intro _ H) | ((with_reducible show wpList _ _ _ (_ :: _) _ _); (with_reducible apply wpl_allocRH row_line); (· rfl); (· exact H); (clear H; intro pl2 _ H); (simp only [Act.put, List.setIfInBounds_toArray, List.set_cons_zero, List.set_cons_succ])) | ((with_reducible show wpList _ _ _ (_ :: _) _ _); (with_reducible apply wpl_storeRH row_line); (· rfl); (· rfl); (· rfl); (· with_reducible exact line_cells ..); (· exact H); (· (repeat (first | (with_reducible exact List.mem_cons_self) | with_reducible apply List.mem_cons_of_mem))); (· (simp only [line_sz, Nat.reduceAdd, Nat.reduceLeDiff, Nat.le_refl]; done)); (· with_reducible exact line_splice ..); (· (repeat (first | (with_reducible exact Repl.here) | with_reducible apply Repl.there))); (clear H; intro _ H); (simp only [Act.put, List.setIfInBounds_toArray, List.set_cons_zero, List.set_cons_succ])) | ((with_reducible show wpList _ _ _ (_ :: _) _ _); (with_reducible apply wpl_loadCH); (· first | exact cell_party | exact cell_cur); (· rfl); (· rfl); (· exact H); (· (repeat (first | (with_reducible exact List.mem_cons_self) | with_reducible apply List.mem_cons_of_mem))); (· with_reducible first | exact act_g1 .. | exact act_g2 .. | exact act_g3 ..); (simp only [Act.put, List.setIfInBounds_toArray, List.set_cons_zero, List.set_cons_succ])))
        clear A2
        have B1 := AnsH.on H (lroom_H (p := p) (q := q) (S := S2) xa xb xc o1 o2 o3 HG2.out (by (repeat (first | (with_reducible exact List.mem_cons_self) | with_reducible apply List.mem_cons_of_mem))) (by (repeat (first | (with_reducible exact List.mem_cons_self) | with_reducible apply List.mem_cons_of_mem))))
        have B2 := AnsH.on H (rroom_H (p := rp) (S := S2) xa xb xc HG2.out ⟨ra2, rn2, rc2, rb2, rm2, rd2, HL2.out.1, HL2.out.2, by (repeat (first | (with_reducible exact List.mem_cons_self) | with_reducible apply List.mem_cons_of_mem)), by (repeat (first | (with_reducible exact List.mem_cons_self) | with_reducible apply List.mem_cons_of_mem)), by (repeat (first | (with_reducible exact List.mem_cons_self) | with_reducible apply List.mem_cons_of_mem))⟩ o1 o2 o3)
        have B3 := AnsH.on H (lpos_H (p := p) (q := q) (S := S2) xa xc HG2.out (.there (.there .here)) (.there (.there .here)))
        have B4 := AnsH.on H (rpos_H (p := rp) (S := S2) xa xc HG2.out ⟨ra2, rn2, rc2, rb2, rm2, rd2, HL2.out.1, HL2.out.2, by (repeat (first | (with_reducible exact List.mem_cons_self) | with_reducible apply List.mem_cons_of_mem)), by (repeat (first | (with_reducible exact List.mem_cons_self) | with_reducible apply List.mem_cons_of_mem)), by (repeat (first | (with_reducible exact List.mem_cons_self) | with_reducible apply List.mem_cons_of_mem))⟩)
        have B5 := AnsH.on H (ltot_H (p := p) (q := q) (S := S2) xc HG2.out (.there (.there .here)) (.there (.there .here)))
        have B6 := AnsH.on H (rtot_H (p := rp) (S := S2) xc HG2.out ⟨ra2, rn2, rc2, rb2, rm2, rd2, HL2.out.1, HL2.out.2, by (repeat (first | (with_reducible exact List.mem_cons_self) | with_reducible apply List.mem_cons_of_mem)), by (repeat (first | (with_reducible exact List.mem_cons_self) | with_reducible apply List.mem_cons_of_mem)), by (repeat (first | (with_reducible exact List.mem_cons_self) | with_reducible apply List.mem_cons_of_mem))⟩)
        have B7 := AnsH.on H (lhas_H (p := p) (q := q) (P := S2.P) xa o1 (by (repeat (first | (with_reducible exact List.mem_cons_self) | with_reducible apply List.mem_cons_of_mem))) HG2.out.par1)
        have B8 := AnsH.on H (rhasM (p := rp) (S := S2) HG2.out ⟨ra2, rn2, rc2, rb2, rm2, rd2, HL2.out.1, HL2.out.2, by (repeat (first | (with_reducible exact List.mem_cons_self) | with_reducible apply List.mem_cons_of_mem)), by (repeat (first | (with_reducible exact List.mem_cons_self) | with_reducible apply List.mem_cons_of_mem)), by (repeat (first | (with_reducible exact List.mem_cons_self) | with_reducible apply List.mem_cons_of_mem))⟩ xa)
        rw [show decide ((xa : Int) ∈ S2.P) = hasP S2.P (xa : Int) from rfl] at B8
        generalize ht1 : roomOf S2 (xa : Int) (xb : Int) (xc : Int) = t1 at *
        clear ht1
        generalize ht2 : posL S2.L (xa : Int) (xc : Int) = t2 at *
        clear ht2
        generalize ht3 : totL S2.L (xc : Int) = t3 at *
        clear ht3
        generalize ht4 : hasP S2.P (xa : Int) = t4 at *
        clear ht4
        have q1 : (t1 != t1) = false := by simp
        have q2 : (t2 != t2) = false := by simp
        have q3 : (t3 != t3) = false := by simp
        have q4 : (t4 != t4) = false := by cases t4 <;> rfl
        have q5 : (ib != ib) = false := by cases ib <;> rfl
        have he : lineSame x1 y1 z1 ll dd x1 y1 z1 ll dd = true := by simp [lineSame]
        refine wp_region_H H (by kernel_rfl) (by kernel_rfl) ?_
        repeat (first | go_big_quiet_skip | (first | ((with_reducible apply wpQ_loadRH row_line); (· rfl); (· rfl); (· (repeat (first | (with_reducible exact List.mem_cons_self) | with_reducible apply List.mem_cons_of_mem))); (· (simp only [line_sz, Nat.reduceAdd, Nat.reduceLeDiff, Nat.le_refl]; done)); (· with_reducible exact line_all ..); (simp only [Act.put, List.setIfInBounds_toArray, List.set_cons_zero, List.set_cons_succ])) | ((with_reducible apply wpQ_neqL0); (· rfl); (· rfl); (· rfl); (· exact he); (simp only [Act.put, List.setIfInBounds_toArray, List.set_cons_zero, List.set_cons_succ])) | ((with_reducible apply wpQ_loadCH); (· first | exact cell_party | exact cell_cur); (· rfl); (· rfl); (· (repeat (first | (with_reducible exact List.mem_cons_self) | with_reducible apply List.mem_cons_of_mem))); (· with_reducible first | exact act_g1 .. | exact act_g2 .. | exact act_g3 ..); (simp only [Act.put, List.setIfInBounds_toArray, List.set_cons_zero, List.set_cons_succ]))) | go_big_quiet_step ((with_reducible first | exact AnsH.quiet (by assumption) | exact Ans.quietH (by assumption))))
        refine wpQuiet_nil ?_
        clear H
        intro _ H
        clear B1 B2 B3 B4 B5 B6 B7 B8 q1 q2 q3 q4 q5 he
        go_wp2_with (go_skip)
        refine ⟨⟨k + 1, S2, X, by omega, by go_num, HG2.out, HX.out, ra2, rn2, rc2, rb2, rm2, rd2, HL2.out.1, HL2.out.2, H.tail.tail.drop (.there (.there (.there (.there (.there .here)))))⟩, ?measureN⟩
        case measureN => simp [intOf]; omega
    · obtain rfl : k = an := by omega
      rcases HX.out with ⟨rfl, rfl, rfl⟩ | ⟨cp, cq, crp, S1, ca, cb, cn, cc, cm, cd, rfl, rfl, hg1, hl3, hl4, rfl⟩
      · clear HX
        go_wp2_with (go_skip)
        replace H := H.cut5
        have SM := AnsH.on H (sameLed_A (p := p) (q := q) (rp := rp) HG.out .here .here ⟨ra, rn, rc, rb, rm, rd, HLR.out.1, HLR.out.2, by (repeat (first | (with_reducible exact List.mem_cons_self) | with_reducible apply List.mem_cons_of_mem)), by (repeat (first | (with_reducible exact List.mem_cons_self) | with_reducible apply List.mem_cons_of_mem)), by (repeat (first | (with_reducible exact List.mem_cons_self) | with_reducible apply List.mem_cons_of_mem))⟩)
        go_wp2_with (go_skip)
        refine (Book.pars (ps := []) HG.out (Book.new (H.alloc #[.slice none 0 0] 60))).mono ?_
        clear H
        rintro e w6 ⟨a3, rfl, B⟩
        go_wp2_with (go_skip)
        refine (lay_Pa _ _ a3 _ _ (by simp) B).mono ?_
        clear B
        rintro e w7 ⟨rfl, p1, B⟩
        go_wp2_with (go_skip)
        refine (B.pars HG.out).mono ?_
        clear B
        rintro e w8 ⟨a4, rfl, B⟩
        go_wp2_with (go_skip)
        refine (lay_Pa _ _ a4 _ _ (by simp) B).mono ?_
        clear B
        rintro e w9 ⟨rfl, p2, B⟩
        go_wp2_with (go_skip)
        refine (B.lins HG.out).mono ?_
        clear B
        rintro e w10 ⟨a5, c5, rfl, B⟩
        go_wp2_with (go_skip)
        refine (lay_Ln _ _ a5 _ _ (by simp) B).mono ?_
        clear B
        rintro e w11 ⟨rfl, p3, B⟩
        go_wp2_with (go_skip)
        refine (B.lins HG.out).mono ?_
        clear B
        rintro e w12 ⟨a6, c6, rfl, B⟩
        go_wp2_with (go_skip)
        refine (lay_Ln _ _ a6 _ _ (by simp) B).mono ?_
        clear B
        rintro e w13 ⟨rfl, p4, B⟩
        have H := Heap.start w
        go_wp2_with (go_skip)
        clear H
        refine (Book.apart B (by simp)).mono ?_
        clear B
        rintro e w14 ⟨rfl, H⟩
        go_wp2_with (first | go_skip | ((with_reducible refine AnsH.call (by assumption) H ?_); clear H; intro _ H) | ((refine (lives03_H H).mono ?_); clear H; rintro _ _ ⟨rfl, H⟩))
        go_ret
        exact ⟨rfl, H.low⟩
      · have S0 := AnsH.on H (sameLed_A (p := cp) (q := cq) (rp := crp) (S := S1) hg1 (.there (.there (.there (.there (.there (.there (.there (.there .here)))))))) (.there (.there (.there (.there (.there (.there (.there (.there .here)))))))) ⟨ca, cn, cc, cb, cm, cd, hl3, hl4, by (repeat (first | (with_reducible exact List.mem_cons_self) | with_reducible apply List.mem_cons_of_mem)), by (repeat (first | (with_reducible exact List.mem_cons_self) | with_reducible apply List.mem_cons_of_mem)), by (repeat (first | (with_reducible exact List.mem_cons_self) | with_reducible apply List.mem_cons_of_mem))⟩)
        clear HX hg1 hl3 hl4
        go_wp2_with (first | go_skip | ((with_reducible refine AnsH.call (by assumption) H ?_); clear H; intro _ H))
        clear S0
        replace H := H.cut5
        have SM := AnsH.on H (sameLed_A (p := p) (q := q) (rp := rp) HG.out .here .here ⟨ra, rn, rc, rb, rm, rd, HLR.out.1, HLR.out.2, by (repeat (first | (with_reducible exact List.mem_cons_self) | with_reducible apply List.mem_cons_of_mem)), by (repeat (first | (with_reducible exact List.mem_cons_self) | with_reducible apply List.mem_cons_of_mem)), by (repeat (first | (with_reducible exact List.mem_cons_self) | with_reducible apply List.mem_cons_of_mem))⟩)
        go_wp2_with (go_skip)
        refine (Book.pars (ps := []) HG.out (Book.new (H.alloc #[.slice none 0 0] 60))).mono ?_
        clear H
        rintro e w6 ⟨a3, rfl, B⟩
        go_wp2_with (go_skip)
        refine (lay_Pa _ _ a3 _ _ (by simp) B).mono ?_
        clear B
        rintro e w7 ⟨rfl, p1, B⟩
        go_wp2_with (go_skip)
        refine (B.pars HG.out).mono ?_
        clear B
        rintro e w8 ⟨a4, rfl, B⟩
        go_wp2_with (go_skip)
        refine (lay_Pa _ _ a4 _ _ (by simp) B).mono ?_
        clear B
        rintro e w9 ⟨rfl, p2, B⟩
        go_wp2_with (go_skip)
        refine (B.lins HG.out).mono ?_
        clear B
        rintro e w10 ⟨a5, c5, rfl, B⟩
        go_wp2_with (go_skip)
        refine (lay_Ln _ _ a5 _ _ (by simp) B).mono ?_
        clear B
        rintro e w11 ⟨rfl, p3, B⟩
        go_wp2_with (go_skip)
        refine (B.lins HG.out).mono ?_
        clear B
        rintro e w12 ⟨a6, c6, rfl, B⟩
        go_wp2_with (go_skip)
        refine (lay_Ln _ _ a6 _ _ (by simp) B).mono ?_
        clear B
        rintro e w13 ⟨rfl, p4, B⟩
        have H := Heap.start w
        go_wp2_with (go_skip)
        clear H
        refine (Book.apart B (by simp)).mono ?_
        clear B
        rintro e w14 ⟨rfl, H⟩
        go_wp2_with (first | go_skip | ((with_reducible refine AnsH.call (by assumption) H ?_); clear H; intro _ H) | ((refine (lives03_H H).mono ?_); clear H; rintro _ _ ⟨rfl, H⟩))
        go_ret
        exact ⟨rfl, H.low⟩
theorem ledgersPlay_law (v0 : Value) (w : World) (o0 : ActsV w v0) : Calls Try.prog 6 #[v0] w fun e w' => e = .returned (.bool true) ∧ Below w.heap.size w w' := by
  obtain ⟨a, n, c, F, rfl, o0⟩ := o0
  by_cases hn : n ≤ 120
  · exact ledgersPlay_main w a n c F o0.len hn o0.ok o0.rd
  · exact ledgersPlay_great w a n c (by omega) (Nat.le_trans o0.cap o0.max)
end
end Go.Proofs.Ytacglcpjbepfnaa

/- LedgersPlay: the statement, out of its walk. -/
namespace Go.Proofs.Ytacglcpjbepfnaa.ledgersPlay
open Go Go.ChangeShapes Go.WideShapes Go.ChangeAt Go.RowKit
set_option linter.unusedVariables false
theorem own : ownKnob Try.prog.godebug = none := by kernel_rfl
theorem laidOut : laidOutB Try.prog = true := by kernel_rfl
set_option maxRecDepth 100000 in
set_option maxHeartbeats 1000000 in
theorem lifted (os : Os) (started : os.Started) (H : Type) (enc : TypeId × Value → H) :
    ReturnsInHanded {} Try.checked os 6 .any (Rows.ledgersPlaySpec.pre6 enc Try.prog Try.f6 Rows.ledgersPlayRow.domain false) (Rows.ledgersPlaySpec.post enc Try.prog Try.f6 false true false false) := by
  refine returnsInHanded_of_change (C := Try.checked) own started (by kernel_rfl) Try.func6
    (ChangeSpec.witness6 (enc := enc) (C := Try.checked) false ⟨#[], #[.slice none 0 0], []⟩ 8 (by kernel_rfl) (by kernel_rfl) (by kernel_rfl) (by kernel_rfl)) ?_
  intro W base args ds gs before hval0 hW hcnd _
  have hval : ∀ (j : Nat) t v, Try.f6.params[j]? = some t → args[j]? = some v → Value.okWide Try.prog W .any base t v := hval0
  have hW' := hW
  obtain ⟨p, q, hA0, hV, rfl, hfz, hnd⟩ := hW
  have hA : DataW.TrodAll enc Try.prog W 0 (fun _ => true) true Try.f6.params.toList args.toList ds p := hA0
  rw [Try.params6] at hA hval
  obtain ⟨v0, vs0, d0, ds0, p0, q0, hargs, rfl, rfl, h0, r0⟩ := trodAll_cons hA
  obtain ⟨rfl, rfl, rfl⟩ := trodAll_nil r0
  obtain rfl : args = #[v0] := by cases args; simp_all
  obtain ⟨rfl, rfl⟩ := trodVars_none hV
  have k0 := h0
  have lt0 : ∀ x ∈ p0, x.block < W.heap.size := by obtain ⟨m, hm⟩ := k0; exact DataW.trod_lt m _ _ _ hm
  have o0 := open_actsV (hval 0 22 v0 rfl rfl) h0
  clear hA0 hval0
  refine (ledgersPlay_law v0 W o0).mono fun e W' ⟨he, bel⟩ => ?_
  subst he
  exact ⟨_, rfl, _, _, _, [], _, [], hW', trodAll_mk1 (shut_bool Try.underlying4 _), (trodAll_cons_mk (Below.trod laidOut (by kernel_rfl) (of_decide_eq_true (by kernel_rfl)) k0 bel lt0) trodAll_mk0), rfl, bel.frame _, fun h => by cases h⟩

theorem holds : Rows.LedgersPlaySaid :=
  OpenClaim.holds_of_wide 6 Try.f6 rfl rfl rfl rfl rfl rfl rfl ⟨rfl, rfl, rfl, rfl, rfl⟩ rfl rfl rfl rfl rfl (by kernel_rfl) Try.func6 (by kernel_rfl)
    (of_decide_eq_true (by kernel_rfl)) (by unfold Func.isWrapper; first | (rw [if_pos (by decide +kernel)]; kernel_rfl) | (rw [if_neg (by decide +kernel)]; exact ⟨rfl, rfl⟩))
    (fun os started H enc _ => lifted os started H enc)
theorem proved : Rows.LedgersPlaySaid := holds
#print axioms proved
end Go.Proofs.Ytacglcpjbepfnaa.ledgersPlay
