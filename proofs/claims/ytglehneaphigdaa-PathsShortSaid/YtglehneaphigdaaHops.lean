/- paths.hops: distances by breadth. -/
import Derived.Test.YtglehneaphigdaaGraph4
import Derived.Test.YtglehneaphigdaaHeapSlide
import Derived.Test.YtglehneaphigdaaBfs
import Derived.Deep.LoopGhost
namespace Go.Proofs.Ytglehneaphigdaa
open Go.RowKit
set_option linter.unusedSimpArgs false
set_option linter.unusedVariables false
theorem cell_int : CellTy 3 := ⟨⟨_, Try.underlying3, rfl⟩, by kernel_rfl⟩
theorem slP : SlTy Try.prog 67 33 1 1 (.int .u8 0) := slTy_mk Try.underlying67 (by kernel_rfl) rfl (by decide)
theorem bs_party : Try.prog.underlying 67 = some (.slice 33) ∧ (Try.prog.info? 33).map (fun i => (i.size, i.zero)) = some (1, some (.int .u8 0)) := ⟨Try.underlying67, by kernel_rfl⟩
theorem row_17i : RowTy 74 17 (row17 fun _ => 0) := ⟨⟨_, Try.underlying74, rfl⟩, by kernel_rfl, by kernel_rfl⟩
theorem row17_get (r : Nat → Int) {i : Nat} (h : i < 17) : (row17 r)[i]? = some (.int .i64 (r i)) := tab_get _ h
theorem row17_set (r : Nat → Int) {i : Nat} (h : i < 17) (v : Int) : (row17 r).setIfInBounds i (.int .i64 v) = row17 (updN r i v) := by
  unfold row17
  rw [tab_set _ _ h]
  apply tab_congr
  intro j hj
  unfold updN
  split <;> rfl
theorem row17_ext {r s : Nat → Int} (h : ∀ i, i < 17 → r i = s i) : row17 r = row17 s := by
  unfold row17
  exact tab_congr fun i hi => by rw [h i hi]
/-- The distances' cells. -/
def dist17 (d : Nat → Nat) : Array Value := row17 fun i => (d i : Int)
theorem dist17_sz (d : Nat → Nat) : (dist17 d).size = 17 := row17_sz _
theorem dist17_get (d : Nat → Nat) {i : Nat} (h : i < 17) : (dist17 d)[i]? = some (.int .i64 (d i : Int)) := row17_get _ h
theorem dist17_upd (d : Nat → Nat) (k v : Nat) : row17 (updN (fun i => (d i : Int)) k (v : Int)) = dist17 (updN d k v) := by
  unfold dist17
  apply row17_ext
  intro i _
  unfold updN
  split <;> rfl
theorem dist17_set (d : Nat → Nat) {k : Nat} (h : k < 17) (a : Nat) : (dist17 d).setIfInBounds k (.int .i64 ((d a : Int) + 1)) = dist17 (updN d k (d a + 1)) := by
  unfold dist17
  rw [row17_set _ h, show ((d a : Int) + 1) = ((d a + 1 : Nat) : Int) by omega]
  exact dist17_upd _ _ _
theorem dist17_all (d : Nat → Nat) : (dist17 d).extract 0 (0 + 17) = dist17 d := row17_all _
def pv (p : Nat) : Value := .int .u8 (p : Int)
theorem pv_ones (p : Nat) : ∀ v ∈ [Value.int .u8 (p : Int)], v.cells = #[v] := by intro v hv; simp at hv; subst hv; rfl
theorem pv_one (p : Nat) : OneCells [Value.int .u8 (p : Int)] := by intro v hv; simp at hv; subst hv; rfl
/-- May something go from p to q? -/
def edge (c : Caps) (p q : Nat) : Bool := decide (0 < capOf c p q)
theorem edge_le {c : Caps} {p q : Nat} (h : edge c p q = true) : (1 ≤ p ∧ p ≤ 16) ∧ 1 ≤ q ∧ q ≤ 16 := by
  unfold edge capOf at h
  by_cases hm : mayP p ∧ mayP q
  · exact ⟨mayP_true hm.1, mayP_true hm.2⟩
  · rw [if_neg hm] at h; simp at h
theorem dist17_cells (d : Nat → Nat) : Cells 17 (dist17 d) := row17_cells _
theorem dist17_splice (r : Nat → Int) (d : Nat → Nat) : splice (row17 r) 0 (dist17 d) = dist17 d := splice_all (by rw [row17_sz, dist17_sz])
/-- What a graph's value (nil too) has, whatever else there is. -/
def CapsOf (W : World) (l : List Thing) (gv : Value) (c : Caps) : Prop := ∀ (l' : List Thing) (a b : Nat), (∀ x ∈ l, x ∈ l') → a ≤ 255 → b ≤ 255 → AnsH W l' 21 #[gv, .int .u8 (a : Int), .int .u8 (b : Int)] (.int .i64 (capOf c a b))
theorem CapsOf.gr {W : World} {l : List Thing} {p : Nat} {c : Caps} (h : Gr p c ∈ l) : CapsOf W l (.pointer (some ⟨p, 0, none⟩)) c := fun _ a b hs ha hb => cap_H a b ha hb (hs _ h)
theorem CapsOf.nil {W : World} {l : List Thing} : CapsOf W l (.pointer none) (fun _ _ => 0) := fun l' a b _ ha hb => by
  have e : capOf (fun _ _ => 0) a b = 0 := by unfold capOf; split <;> rfl
  rw [e]
  exact (cap_nil a b ha hb).toH
theorem CapsOf.wide {W : World} {l l' : List Thing} {gv : Value} {c : Caps} (h : CapsOf W l gv c) (hs : ∀ x ∈ l, x ∈ l') : CapsOf W l' gv c := fun _ a b h2 ha hb => h _ a b (fun x hx => h2 x (hs x hx)) ha hb
theorem cap_call {W w : World} {l l' : List Thing} {gv : Value} {c : Caps} {a b : Nat} {R : Ending → World → Prop} (h : CapsOf W l gv c) (H : Heap W l' w) (ha : a ≤ 255) (hb : b ≤ 255) (hs : ∀ x ∈ l, x ∈ l') (k : ∀ w', Heap W l' w' → R (.returned (.int .i64 (capOf c a b))) w') : Calls Try.prog 21 #[gv, .int .u8 (a : Int), .int .u8 (b : Int)] w R := (h l' a b hs ha hb).call H k
theorem capOf_zero (c : Caps) (q : Nat) : capOf c 0 q = 0 := by
  unfold capOf
  rw [if_neg]
  rintro ⟨h, _⟩
  have := mayP_true h
  omega
theorem edge_yes {c : Caps} {p q : Nat} (h : 0 < capOf c p q) : edge c p q = true := by simp [edge, h]
theorem edge_no {c : Caps} {p q : Nat} (h : ¬ 0 < capOf c p q) : edge c p q = false := by simp only [edge, h]; rfl
theorem Rd.head {w : World} {g o : Nat} {v : Value} {xs : List Value} (h : Rd w (some ⟨g, o, none⟩) (v :: xs)) : w.cell? ⟨g, o, none⟩ = some v := by
  obtain ⟨b, o', he, hc⟩ := h 0 (by simp)
  cases he
  exact hc
theorem OwnT.form0 {w : World} {e size n : Nat} {v : Value} {xs : List Value} (h : (OwnT e size v n xs).ok w) : ∃ a c, v = .slice a n c := by
  obtain ⟨_, ⟨hv, hn⟩ | ⟨g, off, cap, cur, hv, _⟩⟩ := h
  · exact ⟨none, 0, by rw [hv, hn]⟩
  · exact ⟨_, _, hv⟩
/-- Amid the round of a: what stands ahead of party k. -/
structure HopsIn (W : World) (l : List Thing) (c : Caps) (t pr po a m : Nat) (v i : Value) (w2 : World) : Prop where
  out : ∃ k d Q, i = .int .u8 ((k : Nat) : Int) ∧ 1 ≤ k ∧ k ≤ 17 ∧ BfsIn (edge c) t d Q a k ∧ 2 * und d + Q.length + 1 ≤ m ∧ Heap W (OwnT 33 1 v Q.length (Q.map pv) :: Cel po (dist17 d) 74 :: Cel pr (row17 fun _ => 0) 74 :: l) w2
def HopsPost (W : World) (l : List Thing) (c : Caps) (t : Nat) (e : Ending) (w' : World) : Prop := ∃ d, IsDist (edge c) t d ∧ e = .returned (.agg (dist17 d)) ∧ Heap W l w'
section
variable {W w : World} {l : List Thing} {gv : Value} {c : Caps}
set_option maxRecDepth 100000
set_option maxHeartbeats 2000000
theorem hops_H (t : Nat) (h1 : 1 ≤ t) (h2 : t ≤ 16) (h : CapsOf W l gv c) (H : Heap W l w) : Calls Try.prog 64 #[gv, .int .u8 (t : Int)] w (HopsPost W l c t) := by
  have ht : t < 17 := by omega
  go_enter Try.func64, Try.ntmps64
  have tok1 : True := trivial
  go_wp2_with (first | go_skip | (have _t := tok1; ((with_reducible show wpList _ _ _ (_ :: _) _ _); (with_reducible apply wpl_allocRH row_17i); (· rfl); (· exact H); (clear H; intro pr _ H); (simp only [Act.put, List.setIfInBounds_toArray, List.set_cons_zero, List.set_cons_succ])); clear tok1 _t) | ((with_reducible show wpList _ _ _ (_ :: _) _ _); (with_reducible apply wpl_allocRH row_17i); (· rfl); (· exact H); (clear H; intro po _ H); (simp only [Act.put, List.setIfInBounds_toArray, List.set_cons_zero, List.set_cons_succ])))
  go_loopw [10] (fun i wr => ∃ k : Nat, k ≤ 17 ∧ i = .int .i64 k ∧ Heap W (Cel po (row17 fun i => if i < k then 17 else 0) 74 :: Cel pr (row17 fun _ => 0) 74 :: l) wr) (fun i _ => 17 - (intOf i).toNat)
  case atStart => exact ⟨0, by omega, rfl, by simpa using H⟩
  case round =>
    obtain ⟨k, hk, rfl, H'⟩ := hrel
    clear H
    have H := H'
    clear H'
    by_cases hlt : k < 17
    · go_wp2_with (first | go_skip | ((with_reducible show wpList _ _ _ (_ :: _) _ _); (with_reducible apply wpl_storeIH); (· exact cell_int); (· rfl); (· rfl); (· rfl); (· exact H); (· (repeat (first | (with_reducible exact List.mem_cons_self) | with_reducible apply List.mem_cons_of_mem))); (· (rw [row17_sz]; omega)); (· exact row17_set _ hlt _); (· (repeat (first | (with_reducible exact Repl.here) | with_reducible apply Repl.there))); (clear H; intro _ H); (simp only [Act.put, List.setIfInBounds_toArray, List.set_cons_zero, List.set_cons_succ])))
      go_roundw
      case rel =>
        refine ⟨k + 1, by omega, by go_num, ?_⟩
        have e : row17 (updN (fun i => if i < k then (17 : Int) else 0) k 17) = row17 fun i => if i < k + 1 then 17 else 0 := by
          apply row17_ext
          intro i hi
          unfold updN
          by_cases e1 : i = k
          · subst e1; simp
          · by_cases e2 : i < k
            · have e3 : i < k + 1 := by omega
              simp [e1, e2, e3]
            · have e3 : ¬ i < k + 1 := by omega
              simp [e1, e2, e3]
        rw [← e]
        exact H
      case measure => simp [intOf]; omega
    · obtain rfl : k = 17 := by omega
      rw [show row17 (fun i => if i < 17 then (17 : Int) else 0) = dist17 farN from row17_ext fun i hi => by rw [if_pos hi]; rfl] at H
      unfold dist17 at H
      go_wp2_with (first
        | go_skip
        | ((with_reducible show wpList _ _ _ (_ :: _) _ _); (with_reducible apply wpl_storeIH); (· exact cell_int); (· rfl); (· rfl); (· rfl); (· exact H); (· (repeat (first | (with_reducible exact List.mem_cons_self) | with_reducible apply List.mem_cons_of_mem))); (· (rw [row17_sz]; omega)); (· exact row17_set _ ht _); (· (repeat (first | (with_reducible exact Repl.here) | with_reducible apply Repl.there))); (clear H; intro _ H); (simp only [Act.put, List.setIfInBounds_toArray, List.set_cons_zero, List.set_cons_succ]))
        | ((with_reducible show wpList _ _ _ (_ :: _) _ _); (with_reducible apply wpl_bsOnes _ [.int .u8 (t : Int)]); (· rfl); (· rfl); (· rfl); (· decide); (· decide); (· exact pv_ones t); (· exact bs_party); (· rfl); (· exact H); (clear H; intro pq _ H); (simp only [Act.put, List.setIfInBounds_toArray, List.set_cons_zero, List.set_cons_succ])))
      have H0 := H.celOwn (n := 1) (size := 1) rfl (by unfold maxLen; omega)
      clear H
      rw [show (updN (fun i => ((farN i : Nat) : Int)) t 0) = (updN (fun i => ((farN i : Nat) : Int)) t ((0 : Nat) : Int)) from rfl, dist17_upd] at H0
      have hst := Bfs.start (A := edge c) h1 h2
      go_loopg [7] 33 (fun m v wr => ∃ d Q, Bfs (edge c) t d Q ∧ 2 * und d + Q.length ≤ m ∧ m ≤ 33 ∧ Heap W (OwnT 33 1 v Q.length (Q.map pv) :: Cel po (dist17 d) 74 :: Cel pr (row17 fun _ => 0) 74 :: l) wr)
      case atStart => exact ⟨_, [t], hst, by have := und_le (updN farN t 0); simp; omega, by omega, H0⟩
      case round =>
        obtain ⟨d, Q, hB, hm, hm33, H'⟩ := hrel
        clear H0 hst
        have H := H'
        clear H'
        cases Q with
        | nil =>
          have hlen : ∃ a c, u7 = .slice a 0 c := OwnT.form0 (H.ok _ List.mem_cons_self)
          obtain ⟨ao, cp, rfl⟩ := hlen
          replace H := H.tail
          go_wp2_with (first
            | go_skip
            | ((with_reducible show wpList _ _ _ (_ :: _) _ _); (with_reducible apply wpl_loadRH row_17i); (· rfl); (· rfl); (· exact H); (· (repeat (first | (with_reducible exact List.mem_cons_self) | with_reducible apply List.mem_cons_of_mem))); (· (simp only [dist17_sz, Nat.reduceAdd, Nat.reduceLeDiff, Nat.le_refl]; done)); (· with_reducible exact dist17_all ..); (simp only [Act.put, List.setIfInBounds_toArray, List.set_cons_zero, List.set_cons_succ]))
            | ((with_reducible show wpList _ _ _ (_ :: _) _ _); (with_reducible apply wpl_storeRH row_17i); (· rfl); (· rfl); (· rfl); (· with_reducible exact dist17_cells ..); (· exact H); (· (repeat (first | (with_reducible exact List.mem_cons_self) | with_reducible apply List.mem_cons_of_mem))); (· (simp only [row17_sz, Nat.reduceAdd, Nat.reduceLeDiff, Nat.le_refl]; done)); (· with_reducible exact dist17_splice ..); (· (repeat (first | (with_reducible exact Repl.here) | with_reducible apply Repl.there))); (clear H; intro _ H); (simp only [Act.put, List.setIfInBounds_toArray, List.set_cons_zero, List.set_cons_succ])))
          exact ret_row1H row_17i rfl rfl rfl H (by (repeat (first | (with_reducible exact List.mem_cons_self) | with_reducible apply List.mem_cons_of_mem))) (dist17_sz _) ⟨d, hB.dist, rfl, H.tail.tail⟩
        | cons a Q' =>
          have hlenQ : (a :: Q').length = Q'.length + 1 := rfl
          obtain ⟨g, o, cp, rfl, hnc, hcm⟩ := OwnT.form (H.ok _ List.mem_cons_self) (by simp)
          have ha17 : d a < 17 := hB.qd a List.mem_cons_self
          have hap := hB.ins a ha17
          have hc0 : wr.cell? ⟨g, o, none⟩ = some (.int .u8 (a : Int)) := (H.ownRd List.mem_cons_self).head
          have hap17 : a < 17 := by omega
          have hn1' : 1 ≤ (a :: Q').length := by simp
          go_wp2_with (first
            | go_skip
            | ((with_reducible show wpList _ _ _ (_ :: _) _ _); (with_reducible apply wpl_loadCell cell_party); (· rfl); (· rfl); (· exact hc0); (simp only [Act.put, List.setIfInBounds_toArray, List.set_cons_zero, List.set_cons_succ]))
            | ((with_reducible show wpList _ _ _ (_ :: _) _ _); (with_reducible apply wpl_cut1 slP); (· rfl); (· rfl); (· exact hn1'); (simp only [Act.put, List.setIfInBounds_toArray, List.set_cons_zero, List.set_cons_succ])))
          have hpop := hB.pop (show edge c 0 a = false from edge_no (by rw [capOf_zero]; omega))
          have H0 := H.ownTail hn1'
          clear H
          have H0' : Heap W (OwnT 33 1 (.slice (cutA (some ⟨g, o, none⟩) cp 1 1) ((a :: Q').length - 1) (cp - 1)) Q'.length (Q'.map pv) :: Cel po (dist17 d) 74 :: Cel pr (row17 fun _ => 0) 74 :: l) wr := H0
          clear H0
          have hm' : 2 * und d + Q'.length + 1 ≤ gk := by rw [hlenQ] at hm; omega
          clear hm hB
          go_loopw [7, 9] (HopsIn W l c t pr po a gk) (fun _ i _ => 17 - (intOf i).toNat)
          case atStart => exact ⟨⟨1, d, Q', rfl, by omega, by omega, hpop, hm', H0'⟩⟩
          case round =>
            obtain ⟨k, d2, Q2, rfl, hk1, hk17, hI, hm2, H'⟩ := hrel.out
            clear H0' hpop hm' hc0
            have H := H'
            clear H'
            by_cases hlt : k < 17
            · have hka : k ≤ 255 := by omega
              have haa : a ≤ 255 := by omega
              have hd17 := hI.le k
              have hda := hI.ad
              have hQn : Q2.length + 1 ≤ maxLen := by unfold maxLen; omega
              have hQb : (Q2.length + 1) * 1 ≤ 140737488355328 := by omega
              by_cases hd : d2 k = 17
              · have f1 : ((d2 k : Int) == 17) = true := by rw [hd]; rfl
                have f2 : decide ((d2 k : Int) = 17) = true := by rw [hd]; rfl
                by_cases hA : 0 < capOf c k a
                · have HI := Lib.hid (hI.yes hd (edge_yes hA) hk1 (by omega))
                  clear hI
                  go_wp2_with (first
                    | go_skip
                    | ((with_reducible show wpList _ _ _ (_ :: _) _ _); (with_reducible apply wpl_loadCH); (· exact cell_int); (· rfl); (· rfl); (· exact H); (· (repeat (first | (with_reducible exact List.mem_cons_self) | with_reducible apply List.mem_cons_of_mem))); (· (first | exact dist17_get _ hlt | exact dist17_get _ hap17)); (simp only [Act.put, List.setIfInBounds_toArray, List.set_cons_zero, List.set_cons_succ]))
                    | ((with_reducible apply cap_call h H); (· exact hka); (· exact haa); (· exact fun x hx => List.mem_cons_of_mem _ (List.mem_cons_of_mem _ (List.mem_cons_of_mem _ hx))); (clear H; intro _ H))
                    | ((with_reducible show wpList _ _ _ (_ :: _) _ _); (with_reducible apply wpl_storeIH); (· exact cell_int); (· rfl); (· rfl); (· rfl); (· exact H); (· (repeat (first | (with_reducible exact List.mem_cons_self) | with_reducible apply List.mem_cons_of_mem))); (· (rw [dist17_sz]; omega)); (· exact dist17_set _ hlt _); (· (repeat (first | (with_reducible exact Repl.here) | with_reducible apply Repl.there))); (clear H; intro _ H); (simp only [Act.put, List.setIfInBounds_toArray, List.set_cons_zero, List.set_cons_succ]))
                    | ((with_reducible show wpList _ _ _ (_ :: _) _ _); (with_reducible apply wpl_bsOnes _ [.int .u8 (k : Int)]); (· rfl); (· rfl); (· rfl); (· decide); (· decide); (· exact pv_ones k); (· exact bs_party); (· rfl); (· exact H); (clear H; intro pk _ H); (simp only [Act.put, List.setIfInBounds_toArray, List.set_cons_zero, List.set_cons_succ]))
                    | ((with_reducible show wpList _ _ _ (_ :: _) _ _); (with_reducible apply wpl_appendO slP); (· rfl); (· rfl); (· rfl); (· rfl); (· exact H.perm (.swap _ _ _)); (· exact H.celRd List.mem_cons_self); (· rfl); (· exact pv_one k); (· exact hQn); (· exact hQb); (clear H; intro v2 _ H); (simp only [Act.put, List.setIfInBounds_toArray, List.set_cons_zero, List.set_cons_succ])))
                  go_roundw
                  case rel =>
                    refine ⟨⟨k + 1, _, Q2 ++ [k], by go_num, by omega, by omega, HI.out.1, by have := HI.out.2; simp only [List.length_append, List.length_singleton]; omega, ?_⟩⟩
                    have H2 := H.drop (.there .here)
                    rw [List.length_append, List.map_append]
                    exact H2
                  case measure => simp [intOf]; omega
                · have HI := Lib.hid (hI.no (by rw [edge_no hA]; simp))
                  clear hI
                  go_wp2_with (first
                    | go_skip
                    | ((with_reducible show wpList _ _ _ (_ :: _) _ _); (with_reducible apply wpl_loadCH); (· exact cell_int); (· rfl); (· rfl); (· exact H); (· (repeat (first | (with_reducible exact List.mem_cons_self) | with_reducible apply List.mem_cons_of_mem))); (· (first | exact dist17_get _ hlt | exact dist17_get _ hap17)); (simp only [Act.put, List.setIfInBounds_toArray, List.set_cons_zero, List.set_cons_succ]))
                    | ((with_reducible apply cap_call h H); (· exact hka); (· exact haa); (· exact fun x hx => List.mem_cons_of_mem _ (List.mem_cons_of_mem _ (List.mem_cons_of_mem _ hx))); (clear H; intro _ H)))
                  refine ⟨?_, ?measure⟩
                  · (repeat apply Exists.intro)
                    refine ⟨?rel, rfl⟩
                    case rel => exact ⟨⟨k + 1, d2, Q2, by go_num, by omega, by omega, HI.out, hm2, H⟩⟩
                  case measure => simp [intOf]; omega
              · have HI := Lib.hid (hI.no (fun h => hd h.1))
                clear hI
                have f0 : ¬ (d2 k : Int) = 17 := by omega
                have f1 : ((d2 k : Int) == 17) = false := by simp [f0]
                have f2 : decide ((d2 k : Int) = 17) = false := by simp [f0]
                go_wp2_with (first
                    | go_skip
                    | ((with_reducible show wpList _ _ _ (_ :: _) _ _); (with_reducible apply wpl_loadCH); (· exact cell_int); (· rfl); (· rfl); (· exact H); (· (repeat (first | (with_reducible exact List.mem_cons_self) | with_reducible apply List.mem_cons_of_mem))); (· (first | exact dist17_get _ hlt | exact dist17_get _ hap17)); (simp only [Act.put, List.setIfInBounds_toArray, List.set_cons_zero, List.set_cons_succ]))
                    | ((with_reducible apply cap_call h H); (· exact hka); (· exact haa); (· exact fun x hx => List.mem_cons_of_mem _ (List.mem_cons_of_mem _ (List.mem_cons_of_mem _ hx))); (clear H; intro _ H)))
                go_roundw
                case rel => exact ⟨⟨k + 1, d2, Q2, by go_num, by omega, by omega, HI.out, hm2, H⟩⟩
                case measure => simp [intOf]; omega
            · obtain rfl : k = 17 := by omega
              have HI := Lib.hid (hI.done (fun p q h => (edge_le h).1.2))
              clear hI
              go_wp2_with (go_skip)
              go_roundg (gk - 1)
              case measure => omega
              case rel => exact ⟨d2, Q2, HI.out, by omega, by omega, H⟩
end
end Go.Proofs.Ytglehneaphigdaa
