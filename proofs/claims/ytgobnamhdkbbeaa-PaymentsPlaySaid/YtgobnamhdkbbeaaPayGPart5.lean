/- Part 5 of what several laws stand on: Hops, Ways, Short, Reach, Left, Ref06s. -/
import Derived.Test.YtgobnamhdkbbeaaPayGPart4
import Derived.Deep.LoopGhost
/- paths.hops: distances by breadth. -/
namespace Go.Proofs.Ytgobnamhdkbbeaa
open Go.RowKit
set_option linter.unusedSimpArgs false
set_option linter.unusedVariables false
theorem cell_int : CellTy 3 := ⟨⟨_, Try.underlying3, rfl⟩, by kernel_rfl⟩
theorem slP : SlTy Try.prog 100 30 1 1 (.int .u8 0) := slTy_mk Try.underlying100 (by kernel_rfl) rfl (by decide)
theorem bs_party : Try.prog.underlying 100 = some (.slice 30) ∧ (Try.prog.info? 30).map (fun i => (i.size, i.zero)) = some (1, some (.int .u8 0)) := ⟨Try.underlying100, by kernel_rfl⟩
theorem row_17i : RowTy 141 17 (row17 fun _ => 0) := ⟨⟨_, Try.underlying141, rfl⟩, by kernel_rfl, by kernel_rfl⟩
theorem row17_get (r : Nat → Int) {i : Nat} (h : i < 17) : (row17 r)[i]? = some (.int .i64 (r i)) := tab_get _ h
theorem row17_set (r : Nat → Int) {i : Nat} (h : i < 17) (v : Int) : (row17 r).setIfInBounds i (.int .i64 v) = row17 (updN r i v) := by
  unfold row17
  rw [tab_set _ _ h]
  apply tab_congr
  intro j hj
  unfold updN
  split <;> rfl
theorem row17_ext {r s : Nat → Int} (h : ∀ i, i < 17 → r i = s i) : row17 r = row17 s := by
  unfold row17
  exact tab_congr fun i hi => by rw [h i hi]
/-- The distances' cells. -/
def dist17 (d : Nat → Nat) : Array Value := row17 fun i => (d i : Int)
theorem dist17_sz (d : Nat → Nat) : (dist17 d).size = 17 := row17_sz _
theorem dist17_get (d : Nat → Nat) {i : Nat} (h : i < 17) : (dist17 d)[i]? = some (.int .i64 (d i : Int)) := row17_get _ h
theorem dist17_upd (d : Nat → Nat) (k v : Nat) : row17 (updN (fun i => (d i : Int)) k (v : Int)) = dist17 (updN d k v) := by
  unfold dist17
  apply row17_ext
  intro i _
  unfold updN
  split <;> rfl
theorem dist17_set (d : Nat → Nat) {k : Nat} (h : k < 17) (a : Nat) : (dist17 d).setIfInBounds k (.int .i64 ((d a : Int) + 1)) = dist17 (updN d k (d a + 1)) := by
  unfold dist17
  rw [row17_set _ h, show ((d a : Int) + 1) = ((d a + 1 : Nat) : Int) by omega]
  exact dist17_upd _ _ _
theorem dist17_all (d : Nat → Nat) : (dist17 d).extract 0 (0 + 17) = dist17 d := row17_all _
def pv (p : Nat) : Value := .int .u8 (p : Int)
theorem pv_ones (p : Nat) : ∀ v ∈ [Value.int .u8 (p : Int)], v.cells = #[v] := by intro v hv; simp at hv; subst hv; rfl
theorem pv_one (p : Nat) : OneCells [Value.int .u8 (p : Int)] := by intro v hv; simp at hv; subst hv; rfl
/-- May something go from p to q? -/
def edge (c : Caps) (p q : Nat) : Bool := decide (0 < capOf c p q)
theorem edge_le {c : Caps} {p q : Nat} (h : edge c p q = true) : (1 ≤ p ∧ p ≤ 16) ∧ 1 ≤ q ∧ q ≤ 16 := by
  unfold edge capOf at h
  by_cases hm : mayP p ∧ mayP q
  · exact ⟨mayP_true hm.1, mayP_true hm.2⟩
  · rw [if_neg hm] at h; simp at h
theorem dist17_cells (d : Nat → Nat) : Cells 17 (dist17 d) := row17_cells _
theorem dist17_splice (r : Nat → Int) (d : Nat → Nat) : splice (row17 r) 0 (dist17 d) = dist17 d := splice_all (by rw [row17_sz, dist17_sz])
/-- What a graph's value (nil too) has, whatever else there is. -/
def CapsOf (W : World) (l : List Thing) (gv : Value) (c : Caps) : Prop := ∀ (l' : List Thing) (a b : Nat), (∀ x ∈ l, x ∈ l') → a ≤ 255 → b ≤ 255 → AnsH W l' 15 #[gv, .int .u8 (a : Int), .int .u8 (b : Int)] (.int .i64 (capOf c a b))
theorem CapsOf.gr {W : World} {l : List Thing} {p : Nat} {c : Caps} (h : Gr p c ∈ l) : CapsOf W l (.pointer (some ⟨p, 0, none⟩)) c := fun _ a b hs ha hb => cap_H a b ha hb (hs _ h)
theorem CapsOf.nil {W : World} {l : List Thing} : CapsOf W l (.pointer none) (fun _ _ => 0) := fun l' a b _ ha hb => by
  have e : capOf (fun _ _ => 0) a b = 0 := by unfold capOf; split <;> rfl
  rw [e]
  exact (cap_nil a b ha hb).toH
theorem CapsOf.wide {W : World} {l l' : List Thing} {gv : Value} {c : Caps} (h : CapsOf W l gv c) (hs : ∀ x ∈ l, x ∈ l') : CapsOf W l' gv c := fun _ a b h2 ha hb => h _ a b (fun x hx => h2 x (hs x hx)) ha hb
theorem cap_call {W w : World} {l l' : List Thing} {gv : Value} {c : Caps} {a b : Nat} {R : Ending → World → Prop} (h : CapsOf W l gv c) (H : Heap W l' w) (ha : a ≤ 255) (hb : b ≤ 255) (hs : ∀ x ∈ l, x ∈ l') (k : ∀ w', Heap W l' w' → R (.returned (.int .i64 (capOf c a b))) w') : Calls Try.prog 15 #[gv, .int .u8 (a : Int), .int .u8 (b : Int)] w R := (h l' a b hs ha hb).call H k
theorem capOf_zero (c : Caps) (q : Nat) : capOf c 0 q = 0 := by
  unfold capOf
  rw [if_neg]
  rintro ⟨h, _⟩
  have := mayP_true h
  omega
theorem edge_yes {c : Caps} {p q : Nat} (h : 0 < capOf c p q) : edge c p q = true := by simp [edge, h]
theorem edge_no {c : Caps} {p q : Nat} (h : ¬ 0 < capOf c p q) : edge c p q = false := by simp only [edge, h]; rfl
theorem Rd.head {w : World} {g o : Nat} {v : Value} {xs : List Value} (h : Rd w (some ⟨g, o, none⟩) (v :: xs)) : w.cell? ⟨g, o, none⟩ = some v := by
  obtain ⟨b, o', he, hc⟩ := h 0 (by simp)
  cases he
  exact hc
theorem OwnT.form0 {w : World} {e size n : Nat} {v : Value} {xs : List Value} (h : (OwnT e size v n xs).ok w) : ∃ a c, v = .slice a n c := by
  obtain ⟨_, ⟨hv, hn⟩ | ⟨g, off, cap, cur, hv, _⟩⟩ := h
  · exact ⟨none, 0, by rw [hv, hn]⟩
  · exact ⟨_, _, hv⟩
/-- Amid the round of a: what stands ahead of party k. -/
structure HopsIn (W : World) (l : List Thing) (c : Caps) (t pr po a m : Nat) (v i : Value) (w2 : World) : Prop where
  out : ∃ k d Q, i = .int .u8 ((k : Nat) : Int) ∧ 1 ≤ k ∧ k ≤ 17 ∧ BfsIn (edge c) t d Q a k ∧ 2 * und d + Q.length + 1 ≤ m ∧ Heap W (OwnT 30 1 v Q.length (Q.map pv) :: Cel po (dist17 d) 141 :: Cel pr (row17 fun _ => 0) 141 :: l) w2
def HopsPost (W : World) (l : List Thing) (c : Caps) (t : Nat) (e : Ending) (w' : World) : Prop := ∃ d, IsDist (edge c) t d ∧ e = .returned (.agg (dist17 d)) ∧ Heap W l w'
section
variable {W w : World} {l : List Thing} {gv : Value} {c : Caps}
set_option maxRecDepth 100000
set_option maxHeartbeats 2000000
theorem hops_H (t : Nat) (h1 : 1 ≤ t) (h2 : t ≤ 16) (h : CapsOf W l gv c) (H : Heap W l w) : Calls Try.prog 153 #[gv, .int .u8 (t : Int)] w (HopsPost W l c t) := by
  have ht : t < 17 := by omega
  go_enter Try.func153, Try.ntmps153
  have tok1 : True := trivial
  go_wp2_with (first | go_skip | (have _t := tok1; ((with_reducible show wpList _ _ _ (_ :: _) _ _); (with_reducible apply wpl_allocRH row_17i); (· rfl); (· exact H); (clear H; intro pr _ H); (simp only [Act.put, List.setIfInBounds_toArray, List.set_cons_zero, List.set_cons_succ])); clear tok1 _t) | ((with_reducible show wpList _ _ _ (_ :: _) _ _); (with_reducible apply wpl_allocRH row_17i); (· rfl); (· exact H); (clear H; intro po _ H); (simp only [Act.put, List.setIfInBounds_toArray, List.set_cons_zero, List.set_cons_succ])))
  go_loopw [10] (fun i wr => ∃ k : Nat, k ≤ 17 ∧ i = .int .i64 k ∧ Heap W (Cel po (row17 fun i => if i < k then 17 else 0) 141 :: Cel pr (row17 fun _ => 0) 141 :: l) wr) (fun i _ => 17 - (intOf i).toNat)
  case atStart => exact ⟨0, by omega, rfl, by simpa using H⟩
  case round =>
    obtain ⟨k, hk, rfl, H'⟩ := hrel
    clear H
    have H := H'
    clear H'
    by_cases hlt : k < 17
    · go_wp2_with (first | go_skip | ((with_reducible show wpList _ _ _ (_ :: _) _ _); (with_reducible apply wpl_storeIH); (· exact cell_int); (· rfl); (· rfl); (· rfl); (· exact H); (· (repeat (first | (with_reducible exact List.mem_cons_self) | with_reducible apply List.mem_cons_of_mem))); (· (rw [row17_sz]; omega)); (· exact row17_set _ hlt _); (· (repeat (first | (with_reducible exact Repl.here) | with_reducible apply Repl.there))); (clear H; intro _ H); (simp only [Act.put, List.setIfInBounds_toArray, List.set_cons_zero, List.set_cons_succ])))
      go_roundw
      case rel =>
        refine ⟨k + 1, by omega, by go_num, ?_⟩
        have e : row17 (updN (fun i => if i < k then (17 : Int) else 0) k 17) = row17 fun i => if i < k + 1 then 17 else 0 := by
          apply row17_ext
          intro i hi
          unfold updN
          by_cases e1 : i = k
          · subst e1; simp
          · by_cases e2 : i < k
            · have e3 : i < k + 1 := by omega
              simp [e1, e2, e3]
            · have e3 : ¬ i < k + 1 := by omega
              simp [e1, e2, e3]
        rw [← e]
        exact H
      case measure => simp [intOf]; omega
    · obtain rfl : k = 17 := by omega
      rw [show row17 (fun i => if i < 17 then (17 : Int) else 0) = dist17 farN from row17_ext fun i hi => by rw [if_pos hi]; rfl] at H
      unfold dist17 at H
      go_wp2_with (first
        | go_skip
        | ((with_reducible show wpList _ _ _ (_ :: _) _ _); (with_reducible apply wpl_storeIH); (· exact cell_int); (· rfl); (· rfl); (· rfl); (· exact H); (· (repeat (first | (with_reducible exact List.mem_cons_self) | with_reducible apply List.mem_cons_of_mem))); (· (rw [row17_sz]; omega)); (· exact row17_set _ ht _); (· (repeat (first | (with_reducible exact Repl.here) | with_reducible apply Repl.there))); (clear H; intro _ H); (simp only [Act.put, List.setIfInBounds_toArray, List.set_cons_zero, List.set_cons_succ]))
        | ((with_reducible show wpList _ _ _ (_ :: _) _ _); (with_reducible apply wpl_bsOnes _ [.int .u8 (t : Int)]); (· rfl); (· rfl); (· rfl); (· decide); (· decide); (· exact pv_ones t); (· exact bs_party); (· rfl); (· exact H); (clear H; intro pq _ H); (simp only [Act.put, List.setIfInBounds_toArray, List.set_cons_zero, List.set_cons_succ])))
      have H0 := H.celOwn (n := 1) (size := 1) rfl (by unfold maxLen; omega)
      clear H
      rw [show (updN (fun i => ((farN i : Nat) : Int)) t 0) = (updN (fun i => ((farN i : Nat) : Int)) t ((0 : Nat) : Int)) from rfl, dist17_upd] at H0
      have hst := Bfs.start (A := edge c) h1 h2
      go_loopg [7] 33 (fun m v wr => ∃ d Q, Bfs (edge c) t d Q ∧ 2 * und d + Q.length ≤ m ∧ m ≤ 33 ∧ Heap W (OwnT 30 1 v Q.length (Q.map pv) :: Cel po (dist17 d) 141 :: Cel pr (row17 fun _ => 0) 141 :: l) wr)
      case atStart => exact ⟨_, [t], hst, by have := und_le (updN farN t 0); simp; omega, by omega, H0⟩
      case round =>
        obtain ⟨d, Q, hB, hm, hm33, H'⟩ := hrel
        clear H0 hst
        have H := H'
        clear H'
        cases Q with
        | nil =>
          have hlen : ∃ a c, u7 = .slice a 0 c := OwnT.form0 (H.ok _ List.mem_cons_self)
          obtain ⟨ao, cp, rfl⟩ := hlen
          replace H := H.tail
          go_wp2_with (first
            | go_skip
            | ((with_reducible show wpList _ _ _ (_ :: _) _ _); (with_reducible apply wpl_loadRH row_17i); (· rfl); (· rfl); (· exact H); (· (repeat (first | (with_reducible exact List.mem_cons_self) | with_reducible apply List.mem_cons_of_mem))); (· (simp only [dist17_sz, Nat.reduceAdd, Nat.reduceLeDiff, Nat.le_refl]; done)); (· with_reducible exact dist17_all ..); (simp only [Act.put, List.setIfInBounds_toArray, List.set_cons_zero, List.set_cons_succ]))
            | ((with_reducible show wpList _ _ _ (_ :: _) _ _); (with_reducible apply wpl_storeRH row_17i); (· rfl); (· rfl); (· rfl); (· with_reducible exact dist17_cells ..); (· exact H); (· (repeat (first | (with_reducible exact List.mem_cons_self) | with_reducible apply List.mem_cons_of_mem))); (· (simp only [row17_sz, Nat.reduceAdd, Nat.reduceLeDiff, Nat.le_refl]; done)); (· with_reducible exact dist17_splice ..); (· (repeat (first | (with_reducible exact Repl.here) | with_reducible apply Repl.there))); (clear H; intro _ H); (simp only [Act.put, List.setIfInBounds_toArray, List.set_cons_zero, List.set_cons_succ])))
          exact ret_row1H row_17i rfl rfl rfl H (by (repeat (first | (with_reducible exact List.mem_cons_self) | with_reducible apply List.mem_cons_of_mem))) (dist17_sz _) ⟨d, hB.dist, rfl, H.tail.tail⟩
        | cons a Q' =>
          have hlenQ : (a :: Q').length = Q'.length + 1 := rfl
          obtain ⟨g, o, cp, rfl, hnc, hcm⟩ := OwnT.form (H.ok _ List.mem_cons_self) (by simp)
          have ha17 : d a < 17 := hB.qd a List.mem_cons_self
          have hap := hB.ins a ha17
          have hc0 : wr.cell? ⟨g, o, none⟩ = some (.int .u8 (a : Int)) := (H.ownRd List.mem_cons_self).head
          have hap17 : a < 17 := by omega
          have hn1' : 1 ≤ (a :: Q').length := by simp
          go_wp2_with (first
            | go_skip
            | ((with_reducible show wpList _ _ _ (_ :: _) _ _); (with_reducible apply wpl_loadCell cell_party); (· rfl); (· rfl); (· exact hc0); (simp only [Act.put, List.setIfInBounds_toArray, List.set_cons_zero, List.set_cons_succ]))
            | ((with_reducible show wpList _ _ _ (_ :: _) _ _); (with_reducible apply wpl_cut1 slP); (· rfl); (· rfl); (· exact hn1'); (simp only [Act.put, List.setIfInBounds_toArray, List.set_cons_zero, List.set_cons_succ])))
          have hpop := hB.pop (show edge c 0 a = false from edge_no (by rw [capOf_zero]; omega))
          have H0 := H.ownTail hn1'
          clear H
          have H0' : Heap W (OwnT 30 1 (.slice (cutA (some ⟨g, o, none⟩) cp 1 1) ((a :: Q').length - 1) (cp - 1)) Q'.length (Q'.map pv) :: Cel po (dist17 d) 141 :: Cel pr (row17 fun _ => 0) 141 :: l) wr := H0
          clear H0
          have hm' : 2 * und d + Q'.length + 1 ≤ gk := by rw [hlenQ] at hm; omega
          clear hm hB
          go_loopw [7, 9] (HopsIn W l c t pr po a gk) (fun _ i _ => 17 - (intOf i).toNat)
          case atStart => exact ⟨⟨1, d, Q', rfl, by omega, by omega, hpop, hm', H0'⟩⟩
          case round =>
            obtain ⟨k, d2, Q2, rfl, hk1, hk17, hI, hm2, H'⟩ := hrel.out
            clear H0' hpop hm' hc0
            have H := H'
            clear H'
            by_cases hlt : k < 17
            · have hka : k ≤ 255 := by omega
              have haa : a ≤ 255 := by omega
              have hd17 := hI.le k
              have hda := hI.ad
              have hQn : Q2.length + 1 ≤ maxLen := by unfold maxLen; omega
              have hQb : (Q2.length + 1) * 1 ≤ 140737488355328 := by omega
              by_cases hd : d2 k = 17
              · have f1 : ((d2 k : Int) == 17) = true := by rw [hd]; rfl
                have f2 : decide ((d2 k : Int) = 17) = true := by rw [hd]; rfl
                by_cases hA : 0 < capOf c k a
                · have HI := Lib.hid (hI.yes hd (edge_yes hA) hk1 (by omega))
                  clear hI
                  go_wp2_with (first
                    | go_skip
                    | ((with_reducible show wpList _ _ _ (_ :: _) _ _); (with_reducible apply wpl_loadCH); (· exact cell_int); (· rfl); (· rfl); (· exact H); (· (repeat (first | (with_reducible exact List.mem_cons_self) | with_reducible apply List.mem_cons_of_mem))); (· (first | exact dist17_get _ hlt | exact dist17_get _ hap17)); (simp only [Act.put, List.setIfInBounds_toArray, List.set_cons_zero, List.set_cons_succ]))
                    | ((with_reducible apply cap_call h H); (· exact hka); (· exact haa); (· exact fun x hx => List.mem_cons_of_mem _ (List.mem_cons_of_mem _ (List.mem_cons_of_mem _ hx))); (clear H; intro _ H))
                    | ((with_reducible show wpList _ _ _ (_ :: _) _ _); (with_reducible apply wpl_storeIH); (· exact cell_int); (· rfl); (· rfl); (· rfl); (· exact H); (· (repeat (first | (with_reducible exact List.mem_cons_self) | with_reducible apply List.mem_cons_of_mem))); (· (rw [dist17_sz]; omega)); (· exact dist17_set _ hlt _); (· (repeat (first | (with_reducible exact Repl.here) | with_reducible apply Repl.there))); (clear H; intro _ H); (simp only [Act.put, List.setIfInBounds_toArray, List.set_cons_zero, List.set_cons_succ]))
                    | ((with_reducible show wpList _ _ _ (_ :: _) _ _); (with_reducible apply wpl_bsOnes _ [.int .u8 (k : Int)]); (· rfl); (· rfl); (· rfl); (· decide); (· decide); (· exact pv_ones k); (· exact bs_party); (· rfl); (· exact H); (clear H; intro pk _ H); (simp only [Act.put, List.setIfInBounds_toArray, List.set_cons_zero, List.set_cons_succ]))
                    | ((with_reducible show wpList _ _ _ (_ :: _) _ _); (with_reducible apply wpl_appendO slP); (· rfl); (· rfl); (· rfl); (· rfl); (· exact H.perm (.swap _ _ _)); (· exact H.celRd List.mem_cons_self); (· rfl); (· exact pv_one k); (· exact hQn); (· exact hQb); (clear H; intro v2 _ H); (simp only [Act.put, List.setIfInBounds_toArray, List.set_cons_zero, List.set_cons_succ])))
                  go_roundw
                  case rel =>
                    refine ⟨⟨k + 1, _, Q2 ++ [k], by go_num, by omega, by omega, HI.out.1, by have := HI.out.2; simp only [List.length_append, List.length_singleton]; omega, ?_⟩⟩
                    have H2 := H.drop (.there .here)
                    rw [List.length_append, List.map_append]
                    exact H2
                  case measure => simp [intOf]; omega
                · have HI := Lib.hid (hI.no (by rw [edge_no hA]; simp))
                  clear hI
                  go_wp2_with (first
                    | go_skip
                    | ((with_reducible show wpList _ _ _ (_ :: _) _ _); (with_reducible apply wpl_loadCH); (· exact cell_int); (· rfl); (· rfl); (· exact H); (· (repeat (first | (with_reducible exact List.mem_cons_self) | with_reducible apply List.mem_cons_of_mem))); (· (first | exact dist17_get _ hlt | exact dist17_get _ hap17)); (simp only [Act.put, List.setIfInBounds_toArray, List.set_cons_zero, List.set_cons_succ]))
                    | ((with_reducible apply cap_call h H); (· exact hka); (· exact haa); (· exact fun x hx => List.mem_cons_of_mem _ (List.mem_cons_of_mem _ (List.mem_cons_of_mem _ hx))); (clear H; intro _ H)))
                  refine ⟨?_, ?measure⟩
                  · (repeat apply Exists.intro)
                    refine ⟨?rel, rfl⟩
                    case rel => exact ⟨⟨k + 1, d2, Q2, by go_num, by omega, by omega, HI.out, hm2, H⟩⟩
                  case measure => simp [intOf]; omega
              · have HI := Lib.hid (hI.no (fun h => hd h.1))
                clear hI
                have f0 : ¬ (d2 k : Int) = 17 := by omega
                have f1 : ((d2 k : Int) == 17) = false := by simp [f0]
                have f2 : decide ((d2 k : Int) = 17) = false := by simp [f0]
                go_wp2_with (first
                    | go_skip
                    | ((with_reducible show wpList _ _ _ (_ :: _) _ _); (with_reducible apply wpl_loadCH); (· exact cell_int); (· rfl); (· rfl); (· exact H); (· (repeat (first | (with_reducible exact List.mem_cons_self) | with_reducible apply List.mem_cons_of_mem))); (· (first | exact dist17_get _ hlt | exact dist17_get _ hap17)); (simp only [Act.put, List.setIfInBounds_toArray, List.set_cons_zero, List.set_cons_succ]))
                    | ((with_reducible apply cap_call h H); (· exact hka); (· exact haa); (· exact fun x hx => List.mem_cons_of_mem _ (List.mem_cons_of_mem _ (List.mem_cons_of_mem _ hx))); (clear H; intro _ H)))
                go_roundw
                case rel => exact ⟨⟨k + 1, d2, Q2, by go_num, by omega, by omega, HI.out, hm2, H⟩⟩
                case measure => simp [intOf]; omega
            · obtain rfl : k = 17 := by omega
              have HI := Lib.hid (hI.done (fun p q h => (edge_le h).1.2))
              clear hI
              go_wp2_with (go_skip)
              go_roundg (gk - 1)
              case measure => omega
              case rel => exact ⟨d2, Q2, HI.out, by omega, by omega, H⟩
end
end Go.Proofs.Ytgobnamhdkbbeaa

/- Shortest ways: plain laws, with no program in sight. -/
namespace Go.Proofs.Ytgobnamhdkbbeaa
set_option linter.unusedVariables false
/-- Is p a step on from a, one nearer? -/
def GoodP (A : Nat → Nat → Bool) (d : Nat → Nat) (a p : Nat) : Prop := d p + 1 = d a ∧ A a p = true
/-- The least such party. -/
structure IsNext (A : Nat → Nat → Bool) (d : Nat → Nat) (a p : Nat) : Prop where
  ge : 1 ≤ p
  le : p ≤ 16
  good : GoodP A d a p
  least : ∀ q, 1 ≤ q → q < p → ¬ GoodP A d a q
theorem IsNext.eq {A : Nat → Nat → Bool} {d : Nat → Nat} {a p q : Nat} (h : IsNext A d a p) (g : IsNext A d a q) : p = q := by
  rcases Nat.lt_trichotomy p q with e | e | e
  · exact absurd h.good (g.least p h.ge e)
  · exact e
  · exact absurd g.good (h.least q g.ge e)
/-- Each is the one ahead of it's next one. -/
def Steps (A : Nat → Nat → Bool) (d : Nat → Nat) (L : List Nat) : Prop := ∀ i x y, L[i]? = some x → L[i + 1]? = some y → IsNext A d x y
theorem Steps.one (A : Nat → Nat → Bool) (d : Nat → Nat) (a : Nat) : Steps A d [a] := by
  intro i x y h1 h2
  simp at h2
theorem Steps.snoc {A : Nat → Nat → Bool} {d : Nat → Nat} {L : List Nat} {a k : Nat} (h : Steps A d L) (hl : L[L.length - 1]? = some a) (hk : IsNext A d a k) : Steps A d (L ++ [k]) := by
  intro i x y h1 h2
  by_cases hi : i + 1 < L.length
  · rw [List.getElem?_append_left (by omega)] at h1 h2
    exact h i x y h1 h2
  · have hlen : 0 < L.length := by
      rcases L with _ | ⟨b, L⟩
      · simp at hl
      · simp
    by_cases hj : i + 1 = L.length
    · rw [List.getElem?_append_left (by omega)] at h1
      rw [hj, List.getElem?_append_right (by omega)] at h2
      simp at h2
      rw [show L.length - 1 = i by omega, h1] at hl
      cases hl
      subst h2
      exact hk
    · rw [List.getElem?_eq_none (by simp; omega)] at h2
      cases h2
/-- A shortest way, in distances d to t. -/
structure Way (A : Nat → Nat → Bool) (d : Nat → Nat) (f t : Nat) (L : List Nat) : Prop where
  head : L[0]? = some f
  last : L[L.length - 1]? = some t
  len : L.length = d f + 1
  steps : Steps A d L
/-- What a way's beginning is. -/
structure WayTo (A : Nat → Nat → Bool) (d : Nat → Nat) (f a : Nat) (L : List Nat) : Prop where
  head : L[0]? = some f
  last : L[L.length - 1]? = some a
  len : L.length + d a = d f + 1
  steps : Steps A d L
theorem WayTo.start (A : Nat → Nat → Bool) (d : Nat → Nat) (f : Nat) : WayTo A d f f [f] := ⟨rfl, rfl, by simp; omega, Steps.one A d f⟩
theorem WayTo.snoc {A : Nat → Nat → Bool} {d : Nat → Nat} {f a k : Nat} {L : List Nat} (h : WayTo A d f a L) (hk : IsNext A d a k) : WayTo A d f k (L ++ [k]) := by
  have hlen : 0 < L.length := by
    rcases L with _ | ⟨b, L⟩
    · have := h.head; simp at this
    · simp
  refine ⟨?_, ?_, ?_, h.steps.snoc h.last hk⟩
  · rw [List.getElem?_append_left (by omega)]; exact h.head
  · simp
  · have := hk.good.1
    have := h.len
    simp
    omega
theorem WayTo.done {A : Nat → Nat → Bool} {d : Nat → Nat} {f t : Nat} {L : List Nat} (h : WayTo A d f t L) (ht : d t = 0) : Way A d f t L := ⟨h.head, h.last, by have := h.len; omega, h.steps⟩
/-- Two ways are one. -/
theorem Way.eq {A : Nat → Nat → Bool} {d : Nat → Nat} {f t : Nat} {L M : List Nat} (h : Way A d f t L) (g : Way A d f t M) : L = M := by
  have hl : L.length = M.length := by rw [h.len, g.len]
  have key : ∀ i, i < L.length → L[i]? = M[i]? := by
    intro i
    induction i with
    | zero => intro _; rw [h.head, g.head]
    | succ i ih =>
      intro hi
      have e := ih (by omega)
      have h1 : ∃ x, L[i]? = some x := ⟨L[i], List.getElem?_eq_getElem (by omega)⟩
      have h2 : ∃ x, L[i + 1]? = some x := ⟨L[i + 1], List.getElem?_eq_getElem hi⟩
      have h3 : ∃ x, M[i + 1]? = some x := ⟨M[i + 1], List.getElem?_eq_getElem (by omega)⟩
      obtain ⟨x, hx⟩ := h1
      obtain ⟨y, hy⟩ := h2
      obtain ⟨z, hz⟩ := h3
      rw [hy, hz, (h.steps i x y hx hy).eq (g.steps i x z (by rw [← e]; exact hx) hz)]
  apply List.ext_getElem?
  intro i
  by_cases hi : i < L.length
  · exact key i hi
  · rw [List.getElem?_eq_none (by omega), List.getElem?_eq_none (by omega)]
/-- A next one there is, while the end is not reached. -/
theorem IsDist.next {A : Nat → Nat → Bool} {t a : Nat} {d : Nat → Nat} (h : IsDist A t d) (ha : d a < 17) (hne : a ≠ t) : ¬ ∀ q, 1 ≤ q → q < 17 → ¬ GoodP A d a q := by
  intro hn
  obtain ⟨q, hA, hq⟩ := h.par a ha hne
  have := h.ins q (by omega)
  exact hn q this.1 (by omega) ⟨hq, hA⟩
theorem IsDist.zero {A : Nat → Nat → Bool} {t a : Nat} {d : Nat → Nat} (h : IsDist A t d) (ha : d a = 0) : a = t := by
  apply Classical.byContradiction
  intro hne
  obtain ⟨q, hA, hq⟩ := h.par a (by omega) hne
  omega
end Go.Proofs.Ytgobnamhdkbbeaa

/- paths.Short: the shortest way. -/
namespace Go.Proofs.Ytgobnamhdkbbeaa
open Go.RowKit
set_option linter.unusedSimpArgs false
set_option linter.unusedVariables false
abbrev partyZ : Value := .int .u8 0
theorem made_len (m : Nat) (v : Value) : ((madeCells partyZ.cells (m * 1)).setIfInBounds 0 v).size = m := by rw [Array.size_setIfInBounds, size_madeCells, Nat.mul_one]
theorem made_head {m : Nat} (h : 1 ≤ m) (v : Value) : ((madeCells partyZ.cells (m * 1)).setIfInBounds 0 v).toList.take (1 * 1) = [v] := by
  have hs := made_len m v
  have h0 : ((madeCells partyZ.cells (m * 1)).setIfInBounds 0 v).toList[0]? = some v := by
    rw [Array.getElem?_toList, Array.getElem?_setIfInBounds_self_of_lt]
    rw [size_madeCells]; omega
  cases hl : ((madeCells partyZ.cells (m * 1)).setIfInBounds 0 v).toList with
  | nil => rw [hl] at h0; simp at h0
  | cons x xs => rw [hl] at h0; simp at h0; simp [h0]
/-- The chapter's shortest way. -/
def IsShort (c : Caps) (f t : Nat) (L : List Nat) : Prop :=
  (L = [] ∧ (mayP f = false ∨ mayP t = false ∨ f = t ∨ ∃ d, IsDist (edge c) t d ∧ d f = 17)) ∨ (mayP f = true ∧ mayP t = true ∧ f ≠ t ∧ ∃ d, IsDist (edge c) t d ∧ d f < 17 ∧ Way (edge c) d f t L)
def ShortPost (W : World) (l : List Thing) (c : Caps) (f t : Nat) (e : Ending) (w' : World) : Prop := ∃ v L, e = .returned v ∧ IsShort c f t L ∧ Heap W (OwnT 30 1 v L.length (L.map pv) :: l) w'
/-- Of the way what is found. -/
structure ShortOut (W : World) (l : List Thing) (c : Caps) (f t pd : Nat) (d : Nat → Nat) (m : Nat) (v i : Value) (w2 : World) : Prop where
  out : ∃ a L, i = .int .u8 ((a : Nat) : Int) ∧ d a < 17 ∧ d a ≤ m ∧ WayTo (edge c) d f a L ∧ Heap W (OwnT 30 1 v L.length (L.map pv) :: Cel pd (dist17 d) 141 :: l) w2
/-- Who is not the next one. -/
structure ShortIn (W : World) (l' : List Thing) (c : Caps) (a : Nat) (d : Nat → Nat) (i j : Value) (w2 : World) : Prop where
  out : ∃ k : Nat, i = .int .u8 ((a : Nat) : Int) ∧ j = .int .u8 (k : Int) ∧ 1 ≤ k ∧ k ≤ 17 ∧ (∀ q, 1 ≤ q → q < k → ¬ GoodP (edge c) d a q) ∧ Heap W l' w2
section
variable {W w : World} {l : List Thing} {gv : Value} {c : Caps}
set_option maxRecDepth 100000
set_option maxHeartbeats 2000000
theorem may6 (a : Nat) (h : a ≤ 255) : Ans 136 #[.int .u8 (a : Int)] (.bool (mayP a)) := by
  intro w
  unfold mayP
  by_cases h1 : 1 ≤ a
  · by_cases h2 : a ≤ 16
    all_goals
      go_enter Try.func136, Try.ntmps136
      go_wp2_with fail
      go_ret
      exact ⟨by simp [h1, h2]; omega, (by repeat (first | exact Ext.refl _ | refine Ext.alloc ?_ _ | refine Ext.ext ?_ _ | refine Ext.drew ?_))⟩
  · go_enter Try.func136, Try.ntmps136
    go_wp2_with fail
    go_ret
    exact ⟨by simp [h1], (by repeat (first | exact Ext.refl _ | refine Ext.alloc ?_ _ | refine Ext.ext ?_ _ | refine Ext.drew ?_))⟩
theorem short_not (f t : Nat) (hf : f ≤ 255) (ht : t ≤ 255) (hn : mayP f = false ∨ mayP t = false ∨ f = t) : AnsH W l 115 #[gv, .int .u8 (f : Int), .int .u8 (t : Int)] (.slice none 0 0) := by
  intro w H
  have Mf := may6 f hf
  have Mt := may6 t ht
  by_cases h1 : mayP f = true
  · rw [h1] at Mf
    by_cases h2 : mayP t = true
    · rw [h2] at Mt
      obtain rfl : f = t := by
        rcases hn with h | h | h
        · rw [h1] at h; cases h
        · rw [h2] at h; cases h
        · exact h
      clear h1 h2 hn
      go_enter Try.func115, Try.ntmps115
      go_wp2_with (first | go_skip | ((with_reducible refine Ans.callH (by assumption) H ?_); clear H; intro _ H))
      go_ret
      exact ⟨rfl, H⟩
    · have h2 : mayP t = false := by simpa using h2
      rw [h2] at Mt
      clear h1 h2 hn
      go_enter Try.func115, Try.ntmps115
      go_wp2_with (first | go_skip | ((with_reducible refine Ans.callH (by assumption) H ?_); clear H; intro _ H))
      go_ret
      exact ⟨rfl, H⟩
  · have h1 : mayP f = false := by simpa using h1
    rw [h1] at Mf
    clear h1 hn
    go_enter Try.func115, Try.ntmps115
    go_wp2_with (first | go_skip | ((with_reducible refine Ans.callH (by assumption) H ?_); clear H; intro _ H))
    go_ret
    exact ⟨rfl, H⟩
theorem short_H (f t : Nat) (hf : f ≤ 255) (ht : t ≤ 255) (h : CapsOf W l gv c) (H : Heap W l w) : Calls Try.prog 115 #[gv, .int .u8 (f : Int), .int .u8 (t : Int)] w (ShortPost W l c f t) := by
  by_cases hn : mayP f = false ∨ mayP t = false ∨ f = t
  · refine (short_not f t hf ht hn w H).mono ?_
    rintro e w1 ⟨rfl, H⟩
    refine ⟨_, [], rfl, .inl ⟨rfl, ?_⟩, (H.nilRow _ _).slide⟩
    rcases hn with h | h | h
    · exact .inl h
    · exact .inr (.inl h)
    · exact .inr (.inr (.inl h))
  · have hmf : mayP f = true := by
      cases e : mayP f
      · exact absurd (.inl e) hn
      · rfl
    have hmt : mayP t = true := by
      cases e : mayP t
      · exact absurd (.inr (.inl e)) hn
      · rfl
    have hne : f ≠ t := fun e => hn (.inr (.inr e))
    have Mf := may6 f hf
    have Mt := may6 t ht
    rw [hmf] at Mf
    rw [hmt] at Mt
    have hf17 := mayP_true hmf
    have ht17 := mayP_true hmt
    have hfl : f < 17 := by omega
    have E := Lib.hid (show mayP f = true ∧ mayP t = true from ⟨hmf, hmt⟩)
    have hne2 : ((f : Int) == (t : Int)) = false := by simp; omega
    have hne3 : decide ((f : Int) = (t : Int)) = false := by simp; omega
    clear hn hmf hmt
    by_cases hr : ∀ d, IsDist (edge c) t d → d f = 17
    · have hr2 : ∀ d, IsDist (edge c) t d → d f = 17 ∧ ((d f : Int) == 17) = true ∧ decide ((d f : Int) = 17) = true := fun d hd => by rw [hr d hd]; exact ⟨rfl, rfl, rfl⟩
      clear hr
      go_enter Try.func115, Try.ntmps115
      go_wp2_with (first
        | go_skip
        | ((with_reducible refine Ans.callH (by assumption) H ?_); clear H; intro _ H)
        | ((with_reducible refine (hops_H t ht17.1 ht17.2 h H).mono ?_); clear H; rintro _ _ ⟨d, hdist, rfl, H⟩; (obtain ⟨r1, r2, r3⟩ := hr2 d hdist); clear hr2)
        | ((with_reducible show wpList _ _ _ (_ :: _) _ _); (with_reducible apply wpl_allocRH row_17i); (· rfl); (· exact H); (clear H; intro pd _ H); (simp only [Act.put, List.setIfInBounds_toArray, List.set_cons_zero, List.set_cons_succ]))
        | ((with_reducible show wpList _ _ _ (_ :: _) _ _); (with_reducible apply wpl_storeRH row_17i); (· rfl); (· rfl); (· rfl); (· with_reducible exact dist17_cells ..); (· exact H); (· (repeat (first | (with_reducible exact List.mem_cons_self) | with_reducible apply List.mem_cons_of_mem))); (· (simp only [row17_sz, Nat.reduceAdd, Nat.reduceLeDiff, Nat.le_refl]; done)); (· with_reducible exact dist17_splice ..); (· (repeat (first | (with_reducible exact Repl.here) | with_reducible apply Repl.there))); (clear H; intro _ H); (simp only [Act.put, List.setIfInBounds_toArray, List.set_cons_zero, List.set_cons_succ]))
        | ((with_reducible show wpList _ _ _ (_ :: _) _ _); (with_reducible apply wpl_loadCH); (· exact cell_int); (· rfl); (· rfl); (· exact H); (· (repeat (first | (with_reducible exact List.mem_cons_self) | with_reducible apply List.mem_cons_of_mem))); (· exact dist17_get _ hfl); (simp only [Act.put, List.setIfInBounds_toArray, List.set_cons_zero, List.set_cons_succ])))
      go_ret
      exact ⟨_, [], rfl, .inl ⟨rfl, .inr (.inr (.inr ⟨d, hdist, r1⟩))⟩, (H.tail.nilRow _ _).slide⟩
    · have hr2 : ∀ d, IsDist (edge c) t d → d f < 17 ∧ ((d f : Int) == 17) = false ∧ decide ((d f : Int) = 17) = false := fun d hd => by
        have h1 : d f ≠ 17 := fun e => hr fun d' hd' => by rw [hd'.eq hd f]; exact e
        have h2 := hd.le f
        refine ⟨by omega, ?_, ?_⟩ <;> simp <;> omega
      clear hr
      go_enter Try.func115, Try.ntmps115
      go_wp2_with (first
        | go_skip
        | ((with_reducible refine Ans.callH (by assumption) H ?_); clear H; intro _ H)
        | ((with_reducible refine (hops_H t ht17.1 ht17.2 h H).mono ?_); clear H; rintro _ _ ⟨d, hdist, rfl, H⟩; (obtain ⟨r1, r2, r3⟩ := hr2 d hdist); clear hr2)
        | ((with_reducible show wpList _ _ _ (_ :: _) _ _); (with_reducible apply wpl_allocRH row_17i); (· rfl); (· exact H); (clear H; intro pd _ H); (simp only [Act.put, List.setIfInBounds_toArray, List.set_cons_zero, List.set_cons_succ]))
        | ((with_reducible show wpList _ _ _ (_ :: _) _ _); (with_reducible apply wpl_storeRH row_17i); (· rfl); (· rfl); (· rfl); (· with_reducible exact dist17_cells ..); (· exact H); (· (repeat (first | (with_reducible exact List.mem_cons_self) | with_reducible apply List.mem_cons_of_mem))); (· (simp only [row17_sz, Nat.reduceAdd, Nat.reduceLeDiff, Nat.le_refl]; done)); (· with_reducible exact dist17_splice ..); (· (repeat (first | (with_reducible exact Repl.here) | with_reducible apply Repl.there))); (clear H; intro _ H); (simp only [Act.put, List.setIfInBounds_toArray, List.set_cons_zero, List.set_cons_succ]))
        | ((with_reducible show wpList _ _ _ (_ :: _) _ _); (with_reducible apply wpl_loadCH); (· exact cell_int); (· rfl); (· rfl); (· exact H); (· (repeat (first | (with_reducible exact List.mem_cons_self) | with_reducible apply List.mem_cons_of_mem))); (· exact dist17_get _ hfl); (simp only [Act.put, List.setIfInBounds_toArray, List.set_cons_zero, List.set_cons_succ]))
        | ((with_reducible show wpList _ _ _ (_ :: _) _ _); (with_reducible apply wpl_makeC slP (n := 1) (m := d f + 1)); (· rfl); (· rfl); (· rfl); (· rfl); (· omega); (· omega); (· omega); (· exact H); (clear H; intro pm _ H); (simp only [Act.put, List.setIfInBounds_toArray, List.set_cons_zero, List.set_cons_succ]))
        | ((with_reducible show wpList _ _ _ (_ :: _) _ _); (with_reducible apply wpl_storeIH); (· exact cell_party); (· rfl); (· rfl); (· rfl); (· exact H); (· (repeat (first | (with_reducible exact List.mem_cons_self) | with_reducible apply List.mem_cons_of_mem))); (· (rw [size_madeCells]; omega)); (· rfl); (· (repeat (first | (with_reducible exact Repl.here) | with_reducible apply Repl.there))); (clear H; intro _ H); (simp only [Act.put, List.setIfInBounds_toArray, List.set_cons_zero, List.set_cons_succ])))
      have H0 := H.celOwnP (size := 1) (n := 1) (m := d f + 1) (by rw [made_len]; omega) (by omega) (by unfold maxLen; omega)
      clear H
      rw [made_head (by omega)] at H0
      go_loopg [8, 9] (d f) (fun m v i w2 => ShortOut W l c f t pd d m v i w2)
      case atStart => exact ⟨f, [f], rfl, r1, Nat.le_refl _, WayTo.start .., H0⟩
      case round =>
        obtain ⟨a, L, rfl, had, ham, hway, H'⟩ := hrel.out
        clear H0 hrel
        have H := H'
        clear H'
        have hain := hdist.ins a had
        have hLl := Lib.hid hway.len
        by_cases hat : a = t
        · subst hat
          go_wp2_with (go_skip)
          go_ret
          exact ⟨_, L, rfl, .inr ⟨E.out.1, E.out.2, hne, d, hdist, r1, hway.done hdist.top⟩, H.drop (.there .here)⟩
        · have e1 : ((a : Int) == (t : Int)) = false := by simp; omega
          have e2 : decide ((a : Int) = (t : Int)) = false := by simp; omega
          have e3 : ((a : Int) != (t : Int)) = true := by simp; omega
          have hnx := hdist.next had hat
          go_wp2_with (go_skip)
          have H0 := H
          clear H
          go_loopw [9, 10] (fun i j w2 => ShortIn W (OwnT 30 1 u8 L.length (L.map pv) :: Cel pd (dist17 d) 141 :: l) c a d i j w2) (fun _ j _ => 17 - (intOf j).toNat)
          case atStart => exact ⟨1, rfl, rfl, by omega, by omega, (fun q h1 h2 => by omega), H0⟩
          case round =>
            obtain ⟨k, rfl, rfl, hk1, hk17, hno, H'⟩ := hrel.out
            clear H0 hrel
            have H := H'
            clear H'
            by_cases hlt : k < 17
            · have hka : k ≤ 255 := by omega
              have haa : a ≤ 255 := by omega
              have ha17 : a < 17 := by omega
              have hdk := hdist.le k
              have hz : d a ≠ 0 := fun e => hat (hdist.zero e)
              have hw1 : wrap64 ((d a : Int) - 1) = (d a : Int) - 1 := IntWalk.wrap64_in _ ⟨by omega, by omega⟩
              have hcap := h (OwnT 30 1 u8 L.length (L.map pv) :: Cel pd (dist17 d) 141 :: l) a k (fun x hx => List.mem_cons_of_mem _ (List.mem_cons_of_mem _ hx)) haa hka
              by_cases hg : d k + 1 = d a
              · have g1 : ((d k : Int) == (d a : Int) - 1) = true := by simp; omega
                have g2 : decide ((d k : Int) = (d a : Int) - 1) = true := by simp; omega
                by_cases hA : 0 < capOf c a k
                · have c1 : decide (capOf c a k > 0) = true := by simpa using hA
                  have HN := Lib.hid (⟨hk1, by omega, ⟨hg, edge_yes hA⟩, hno⟩ : IsNext (edge c) d a k)
                  have hLb : L.length + 1 ≤ maxLen := by have := hLl.out; unfold maxLen; omega
                  have hLb2 : (L.length + 1) * 1 ≤ 140737488355328 := by have := hLl.out; omega
                  have HG := Lib.hid hg
                  clear hno hnx hg
                  go_wp2_with (go_skip)
                  refine wp_region_H H (by kernel_rfl) (by kernel_rfl) ?_
                  repeat (first | go_big_quiet_skip | ((with_reducible apply wpQ_loadCH); (· exact cell_int); (· rfl); (· rfl); (· (repeat (first | (with_reducible exact List.mem_cons_self) | with_reducible apply List.mem_cons_of_mem))); (· (first | exact dist17_get _ hlt | exact dist17_get _ ha17)); (simp only [Act.put, List.setIfInBounds_toArray, List.set_cons_zero, List.set_cons_succ])) | go_big_quiet_step (exact hcap.quiet))
                  refine wpQuiet_nil ?_
                  clear H
                  intro _ H
                  go_wp2_with (first
                    | go_skip
                    | ((with_reducible show wpList _ _ _ (_ :: _) _ _); (with_reducible apply wpl_bsOnes _ [.int .u8 (k : Int)]); (· rfl); (· rfl); (· rfl); (· decide); (· decide); (· exact pv_ones k); (· exact bs_party); (· rfl); (· exact H); (clear H; intro pk _ H); (simp only [Act.put, List.setIfInBounds_toArray, List.set_cons_zero, List.set_cons_succ]))
                    | ((with_reducible show wpList _ _ _ (_ :: _) _ _); (with_reducible apply wpl_appendO slP); (· rfl); (· rfl); (· rfl); (· rfl); (· exact H.perm (.swap _ _ _)); (· exact H.celRd List.mem_cons_self); (· rfl); (· exact pv_one k); (· exact hLb); (· exact hLb2); (clear H; intro v2 _ H); (simp only [Act.put, List.setIfInBounds_toArray, List.set_cons_zero, List.set_cons_succ])))
                  go_roundg (d k)
                  case measure => have := HG.out; omega
                  case rel =>
                    refine ⟨k, L ++ [k], rfl, by have := HG.out; omega, Nat.le_refl _, hway.snoc HN.out, ?_⟩
                    rw [List.length_append, List.map_append]
                    exact H.drop (.there .here)
                · have c1 : decide (capOf c a k > 0) = false := by simpa using hA
                  have HN := Lib.hid (show ∀ q, 1 ≤ q → q < k + 1 → ¬ GoodP (edge c) d a q from fun q h1 h2 => by
                    by_cases e : q = k
                    · subst e; intro hG; have h2 := hG.2; rw [edge_no hA] at h2; cases h2
                    · exact hno q h1 (by omega))
                  clear hno hnx hg
                  go_wp2_with (go_skip)
                  refine wp_region_H H (by kernel_rfl) (by kernel_rfl) ?_
                  repeat (first | go_big_quiet_skip | ((with_reducible apply wpQ_loadCH); (· exact cell_int); (· rfl); (· rfl); (· (repeat (first | (with_reducible exact List.mem_cons_self) | with_reducible apply List.mem_cons_of_mem))); (· (first | exact dist17_get _ hlt | exact dist17_get _ ha17)); (simp only [Act.put, List.setIfInBounds_toArray, List.set_cons_zero, List.set_cons_succ])) | go_big_quiet_step (exact hcap.quiet))
                  refine wpQuiet_nil ?_
                  clear H
                  intro _ H
                  go_wp2_with (go_skip)
                  refine ⟨?_, ?measure⟩
                  · exact ⟨⟨k + 1, rfl, by go_num, by omega, by omega, HN.out, H⟩⟩
                  case measure => simp [intOf]; omega
              · have g1 : ((d k : Int) == (d a : Int) - 1) = false := by simp; omega
                have g2 : decide ((d k : Int) = (d a : Int) - 1) = false := by simp; omega
                have HN := Lib.hid (show ∀ q, 1 ≤ q → q < k + 1 → ¬ GoodP (edge c) d a q from fun q h1 h2 => by
                  by_cases e : q = k
                  · subst e; intro hG; exact hg hG.1
                  · exact hno q h1 (by omega))
                clear hno hnx hg
                go_wp2_with (go_skip)
                refine wp_region_H H (by kernel_rfl) (by kernel_rfl) ?_
                repeat (first | go_big_quiet_skip | ((with_reducible apply wpQ_loadCH); (· exact cell_int); (· rfl); (· rfl); (· (repeat (first | (with_reducible exact List.mem_cons_self) | with_reducible apply List.mem_cons_of_mem))); (· (first | exact dist17_get _ hlt | exact dist17_get _ ha17)); (simp only [Act.put, List.setIfInBounds_toArray, List.set_cons_zero, List.set_cons_succ])) | go_big_quiet_step (exact hcap.quiet))
                refine wpQuiet_nil ?_
                clear H
                intro _ H
                go_wp2_with (go_skip)
                refine ⟨?_, ?measure⟩
                · exact ⟨⟨k + 1, rfl, by go_num, by omega, by omega, HN.out, H⟩⟩
                case measure => simp [intOf]; omega
            · exact absurd (fun q h1 h2 => hno q h1 (by omega)) hnx
end
end Go.Proofs.Ytgobnamhdkbbeaa

/- Who is reached, over a list of edges: plain laws. -/
namespace Go.Proofs.Ytgobnamhdkbbeaa
set_option linter.unusedVariables false
/-- Who is reached over so many edges at most. -/
def reachF (F : List Flw) (f : Nat) : Nat → Nat → Bool
  | 0, p => p == f
  | n + 1, p => reachF F f n p || F.any fun x => reachF F f n x.f && (x.t == p)
theorem reachF_succ {F : List Flw} {f n p : Nat} : reachF F f (n + 1) p = true ↔ reachF F f n p = true ∨ ∃ x ∈ F, reachF F f n x.f = true ∧ x.t = p := by
  rw [reachF, Bool.or_eq_true, List.any_eq_true]
  simp
theorem reachF_mono {F : List Flw} {f p : Nat} : ∀ {n m : Nat}, n ≤ m → reachF F f n p = true → reachF F f m p = true
  | n, 0, h, hr => by obtain rfl : n = 0 := by omega
                      exact hr
  | n, m + 1, h, hr => by
    by_cases e : n = m + 1
    · subst e; exact hr
    · exact reachF_succ.2 (.inl (reachF_mono (by omega) hr))
theorem edge_mem {c : Caps} {a b : Nat} (ha : a < 17) (hb : b < 17) : (∃ x ∈ edgesOf c, x.f = a ∧ x.t = b) ↔ 0 < c a b := by
  have h := matE_any c a b 17
  rw [Bool.eq_iff_iff, List.any_eq_true] at h
  simp only [decide_eq_true_eq] at h
  constructor
  · intro hx; exact (h.1 hx).2.2
  · intro hp; exact h.2 ⟨ha, hb, hp⟩
theorem GoodC.edge {c : Caps} (h : GoodC c) {a b : Nat} : Proofs.Ytgobnamhdkbbeaa.edge c a b = true ↔ 0 < c a b := by
  unfold Proofs.Ytgobnamhdkbbeaa.edge
  rw [h.capOf]
  simp
theorem mem_edge {c : Caps} (h : GoodC c) {x : Flw} (hx : x ∈ edgesOf c) : edge c x.f x.t = true := by
  have := matE_mem 17 hx
  exact h.edge.2 (by omega)
theorem reach_le {c : Caps} (hc : GoodC c) {t : Nat} {d : Nat → Nat} (hd : IsDist (edge c) t d) (f : Nat) : ∀ n q, reachF (edgesOf c) f n q = true → d f ≤ n + d q
  | 0, q, h => by
    have : q = f := by simpa [reachF] using h
    subst this; omega
  | n + 1, q, h => by
    rcases reachF_succ.1 h with h | ⟨x, hx, hr, rfl⟩
    · have := reach_le hc hd f n q h; omega
    · have h1 := reach_le hc hd f n x.f hr
      have h2 := hd.step x.f x.t (mem_edge hc hx)
      omega
theorem reach_cons {c : Caps} (hc : GoodC c) {p q : Nat} (h : edge c p q = true) : ∀ n r, reachF (edgesOf c) q n r = true → reachF (edgesOf c) p (n + 1) r = true
  | 0, r, hr => by
    have : r = q := by simpa [reachF] using hr
    subst this
    have hp := hc.edge.1 h
    have hm := hc.may p r hp
    have h1 := mayP_true hm.1
    have h2 := mayP_true hm.2
    obtain ⟨x, hx, e1, e2⟩ := (edge_mem (c := c) (a := p) (b := r) (by omega) (by omega)).2 hp
    exact reachF_succ.2 (.inr ⟨x, hx, by simp [reachF, e1], e2⟩)
  | n + 1, r, hr => by
    rcases reachF_succ.1 hr with h1 | ⟨x, hx, h2, h3⟩
    · exact reachF_succ.2 (.inl (reach_cons hc h n r h1))
    · exact reachF_succ.2 (.inr ⟨x, hx, reach_cons hc h n x.f h2, h3⟩)
theorem reach_ge {c : Caps} (hc : GoodC c) {t : Nat} {d : Nat → Nat} (hd : IsDist (edge c) t d) : ∀ k f, d f = k → k < 17 → reachF (edgesOf c) f k t = true
  | 0, f, h, _ => by rw [hd.zero h]; simp [reachF]
  | k + 1, f, h, hk => by
    have hne : f ≠ t := fun e => by subst e; have := hd.top; omega
    obtain ⟨q, hA, hq⟩ := hd.par f (by omega) hne
    exact reach_cons hc hA k t (reach_ge hc hd k q (by omega) (by omega))
theorem reach_iff {c : Caps} (hc : GoodC c) {t : Nat} {d : Nat → Nat} (hd : IsDist (edge c) t d) {f n : Nat} (hn : n < 17) : reachF (edgesOf c) f n t = decide (d f ≤ n) := by
  rw [Bool.eq_iff_iff, decide_eq_true_eq]
  constructor
  · intro h
    have := reach_le hc hd f n t h
    have := hd.top
    omega
  · intro h
    exact reachF_mono h (reach_ge hc hd (d f) f rfl (by omega))
theorem IsShort.eq {c : Caps} {f t : Nat} {L M : List Nat} (h : IsShort c f t L) (g : IsShort c f t M) : L = M := by
  rcases h with ⟨rfl, h⟩ | ⟨h1, h2, h3, d, hd, h17, hw⟩
  · rcases g with ⟨rfl, _⟩ | ⟨g1, g2, g3, e, he, g17, _⟩
    · rfl
    · rcases h with h | h | h | ⟨d, hd, h⟩
      · rw [g1] at h; cases h
      · rw [g2] at h; cases h
      · exact absurd h g3
      · rw [hd.eq he f] at h; omega
  · rcases g with ⟨rfl, g⟩ | ⟨_, _, _, e, he, g17, gw⟩
    · rcases g with h | h | h | ⟨e, he, h⟩
      · rw [h1] at h; cases h
      · rw [h2] at h; cases h
      · exact absurd h h3
      · rw [he.eq hd f] at h; omega
    · obtain rfl : d = e := funext (hd.eq he)
      exact hw.eq gw
theorem IsShort.le {c : Caps} {f t : Nat} {L : List Nat} (h : IsShort c f t L) : L.length ≤ 16 ∧ ∀ x ∈ L, x ≤ 16 := by
  rcases h with ⟨rfl, _⟩ | ⟨h1, h2, h3, d, hd, h17, hw⟩
  · exact ⟨by simp, fun x hx => by cases hx⟩
  · have hi := hd.ins f h17
    refine ⟨by have := hw.len; omega, fun x hx => ?_⟩
    obtain ⟨i, hi2⟩ := List.mem_iff_getElem?.1 hx
    have key : ∀ i x, L[i]? = some x → d x + i = d f := by
      intro i
      induction i with
      | zero => intro x hx; rw [hw.head] at hx; cases hx; rfl
      | succ i ih =>
        intro x hx
        have hi : i + 1 < L.length := by
          apply Classical.byContradiction
          intro hn
          rw [List.getElem?_eq_none (by omega)] at hx
          cases hx
        have hy : L[i]? = some L[i] := List.getElem?_eq_getElem (by omega)
        have h1 := ih _ hy
        have h2 := (hw.steps i _ x hy hx).good.1
        omega
    have := key i x hi2
    have := hd.ins x (by omega)
    omega
end Go.Proofs.Ytgobnamhdkbbeaa

/- PathsLeast's table against the distances: plain laws. -/
namespace Go.Proofs.Ytgobnamhdkbbeaa
set_option linter.unusedVariables false
/-- One step of the table. -/
def relT (A : Nat → Nat → Bool) (T : Nat → Nat) (a b : Nat) : Nat → Nat := if A a b = true ∧ T b + 1 < T a then updN T a (T b + 1) else T
/-- What it never loses: it stands for ways, or there is none. -/
def Sound (d T : Nat → Nat) : Prop := ∀ p, T p = 99 ∨ (d p ≤ T p ∧ d p < 17 ∧ T p ≤ 98)
theorem relT_le (A : Nat → Nat → Bool) (T : Nat → Nat) (a b p : Nat) : relT A T a b p ≤ T p := by
  unfold relT
  split
  · rename_i h
    simp only [updN]
    split
    · rename_i e; subst e; omega
    · omega
  · omega
theorem relT_at (A : Nat → Nat → Bool) (T : Nat → Nat) (a b : Nat) (h : A a b = true) : relT A T a b a ≤ T b + 1 := by
  unfold relT
  split
  · simp [updN]
  · rename_i hn
    have : ¬ T b + 1 < T a := fun e => hn ⟨h, e⟩
    omega
theorem Sound.rel {A : Nat → Nat → Bool} {t : Nat} {d T : Nat → Nat} (hd : IsDist A t d) (h : Sound d T) (a b : Nat) (hA : A a b = true → a ≤ 16) : Sound d (relT A T a b) := by
  intro p
  unfold relT
  split
  · rename_i hc
    simp only [updN]
    split
    · rename_i e
      subst e
      have hb := h b
      have ha := h p
      have hs := hd.step p b hc.1
      have h17 := hd.le p
      right
      have hb2 : d b ≤ T b ∧ d b < 17 ∧ T b ≤ 98 := by
        rcases hb with hb | hb
        · rcases ha with ha | ha <;> omega
        · exact hb
      have hi := hd.ins b hb2.2.1
      refine ⟨by omega, by omega, ?_⟩
      rcases ha with ha | ha <;> omega
    · exact h p
  · exact h p
structure InvN (d : Nat → Nat) (n : Nat) (T : Nat → Nat) : Prop where
  snd : Sound d T
  low : ∀ p, d p ≤ n → d p < 17 → T p = d p
structure InvA (d : Nat → Nat) (n a : Nat) (T : Nat → Nat) : Prop where
  snd : Sound d T
  low : ∀ p, d p ≤ n → d p < 17 → T p = d p
  cur : ∀ p, p < a → d p = n + 1 → d p < 17 → T p = d p
structure InvB (A : Nat → Nat → Bool) (d : Nat → Nat) (n a b : Nat) (T : Nat → Nat) : Prop where
  inv : InvA d n a T
  row : ∀ q, q < b → A a q = true → d q = n → T a ≤ n + 1
theorem Sound.keep {d T T' : Nat → Nat} {p : Nat} (h : Sound d T') (hle : T' p ≤ T p) (e : T p = d p) (h17 : d p < 17) : T' p = d p := by
  rcases h p with h | h <;> omega
theorem InvA.start {d T : Nat → Nat} {A : Nat → Nat → Bool} {t n : Nat} (hd : IsDist A t d) (h : InvN d n T) : InvA d n 1 T :=
  ⟨h.snd, h.low, fun p hp e h17 => by have := (hd.ins p h17).1; omega⟩
theorem InvB.start {d T : Nat → Nat} {A : Nat → Nat → Bool} {n a : Nat} (h0 : A a 0 = false) (h : InvA d n a T) : InvB A d n a 1 T :=
  ⟨h, fun q hq hA _ => by
    obtain rfl : q = 0 := by omega
    rw [h0] at hA; cases hA⟩
theorem InvB.step {d T : Nat → Nat} {A : Nat → Nat → Bool} {t n a b : Nat} (hd : IsDist A t d) (hA : ∀ a b, A a b = true → a ≤ 16) (hn : n ≤ 15) (h : InvB A d n a b T) : InvB A d n a (b + 1) (relT A T a b) := by
  have hs := h.inv.snd.rel hd a b (hA a b)
  refine ⟨⟨hs, fun p hp h17 => hs.keep (relT_le A T a b p) (h.inv.low p hp h17) h17, fun p hp e h17 => hs.keep (relT_le A T a b p) (h.inv.cur p hp e h17) h17⟩, fun q hq hq2 hdq => ?_⟩
  by_cases e : q = b
  · subst e
    have h1 := relT_at A T a q hq2
    have h2 := h.inv.low q (by omega) (by omega)
    omega
  · exact Nat.le_trans (relT_le A T a b a) (h.row q (by omega) hq2 hdq)
theorem InvB.done {d T : Nat → Nat} {A : Nat → Nat → Bool} {t n a : Nat} (hd : IsDist A t d) (h : InvB A d n a 17 T) : InvA d n (a + 1) T :=
  ⟨h.inv.snd, h.inv.low, fun p hp e h17 => by
    by_cases hpa : p = a
    · subst hpa
      have hpt : p ≠ t := fun e2 => by subst e2; have := hd.top; omega
      obtain ⟨q, hA, hq⟩ := hd.par p h17 hpt
      have hi := hd.ins q (by omega)
      have := h.row q (by omega) hA (by omega)
      rcases h.inv.snd p with h2 | h2 <;> omega
    · exact h.inv.cur p (by omega) e h17⟩
theorem InvA.done {d T : Nat → Nat} {A : Nat → Nat → Bool} {t n : Nat} (hd : IsDist A t d) (h : InvA d n 17 T) : InvN d (n + 1) T :=
  ⟨h.snd, fun p hp h17 => by
    by_cases e : d p ≤ n
    · exact h.low p e h17
    · have := (hd.ins p h17).2.1
      exact h.cur p (by omega) (by omega) h17⟩
theorem InvN.start {d : Nat → Nat} {A : Nat → Nat → Bool} {t : Nat} (hd : IsDist A t d) : InvN d 0 (updN (fun _ => 99) t 0) :=
  ⟨fun p => by
    simp only [updN]
    split
    · rename_i e; subst e; right; have := hd.top; omega
    · exact .inl rfl, fun p hp h17 => by
    have e := hd.zero (show d p = 0 by omega)
    subst e
    simp [updN, hd.top]⟩
/-- Behind sixteen rounds the table is the distances'. -/
theorem InvN.end {d T : Nat → Nat} {A : Nat → Nat → Bool} {t : Nat} (hd : IsDist A t d) (h : InvN d 16 T) (p : Nat) : T p = if d p < 17 then d p else 99 := by
  by_cases e : d p < 17
  · rw [if_pos e, h.low p (by omega) e]
  · rw [if_neg e]
    rcases h.snd p with h2 | h2
    · exact h2
    · omega
/-- One round of the search by breadth, done. -/
theorem BfsIn.finish {A : Nat → Nat → Bool} {t a : Nat} (hA : ∀ p q, A p q = true → p ≤ 16) : ∀ (j k : Nat) (d : Nat → Nat) (Q : List Nat), k + j = 17 → 1 ≤ k → BfsIn A t d Q a k → ∃ d2 Q2, Bfs A t d2 Q2 ∧ 2 * und d2 + Q2.length ≤ 2 * und d + Q.length
  | 0, k, d, Q, hk, _, h => by
    obtain rfl : k = 17 := by omega
    exact ⟨d, Q, h.done hA, Nat.le_refl _⟩
  | j + 1, k, d, Q, hk, h1, h => by
    by_cases hc : d k = 17 ∧ A k a = true
    · obtain ⟨h2, h3⟩ := h.yes hc.1 hc.2 h1 (by omega)
      obtain ⟨d2, Q2, h4, h5⟩ := BfsIn.finish hA j (k + 1) _ _ (by omega) (by omega) h2
      refine ⟨d2, Q2, h4, ?_⟩
      rw [List.length_append, List.length_singleton] at h5
      omega
    · exact BfsIn.finish hA j (k + 1) _ _ (by omega) (by omega) (h.no hc)
theorem Bfs.finish {A : Nat → Nat → Bool} {t : Nat} (hA : ∀ p q, A p q = true → p ≤ 16) (h0 : ∀ a, A 0 a = false) : ∀ (m : Nat) (d : Nat → Nat) (Q : List Nat), 2 * und d + Q.length ≤ m → Bfs A t d Q → ∃ d2, IsDist A t d2
  | m, d, [], _, h => ⟨d, h.dist⟩
  | 0, d, a :: Q, hm, _ => by simp at hm
  | m + 1, d, a :: Q, hm, h => by
    obtain ⟨d2, Q2, h2, h3⟩ := BfsIn.finish hA 16 1 d Q rfl (Nat.le_refl _) (h.pop (h0 a))
    rw [List.length_cons] at hm
    exact Bfs.finish hA h0 m d2 Q2 (by omega) h2
/-- Distances there are. -/
theorem exists_dist {A : Nat → Nat → Bool} {t : Nat} (h1 : 1 ≤ t) (h2 : t ≤ 16) (hA : ∀ p q, A p q = true → p ≤ 16) (h0 : ∀ a, A 0 a = false) : ∃ d, IsDist A t d :=
  Bfs.finish hA h0 _ _ _ (Nat.le_refl _) (Bfs.start h1 h2)
end Go.Proofs.Ytgobnamhdkbbeaa

/- countinghouseref06: reach, Short. -/
namespace Go.Proofs.Ytgobnamhdkbbeaa
open Go.RowKit
set_option linter.unusedSimpArgs false
set_option linter.unusedVariables false
def boolT (f : Nat → Bool) : Array Value := tab 17 fun i => .bool (f i)
theorem boolT_sz (f : Nat → Bool) : (boolT f).size = 17 := tab_size ..
theorem boolT_get (f : Nat → Bool) {i : Nat} (h : i < 17) : (boolT f)[i]? = some (.bool (f i)) := tab_get _ h
theorem boolT_set (f : Nat → Bool) {i : Nat} (h : i < 17) (b : Bool) : (boolT f).setIfInBounds i (.bool b) = boolT (updN f i b) := by
  unfold boolT
  rw [tab_set _ _ h]
  apply tab_congr
  intro j hj
  unfold updN
  by_cases e : j = i
  · rw [if_pos e, if_pos e]
  · rw [if_neg e, if_neg e]
theorem boolT_ext {f g : Nat → Bool} (h : ∀ i, i < 17 → f i = g i) : boolT f = boolT g := tab_congr fun i hi => by rw [h i hi]
theorem boolT_all (f : Nat → Bool) : (boolT f).extract 0 (0 + 17) = boolT f := by
  have := boolT_sz f
  simp [← this]
theorem boolT_cells (f : Nat → Bool) : Cells 17 (boolT f) := tab_cells fun i _ => rfl
theorem boolT_splice (f g : Nat → Bool) : splice (boolT f) 0 (boolT g) = boolT g := splice_all (by rw [boolT_sz, boolT_sz])
theorem row_boolT : RowTy 44 17 (boolT fun _ => false) := ⟨⟨_, Try.underlying44, rfl⟩, by kernel_rfl, by kernel_rfl⟩
theorem part_bool (f : Nat → Bool) (i : Nat) (hi : i < 17) (w : World) : (part 4 (boolT f) i).run Try.prog w = .ok (.bool (f i)) w := by
  have hu := Try.underlying4
  have e := boolT_get f hi
  simp [part, isAgg, run_underlying hu, e]
section
variable {ops : Array Oper} {rest : List Oper} {a : Act} {w : World} {Q : Exit → Act → World → Prop} {dst : Option Tmp} {ty : TypeId} {pos : String} {after : Array Edge} {guard : Option (Nat × Bool)} {p q : Operand}
theorem wpl_indexBool {f : Nat → Bool} {k : IntKind} {i : Nat} (hw : Region.wanted ⟨dst, .index 44 p q, ty, pos, after, guard⟩ (yielded ops a.tmps) = true) (hp : a.eval p = .agg (boolT f)) (hq : a.eval q = .int k (i : Int)) (hi : i < 17)
    (h : wpList Try.prog ops Q rest (a.put dst (.bool (f i))) w) : wpList Try.prog ops Q (⟨dst, .index 44 p q, ty, pos, after, guard⟩ :: rest) a w := by
  refine wpl_pure hw _ (fun w => ?_) h
  have hu := Try.underlying44
  have hs : (sizeOf 4).run Try.prog w = .ok 1 w := by kernel_rfl
  have hp17 := part_bool f i hi w
  unfold execOp
  simp only [hp, hq]
  simp [Instr.index, asIntOf, run_underlying hu, Sem.run_bind, hs, hi, hp17]
end
structure ReA (W : World) (l : List Thing) (F : List Flw) (f n pi : Nat) (i : Value) (wr : World) : Prop where
  out : ∃ k : Nat, i = .int .i64 (k : Int) ∧ k ≤ n ∧ Heap W (Cel pi (boolT (reachF F f k)) 44 :: l) wr
structure ReB (W : World) (l : List Thing) (F : List Flw) (f k n pi : Nat) (i : Value) (wr : World) : Prop where
  out : ∃ j : Nat, i = .int .i64 (j : Int) ∧ j ≤ n ∧ Heap W (Cel pi (boolT fun p => reachF F f k p || (F.take j).any fun x => reachF F f k x.f && (x.t == p)) 44 :: l) wr
section
variable {W w : World} {l : List Thing} {p n : Nat} {a : Option Addr} {cc : Nat} {F : List Flw}
set_option maxRecDepth 100000
set_option maxHeartbeats 4000000
theorem reach_H (f s : Nat) (hf : f ≤ 16) (hs : s ≤ 16) (m1 : RgT p (.slice a n cc) ∈ l) (m2 : FlT (.slice a n cc) n F ∈ l) (hl : F.length = n) (hn : n ≤ 1000000) (hF : ∀ x ∈ F, x.f < 17 ∧ x.t < 17) :
    AnsH W l 118 #[.pointer (some ⟨p, 0, none⟩), .int .u8 (f : Int), .int .i64 (s : Int)] (.agg (boolT (reachF F f s))) := by
  intro w H
  have HL := Lib.hid hl
  have HF := Lib.hid hF
  have HR := Lib.hid (show ∀ l' w', (∀ x ∈ l, x ∈ l') → Heap W l' w' → Rd w' a (flwL F) from fun l' w' hs h => rowT_rd h (hs _ m2))
  have f17 : f < 17 := by omega
  clear hl hF
  go_enter Try.func118, Try.ntmps118
  have tok1 : True := trivial
  go_wp2_with (first
    | go_skip
    | (have _t := tok1; ((with_reducible show wpList _ _ _ (_ :: _) _ _); (with_reducible apply wpl_allocRH row_boolT); (· rfl); (· exact H); (clear H; intro pr _ H); (simp only [Act.put, List.setIfInBounds_toArray, List.set_cons_zero, List.set_cons_succ])); clear tok1 _t)
    | ((with_reducible show wpList _ _ _ (_ :: _) _ _); (with_reducible apply wpl_allocRH row_boolT); (· rfl); (· exact H); (clear H; intro pi _ H); (simp only [Act.put, List.setIfInBounds_toArray, List.set_cons_zero, List.set_cons_succ]))
    | ((with_reducible show wpList _ _ _ (_ :: _) _ _); (with_reducible apply wpl_storeBH); (· exact cell_bool); (· rfl); (· rfl); (· rfl); (· exact H); (· (repeat (first | (with_reducible exact List.mem_cons_self) | with_reducible apply List.mem_cons_of_mem))); (· (rw [boolT_sz]; omega)); (· exact boolT_set _ f17 _); (· (repeat (first | (with_reducible exact Repl.here) | with_reducible apply Repl.there))); (clear H; intro _ H); (simp only [Act.put, List.setIfInBounds_toArray, List.set_cons_zero, List.set_cons_succ])))
  have H0 := H
  clear H
  go_loopw [8] (fun i wr => ReA W (Cel pr (boolT fun _ => false) 44 :: l) F f s pi i wr) (fun i _ => s - (intOf i).toNat)
  case atStart => exact ⟨0, rfl, by omega, by rw [show boolT (reachF F f 0) = boolT (updN (fun _ => false) f true) from boolT_ext fun i _ => by by_cases e : i = f <;> simp [reachF, updN, e]]; exact H0⟩
  case round =>
    obtain ⟨k, rfl, hk, H'⟩ := hrel.out
    clear H0 hrel
    have H := H'
    clear H'
    by_cases hlt : k < s
    · go_wp2_with (first
        | go_skip
        | ((with_reducible show wpList _ _ _ (_ :: _) _ _); (with_reducible apply wpl_allocRH row_boolT); (· rfl); (· exact H); (clear H; intro pw _ H); (simp only [Act.put, List.setIfInBounds_toArray, List.set_cons_zero, List.set_cons_succ]))
        | ((with_reducible show wpList _ _ _ (_ :: _) _ _); (with_reducible apply wpl_loadRH row_boolT); (· rfl); (· rfl); (· exact H); (· (repeat (first | (with_reducible exact List.mem_cons_self) | with_reducible apply List.mem_cons_of_mem))); (· (simp only [boolT_sz, Nat.reduceAdd, Nat.reduceLeDiff, Nat.le_refl]; done)); (· with_reducible exact boolT_all ..); (simp only [Act.put, List.setIfInBounds_toArray, List.set_cons_zero, List.set_cons_succ]))
        | ((with_reducible show wpList _ _ _ (_ :: _) _ _); (with_reducible apply wpl_storeRH row_boolT); (· rfl); (· rfl); (· rfl); (· with_reducible exact boolT_cells ..); (· exact H); (· (repeat (first | (with_reducible exact List.mem_cons_self) | with_reducible apply List.mem_cons_of_mem))); (· (simp only [boolT_sz, Nat.reduceAdd, Nat.reduceLeDiff, Nat.le_refl]; done)); (· with_reducible exact boolT_splice ..); (· (repeat (first | (with_reducible exact Repl.here) | with_reducible apply Repl.there))); (clear H; intro _ H); (simp only [Act.put, List.setIfInBounds_toArray, List.set_cons_zero, List.set_cons_succ])))
      have H0 := H.perm (.swap _ _ _)
      clear H
      go_loopw [10] (fun i wr => ReB W (Cel pw (boolT (reachF F f k)) 44 :: Cel pr (boolT fun _ => false) 44 :: l) F f k n pi i wr) (fun i _ => n - (intOf i).toNat)
      case atStart => exact ⟨0, rfl, by omega, by rw [show boolT (fun p => reachF F f k p || (F.take 0).any fun x => reachF F f k x.f && (x.t == p)) = boolT (reachF F f k) from boolT_ext fun i _ => by simp]; exact H0⟩
      case round =>
        obtain ⟨j, rfl, hj, H'⟩ := hrel.out
        clear H0 hrel
        have H := H'
        clear H'
        by_cases hlt2 : j < n
        · have hjF : j < F.length := by rw [HL.out]; exact hlt2
          have hx : F[j]? = some F[j] := List.getElem?_eq_getElem hjF
          have hok := HF.out _ (List.getElem_mem hjF)
          have htk : F.take (j + 1) = F.take j ++ [F[j]] := by rw [List.take_add_one, hx]; rfl
          generalize F[j] = x at *
          obtain ⟨b, o, rfl, _⟩ := (HR.out _ _ (fun x hx => by (repeat (first | (with_reducible exact hx) | with_reducible apply List.mem_cons_of_mem))) H).lt (by rw [flwL_len]; omega)
          have HX := Lib.hid (show ∀ l' w', (∀ x ∈ l, x ∈ l') → Heap W l' w' → _ from fun l' w' hs h => flwL_rd (HR.out l' w' hs h) hx)
          have HTK := Lib.hid htk
          clear htk hx hjF
          obtain ⟨xf, xt, xn⟩ := x
          obtain ⟨o1, o2⟩ := hok
          simp only at o1 o2
          have HXH := HX.out _ _ (fun x hx => by (repeat (first | (with_reducible exact hx) | with_reducible apply List.mem_cons_of_mem))) H
          have HY := Lib.hid HXH
          clear HXH
          cases hb : reachF F f k xf
          · have HB := Lib.hid hb
            have hget := boolT_get (reachF F f k) o1
            rw [hb] at hget
            clear hb
            have HS := Lib.hid (show boolT (fun p => reachF F f k p || (F.take (j + 1)).any fun x => reachF F f k x.f && (x.t == p)) = boolT (fun p => reachF F f k p || (F.take j).any fun x => reachF F f k x.f && (x.t == p)) from boolT_ext fun i _ => by
              rw [HTK.out, List.any_append]
              simp [HB.out])
            go_wp2_with (first
              | go_skip
              | ((with_reducible show wpList _ _ _ (_ :: _) _ _); (with_reducible apply wpl_loadCH); (· exact cell_flows); (· rfl); (· rfl); (· exact H); (· exact List.mem_cons_of_mem _ (List.mem_cons_of_mem _ (List.mem_cons_of_mem _ m1))); (· exact rgC_g _); (simp only [Act.put, List.setIfInBounds_toArray, List.set_cons_zero, List.set_cons_succ]))
              | ((with_reducible show wpList _ _ _ (_ :: _) _ _); (with_reducible apply wpl_loadCell); (· first | exact cell_party | exact cell_i64); (· rfl); (· rfl); (· first | exact HY.out.1 | exact HY.out.2.1); (simp only [Act.put, List.setIfInBounds_toArray, List.set_cons_zero, List.set_cons_succ]))
              | ((with_reducible show wpList _ _ _ (_ :: _) _ _); (with_reducible apply wpl_loadCH); (· exact cell_bool); (· rfl); (· rfl); (· exact H); (· (repeat (first | (with_reducible exact List.mem_cons_self) | with_reducible apply List.mem_cons_of_mem))); (· exact hget); (simp only [Act.put, List.setIfInBounds_toArray, List.set_cons_zero, List.set_cons_succ])))
            refine ⟨?_, ?_⟩
            · exact ⟨⟨j + 1, by go_num, by omega, by rw [HS.out]; exact H⟩⟩
            · simp [intOf]; omega
          · have HB := Lib.hid hb
            have hget := boolT_get (reachF F f k) o1
            rw [hb] at hget
            clear hb
            have HS := Lib.hid (show boolT (fun p => reachF F f k p || (F.take (j + 1)).any fun x => reachF F f k x.f && (x.t == p)) = boolT (updN (fun p => reachF F f k p || (F.take j).any fun x => reachF F f k x.f && (x.t == p)) xt true) from boolT_ext fun i _ => by
              rw [HTK.out, List.any_append]
              unfold updN
              by_cases e : i = xt
              · subst e; simp [HB.out]
              · have : (xt == i) = false := by simp; omega
                simp [HB.out, e, this])
            go_wp2_with (first
              | go_skip
              | ((with_reducible show wpList _ _ _ (_ :: _) _ _); (with_reducible apply wpl_loadCH); (· exact cell_flows); (· rfl); (· rfl); (· exact H); (· exact List.mem_cons_of_mem _ (List.mem_cons_of_mem _ (List.mem_cons_of_mem _ m1))); (· exact rgC_g _); (simp only [Act.put, List.setIfInBounds_toArray, List.set_cons_zero, List.set_cons_succ]))
              | ((with_reducible show wpList _ _ _ (_ :: _) _ _); (with_reducible apply wpl_loadCell); (· first | exact cell_party | exact cell_i64); (· rfl); (· rfl); (· first | exact HY.out.1 | exact HY.out.2.1); (simp only [Act.put, List.setIfInBounds_toArray, List.set_cons_zero, List.set_cons_succ]))
              | ((with_reducible show wpList _ _ _ (_ :: _) _ _); (with_reducible apply wpl_loadCH); (· exact cell_bool); (· rfl); (· rfl); (· exact H); (· (repeat (first | (with_reducible exact List.mem_cons_self) | with_reducible apply List.mem_cons_of_mem))); (· exact hget); (simp only [Act.put, List.setIfInBounds_toArray, List.set_cons_zero, List.set_cons_succ]))
              | ((with_reducible show wpList _ _ _ (_ :: _) _ _); (with_reducible apply wpl_storeBH); (· exact cell_bool); (· rfl); (· rfl); (· rfl); (· exact H); (· (repeat (first | (with_reducible exact List.mem_cons_self) | with_reducible apply List.mem_cons_of_mem))); (· (rw [boolT_sz]; omega)); (· exact boolT_set _ o2 _); (· (repeat (first | (with_reducible exact Repl.here) | with_reducible apply Repl.there))); (clear H; intro _ H); (simp only [Act.put, List.setIfInBounds_toArray, List.set_cons_zero, List.set_cons_succ])))
            refine ⟨?_, ?_⟩
            · exact ⟨⟨j + 1, by go_num, by omega, by rw [HS.out]; exact H⟩⟩
            · simp [intOf]; omega
        · obtain rfl : n = j := by omega
          have HS := Lib.hid (show boolT (fun p => reachF F f k p || (F.take n).any fun x => reachF F f k x.f && (x.t == p)) = boolT (reachF F f (k + 1)) from by rw [List.take_of_length_le (by rw [HL.out]; exact Nat.le_refl _)]; rfl)
          go_wp2_with (first
            | go_skip
            | ((with_reducible show wpList _ _ _ (_ :: _) _ _); (with_reducible apply wpl_loadCH); (· exact cell_flows); (· rfl); (· rfl); (· exact H); (· exact List.mem_cons_of_mem _ (List.mem_cons_of_mem _ (List.mem_cons_of_mem _ m1))); (· exact rgC_g _); (simp only [Act.put, List.setIfInBounds_toArray, List.set_cons_zero, List.set_cons_succ])))
          refine ⟨?_, ?_⟩
          · exact ⟨⟨k + 1, by go_num, by omega, by rw [← HS.out]; exact H.drop (.there .here)⟩⟩
          · simp [intOf]; omega
    · obtain rfl : s = k := by omega
      go_wp2_with (first
        | go_skip
        | ((with_reducible show wpList _ _ _ (_ :: _) _ _); (with_reducible apply wpl_loadRH row_boolT); (· rfl); (· rfl); (· exact H); (· (repeat (first | (with_reducible exact List.mem_cons_self) | with_reducible apply List.mem_cons_of_mem))); (· (simp only [boolT_sz, Nat.reduceAdd, Nat.reduceLeDiff, Nat.le_refl]; done)); (· with_reducible exact boolT_all ..); (simp only [Act.put, List.setIfInBounds_toArray, List.set_cons_zero, List.set_cons_succ]))
        | ((with_reducible show wpList _ _ _ (_ :: _) _ _); (with_reducible apply wpl_storeRH row_boolT); (· rfl); (· rfl); (· rfl); (· with_reducible exact boolT_cells ..); (· exact H); (· (repeat (first | (with_reducible exact List.mem_cons_self) | with_reducible apply List.mem_cons_of_mem))); (· (simp only [boolT_sz, Nat.reduceAdd, Nat.reduceLeDiff, Nat.le_refl]; done)); (· with_reducible exact boolT_splice ..); (· (repeat (first | (with_reducible exact Repl.here) | with_reducible apply Repl.there))); (clear H; intro _ H); (simp only [Act.put, List.setIfInBounds_toArray, List.set_cons_zero, List.set_cons_succ])))
      exact ret_row1H row_boolT rfl rfl rfl H (by (repeat (first | (with_reducible exact List.mem_cons_self) | with_reducible apply List.mem_cons_of_mem))) (boolT_sz _) ⟨rfl, H.tail.tail⟩
structure RsA (W : World) (l : List Thing) (c : Caps) (f t : Nat) (d : Nat → Nat) (m : Nat) (i v : Value) (wr : World) : Prop where
  out : ∃ (a : Nat) (L : List Nat), i = .int .u8 (a : Int) ∧ d a < 17 ∧ d a ≤ m ∧ WayTo (edge c) d f a L ∧ Heap W (OwnT 30 1 v L.length (L.map pv) :: l) wr
structure RsB (W : World) (l : List Thing) (da : Nat) (i : Value) (wr : World) : Prop where
  out : ∃ k : Nat, i = .int .i64 (k : Int) ∧ k ≤ da ∧ Heap W l wr
structure RsC (W : World) (l : List Thing) (c : Caps) (a : Nat) (d : Nat → Nat) (i j : Value) (wr : World) : Prop where
  out : ∃ k : Nat, i = .int .u8 (a : Int) ∧ j = .int .u8 (k : Int) ∧ 1 ≤ k ∧ k ≤ 17 ∧ (∀ q, 1 ≤ q → q < k → ¬ GoodP (edge c) d a q) ∧ Heap W l wr
theorem rshort_not (c : Caps) (f t : Nat) (hf : f ≤ 255) (ht : t ≤ 255) (hc : GoodC c) (m1 : RgT p (.slice a (edgesOf c).length cc) ∈ l) (m2 : FlT (.slice a (edgesOf c).length cc) (edgesOf c).length (edgesOf c) ∈ l)
    (hn : mayP f = false ∨ mayP t = false ∨ f = t ∨ (mayP f = true ∧ mayP t = true ∧ reachF (edgesOf c) f 16 t = false)) : AnsH W l 99 #[.pointer (some ⟨p, 0, none⟩), .int .u8 (f : Int), .int .u8 (t : Int)] (.slice none 0 0) := by
  intro w H
  have hcase : (decide ((f : Int) < 1) = true) ∨ (decide ((f : Int) < 1) = false ∧ decide ((f : Int) > 16) = true) ∨ (decide ((f : Int) < 1) = false ∧ decide ((f : Int) > 16) = false ∧ decide ((t : Int) < 1) = true) ∨ (decide ((f : Int) < 1) = false ∧ decide ((f : Int) > 16) = false ∧ decide ((t : Int) < 1) = false ∧ decide ((t : Int) > 16) = true) ∨ (decide ((f : Int) < 1) = false ∧ decide ((f : Int) > 16) = false ∧ decide ((t : Int) < 1) = false ∧ decide ((t : Int) > 16) = false ∧ ((f : Int) == (t : Int)) = true) ∨
      (decide ((f : Int) < 1) = false ∧ decide ((f : Int) > 16) = false ∧ decide ((t : Int) < 1) = false ∧ decide ((t : Int) > 16) = false ∧ ((f : Int) == (t : Int)) = false ∧ f ≤ 16 ∧ t < 17 ∧ reachF (edgesOf c) f 16 t = false) := by
    by_cases e1 : f < 1
    · exact .inl (by simp; omega)
    · by_cases e2 : 16 < f
      · exact .inr (.inl ⟨by simp; omega, by simp; omega⟩)
      · by_cases e3 : t < 1
        · exact .inr (.inr (.inl ⟨by simp; omega, by simp; omega, by simp; omega⟩))
        · by_cases e4 : 16 < t
          · exact .inr (.inr (.inr (.inl ⟨by simp; omega, by simp; omega, by simp; omega, by simp; omega⟩)))
          · by_cases e5 : f = t
            · exact .inr (.inr (.inr (.inr (.inl ⟨by simp; omega, by simp; omega, by simp; omega, by simp; omega, by simp [e5]⟩))))
            · refine .inr (.inr (.inr (.inr (.inr ⟨by simp; omega, by simp; omega, by simp; omega, by simp; omega, by simp; omega, by omega, by omega, ?_⟩))))
              have hmf : mayP f = true := by unfold mayP; simp; omega
              have hmt : mayP t = true := by unfold mayP; simp; omega
              rcases hn with h | h | h | h
              · rw [hmf] at h; cases h
              · rw [hmt] at h; cases h
              · exact absurd h e5
              · exact h.2.2
  have hE : ∀ x ∈ edgesOf c, x.f < 17 ∧ x.t < 17 := fun x hx => by have := matE_mem 17 hx; omega
  have hlen := edges_len c
  have hre := fun h16 => reach_H (W := W) (l := l) (p := p) f 16 h16 (by omega) m1 m2 rfl (by omega) hE
  clear hn hE m1 m2
  rcases hcase with g1 | ⟨g1, g2⟩ | ⟨g1, g2, g3⟩ | ⟨g1, g2, g3, g4⟩ | ⟨g1, g2, g3, g4, g5⟩ | ⟨g1, g2, g3, g4, g5, g6, g7, g8⟩
  · clear hre
    go_enter Try.func99, Try.ntmps99
    go_wp2_with (go_skip)
    go_ret
    exact ⟨rfl, H⟩
  · clear hre
    go_enter Try.func99, Try.ntmps99
    go_wp2_with (go_skip)
    go_ret
    exact ⟨rfl, H⟩
  · clear hre
    go_enter Try.func99, Try.ntmps99
    go_wp2_with (go_skip)
    go_ret
    exact ⟨rfl, H⟩
  · clear hre
    go_enter Try.func99, Try.ntmps99
    go_wp2_with (go_skip)
    go_ret
    exact ⟨rfl, H⟩
  · clear hre
    go_enter Try.func99, Try.ntmps99
    go_wp2_with (go_skip)
    go_ret
    exact ⟨rfl, H⟩
  · have hr : AnsH W l 118 #[.pointer (some ⟨p, 0, none⟩), .int .u8 (f : Int), .int .i64 16] (.agg (boolT (reachF (edgesOf c) f 16))) := hre g6
    have HG := Lib.hid g8
    clear hre g8
    go_enter Try.func99, Try.ntmps99
    go_wp2_with (first | go_skip | ((with_reducible refine AnsH.call (by assumption) H ?_); clear H; intro _ H) | ((with_reducible show wpList _ _ _ (_ :: _) _ _); (with_reducible apply wpl_indexBool); (· rfl); (· rfl); (· rfl); (· exact g7); (rw [HG.out]); (simp only [Act.put, List.setIfInBounds_toArray, List.set_cons_zero, List.set_cons_succ])))
    go_ret
    exact ⟨rfl, H⟩
theorem rshort_H (c : Caps) (f t : Nat) (hf : f ≤ 255) (ht : t ≤ 255) (hc : GoodC c) (hb : BndC c) (m1 : RgT p (.slice a (edgesOf c).length cc) ∈ l) (m2 : FlT (.slice a (edgesOf c).length cc) (edgesOf c).length (edgesOf c) ∈ l) (H : Heap W l w) :
    Calls Try.prog 99 #[.pointer (some ⟨p, 0, none⟩), .int .u8 (f : Int), .int .u8 (t : Int)] w (ShortPost W l c f t) := by
  by_cases hn : mayP f = false ∨ mayP t = false ∨ f = t ∨ (mayP f = true ∧ mayP t = true ∧ reachF (edgesOf c) f 16 t = false)
  · refine (rshort_not c f t hf ht hc m1 m2 hn w H).mono ?_
    rintro e w1 ⟨rfl, H⟩
    refine ⟨_, [], rfl, .inl ⟨rfl, ?_⟩, (H.nilRow _ _).slide⟩
    rcases hn with h | h | h | ⟨h1, h2, h⟩
    · exact .inl h
    · exact .inr (.inl h)
    · exact .inr (.inr (.inl h))
    · have h2' := mayP_true h2
      obtain ⟨d, hd⟩ := exists_dist (A := edge c) h2'.1 h2'.2 (fun p q h => (edge_le h).1.2) (fun q => edge_no (by rw [capOf_zero]; omega))
      refine .inr (.inr (.inr ⟨d, hd, ?_⟩))
      rw [reach_iff hc hd (by omega)] at h
      have h3 : ¬ d f ≤ 16 := by simpa using h
      have := hd.le f
      omega
  · have hmf : mayP f = true := by
      cases e : mayP f
      · exact absurd (.inl e) hn
      · rfl
    have hmt : mayP t = true := by
      cases e : mayP t
      · exact absurd (.inr (.inl e)) hn
      · rfl
    have hne : f ≠ t := fun e => hn (.inr (.inr (.inl e)))
    have hre : reachF (edgesOf c) f 16 t = true := by
      cases e : reachF (edgesOf c) f 16 t
      · exact absurd (.inr (.inr (.inr ⟨hmf, hmt, e⟩))) hn
      · rfl
    have hf2 := mayP_true hmf
    have ht2 := mayP_true hmt
    obtain ⟨d, hd⟩ := exists_dist (A := edge c) ht2.1 ht2.2 (fun p q h => (edge_le h).1.2) (fun q => edge_no (by rw [capOf_zero]; omega))
    have hdf : d f < 17 := by
      rw [reach_iff hc hd (by omega)] at hre
      have : d f ≤ 16 := by simpa using hre
      omega
    have hE : ∀ x ∈ edgesOf c, x.f < 17 ∧ x.t < 17 := fun x hx => by have := matE_mem 17 hx; omega
    have hlen := edges_len c
    have hR := fun (l' : List Thing) (hs : ∀ x ∈ l, x ∈ l') (x s : Nat) (hx : x ≤ 16) (hs16 : s ≤ 16) => reach_H (W := W) (l := l') (p := p) x s hx hs16 (hs _ m1) (hs _ m2) rfl (by omega) hE
    have hC := fun (l' : List Thing) (hs : ∀ x ∈ l, x ∈ l') (x y : Nat) (hx : x ≤ 255) (hy : y ≤ 255) => rcap_H (W := W) (l := l') (p := p) x y hx hy (hs _ m1) (hs _ m2) rfl (by omega) (edges_ok hb)
    simp only [hc.cap] at hC
    have ht17 : t < 17 := by omega
    have g1 : decide ((f : Int) < 1) = false := by simp; omega
    have g2 : decide ((f : Int) > 16) = false := by simp; omega
    have g3 : decide ((t : Int) < 1) = false := by simp; omega
    have g4 : decide ((t : Int) > 16) = false := by simp; omega
    have g5 : ((f : Int) == (t : Int)) = false := by simp; omega
    have hr : AnsH W l 118 #[.pointer (some ⟨p, 0, none⟩), .int .u8 (f : Int), .int .i64 16] (.agg (boolT (reachF (edgesOf c) f 16))) := hR l (fun _ h => h) f 16 (by omega) (by omega)
    have HD := Lib.hid (And.intro hd (And.intro hne (And.intro hmf (And.intro hmt hc))))
    have HRE := Lib.hid hre
    have HR := Lib.hid hR
    have HC := Lib.hid hC
    clear hn hmf hmt hre hd hE hR hC m1 m2 hb hc hne
    go_enter Try.func99, Try.ntmps99
    go_wp2_with (first
      | go_skip
      | ((with_reducible refine AnsH.call (by assumption) H ?_); clear H; intro _ H)
      | ((with_reducible show wpList _ _ _ (_ :: _) _ _); (with_reducible apply wpl_indexBool); (· rfl); (· rfl); (· rfl); (· exact ht17); (rw [HRE.out]); (simp only [Act.put, List.setIfInBounds_toArray, List.set_cons_zero, List.set_cons_succ]))
      | ((with_reducible show wpList _ _ _ (_ :: _) _ _); (with_reducible apply wpl_bsOnes _ [.int .u8 (f : Int)]); (· rfl); (· rfl); (· rfl); (· decide); (· decide); (· exact pv_ones f); (· exact bs_party); (· rfl); (· exact H); (clear H; intro pq _ H); (simp only [Act.put, List.setIfInBounds_toArray, List.set_cons_zero, List.set_cons_succ])))
    clear hr
    have H0 := H.celOwn (n := 1) (size := 1) rfl (by unfold maxLen; omega)
    clear H
    go_loopg [1, 7] (d f) (fun m i v wr => RsA W l c f t d m i v wr)
    case atStart => exact ⟨f, [f], rfl, hdf, Nat.le_refl _, WayTo.start .., H0⟩
    case round =>
      obtain ⟨x, L, rfl, hdx, hdm, hway, H'⟩ := hrel.out
      clear H0 hrel
      have H := H'
      clear H'
      by_cases hxt : x = t
      · subst hxt
        have e1 : ((x : Int) != (x : Int)) = false := by simp
        go_wp2_with (go_skip)
        go_ret
        exact ⟨_, L, rfl, .inr ⟨HD.out.2.2.1, HD.out.2.2.2.1, HD.out.2.1, d, HD.out.1, hdf, hway.done HD.out.1.top⟩, H⟩
      · have hxi := HD.out.1.ins x hdx
        have e1 : ((x : Int) != (t : Int)) = true := by simp; omega
        have e2 : ((x : Int) == (t : Int)) = false := by simp; omega
        have hz : d x ≠ 0 := fun e => hxt (HD.out.1.zero e)
        have HW := Lib.hid hway
        have hLl := Lib.hid hway.len
        have hLb : L.length + 1 ≤ maxLen := by have := hway.len; unfold maxLen; omega
        have hLb2 : (L.length + 1) * 1 ≤ 140737488355328 := by have := hway.len; omega
        clear hway
        go_wp2_with (go_skip)
        have H0 := H
        clear H
        go_loopw [8] (fun i wr => RsB W (OwnT 30 1 u7 L.length (L.map pv) :: l) (d x) i wr) (fun i _ => 17 - (intOf i).toNat)
        case atStart => exact ⟨0, rfl, by omega, H0⟩
        case round =>
          obtain ⟨k, rfl, hk, H'⟩ := hrel.out
          clear H0 hrel
          have H := H'
          clear H'
          have hr := HR.out (OwnT 30 1 u7 L.length (L.map pv) :: l) (fun x hx => List.mem_cons_of_mem _ hx) x k (by omega) (by omega)
          by_cases hlt : k < d x
          · have HRX := Lib.hid (show reachF (edgesOf c) x k t = false by
              rw [reach_iff HD.out.2.2.2.2 HD.out.1 (by omega)]
              simp; omega)
            go_wp2_with (first
              | go_skip
              | ((with_reducible refine AnsH.call (by assumption) H ?_); clear H; intro _ H)
              | ((with_reducible show wpList _ _ _ (_ :: _) _ _); (with_reducible apply wpl_indexBool); (· rfl); (· rfl); (· rfl); (· exact ht17); (rw [HRX.out]); (simp only [Act.put, List.setIfInBounds_toArray, List.set_cons_zero, List.set_cons_succ])))
            refine ⟨?_, ?_⟩
            · exact ⟨⟨k + 1, by go_num, by omega, H⟩⟩
            · simp [intOf]; omega
          · obtain rfl : k = d x := by omega
            have HRX := Lib.hid (show reachF (edgesOf c) x (d x) t = true by
              rw [reach_iff HD.out.2.2.2.2 HD.out.1 (by omega)]
              simp)
            have hw1 : wrap64 ((d x : Int) - 1) = (d x : Int) - 1 := IntWalk.wrap64_in _ ⟨by omega, by omega⟩
            go_wp2_with (first
              | go_skip
              | ((with_reducible refine AnsH.call (by assumption) H ?_); clear H; intro _ H)
              | ((with_reducible show wpList _ _ _ (_ :: _) _ _); (with_reducible apply wpl_indexBool); (· rfl); (· rfl); (· rfl); (· exact ht17); (rw [HRX.out]); (simp only [Act.put, List.setIfInBounds_toArray, List.set_cons_zero, List.set_cons_succ])))
            clear hr
            have hnx := HD.out.1.next hdx hxt
            have H0 := H
            clear H
            go_loopw [1, 9] (fun i j wr => RsC W (OwnT 30 1 u7 L.length (L.map pv) :: l) c x d i j wr) (fun _ j _ => 17 - (intOf j).toNat)
            case atStart => exact ⟨1, rfl, rfl, by omega, by omega, (fun q h1 h2 => by omega), H0⟩
            case round =>
              obtain ⟨k, rfl, rfl, hk1, hk17, hno, H'⟩ := hrel.out
              clear H0 hrel
              have H := H'
              clear H'
              by_cases hlt : k < 17
              · have g16 : decide ((k : Int) ≤ 16) = true := by simp; omega
                have hcap := HC.out (OwnT 30 1 u7 L.length (L.map pv) :: l) (fun x hx => List.mem_cons_of_mem _ hx) x k (by omega) (by omega)
                by_cases hA : 0 < c x k
                · have c1 : decide (c x k > 0) = true := by simpa using hA
                  have hA2 : edge c x k = true := HD.out.2.2.2.2.edge.2 hA
                  have hstep := HD.out.1.step x k hA2
                  have hr2 : AnsH W (OwnT 30 1 u7 L.length (L.map pv) :: l) 118 #[.pointer (some ⟨p, 0, none⟩), .int .u8 (k : Int), .int .i64 ((d x : Int) - 1)] (.agg (boolT (reachF (edgesOf c) k (d x - 1)))) := by
                    have := HR.out (OwnT 30 1 u7 L.length (L.map pv) :: l) (fun x hx => List.mem_cons_of_mem _ hx) k (d x - 1) (by omega) (by omega)
                    rwa [show ((d x - 1 : Nat) : Int) = (d x : Int) - 1 by omega] at this
                  by_cases hg : d k + 1 = d x
                  · have HRK := Lib.hid (show reachF (edgesOf c) k (d x - 1) t = true by
                      rw [reach_iff HD.out.2.2.2.2 HD.out.1 (by omega)]
                      simp; omega)
                    have HN := Lib.hid (⟨hk1, by omega, ⟨hg, hA2⟩, hno⟩ : IsNext (edge c) d x k)
                    have HG := Lib.hid hg
                    clear hno hnx hg hA hA2
                    go_wp2_with (first
                      | go_skip
                      | ((with_reducible refine AnsH.call (by assumption) H ?_); clear H; intro _ H)
                      | ((with_reducible show wpList _ _ _ (_ :: _) _ _); (with_reducible apply wpl_indexBool); (· rfl); (· rfl); (· rfl); (· exact ht17); (rw [HRK.out]); (simp only [Act.put, List.setIfInBounds_toArray, List.set_cons_zero, List.set_cons_succ]))
                      | ((with_reducible show wpList _ _ _ (_ :: _) _ _); (with_reducible apply wpl_bsOnes _ [.int .u8 (k : Int)]); (· rfl); (· rfl); (· rfl); (· decide); (· decide); (· exact pv_ones k); (· exact bs_party); (· rfl); (· exact H); (clear H; intro pk _ H); (simp only [Act.put, List.setIfInBounds_toArray, List.set_cons_zero, List.set_cons_succ]))
                      | ((with_reducible show wpList _ _ _ (_ :: _) _ _); (with_reducible apply wpl_appendO slP); (· rfl); (· rfl); (· rfl); (· rfl); (· exact H.perm (.swap _ _ _)); (· exact H.celRd List.mem_cons_self); (· rfl); (· exact pv_one k); (· exact hLb); (· exact hLb2); (clear H; intro v2 _ H); (simp only [Act.put, List.setIfInBounds_toArray, List.set_cons_zero, List.set_cons_succ])))
                    go_roundg (d k)
                    case measure => have := HG.out; omega
                    case rel =>
                      refine ⟨⟨k, L ++ [k], rfl, by have := HG.out; omega, Nat.le_refl _, HW.out.snoc HN.out, ?_⟩⟩
                      rw [List.length_append, List.map_append]
                      exact H.drop (.there .here)
                  · have HRK := Lib.hid (show reachF (edgesOf c) k (d x - 1) t = false by
                      rw [reach_iff HD.out.2.2.2.2 HD.out.1 (by omega)]
                      simp; omega)
                    have HN := Lib.hid (show ∀ q, 1 ≤ q → q < k + 1 → ¬ GoodP (edge c) d x q from fun q h1 h2 => by
                      by_cases e : q = k
                      · subst e; intro hG; exact hg hG.1
                      · exact hno q h1 (by omega))
                    clear hno hnx hg hA hA2
                    go_wp2_with (first
                      | go_skip
                      | ((with_reducible refine AnsH.call (by assumption) H ?_); clear H; intro _ H)
                      | ((with_reducible show wpList _ _ _ (_ :: _) _ _); (with_reducible apply wpl_indexBool); (· rfl); (· rfl); (· rfl); (· exact ht17); (rw [HRK.out]); (simp only [Act.put, List.setIfInBounds_toArray, List.set_cons_zero, List.set_cons_succ])))
                    refine ⟨?_, ?_⟩
                    · exact ⟨⟨k + 1, rfl, by go_num, by omega, by omega, HN.out, H⟩⟩
                    · simp [intOf]; omega
                · have c1 : decide (c x k > 0) = false := by simpa using hA
                  have HN := Lib.hid (show ∀ q, 1 ≤ q → q < k + 1 → ¬ GoodP (edge c) d x q from fun q h1 h2 => by
                    by_cases e : q = k
                    · subst e; intro hG; exact hA (HD.out.2.2.2.2.edge.1 hG.2)
                    · exact hno q h1 (by omega))
                  clear hno hnx hA
                  go_wp2_with (first | go_skip | ((with_reducible refine AnsH.call (by assumption) H ?_); clear H; intro _ H))
                  refine ⟨?_, ?_⟩
                  · exact ⟨⟨k + 1, rfl, by go_num, by omega, by omega, HN.out, H⟩⟩
                  · simp [intOf]; omega
              · exact absurd (fun q h1 h2 => hno q h1 (by omega)) hnx
end
end Go.Proofs.Ytgobnamhdkbbeaa
