/- Part 7 of what several laws stand on: Rnd11, Rnd12, Ref08m, Fair8. -/
import Derived.Test.YtbmmdfjabkpoeaaRndRPart6
/- rounds.Least. -/
namespace Go.Proofs.Ytbmmdfjabkpoeaa
open Go.RowKit
set_option linter.unusedSimpArgs false
set_option linter.unusedVariables false
theorem slDb8 : SlTy Try.prog 50 51 1 8 (.pointer none) := slTy_mk Try.underlying50 (by kernel_rfl) rfl (by decide)
theorem dbs_app : ∀ (ps : List Nat) (F : List Flw) (N : List Int) (p : Nat) (x : Flw) (m : Int), ps.length = F.length → N.length = F.length → dbs (ps ++ [p]) (F ++ [x]) (N ++ [m]) = dbs ps F N ++ [debtT p x m]
  | [], [], [], p, x, m, _, _ => rfl
  | [], y :: F, _, p, x, m, h, _ => by simp at h
  | [], [], k :: N, p, x, m, _, h => by simp at h
  | q :: ps, [], _, p, x, m, h, _ => by simp at h
  | q :: ps, y :: F, [], p, x, m, _, h => by simp at h
  | q :: ps, y :: F, k :: N, p, x, m, h1, h2 => by
    show debtT q y k :: dbs (ps ++ [p]) (F ++ [x]) (N ++ [m]) = _
    rw [dbs_app ps F N p x m (by simpa using h1) (by simpa using h2)]
    rfl
theorem leftL_app : ∀ (F : List Flw) (N : List Int) (x : Flw) (m : Int), N.length = F.length → leftL (F ++ [x]) (N ++ [m]) = leftL F N ++ if 0 < m then [⟨x.f, x.t, m⟩] else []
  | [], [], x, m, _ => by simp [leftL]
  | [], k :: N, x, m, h => by simp at h
  | y :: F, [], x, m, h => by simp at h
  | y :: F, k :: N, x, m, h => by
    show _ ++ leftL (F ++ [x]) (N ++ [m]) = (_ ++ leftL F N) ++ _
    rw [leftL_app F N x m (by simpa using h), List.append_assoc]
theorem leftL_take {F : List Flw} {N : List Int} (h : N.length = F.length) {k : Nat} {x : Flw} {m : Int} (hx : F[k]? = some x) (hm : N[k]? = some m) : leftL (F.take (k + 1)) (N.take (k + 1)) = leftL (F.take k) (N.take k) ++ if 0 < m then [⟨x.f, x.t, m⟩] else [] := by
  rw [List.take_add_one, hx, List.take_add_one, hm]
  exact leftL_app _ _ _ _ (by simp; omega)
theorem leftL_len : ∀ (F : List Flw) (N : List Int), (leftL F N).length ≤ F.length
  | [], N => by simp [leftL]
  | x :: F, [] => by simp [leftL]
  | x :: F, m :: N => by
    have := leftL_len F N
    rw [leftL, List.length_append, List.length_cons]
    split <;> simp <;> omega
theorem dbt_flow (a b n k : Int) : (dbt a b n k).extract 0 (0 + 3) = flow a b n := by simp [dbt, flow]
theorem bd8 (a b n : Int) : Array.foldl (fun (cs : Array Value) (x : Value × Nat) => cs.setIfInBounds x.2 x.1) #[.int .u8 0, .int .u8 0, .int .i64 0, .int .i64 0] (flow a b n).zipIdx 0 (flow a b n).size = dbt a b n 0 := by simp [flow, dbt]
theorem bd8b (a b n : Int) : Array.foldl (fun (cs : Array Value) (x : Value × Nat) => cs.setIfInBounds x.2 x.1) #[.int .u8 0, .int .u8 0, .int .i64 0, .int .i64 0] (flow a b n).zipIdx 0 3 = dbt a b n 0 := by simp [flow, dbt]
theorem OwnT.form0 {w : World} {e size n : Nat} {v : Value} {xs : List Value} (h : (OwnT e size v n xs).ok w) : ∃ a c, v = .slice a n c ∧ n ≤ c ∧ c ≤ maxLen := by
  obtain ⟨_, ⟨h1, h2⟩ | ⟨g, off, cap, cur, h1, _, _, h2, h3, _⟩⟩ := h
  · exact ⟨none, 0, by rw [h1, h2], by omega, by unfold maxLen; omega⟩
  · exact ⟨_, cap, h1, h2, h3⟩
/-- The pointers so far. -/
def PtrIn (ps : List Nat) (xs : List Value) (k : Nat) : Prop := ps.length = k ∧ xs.take k = ptrL ps
theorem PtrIn.put {ps : List Nat} {xs : List Value} {k : Nat} (h : PtrIn ps xs k) (hk : k < xs.length) (p : Nat) : PtrIn (ps ++ [p]) (xs.set k (.pointer (some ⟨p, 0, none⟩))) (k + 1) := by
  refine ⟨by simp [h.1], ?_⟩
  rw [List.take_add_one, List.take_set_of_le (Nat.le_refl k), h.2, List.getElem?_set_self hk]
  simp [ptrL]
structure LsA (W : World) (l : List Thing) (F : List Flw) (g n : Nat) (i : Value) (wr : World) : Prop where
  out : ∃ (k : Nat) (ps : List Nat) (xs : List Value), k ≤ n ∧ i = .int .i64 (k : Int) ∧ xs.length = n ∧ PtrIn ps xs k ∧ Heap W (OwnT 51 1 (.slice (some ⟨g, 0, none⟩) n n) n xs :: (dbs ps (F.take k) ((F.take k).map Flw.n) ++ l)) wr
structure LsB (W : World) (l : List Thing) (F : List Flw) (ps : List Nat) (g n : Nat) (q : Int) (v j : Value) (wr : World) : Prop where
  out : ∃ (k : Nat) (N : List Int), v = .slice none 0 0 ∧ j = .int .i64 (k : Int) ∧ RdTr F k N ∧ (k : Int) ≤ q ∧ Heap W (dbs ps F N ++ (OwnT 51 1 (.slice (some ⟨g, 0, none⟩) n n) n (ptrL ps) :: l)) wr
structure LsC (W : World) (l : List Thing) (F : List Flw) (N : List Int) (n : Nat) (v i : Value) (wr : World) : Prop where
  out : ∃ (k : Nat), k ≤ n ∧ i = .int .i64 (k : Int) ∧ Heap W (RowT 39 3 v (leftL (F.take k) (N.take k)).length (flwL (leftL (F.take k) (N.take k))) :: l) wr
def LeastPost (W : World) (l : List Thing) (q0 : Int) (F : List Flw) (q : Int) (e : Ending) (w' : World) : Prop := ∃ v L k er, e = .returned (.tuple #[v, .int .i64 k, .int .i64 er]) ∧ LeastOut q0 F q L k er ∧ Heap W (OwnT 39 3 v L.length (flwL L) :: l) w'
section
variable {W w : World} {l : List Thing}
set_option maxRecDepth 100000
set_option maxHeartbeats 8000000
theorem Heap.nilOwn (e size : Nat) (H : Heap W l w) : Heap W (OwnT e size (.slice none 0 0) 0 [] :: l) w := (H.nilRow e size).slide
theorem wpl_storeOwnP {ops : Array Oper} {rest : List Oper} {a : Act} {l' : List Thing} {Q : Exit → Act → World → Prop} {T e : TypeId} {dst : Option Tmp} {ty : TypeId} {pos : String} {after : Array Edge} {guard : Option (Nat × Bool)} {x y : Operand} {g ad off n c size j : Nat} {q : Option Addr} {xs : List Value} (CT : CellTy T) (hw : Region.wanted ⟨dst, .store T x y, ty, pos, after, guard⟩ (yielded ops a.tmps) = true) (hx : a.eval x = .pointer (some ⟨g, ad, none⟩)) (hy : a.eval y = .pointer q)
    (H : Heap W l w) (m : OwnT e size (.slice (some ⟨g, off, none⟩) n c) n xs ∈ l) (hk : ad = off + j) (hj : j < xs.length) (r : Repl l (OwnT e size (.slice (some ⟨g, off, none⟩) n c) n xs) (OwnT e size (.slice (some ⟨g, off, none⟩) n c) n (xs.set j (.pointer q))) l')
    (h : ∀ w', Heap W l' w' → wpList Try.prog ops Q rest (a.put dst undef) w') : wpList Try.prog ops Q (⟨dst, .store T x y, ty, pos, after, guard⟩ :: rest) a w := wpl_storeOwnC CT hw hx hy ⟨rfl, rfl⟩ H m hk hj r h
theorem Heap.sub {l' : List Thing} (H : Heap W l w) (h : l'.Sublist l) : Heap W l' w := ⟨H.low, fun x hx => H.ok x (h.subset hx), fun x hx => H.fp x (h.subset hx), H.apart.sublist h⟩
theorem edround_H {F : List Flw} {N : List Int} (hM : MayD F) (hl : F.length ≤ 1000) (ea : Option Addr) (ec : Nat) (H : Heap W (RowT 42 3 (.slice ea (edD F N).length ec) (edD F N).length (edgL (edD F N)) :: l) w) :
    Calls Try.prog 19 #[.slice ea (edD F N).length ec] w fun e w' => ∃ a c, e = .returned (.slice a (roundOf (edD F N)).length c) ∧ Heap W (OwnT 37 1 (.slice a (roundOf (edD F N)).length c) (roundOf (edD F N)).length ((roundOf (edD F N)).map pv) :: RowT 42 3 (.slice ea (edD F N).length ec) (edD F N).length (edgL (edD F N)) :: l) w' := by
  have h1 := edD_len F N
  have C := round_H (W := W) ea _ ec (edD F N) rfl (by omega) (fun e he => by have := edD_ok hM e he; exact ⟨by omega, by omega, by omega, by omega⟩) (fun w' H' => H'.rowRd List.mem_cons_self) H
  refine C.mono ?_
  rintro e w' ⟨v, rfl, H'⟩
  rw [edD_keep hM] at H'
  obtain ⟨a, c, rfl, _, _⟩ := OwnT.form0 (H'.ok _ List.mem_cons_self)
  exact ⟨a, c, rfl, H'⟩
attribute [local go_sem high] bd8 bd8b flow_sz
open Classical in
theorem least8_H (a : Option Addr) (n c : Nat) (F : List Flw) (q : Int) (hl : F.length = n) (hn : n ≤ 1000) (hF : ∀ x ∈ F, FlwOk x) (h63 : q ≤ 9223372036854775807) (R : ∀ l' w', (∀ x ∈ l, x ∈ l') → Heap W l' w' → Rd w' a (flwL F)) (H : Heap W l w) :
    Calls Try.prog 10 #[.slice a n c, .int .i64 q] w (LeastPost W l 13 F q) := by
  have M := may8_H (W := W) a n c F hl (by omega) hF R
  have HL := Lib.hid hl
  have HR := Lib.hid R
  have HF := Lib.hid hF
  clear hl R hF
  go_enter Try.func10, Try.ntmps10
  by_cases hM : MayD F
  · by_cases hq : 0 ≤ q
    · have d1 : decide (MayD F) = true := decide_eq_true hM
      have d2 : decide (q < 0) = false := decide_eq_false (by omega)
      rw [d1] at M
      have HM := Lib.hid hM
      have hn1 : n ≤ 65536 := by omega
      have hn2 : 8 * n ≤ 281474976710656 := by omega
      clear hM d1
      go_wp2_with (first
        | go_skip
        | ((with_reducible refine AnsH.call (by assumption) H ?_); clear H; intro _ H)
        | ((with_reducible show wpList _ _ _ (_ :: _) _ _); (with_reducible apply wpl_makeC slDb8 (n := n) (m := n)); (· rfl); (· rfl); (· rfl); (· rfl); (· exact Nat.le_refl _); (· exact hn1); (· exact hn2); (· exact H); (clear H; intro g _ H); (simp only [Act.put, List.setIfInBounds_toArray, List.set_cons_zero, List.set_cons_succ])))
      replace H := H.celOwn (n := n) (size := 1) (by rw [size_madeCells]) (by unfold maxLen; omega)
      obtain ⟨xs0, hx0⟩ : ∃ xs0, (madeCells (Value.cells (.pointer none)) (n * 1)).toList = xs0 := ⟨_, rfl⟩
      have hx0l : xs0.length = n := by rw [← hx0]; simp [size_madeCells]
      rw [hx0] at H
      clear hx0 hn1 hn2 M
      have H0 := H
      clear H
      go_loopw [25] (fun i wr => LsA W l F g n i wr) (fun i _ => n - (intOf i).toNat)
      case atStart => exact ⟨0, [], xs0, Nat.zero_le _, rfl, hx0l, ⟨rfl, rfl⟩, by simpa [dbs] using H0⟩
      case round =>
        obtain ⟨k, ps, xs, hk, rfl, hxl, hps, H⟩ := hrel.out
        clear H0 hrel hx0l
        by_cases hlt : k < n
        · have Rw := HR.out _ wr (fun x hx => List.mem_cons_of_mem _ (List.mem_append_right _ hx)) H
          obtain ⟨eb, eo, rfl, _⟩ := Rw.lt (by rw [flwL_len, HL.out]; omega)
          have hfk : F[k]? = some (F[k]'(by rw [HL.out]; exact hlt)) := List.getElem?_eq_getElem _
          have hrow := flwL_at F k (by rw [HL.out]; exact hlt)
          have hlen : k * 3 + 3 ≤ (flwL F).length := by rw [flwL_len, HL.out]; omega
          generalize F[k]'(by rw [HL.out]; exact hlt) = x at *
          have hrw : (((flwL F).drop (k * 3)).take 3).toArray = flow (x.f : Int) (x.t : Int) x.n := by rw [hrow]; rfl
          have HFK := Lib.hid hfk
          have HPS := Lib.hid hps
          clear hrow hfk hps
          have hkx : k < xs.length := by omega
          go_wp2_with (first
            | ((with_reducible show wpList _ _ _ (_ :: _) _ _); (with_reducible apply wpl_boxRH); (· rfl); (· rfl); (· exact H); (clear H; intro pd _ H); (simp only [Act.put, List.setIfInBounds_toArray, List.set_cons_zero, List.set_cons_succ]))
            | go_skip
            | ((with_reducible show wpList _ _ _ (_ :: _) _ _); (with_reducible apply wpl_storeOwnP cell_pdbt); (· rfl); (· rfl); (· rfl); (· exact H); (· (repeat (first | (with_reducible exact List.mem_cons_self) | with_reducible apply List.mem_cons_of_mem))); (· exact (Nat.zero_add _).symm); (· exact hkx); (· (repeat (first | (with_reducible exact Repl.here) | with_reducible apply Repl.there))); (clear H; intro _ H); (simp only [Act.put, List.setIfInBounds_toArray, List.set_cons_zero, List.set_cons_succ]))
            | ((with_reducible show wpList _ _ _ (_ :: _) _ _); (with_reducible apply wpl_loadRdR row_flow); (· rfl); (· rfl); (· exact Rw); (· rfl); (· exact hlen); (· decide); (· exact hrw); (simp only [Act.put, List.setIfInBounds_toArray, List.set_cons_zero, List.set_cons_succ]))
            | ((with_reducible show wpList _ _ _ (_ :: _) _ _); (with_reducible apply wpl_allocRH row_flow); (· rfl); (· exact H); (clear H; intro px _ H); (simp only [Act.put, List.setIfInBounds_toArray, List.set_cons_zero, List.set_cons_succ]))
            | ((with_reducible show wpList _ _ _ (_ :: _) _ _); (with_reducible apply wpl_storeRH row_flow); (· rfl); (· rfl); (· rfl); (· with_reducible exact flow_cells ..); (· exact H); (· (repeat (first | (with_reducible exact List.mem_cons_self) | with_reducible apply List.mem_cons_of_mem))); (· (simp only [flow_sz, Nat.reduceAdd, Nat.reduceLeDiff, Nat.le_refl]; done)); (· with_reducible exact flow_splice ..); (· (repeat (first | (with_reducible exact Repl.here) | with_reducible apply Repl.there))); (clear H; intro _ H); (simp only [Act.put, List.setIfInBounds_toArray, List.set_cons_zero, List.set_cons_succ]))
            | ((with_reducible show wpList _ _ _ (_ :: _) _ _); (with_reducible apply wpl_loadRH row_flow); (· rfl); (· rfl); (· exact H); (· (repeat (first | (with_reducible exact List.mem_cons_self) | with_reducible apply List.mem_cons_of_mem))); (· (simp only [flow_sz, Nat.reduceAdd, Nat.reduceLeDiff, Nat.le_refl]; done)); (· with_reducible exact flow_all ..); (simp only [Act.put, List.setIfInBounds_toArray, List.set_cons_zero, List.set_cons_succ])))
          refine ⟨⟨k + 1, ps ++ [pd], _, by omega, by go_num, by rw [List.length_set]; exact hxl, HPS.out.put hkx pd, ?_⟩, ?measure1⟩
          case measure1 => simp [intOf]; omega
          rw [List.take_add_one, HFK.out, Option.toList_some, List.map_append, List.map_cons, List.map_nil, dbs_app _ _ _ _ _ _ (by rw [HPS.out.1, List.length_take, HL.out]; omega) (by simp), List.append_assoc, List.cons_append, List.nil_append]
          replace H := H.drop (.there .here)
          have e : DbC pd x.f x.t x.n 0 = debtT pd x x.n := by unfold debtT; rw [Int.sub_self]
          rw [show (Cel pd (dbt (x.f : Int) (x.t : Int) x.n 0) 53) = debtT pd x x.n from e] at H
          refine H.perm ((List.Perm.swap _ _ _).trans (.cons _ ?_))
          exact List.perm_middle.symm
        · obtain rfl : k = n := by omega
          rw [List.take_of_length_le (by rw [HL.out]; exact Nat.le_refl _)] at H
          have hx2 : xs = ptrL ps := by rw [← hps.2, List.take_of_length_le (by omega)]
          subst hx2
          have hp := hps.1
          clear hps hxl hlt hk
          go_wp2_with (go_skip)
          replace H : Heap W (dbs ps F (F.map Flw.n) ++ (OwnT 51 1 (.slice (some ⟨g, 0, none⟩) k k) k (ptrL ps) :: l)) wr := H.perm List.perm_middle.symm
          have HP := Lib.hid hp
          have H0 := H
          clear H hp
          go_loopw [4, 5] (fun v j wr => LsB W l F ps g k q v j wr) (fun _ j _ => (q - intOf j).toNat)
          case atStart => exact ⟨0, _, rfl, rfl, .nil, by omega, H0⟩
          case round =>
            obtain ⟨j, N, rfl, rfl, ht, hjq, H⟩ := hrel.out
            clear H0 hrel
            have HRT := Lib.hid ht
            have hI := (ht.inv HM.out).1
            have HI := Lib.hid hI
            have hN : N.length = k := hI.len.trans HL.out
            have HN := Lib.hid hN
            clear ht hI hN
            have C1 := edges8_H (some ⟨g, 0, none⟩) k k ps F N HP.out HL.out HN.out (by omega) (fun l' w' hh H' => H'.ownRd (hh _ (List.mem_append_right _ List.mem_cons_self))) (fun i p x m g1 g2 g3 => dbs_mem g1 g2 g3) H
            have C2 := fun ea ec w' (H' : Heap W (RowT 42 3 (.slice ea (edD F N).length ec) (edD F N).length (edgL (edD F N)) :: (dbs ps F N ++ (OwnT 51 1 (.slice (some ⟨g, 0, none⟩) k k) k (ptrL ps) :: l))) w') => edround_H HM.out (by rw [HL.out]; exact hn) ea ec H'
            obtain ⟨T, hT⟩ : ∃ T, roundOf (edD F N) = T := ⟨_, rfl⟩
            have HT := Lib.hid hT
            rw [hT] at C2
            obtain ⟨tn, htn⟩ : ∃ tn, T.length = tn := ⟨_, rfl⟩
            have HTN := Lib.hid htn
            rw [htn] at C2
            clear hT htn
            by_cases hr : tn = 0
            · have e1 : ((tn : Int) == 0) = true := by simp; omega
              go_wp2_with (first
                | go_skip
                | (refine C1.mono ?_; clear C1 H; rintro _ _ ⟨_, rfl, H⟩; obtain ⟨ea, ec, rfl, _, _⟩ := RowT.form0 (H.ok _ List.mem_cons_self))
                | (refine (C2 _ _ _ H).mono ?_; clear C2 H; rintro _ _ ⟨ta, tc, rfl, H⟩))
              subst hr
              have H0 := H.nilRow 39 3
              clear H
              go_loopw [4, 46] (fun v i wr => LsC W (OwnT 37 1 (.slice ta 0 tc) 0 (T.map pv) :: RowT 42 3 (.slice ea (edD F N).length ec) (edD F N).length (edgL (edD F N)) :: (dbs ps F N ++ (OwnT 51 1 (.slice (some ⟨g, 0, none⟩) k k) k (ptrL ps) :: l))) F N k v i wr) (fun _ i _ => k - (intOf i).toNat)
              case atStart => exact ⟨0, Nat.zero_le _, rfl, by simpa [leftL, flwL] using H0⟩
              case round =>
                obtain ⟨i, hi, rfl, H⟩ := hrel.out
                clear H0 hrel
                by_cases hlt : i < k
                · have hpk : ps[i]? = some (ps[i]'(by rw [HP.out]; exact hlt)) := List.getElem?_eq_getElem _
                  have hfk : F[i]? = some (F[i]'(by rw [HL.out]; exact hlt)) := List.getElem?_eq_getElem _
                  have hnk : N[i]? = some (N[i]'(by rw [HN.out]; exact hlt)) := List.getElem?_eq_getElem _
                  generalize ps[i]'(by rw [HP.out]; exact hlt) = p at *
                  generalize F[i]'(by rw [HL.out]; exact hlt) = x at *
                  generalize N[i]'(by rw [HN.out]; exact hlt) = m at *
                  have hm : debtT p x m ∈ OwnT 37 1 (.slice ta 0 tc) 0 (T.map pv) :: RowT 42 3 (.slice ea (edD F N).length ec) (edD F N).length (edgL (edD F N)) :: (dbs ps F N ++ (OwnT 51 1 (.slice (some ⟨g, 0, none⟩) k k) k (ptrL ps) :: l)) := List.mem_cons_of_mem _ (List.mem_cons_of_mem _ (dbs_mem hpk hfk hnk))
                  have hc : wr.cell? ⟨g, i, none⟩ = some (.pointer (some ⟨p, 0, none⟩)) := by
                    have := (H.ownRd (List.mem_cons_of_mem _ (List.mem_cons_of_mem _ (List.mem_cons_of_mem _ (List.mem_append_right _ List.mem_cons_self))))).get (i := i) (by rw [ptrL_len, HP.out]; exact hlt)
                    simpa [ptrL, List.getElem_map, (List.getElem?_eq_some_iff.1 hpk).2] using this
                  have htk := leftL_take (by rw [HN.out, HL.out]) hfk hnk
                  have HTK := Lib.hid htk
                  have hlen := leftL_len (F.take i) (N.take i)
                  have hlk : (F.take i).length ≤ 1000 := by simp; omega
                  clear htk hpk hfk hnk
                  generalize leftL (F.take i) (N.take i) = E at *
                  generalize OwnT 37 1 (.slice ta 0 tc) 0 (T.map pv) :: RowT 42 3 (.slice ea (edD F N).length ec) (edD F N).length (edgL (edD F N)) :: (dbs ps F N ++ (OwnT 51 1 (.slice (some ⟨g, 0, none⟩) k k) k (ptrL ps) :: l)) = l2 at *
                  obtain ⟨f, t, y⟩ := x
                  unfold debtT at hm
                  simp only at hm
                  obtain ⟨kk, hkk⟩ : ∃ kk, y - m = kk := ⟨_, rfl⟩
                  rw [hkk] at hm
                  obtain ⟨ne, hne⟩ : ∃ ne, E.length = ne := ⟨_, rfl⟩
                  have HNE := Lib.hid hne
                  rw [hne] at H hlen
                  clear hne hkk
                  have h1 : ne + 1 ≤ maxLen := by unfold maxLen; omega
                  have h2 : (ne + 1) * 16 ≤ 140737488355328 := by omega
                  by_cases h0 : 0 < m
                  · have d0 : decide (m > 0) = true := decide_eq_true h0
                    have hX : (if 0 < m then [(⟨f, t, m⟩ : Flw)] else []) = [⟨f, t, m⟩] := if_pos h0
                    have HX := Lib.hid hX
                    clear hX h0
                    go_wp2_with (first
                      | go_skip
                      | ((with_reducible show wpList _ _ _ (_ :: _) _ _); (with_reducible apply wpl_loadCell cell_pdbt); (· rfl); (· rfl); (· exact hc); (simp only [Act.put, List.setIfInBounds_toArray, List.set_cons_zero, List.set_cons_succ]))
                      | ((with_reducible show wpList _ _ _ (_ :: _) _ _); (with_reducible apply wpl_loadCH); (· exact cell_i64); (· rfl); (· rfl); (· exact H); (· exact List.mem_cons_of_mem _ hm); (· (with_reducible first | exact dbt_g0 .. | exact dbt_g1 .. | exact dbt_g2 .. | exact dbt_g3 ..)); (simp only [Act.put, List.setIfInBounds_toArray, List.set_cons_zero, List.set_cons_succ]))
                      | ((with_reducible show wpList _ _ _ (_ :: _) _ _); (with_reducible apply wpl_loadRH row_flow); (· rfl); (· rfl); (· exact H); (· exact List.mem_cons_of_mem _ hm); (· (simp only [dbt_sz, Nat.reduceAdd, Nat.reduceLeDiff]; done)); (· exact dbt_flow ..); (simp only [Act.put, List.setIfInBounds_toArray, List.set_cons_zero, List.set_cons_succ]))
                      | ((with_reducible show wpList _ _ _ (_ :: _) _ _); (with_reducible apply wpl_bsRH); (· rfl); (· rfl); (· exact bs_flow); (· exact rfl); (· exact H); (clear H; intro pf _ H); (simp only [Act.put, List.setIfInBounds_toArray, List.set_cons_zero, List.set_cons_succ]))
                      | ((with_reducible show wpList _ _ _ (_ :: _) _ _); (with_reducible apply wpl_appendH slF); (· rfl); (· rfl); (· rfl); (· rfl); (· exact H.perm (.swap _ _ _)); (· exact H.celRd List.mem_cons_self); (· rfl); (· exact flowC_one _ _ _); (· exact h1); (· exact h2); (clear H; intro v2 _ H); (simp only [Act.put, List.setIfInBounds_toArray, List.set_cons_zero, List.set_cons_succ])))
                    refine ⟨⟨i + 1, by omega, by go_num, ?_⟩, ?measure2⟩
                    case measure2 => simp [intOf]; omega
                    rw [HTK.out, HX.out, flwL_app, List.length_append, HNE.out]
                    exact H.drop (.there .here)
                  · have d0 : decide (m > 0) = false := decide_eq_false h0
                    have hX : (if 0 < m then [(⟨f, t, m⟩ : Flw)] else []) = [] := if_neg h0
                    have HX := Lib.hid hX
                    clear hX h0
                    go_wp2_with (first
                      | go_skip
                      | ((with_reducible show wpList _ _ _ (_ :: _) _ _); (with_reducible apply wpl_loadCell cell_pdbt); (· rfl); (· rfl); (· exact hc); (simp only [Act.put, List.setIfInBounds_toArray, List.set_cons_zero, List.set_cons_succ]))
                      | ((with_reducible show wpList _ _ _ (_ :: _) _ _); (with_reducible apply wpl_loadCH); (· exact cell_i64); (· rfl); (· rfl); (· exact H); (· exact List.mem_cons_of_mem _ hm); (· (with_reducible first | exact dbt_g0 .. | exact dbt_g1 .. | exact dbt_g2 .. | exact dbt_g3 ..)); (simp only [Act.put, List.setIfInBounds_toArray, List.set_cons_zero, List.set_cons_succ])))
                    refine ⟨⟨i + 1, by omega, by go_num, ?_⟩, ?measure3⟩
                    case measure3 => simp [intOf]; omega
                    rw [HTK.out, HX.out, List.append_nil, HNE.out]
                    exact H
                · obtain rfl : i = k := by omega
                  rw [List.take_of_length_le (by rw [HL.out]; exact Nat.le_refl _), List.take_of_length_le (by rw [HN.out]; exact Nat.le_refl _)] at H
                  rename_i v _ _
                  obtain ⟨va, vc, rfl, hv1, hv2⟩ := RowT.form0 (H.ok _ List.mem_cons_self)
                  have K := clipFA va (leftL F N).length vc hv1 hv2 (fun e => RowT.nil7 (H.ok _ List.mem_cons_self) _ _ (by rw [e]))
                  go_wp2_with (first | go_skip | ((with_reducible refine Ans.callH (by assumption) H ?_); clear H; intro _ H))
                  go_ret3
                  refine ⟨_, leftL F N, j, 0, rfl, .inr ⟨HM.out, hq, j, N, HRT.out, hjq, .inl ⟨?_, rfl, rfl, rfl⟩⟩, ?_⟩
                  · rw [HT.out]; exact List.length_eq_zero_iff.1 HTN.out
                  · exact (H.sub (.cons_cons _ (.cons _ (.cons _ ((List.sublist_cons_self _ _).trans (List.sublist_append_right _ _)))))).slide.clipOwn
            · have e1 : ((tn : Int) == 0) = false := by simp; omega
              by_cases hq2 : (j : Int) = q
              · have e2 : ((j : Int) == q) = true := by simp; omega
                go_wp2_with (first
                  | go_skip
                  | (refine C1.mono ?_; clear C1 H; rintro _ _ ⟨_, rfl, H⟩; obtain ⟨ea, ec, rfl, _, _⟩ := RowT.form0 (H.ok _ List.mem_cons_self))
                  | (refine (C2 _ _ _ H).mono ?_; clear C2 H; rintro _ _ ⟨ta, tc, rfl, H⟩))
                go_ret3
                refine ⟨_, [], 0, 13, rfl, .inr ⟨HM.out, hq, j, N, HRT.out, hjq, .inr ⟨?_, hq2, rfl, rfl, rfl⟩⟩, ?_⟩
                · rw [HT.out]; intro h; apply hr; rw [← HTN.out, h]; rfl
                · exact Heap.nilOwn _ _ (H.sub (.cons _ (.cons _ ((List.sublist_cons_self _ _).trans (List.sublist_append_right _ _)))))
              · have e2 : ((j : Int) == q) = false := by simp; omega
                have hN0 : roundOf (edD F N) ≠ [] := fun h => hr (by rw [← HTN.out, ← HT.out, h]; rfl)
                obtain ⟨S, hS, s2, s3, _⟩ := round_go HM.out HI.out hN0
                obtain ⟨tf, Cf, hR⟩ := edD_rnd HM.out hN0
                have hN0' := Lib.hid hN0
                have hr1 := hR.pos
                have hr2 := hR.max
                have HS := Lib.hid hS
                rw [HT.out] at hr1 hr2 hS
                rw [HTN.out] at hr1 hr2
                have C3 := fun ea ec ta tc w' (H' : Heap W (dbs ps F N ++ (OwnT 37 1 (.slice ta tn tc) tn (T.map pv) :: RowT 42 3 (.slice ea (edD F N).length ec) (edD F N).length (edgL (edD F N)) :: OwnT 51 1 (.slice (some ⟨g, 0, none⟩) k k) k (ptrL ps) :: l)) w') =>
                  round8_H (some ⟨g, 0, none⟩) k k ps F N HM.out HI.out HP.out HL.out hn (fun l' w' hh H' => H'.ownRd (hh _ (List.mem_cons_of_mem _ (List.mem_cons_of_mem _ List.mem_cons_self)))) ta tn tc T S hS s2 s3 HTN.out hr1 hr2 (fun l' w' hh H' => H'.ownRd (hh _ List.mem_cons_self)) H'
                clear hS s2 s3 hR hN0
                go_wp2_with (first
                  | go_skip
                  | (refine C1.mono ?_; clear C1 H; rintro _ _ ⟨_, rfl, H⟩; obtain ⟨ea, ec, rfl, _, _⟩ := RowT.form0 (H.ok _ List.mem_cons_self))
                  | (refine (C2 _ _ _ H).mono ?_; clear C2 H; rintro _ _ ⟨ta, tc, rfl, H⟩)
                  | (refine (C3 _ _ _ _ _ (H.perm ((List.Perm.cons _ List.perm_middle.symm).trans List.perm_middle.symm))).mono ?_; clear C3 H; rintro _ _ ⟨rfl, H⟩))
                refine ⟨⟨j + 1, _, rfl, by go_num, .step HRT.out hN0'.out ⟨S, HS.out, rfl⟩, by omega, H.sub (.append (.refl _) (.cons _ (.cons _ (.refl _))))⟩, ?measure4⟩
                case measure4 => simp [intOf]; omega
    · have d1 : decide (MayD F) = true := decide_eq_true hM
      have d2 : decide (q < 0) = true := decide_eq_true (by omega)
      rw [d1] at M
      have HM := Lib.hid hM
      have HQ := Lib.hid hq
      clear hM d1 hq
      go_wp2_with (first | go_skip | ((with_reducible refine AnsH.call (by assumption) H ?_); clear H; intro _ H))
      go_ret3
      exact ⟨_, [], 0, 1, rfl, .inl ⟨.inr (by have := HQ.out; omega), rfl, rfl, rfl⟩, Heap.nilOwn _ _ H⟩
  · have d1 : decide (MayD F) = false := decide_eq_false hM
    rw [d1] at M
    have HM := Lib.hid hM
    clear hM d1
    go_wp2_with (first | go_skip | ((with_reducible refine AnsH.call (by assumption) H ?_); clear H; intro _ H))
    go_ret3
    exact ⟨_, [], 0, 1, rfl, .inl ⟨.inl HM.out, rfl, rfl, rfl⟩, Heap.nilOwn _ _ H⟩
end
end Go.Proofs.Ytbmmdfjabkpoeaa

/- Rounds of debts: who stands how; that nothing less is left. (Plain.) -/
namespace Go.Proofs.Ytbmmdfjabkpoeaa
set_option linter.unusedSimpArgs false
set_option linter.unusedVariables false
theorem MayD.iff {F : List Flw} : MayD F ↔ (∀ x ∈ F, okD x = true) ∧ F.Pairwise fun y x => cfF y x < 0 := by
  constructor
  · intro h
    refine ⟨fun x hx => ?_, List.pairwise_iff_getElem.2 fun i j hi hj hij => ?_⟩
    · obtain ⟨i, hi, rfl⟩ := List.mem_iff_getElem.1 hx
      exact (h.at (List.getElem?_eq_getElem hi)).1
    · exact (cfF_lt _ _).2 (h.lt (j - i - 1) i _ _ (List.getElem?_eq_getElem hi) (by rw [show i + (j - i - 1) + 1 = j by omega]; exact List.getElem?_eq_getElem hj))
  · rintro ⟨h1, h2⟩ i x hi hx
    refine ⟨h1 x (List.mem_of_getElem? hx), fun y h0 hy => ?_⟩
    obtain ⟨hi', rfl⟩ := List.getElem?_eq_some_iff.1 hx
    obtain ⟨hj', rfl⟩ := List.getElem?_eq_some_iff.1 hy
    exact List.pairwise_iff_getElem.1 h2 (i - 1) i hj' hi' (by omega)
theorem InvN.tail {x : Flw} {F : List Flw} {m : Int} {N : List Int} (I : InvN (x :: F) (m :: N)) : InvN F N := ⟨by have := I.len; simpa using this, fun i y k h1 h2 => I.bnd (i + 1) y k (by simpa using h1) (by simpa using h2)⟩
theorem leftL_mem {y : Flw} : ∀ {F : List Flw} {N : List Int}, y ∈ leftL F N → ∃ (i : Nat) (x : Flw) (m : Int), F[i]? = some x ∧ N[i]? = some m ∧ 0 < m ∧ y = ⟨x.f, x.t, m⟩
  | [], N, h => by simp [leftL] at h
  | x :: F, [], h => by simp [leftL] at h
  | x :: F, m :: N, h => by
    rw [leftL, List.mem_append] at h
    rcases h with h | h
    · by_cases h0 : 0 < m
      · rw [if_pos h0, List.mem_singleton] at h
        exact ⟨0, x, m, rfl, rfl, h0, h⟩
      · rw [if_neg h0] at h; cases h
    · obtain ⟨i, x', m', h1, h2, h3⟩ := leftL_mem h
      exact ⟨i + 1, x', m', by simpa using h1, by simpa using h2, h3⟩
theorem leftL_in {F : List Flw} {N : List Int} : ∀ {i : Nat} {x : Flw} {m : Int}, F[i]? = some x → N[i]? = some m → 0 < m → (⟨x.f, x.t, m⟩ : Flw) ∈ leftL F N := by
  induction F generalizing N with
  | nil => intro i x m h; simp at h
  | cons y F ih =>
    intro i x m h1 h2 h3
    cases N with
    | nil => simp at h2
    | cons k N =>
      rw [leftL, List.mem_append]
      cases i with
      | zero => simp at h1 h2; subst h1 h2; exact .inl (by rw [if_pos h3]; exact List.mem_singleton.2 rfl)
      | succ i => exact .inr (ih (by simpa using h1) (by simpa using h2) h3)
theorem leftL_pw : ∀ {F : List Flw} {N : List Int}, F.Pairwise (fun y x => cfF y x < 0) → (leftL F N).Pairwise fun y x => cfF y x < 0
  | [], N, _ => by simp [leftL]
  | x :: F, [], _ => by simp [leftL]
  | x :: F, m :: N, h => by
    rw [List.pairwise_cons] at h
    have ih := leftL_pw (N := N) h.2
    rw [leftL]
    by_cases h0 : 0 < m
    · rw [if_pos h0, List.singleton_append, List.pairwise_cons]
      refine ⟨fun y hy => ?_, ih⟩
      obtain ⟨i, z, k, h1, _, _, rfl⟩ := leftL_mem hy
      exact h.1 z (List.mem_of_getElem? h1)
    · rw [if_neg h0]; exact ih
theorem leftL_may {F : List Flw} {N : List Int} (h : MayD F) (I : InvN F N) : MayD (leftL F N) := by
  refine MayD.iff.2 ⟨fun y hy => ?_, leftL_pw (MayD.iff.1 h).2⟩
  obtain ⟨i, x, m, h1, h2, h3, rfl⟩ := leftL_mem hy
  have h4 := (MayD.iff.1 h).1 x (List.mem_of_getElem? h1)
  have h5 := I.bnd i x m h1 h2
  simp only [okD, Bool.and_eq_true, decide_eq_true_eq] at h4 ⊢
  exact ⟨⟨h4.1.1, by omega⟩, by omega⟩
/-- How much of a debt there is in a list. -/
def ofF : List Flw → Nat → Nat → Int
  | [], _, _ => 0
  | x :: F, f, t => if x.f = f ∧ x.t = t then x.n else ofF F f t
theorem ofF_at : ∀ {F : List Flw} {k : Nat} {x : Flw} {f t : Nat}, F[k]? = some x → x.f = f → x.t = t → (∀ (j : Nat) (y : Flw), j < k → F[j]? = some y → ¬ (y.f = f ∧ y.t = t)) → ofF F f t = x.n
  | [], k, x, f, t, h, _, _, _ => by simp at h
  | y :: F, 0, x, f, t, h, h1, h2, _ => by simp at h; subst h; exact if_pos ⟨h1, h2⟩
  | y :: F, k + 1, x, f, t, h, h1, h2, h3 => by
    rw [ofF, if_neg (h3 0 y (by omega) rfl)]
    exact ofF_at (by simpa using h) h1 h2 fun j z hj hz => h3 (j + 1) z (by omega) (by simpa using hz)
theorem ofF_no : ∀ {F : List Flw} {f t : Nat}, (∀ y ∈ F, ¬ (y.f = f ∧ y.t = t)) → ofF F f t = 0
  | [], f, t, _ => rfl
  | y :: F, f, t, h => by
    rw [ofF, if_neg (h y List.mem_cons_self)]
    exact ofF_no fun z hz => h z (List.mem_cons_of_mem _ hz)
theorem ofF_uniq {F : List Flw} (h : MayD F) {i : Nat} {x : Flw} (hx : F[i]? = some x) : ofF F x.f x.t = x.n :=
  ofF_at hx rfl rfl fun j y hj hy ⟨h1, h2⟩ => by have := h.uniq hx hy h1.symm h2.symm; omega
theorem ofF_left {F : List Flw} {N : List Int} (h : MayD F) (I : InvN F N) {i : Nat} {x : Flw} {m : Int} (hx : F[i]? = some x) (hm : N[i]? = some m) : ofF (leftL F N) x.f x.t = m := by
  by_cases h0 : 0 < m
  · obtain ⟨j, hj, e⟩ := List.mem_iff_getElem.1 (leftL_in hx hm h0)
    have := ofF_uniq (leftL_may h I) (List.getElem?_eq_getElem hj)
    rw [e] at this
    exact this
  · have h1 := (I.bnd i x m hx hm).1
    have e0 : ofF (leftL F N) x.f x.t = 0 := ofF_no fun y hy ⟨e1, e2⟩ => by
      obtain ⟨j, z, k, g1, g2, g3, rfl⟩ := leftL_mem hy
      have := h.uniq hx g1 e1.symm e2.symm
      subst this
      rw [hm] at g2
      cases g2
      omega
    omega
theorem ofF_was {F : List Flw} {N : List Int} (h : MayD F) (I : InvN F N) {y : Flw} (hy : y ∈ leftL F N) : y.f ≤ 16 ∧ y.t ≤ 16 ∧ 1 ≤ y.n ∧ y.n ≤ ofF F y.f y.t := by
  obtain ⟨i, x, m, h1, h2, h3, rfl⟩ := leftL_mem hy
  have hx := h.okX h1
  have hb := I.bnd i x m h1 h2
  refine ⟨by show x.f ≤ 16; omega, by show x.t ≤ 16; omega, by show 1 ≤ m; omega, ?_⟩
  show m ≤ ofF F x.f x.t
  rw [ofF_uniq h h1]
  exact hb.2
/-- How somebody stands by such debts. -/
def sg (x : Flw) (p : Nat) : Int := (if x.t = p then 1 else 0) - (if x.f = p then 1 else 0)
def dl (L : List Flw) (p : Nat) : Int := (L.map fun x => sg x p * x.n).sum
def dN : List Flw → List Int → Nat → Int
  | x :: F, m :: N, p => sg x p * m + dN F N p
  | _, _, _ => 0
theorem dN_all : ∀ (F : List Flw) (p : Nat), dN F (F.map Flw.n) p = dl F p
  | [], p => rfl
  | x :: F, p => by
    have := dN_all F p
    simp only [List.map_cons, dN, this, dl, List.sum_cons]
theorem dl_left : ∀ {F : List Flw} {N : List Int} (p : Nat), InvN F N → dl (leftL F N) p = dN F N p
  | [], [], p, _ => rfl
  | [], k :: N, p, I => by have := I.len; simp at this
  | x :: F, [], p, I => by have := I.len; simp at this
  | x :: F, m :: N, p, I => by
    have ih := dl_left p I.tail
    have h0 := (I.bnd 0 x m rfl rfl).1
    show dl (_ ++ leftL F N) p = sg x p * m + dN F N p
    unfold dl at ih ⊢
    rw [List.map_append, List.sum_append, ih]
    by_cases h : 0 < m
    · rw [if_pos h]; simp [sg]
    · obtain rfl : m = 0 := by omega
      simp
theorem dN_set : ∀ {F : List Flw} {N : List Int} {i : Nat} {x : Flw} {m : Int} (v : Int) (p : Nat), F[i]? = some x → N[i]? = some m → dN F (N.set i v) p = dN F N p + sg x p * (v - m)
  | [], N, i, x, m, v, p, h, _ => by simp at h
  | y :: F, [], i, x, m, v, p, _, h => by simp at h
  | y :: F, k :: N, 0, x, m, v, p, h1, h2 => by
    simp at h1 h2
    subst h1 h2
    show sg y p * v + dN F N p = sg y p * k + dN F N p + sg y p * (v - k)
    rw [Int.mul_sub]
    omega
  | y :: F, k :: N, i + 1, x, m, v, p, h1, h2 => by
    have ih := dN_set (F := F) (N := N) (i := i) v p (by simpa using h1) (by simpa using h2)
    show sg y p * k + dN F (N.set i v) p = _ + dN F N p + _
    rw [ih]
    omega
def stepSg (F : List Flw) (p : Nat) (s : Nat × Bool) : Int := match F[s.1]? with
  | some x => sg x p * cst s.2
  | none => 0
theorem dN_go (v : Int) (p : Nat) {F : List Flw} : ∀ (S : List (Nat × Bool)) (N : List Int), N.length = F.length → (∀ x ∈ S, x.1 < F.length) → dN F (goS v S N) p = dN F N p + v * (S.map (stepSg F p)).sum
  | [], N, _, _ => by simp [goS]
  | (i, b) :: S, N, hl, h => by
    have hi := h (i, b) List.mem_cons_self
    simp only at hi
    have hx : F[i]? = some F[i] := List.getElem?_eq_getElem hi
    have hm : N[i]? = some (N[i]'(by omega)) := List.getElem?_eq_getElem (by omega)
    rw [goS, dN_go v p S _ (by rw [List.length_set]; exact hl) (fun x hx => h x (List.mem_cons_of_mem _ hx)), dN_set _ p hx hm, List.map_cons, List.sum_cons, Int.mul_add]
    have h1 : stepSg F p (i, b) = sg F[i] p * cst b := by unfold stepSg; rw [hx]
    have h2 : N.getD i 0 = N[i]'(by omega) := by rw [List.getD_eq_getElem?_getD, hm]; rfl
    rw [h1, h2, show N[i]'(by omega) + (if b then v else -v) - N[i]'(by omega) = v * cst b by cases b <;> simp [cst] <;> omega, Int.mul_left_comm]
    omega
theorem dN_round {F : List Flw} {N N' : List Int} (h : MayD F) (I : InvN F N) (hr : roundOf (edD F N) ≠ []) (g : RoundTo F N N') (p : Nat) : dN F N' p = dN F N p := by
  obtain ⟨S, h1, h2, _⟩ := round_go h I hr
  obtain ⟨S', g1, rfl⟩ := g
  obtain rfl := h1.det h g1
  obtain ⟨tf, C, R⟩ := edD_rnd h hr
  rw [dN_go _ p S N I.len fun x hx => (h2 x hx).1]
  generalize roundOf (edD F N) = T at *
  have hS : S.map (stepSg F p) = (List.range T.length).map fun k => (if tf k = p then 1 else 0) - (if tf ((k + 1) % T.length) = p then (1 : Int) else 0) := by
    apply List.ext_getElem?
    intro k
    by_cases hk : k < T.length
    · obtain ⟨i, b, e1, s1⟩ := h1.2 k hk
      have hm : (k + 1) % T.length < T.length := Nat.mod_lt _ (by omega)
      rw [List.getD_eq_getElem?_getD, R.get k hk, List.getD_eq_getElem?_getD, R.get _ hm] at s1
      simp only [Option.getD_some] at s1
      rw [List.getElem?_map, e1, List.getElem?_map, List.getElem?_range hk]
      simp only [Option.map_some, Option.some.injEq]
      obtain ⟨x, m, x1, _⟩ := id s1
      have he := s1.ends x1
      unfold stepSg
      rw [x1]
      simp only
      rcases he with ⟨rfl, e2, e3⟩ | ⟨rfl, e2, e3⟩
      · rw [← e2, ← e3]; simp [sg, cst]; omega
      · rw [← e2, ← e3]; simp [sg, cst]
    · rw [List.getElem?_eq_none (by rw [List.length_map, h1.1]; omega), List.getElem?_eq_none (by simp; omega)]
  rw [hS, rsum_list]
  have : ∀ n, rsum (fun k => (if tf k = p then 1 else 0) - (if tf ((k + 1) % T.length) = p then (1 : Int) else 0)) n = rsum (fun k => if tf k = p then 1 else 0) n - rsum (fun k => if tf ((k + 1) % T.length) = p then 1 else 0) n := by
    intro n
    induction n with
    | zero => rfl
    | succ n ih => simp only [rsum, ih]; omega
  rw [this, rsum_next (fun k => if tf k = p then (1 : Int) else 0) T.length R.pos]
  simp
theorem RdTr.stand {F : List Flw} (h : MayD F) {k : Nat} {N : List Int} (t : RdTr F k N) (p : Nat) : dl (leftL F N) p = dl F p := by
  rw [dl_left p (t.inv h).1]
  induction t with
  | nil => exact dN_all F p
  | @step k N N' a1 a2 a3 ih => rw [dN_round h (a1.inv h).1 a2 a3 p, ih]
theorem leftL_sum : ∀ {F : List Flw} {N : List Int}, InvN F N → ((leftL F N).map Flw.n).sum = N.sum
  | [], [], _ => rfl
  | [], k :: N, I => by have := I.len; simp at this
  | x :: F, [], I => by have := I.len; simp at this
  | x :: F, m :: N, I => by
    have ih := leftL_sum I.tail
    have h0 := (I.bnd 0 x m rfl rfl).1
    show ((_ ++ leftL F N).map Flw.n).sum = (m :: N).sum
    rw [List.map_append, List.sum_append, ih, List.sum_cons]
    by_cases h : 0 < m
    · rw [if_pos h]; simp
    · obtain rfl : m = 0 := by omega
      simp
/-- Where no round is found there is a height for each, and no edge leads up by more than it costs. -/
def HasPot (E : List Edg) : Prop := ∃ D : Nat → Int, (∀ i, -1000000 ≤ D i ∧ D i ≤ 0) ∧ ∀ e ∈ E, D e.t ≤ D e.f + e.c
theorem pot_of {F : List Flw} {N : List Int} (h : MayD F) (hl : F.length ≤ 240) (hr : roundOf (edD F N) = []) : HasPot (edD F N) := by
  cases hs : runS (edD F N) 16 zeroS with
  | some s =>
    obtain ⟨tf, C, R⟩ := round_found (edD_in h) hs
    have := R.pos
    rw [hr] at this
    simp at this
  | none =>
    have hE := edD_ok h (N := N)
    obtain ⟨D, h1, h2⟩ := run_none (F := edD F N) (fun e he => by have := hE e he; exact ⟨by omega, by omega⟩) 16 zeroS 0 (fun i => ⟨by simp [zeroS], by simp [zeroS]⟩) hs
    have := edD_len F N
    exact ⟨D, fun i => by have := h1 i; omega, h2⟩
theorem no_round {E : List Edg} (hE : InH E) (hp : HasPot E) : roundOf E = [] := by
  obtain ⟨D, h1, h2⟩ := hp
  cases hs : runS E 16 zeroS with
  | none => unfold roundOf; rw [hs]
  | some s =>
    exfalso
    obtain ⟨tf, C, R⟩ := round_found hE hs
    have hc := R.cheap
    generalize roundOf E = T at *
    have key : rsum (fun i => D (tf ((i + 1) % T.length)) - D (tf i)) T.length ≤ rsum (fun i => C (tf ((i + 1) % T.length))) T.length := rsum_le _ fun i hi => by
      have := h2 _ (R.edge i hi)
      simp only at this
      omega
    have : ∀ n, rsum (fun i => D (tf ((i + 1) % T.length)) - D (tf i)) n = rsum (fun i => D (tf ((i + 1) % T.length))) n - rsum (fun i => D (tf i)) n := by
      intro n
      induction n with
      | zero => rfl
      | succ n ih => simp only [rsum, ih]; omega
    rw [this, rsum_next (fun i => D (tf i)) T.length R.pos] at key
    omega
theorem HasPot.sub {E E' : List Edg} (h : HasPot E) (hs : ∀ e ∈ E', e ∈ E) : HasPot E' := by
  obtain ⟨D, h1, h2⟩ := h
  exact ⟨D, h1, fun e he => h2 e (hs e he)⟩
/-- What is left, done anew: nothing is to do. -/
theorem left_done {F : List Flw} {N : List Int} (h : MayD F) (I : InvN F N) (hl : F.length ≤ 240) (hr : roundOf (edD F N) = []) : roundOf (edD (leftL F N) ((leftL F N).map Flw.n)) = [] := by
  have hL := leftL_may h I
  refine no_round (edD_in hL) ((pot_of h hl hr).sub fun e he => ?_)
  obtain ⟨i, x, m, h1, h2, h3⟩ := edD_mem.1 he
  rw [List.getElem?_map, h1] at h2
  simp at h2
  subst h2
  rcases h3 with ⟨h3, rfl⟩ | ⟨h3, rfl⟩
  · obtain ⟨j, y, k, g1, g2, g3, rfl⟩ := leftL_mem (List.mem_of_getElem? h1)
    exact edD_mem.2 ⟨j, y, k, g1, g2, .inl ⟨g3, rfl⟩⟩
  · omega
theorem leftL_all : ∀ {F : List Flw}, (∀ x ∈ F, 1 ≤ x.n) → leftL F (F.map Flw.n) = F
  | [], _ => rfl
  | x :: F, h => by
    have ih := leftL_all (F := F) fun y hy => h y (List.mem_cons_of_mem _ hy)
    have hx := h x List.mem_cons_self
    show (if 0 < x.n then [(⟨x.f, x.t, x.n⟩ : Flw)] else []) ++ leftL F (F.map Flw.n) = _
    rw [ih, if_pos (by omega)]
    rfl
theorem MayD.pos {F : List Flw} (h : MayD F) : ∀ x ∈ F, 1 ≤ x.n := fun x hx => by
  obtain ⟨i, hi, rfl⟩ := List.mem_iff_getElem.1 hx
  have := h.okX (List.getElem?_eq_getElem hi)
  omega
end Go.Proofs.Ytbmmdfjabkpoeaa

/- countinghouseref08.May: may debts be? -/
namespace Go.Proofs.Ytbmmdfjabkpoeaa
open Go.RowKit
set_option linter.unusedSimpArgs false
set_option linter.unusedVariables false
theorem rd_flow {w : World} {eb eo : Nat} {F : List Flw} (R : Rd w (some ⟨eb, eo, none⟩) (flwL F)) {k : Nat} {x : Flw} (hx : F[k]? = some x) : w.cell? ⟨eb, eo + k * 3 + 0, none⟩ = some (.int .u8 (x.f : Int)) ∧ w.cell? ⟨eb, eo + k * 3 + 1, none⟩ = some (.int .u8 (x.t : Int)) ∧ w.cell? ⟨eb, eo + k * 3 + 2, none⟩ = some (.int .i64 x.n) := by
  have hk := (List.getElem?_eq_some_iff.1 hx).1
  have hrow := flwL_at F k hk
  rw [(List.getElem?_eq_some_iff.1 hx).2] at hrow
  have hlen : k * 3 + 3 ≤ (flwL F).length := by rw [flwL_len]; omega
  have key : ∀ q v, q < 3 → (flwV x)[q]? = some v → w.cell? ⟨eb, eo + k * 3 + q, none⟩ = some v := fun q v hq hv => by
    have h1 := R.get (i := k * 3 + q) (by omega)
    rw [← Nat.add_assoc] at h1
    rw [h1, ← hv, ← hrow, List.getElem?_take, if_pos hq, List.getElem?_drop, List.getElem?_eq_getElem (by omega)]
  exact ⟨key 0 _ (by omega) rfl, key 1 _ (by omega) rfl, key 2 _ (by omega) rfl⟩
theorem okD_iff {x : Flw} : okD x = true ↔ ¬ x.f < 1 ∧ ¬ 16 < x.f ∧ ¬ x.t < 1 ∧ ¬ 16 < x.t ∧ x.f ≠ x.t ∧ ¬ x.n < 1 ∧ ¬ 1099511627776 < x.n := by
  simp [okD, mayP]
  omega
section
variable {W w : World} {l : List Thing}
set_option maxRecDepth 100000
set_option maxHeartbeats 4000000
open Classical in
theorem rmay8_H (a : Option Addr) (n c : Nat) (F : List Flw) (hl : F.length = n) (hn : n ≤ 1000000) (hF : ∀ x ∈ F, FlwOk x) (R : ∀ l' w', (∀ x ∈ l, x ∈ l') → Heap W l' w' → Rd w' a (flwL F)) :
    AnsH W l 25 #[.slice a n c] (.bool (decide (MayD F))) := by
  intro w H
  have HL := Lib.hid hl
  have HF := Lib.hid hF
  have HR := Lib.hid R
  clear hl hF R
  go_enter Try.func25, Try.ntmps25
  go_wp2_with (go_skip)
  have H0 := H
  clear H
  go_loopw [3] (fun i wr => M8R W l F n i wr) (fun i _ => n - (intOf i).toNat)
  case atStart => exact ⟨0, Nat.zero_le _, rfl, fun i x hi => absurd hi (by omega), H0⟩
  case round =>
    obtain ⟨k, hk, rfl, hO, H⟩ := hrel.out
    clear H0 hrel
    have HO := Lib.hid hO
    clear hO
    by_cases hlt : k < n
    · have hkF : k < F.length := by rw [HL.out]; exact hlt
      have hx : F[k]? = some F[k] := List.getElem?_eq_getElem hkF
      have hok := HF.out F[k] (List.getElem_mem hkF)
      have hat := flwL_at F k hkF
      have hlen : k * 3 + 3 ≤ (flwL F).length := by rw [flwL_len]; omega
      generalize F[k] = x at *
      have HMAY := Lib.hid (fun (h : MayD F) => h.at hx)
      have HX := Lib.hid hx
      obtain ⟨f, t, m⟩ := x
      obtain ⟨o1, o2, o3, o4⟩ := hok
      simp only at o1 o2 o3 o4
      have hrow : (((flwL F).drop (k * 3)).take 3).toArray = flow (f : Int) (t : Int) m := by rw [hat]; rfl
      obtain ⟨eb, eo, rfl, _⟩ := (HR.out l _ (fun _ h => h) H).lt (by omega)
      have HRd := Lib.hid (HR.out l _ (fun _ h => h) H)
      have HOK := Lib.hid (okD_iff (x := ⟨f, t, m⟩))
      clear hat hx hkF
      by_cases q0 : f < 1
      · have d0 : decide ((f : Int) < 1) = true := by simp; omega
        have HN := Lib.hid (show ¬ MayD F from fun h => by have := HOK.out.1 (HMAY.out h).1; simp only at this; omega)
        clear q0
        go_wp2_with (first
          | go_skip
          | ((with_reducible show wpList _ _ _ (_ :: _) _ _); (with_reducible apply wpl_loadRdR row_flow); (· rfl); (· rfl); (· exact HRd.out); (· rfl); (· exact hlen); (· decide); (· exact hrow); (simp only [Act.put, List.setIfInBounds_toArray, List.set_cons_zero, List.set_cons_succ]))
          | ((with_reducible show wpList _ _ _ (_ :: _) _ _); (with_reducible apply wpl_allocRH row_flow); (· rfl); (· exact H); (clear H; intro px _ H); (simp only [Act.put, List.setIfInBounds_toArray, List.set_cons_zero, List.set_cons_succ]))
          | ((with_reducible show wpList _ _ _ (_ :: _) _ _); (with_reducible apply wpl_storeRH row_flow); (· rfl); (· rfl); (· rfl); (· with_reducible exact flow_cells ..); (· exact H); (· (repeat (first | (with_reducible exact List.mem_cons_self) | with_reducible apply List.mem_cons_of_mem))); (· (simp only [flow_sz, Nat.reduceAdd, Nat.reduceLeDiff, Nat.le_refl]; done)); (· with_reducible exact flow_splice ..); (· (repeat (first | (with_reducible exact Repl.here) | with_reducible apply Repl.there))); (clear H; intro _ H); (simp only [Act.put, List.setIfInBounds_toArray, List.set_cons_zero, List.set_cons_succ]))
          | ((with_reducible show wpList _ _ _ (_ :: _) _ _); (with_reducible apply wpl_loadCH); (· first | exact cell_party | exact cell_i64); (· rfl); (· rfl); (· exact H); (· (repeat (first | (with_reducible exact List.mem_cons_self) | with_reducible apply List.mem_cons_of_mem))); (· (with_reducible first | exact flow_g0 .. | exact flow_g1 .. | exact flow_g2 ..)); (simp only [Act.put, List.setIfInBounds_toArray, List.set_cons_zero, List.set_cons_succ])))
        go_ret
        exact ⟨by rw [decide_eq_false HN.out]; rfl, H.tail⟩
      · have d0 : decide ((f : Int) < 1) = false := by simp; omega
        by_cases q1 : 16 < f
        · have d1 : decide ((f : Int) > 16) = true := by simp; omega
          have HN := Lib.hid (show ¬ MayD F from fun h => by have := HOK.out.1 (HMAY.out h).1; simp only at this; omega)
          clear q0 q1
          go_wp2_with (first
            | go_skip
            | ((with_reducible show wpList _ _ _ (_ :: _) _ _); (with_reducible apply wpl_loadRdR row_flow); (· rfl); (· rfl); (· exact HRd.out); (· rfl); (· exact hlen); (· decide); (· exact hrow); (simp only [Act.put, List.setIfInBounds_toArray, List.set_cons_zero, List.set_cons_succ]))
            | ((with_reducible show wpList _ _ _ (_ :: _) _ _); (with_reducible apply wpl_allocRH row_flow); (· rfl); (· exact H); (clear H; intro px _ H); (simp only [Act.put, List.setIfInBounds_toArray, List.set_cons_zero, List.set_cons_succ]))
            | ((with_reducible show wpList _ _ _ (_ :: _) _ _); (with_reducible apply wpl_storeRH row_flow); (· rfl); (· rfl); (· rfl); (· with_reducible exact flow_cells ..); (· exact H); (· (repeat (first | (with_reducible exact List.mem_cons_self) | with_reducible apply List.mem_cons_of_mem))); (· (simp only [flow_sz, Nat.reduceAdd, Nat.reduceLeDiff, Nat.le_refl]; done)); (· with_reducible exact flow_splice ..); (· (repeat (first | (with_reducible exact Repl.here) | with_reducible apply Repl.there))); (clear H; intro _ H); (simp only [Act.put, List.setIfInBounds_toArray, List.set_cons_zero, List.set_cons_succ]))
            | ((with_reducible show wpList _ _ _ (_ :: _) _ _); (with_reducible apply wpl_loadCH); (· first | exact cell_party | exact cell_i64); (· rfl); (· rfl); (· exact H); (· (repeat (first | (with_reducible exact List.mem_cons_self) | with_reducible apply List.mem_cons_of_mem))); (· (with_reducible first | exact flow_g0 .. | exact flow_g1 .. | exact flow_g2 ..)); (simp only [Act.put, List.setIfInBounds_toArray, List.set_cons_zero, List.set_cons_succ])))
          go_ret
          exact ⟨by rw [decide_eq_false HN.out]; rfl, H.tail⟩
        · have d1 : decide ((f : Int) > 16) = false := by simp; omega
          by_cases q2 : t < 1
          · have d2 : decide ((t : Int) < 1) = true := by simp; omega
            have HN := Lib.hid (show ¬ MayD F from fun h => by have := HOK.out.1 (HMAY.out h).1; simp only at this; omega)
            clear q0 q1 q2
            go_wp2_with (first
              | go_skip
              | ((with_reducible show wpList _ _ _ (_ :: _) _ _); (with_reducible apply wpl_loadRdR row_flow); (· rfl); (· rfl); (· exact HRd.out); (· rfl); (· exact hlen); (· decide); (· exact hrow); (simp only [Act.put, List.setIfInBounds_toArray, List.set_cons_zero, List.set_cons_succ]))
              | ((with_reducible show wpList _ _ _ (_ :: _) _ _); (with_reducible apply wpl_allocRH row_flow); (· rfl); (· exact H); (clear H; intro px _ H); (simp only [Act.put, List.setIfInBounds_toArray, List.set_cons_zero, List.set_cons_succ]))
              | ((with_reducible show wpList _ _ _ (_ :: _) _ _); (with_reducible apply wpl_storeRH row_flow); (· rfl); (· rfl); (· rfl); (· with_reducible exact flow_cells ..); (· exact H); (· (repeat (first | (with_reducible exact List.mem_cons_self) | with_reducible apply List.mem_cons_of_mem))); (· (simp only [flow_sz, Nat.reduceAdd, Nat.reduceLeDiff, Nat.le_refl]; done)); (· with_reducible exact flow_splice ..); (· (repeat (first | (with_reducible exact Repl.here) | with_reducible apply Repl.there))); (clear H; intro _ H); (simp only [Act.put, List.setIfInBounds_toArray, List.set_cons_zero, List.set_cons_succ]))
              | ((with_reducible show wpList _ _ _ (_ :: _) _ _); (with_reducible apply wpl_loadCH); (· first | exact cell_party | exact cell_i64); (· rfl); (· rfl); (· exact H); (· (repeat (first | (with_reducible exact List.mem_cons_self) | with_reducible apply List.mem_cons_of_mem))); (· (with_reducible first | exact flow_g0 .. | exact flow_g1 .. | exact flow_g2 ..)); (simp only [Act.put, List.setIfInBounds_toArray, List.set_cons_zero, List.set_cons_succ])))
            go_ret
            exact ⟨by rw [decide_eq_false HN.out]; rfl, H.tail⟩
          · have d2 : decide ((t : Int) < 1) = false := by simp; omega
            by_cases q3 : 16 < t
            · have d3 : decide ((t : Int) > 16) = true := by simp; omega
              have HN := Lib.hid (show ¬ MayD F from fun h => by have := HOK.out.1 (HMAY.out h).1; simp only at this; omega)
              clear q0 q1 q2 q3
              go_wp2_with (first
                | go_skip
                | ((with_reducible show wpList _ _ _ (_ :: _) _ _); (with_reducible apply wpl_loadRdR row_flow); (· rfl); (· rfl); (· exact HRd.out); (· rfl); (· exact hlen); (· decide); (· exact hrow); (simp only [Act.put, List.setIfInBounds_toArray, List.set_cons_zero, List.set_cons_succ]))
                | ((with_reducible show wpList _ _ _ (_ :: _) _ _); (with_reducible apply wpl_allocRH row_flow); (· rfl); (· exact H); (clear H; intro px _ H); (simp only [Act.put, List.setIfInBounds_toArray, List.set_cons_zero, List.set_cons_succ]))
                | ((with_reducible show wpList _ _ _ (_ :: _) _ _); (with_reducible apply wpl_storeRH row_flow); (· rfl); (· rfl); (· rfl); (· with_reducible exact flow_cells ..); (· exact H); (· (repeat (first | (with_reducible exact List.mem_cons_self) | with_reducible apply List.mem_cons_of_mem))); (· (simp only [flow_sz, Nat.reduceAdd, Nat.reduceLeDiff, Nat.le_refl]; done)); (· with_reducible exact flow_splice ..); (· (repeat (first | (with_reducible exact Repl.here) | with_reducible apply Repl.there))); (clear H; intro _ H); (simp only [Act.put, List.setIfInBounds_toArray, List.set_cons_zero, List.set_cons_succ]))
                | ((with_reducible show wpList _ _ _ (_ :: _) _ _); (with_reducible apply wpl_loadCH); (· first | exact cell_party | exact cell_i64); (· rfl); (· rfl); (· exact H); (· (repeat (first | (with_reducible exact List.mem_cons_self) | with_reducible apply List.mem_cons_of_mem))); (· (with_reducible first | exact flow_g0 .. | exact flow_g1 .. | exact flow_g2 ..)); (simp only [Act.put, List.setIfInBounds_toArray, List.set_cons_zero, List.set_cons_succ])))
              go_ret
              exact ⟨by rw [decide_eq_false HN.out]; rfl, H.tail⟩
            · have d3 : decide ((t : Int) > 16) = false := by simp; omega
              by_cases q4 : f = t
              · have d4 : ((f : Int) == (t : Int)) = true := by simp; omega
                have HN := Lib.hid (show ¬ MayD F from fun h => by have := HOK.out.1 (HMAY.out h).1; simp only at this; omega)
                clear q0 q1 q2 q3 q4
                go_wp2_with (first
                  | go_skip
                  | ((with_reducible show wpList _ _ _ (_ :: _) _ _); (with_reducible apply wpl_loadRdR row_flow); (· rfl); (· rfl); (· exact HRd.out); (· rfl); (· exact hlen); (· decide); (· exact hrow); (simp only [Act.put, List.setIfInBounds_toArray, List.set_cons_zero, List.set_cons_succ]))
                  | ((with_reducible show wpList _ _ _ (_ :: _) _ _); (with_reducible apply wpl_allocRH row_flow); (· rfl); (· exact H); (clear H; intro px _ H); (simp only [Act.put, List.setIfInBounds_toArray, List.set_cons_zero, List.set_cons_succ]))
                  | ((with_reducible show wpList _ _ _ (_ :: _) _ _); (with_reducible apply wpl_storeRH row_flow); (· rfl); (· rfl); (· rfl); (· with_reducible exact flow_cells ..); (· exact H); (· (repeat (first | (with_reducible exact List.mem_cons_self) | with_reducible apply List.mem_cons_of_mem))); (· (simp only [flow_sz, Nat.reduceAdd, Nat.reduceLeDiff, Nat.le_refl]; done)); (· with_reducible exact flow_splice ..); (· (repeat (first | (with_reducible exact Repl.here) | with_reducible apply Repl.there))); (clear H; intro _ H); (simp only [Act.put, List.setIfInBounds_toArray, List.set_cons_zero, List.set_cons_succ]))
                  | ((with_reducible show wpList _ _ _ (_ :: _) _ _); (with_reducible apply wpl_loadCH); (· first | exact cell_party | exact cell_i64); (· rfl); (· rfl); (· exact H); (· (repeat (first | (with_reducible exact List.mem_cons_self) | with_reducible apply List.mem_cons_of_mem))); (· (with_reducible first | exact flow_g0 .. | exact flow_g1 .. | exact flow_g2 ..)); (simp only [Act.put, List.setIfInBounds_toArray, List.set_cons_zero, List.set_cons_succ])))
                go_ret
                exact ⟨by rw [decide_eq_false HN.out]; rfl, H.tail⟩
              · have d4 : ((f : Int) == (t : Int)) = false := by simp; omega
                by_cases q5 : m < 1
                · have d5 : decide (m < 1) = true := by simp; omega
                  have HN := Lib.hid (show ¬ MayD F from fun h => by have := HOK.out.1 (HMAY.out h).1; simp only at this; omega)
                  clear q0 q1 q2 q3 q4 q5
                  go_wp2_with (first
                    | go_skip
                    | ((with_reducible show wpList _ _ _ (_ :: _) _ _); (with_reducible apply wpl_loadRdR row_flow); (· rfl); (· rfl); (· exact HRd.out); (· rfl); (· exact hlen); (· decide); (· exact hrow); (simp only [Act.put, List.setIfInBounds_toArray, List.set_cons_zero, List.set_cons_succ]))
                    | ((with_reducible show wpList _ _ _ (_ :: _) _ _); (with_reducible apply wpl_allocRH row_flow); (· rfl); (· exact H); (clear H; intro px _ H); (simp only [Act.put, List.setIfInBounds_toArray, List.set_cons_zero, List.set_cons_succ]))
                    | ((with_reducible show wpList _ _ _ (_ :: _) _ _); (with_reducible apply wpl_storeRH row_flow); (· rfl); (· rfl); (· rfl); (· with_reducible exact flow_cells ..); (· exact H); (· (repeat (first | (with_reducible exact List.mem_cons_self) | with_reducible apply List.mem_cons_of_mem))); (· (simp only [flow_sz, Nat.reduceAdd, Nat.reduceLeDiff, Nat.le_refl]; done)); (· with_reducible exact flow_splice ..); (· (repeat (first | (with_reducible exact Repl.here) | with_reducible apply Repl.there))); (clear H; intro _ H); (simp only [Act.put, List.setIfInBounds_toArray, List.set_cons_zero, List.set_cons_succ]))
                    | ((with_reducible show wpList _ _ _ (_ :: _) _ _); (with_reducible apply wpl_loadCH); (· first | exact cell_party | exact cell_i64); (· rfl); (· rfl); (· exact H); (· (repeat (first | (with_reducible exact List.mem_cons_self) | with_reducible apply List.mem_cons_of_mem))); (· (with_reducible first | exact flow_g0 .. | exact flow_g1 .. | exact flow_g2 ..)); (simp only [Act.put, List.setIfInBounds_toArray, List.set_cons_zero, List.set_cons_succ])))
                  go_ret
                  exact ⟨by rw [decide_eq_false HN.out]; rfl, H.tail⟩
                · have d5 : decide (m < 1) = false := by simp; omega
                  by_cases q6 : 1099511627776 < m
                  · have d6 : decide (m > 1099511627776) = true := by simp; omega
                    have HN := Lib.hid (show ¬ MayD F from fun h => by have := HOK.out.1 (HMAY.out h).1; simp only at this; omega)
                    clear q0 q1 q2 q3 q4 q5 q6
                    go_wp2_with (first
                      | go_skip
                      | ((with_reducible show wpList _ _ _ (_ :: _) _ _); (with_reducible apply wpl_loadRdR row_flow); (· rfl); (· rfl); (· exact HRd.out); (· rfl); (· exact hlen); (· decide); (· exact hrow); (simp only [Act.put, List.setIfInBounds_toArray, List.set_cons_zero, List.set_cons_succ]))
                      | ((with_reducible show wpList _ _ _ (_ :: _) _ _); (with_reducible apply wpl_allocRH row_flow); (· rfl); (· exact H); (clear H; intro px _ H); (simp only [Act.put, List.setIfInBounds_toArray, List.set_cons_zero, List.set_cons_succ]))
                      | ((with_reducible show wpList _ _ _ (_ :: _) _ _); (with_reducible apply wpl_storeRH row_flow); (· rfl); (· rfl); (· rfl); (· with_reducible exact flow_cells ..); (· exact H); (· (repeat (first | (with_reducible exact List.mem_cons_self) | with_reducible apply List.mem_cons_of_mem))); (· (simp only [flow_sz, Nat.reduceAdd, Nat.reduceLeDiff, Nat.le_refl]; done)); (· with_reducible exact flow_splice ..); (· (repeat (first | (with_reducible exact Repl.here) | with_reducible apply Repl.there))); (clear H; intro _ H); (simp only [Act.put, List.setIfInBounds_toArray, List.set_cons_zero, List.set_cons_succ]))
                      | ((with_reducible show wpList _ _ _ (_ :: _) _ _); (with_reducible apply wpl_loadCH); (· first | exact cell_party | exact cell_i64); (· rfl); (· rfl); (· exact H); (· (repeat (first | (with_reducible exact List.mem_cons_self) | with_reducible apply List.mem_cons_of_mem))); (· (with_reducible first | exact flow_g0 .. | exact flow_g1 .. | exact flow_g2 ..)); (simp only [Act.put, List.setIfInBounds_toArray, List.set_cons_zero, List.set_cons_succ])))
                    go_ret
                    exact ⟨by rw [decide_eq_false HN.out]; rfl, H.tail⟩
                  · have d6 : decide (m > 1099511627776) = false := by simp; omega
                    have HK := Lib.hid (show okD ⟨f, t, m⟩ = true from HOK.out.2 ⟨q0, q1, q2, q3, q4, q5, q6⟩)
                    clear q0 q1 q2 q3 q4 q5 q6
                    go_wp2_with (first
                      | go_skip
                      | ((with_reducible show wpList _ _ _ (_ :: _) _ _); (with_reducible apply wpl_loadRdR row_flow); (· rfl); (· rfl); (· exact HRd.out); (· rfl); (· exact hlen); (· decide); (· exact hrow); (simp only [Act.put, List.setIfInBounds_toArray, List.set_cons_zero, List.set_cons_succ]))
                      | ((with_reducible show wpList _ _ _ (_ :: _) _ _); (with_reducible apply wpl_allocRH row_flow); (· rfl); (· exact H); (clear H; intro px _ H); (simp only [Act.put, List.setIfInBounds_toArray, List.set_cons_zero, List.set_cons_succ]))
                      | ((with_reducible show wpList _ _ _ (_ :: _) _ _); (with_reducible apply wpl_storeRH row_flow); (· rfl); (· rfl); (· rfl); (· with_reducible exact flow_cells ..); (· exact H); (· (repeat (first | (with_reducible exact List.mem_cons_self) | with_reducible apply List.mem_cons_of_mem))); (· (simp only [flow_sz, Nat.reduceAdd, Nat.reduceLeDiff, Nat.le_refl]; done)); (· with_reducible exact flow_splice ..); (· (repeat (first | (with_reducible exact Repl.here) | with_reducible apply Repl.there))); (clear H; intro _ H); (simp only [Act.put, List.setIfInBounds_toArray, List.set_cons_zero, List.set_cons_succ]))
                      | ((with_reducible show wpList _ _ _ (_ :: _) _ _); (with_reducible apply wpl_loadCH); (· first | exact cell_party | exact cell_i64); (· rfl); (· rfl); (· exact H); (· (repeat (first | (with_reducible exact List.mem_cons_self) | with_reducible apply List.mem_cons_of_mem))); (· (with_reducible first | exact flow_g0 .. | exact flow_g1 .. | exact flow_g2 ..)); (simp only [Act.put, List.setIfInBounds_toArray, List.set_cons_zero, List.set_cons_succ])))
                    by_cases p0 : k = 0
                    · have g0 : decide ((k : Int) > 0) = false := decide_eq_false (by omega)
                      have g1 : decide (0 < k) = false := decide_eq_false (by omega)
                      refine wp_region_H H (by kernel_rfl) (by kernel_rfl) ?_
                      repeat (first | go_big_quiet_skip | fail | go_big_quiet_step (fail))
                      refine wpQuiet_nil ?_
                      clear H
                      intro _ H
                      go_wp2_with (go_skip)
                      refine ⟨⟨k + 1, by omega, by go_num, HO.out.next HX.out HK.out (fun y h => absurd h (by omega)), H.tail⟩, ?measure1⟩
                      case measure1 => simp [intOf]; omega
                    · have g0 : decide ((k : Int) > 0) = true := decide_eq_true (by omega)
                      have g1 : decide (0 < k) = true := decide_eq_true (by omega)
                      have hjF : k - 1 < F.length := by rw [HL.out]; omega
                      have hy : F[k - 1]? = some F[k - 1] := List.getElem?_eq_getElem hjF
                      have hyo := HF.out F[k - 1] (List.getElem_mem hjF)
                      have w1 : wrap64 ((k : Int) - 1) = (k : Int) - 1 := IntWalk.wrap64_in _ ⟨by omega, by omega⟩
                      have hjn : k - 1 < n := by omega
                      generalize F[k - 1] = y at *
                      obtain ⟨yf, yt, ym⟩ := y
                      obtain ⟨y1, y2, _, _⟩ := hyo
                      simp only at y1 y2
                      have HY := Lib.hid (show F[k - 1]? = some ⟨yf, yt, ym⟩ from hy)
                      have hc0 : ∀ w', Heap W (Cel px (flow (f : Int) (t : Int) m) 39 :: l) w' → w'.cell? ⟨eb, eo + (k - 1) * 3, none⟩ = some (.int .u8 (yf : Int)) := fun w' h => (rd_flow (HR.out _ w' (fun x hx => List.mem_cons_of_mem _ hx) h) HY.out).1
                      have hc1 : ∀ w', Heap W (Cel px (flow (f : Int) (t : Int) m) 39 :: l) w' → w'.cell? ⟨eb, eo + (k - 1) * 3 + 1, none⟩ = some (.int .u8 (yt : Int)) := fun w' h => (rd_flow (HR.out _ w' (fun x hx => List.mem_cons_of_mem _ hx) h) HY.out).2.1
                      have HCF := Lib.hid (cfF_lt ⟨yf, yt, ym⟩ ⟨f, t, m⟩)
                      clear hy hjF
                      refine wp_region_H H (by kernel_rfl) (by kernel_rfl) ?_
                      repeat (first | go_big_quiet_skip | (first | ((with_reducible apply wpQ_loadAt cell_party); (· rfl); (· rfl); (· with_reducible first | exact hc0 | exact hc1); (simp only [Act.put, List.setIfInBounds_toArray, List.set_cons_zero, List.set_cons_succ])) | ((with_reducible apply wpQ_loadCH); (· exact cell_party); (· rfl); (· rfl); (· (repeat (first | (with_reducible exact List.mem_cons_self) | with_reducible apply List.mem_cons_of_mem))); (· (with_reducible first | exact flow_g0 .. | exact flow_g1 .. | exact flow_g2 ..)); (simp only [Act.put, List.setIfInBounds_toArray, List.set_cons_zero, List.set_cons_succ]))) | go_big_quiet_step ((with_reducible first | exact AnsH.quiet (by assumption) | exact Ans.quietH (by assumption))))
                      refine wpQuiet_nil ?_
                      clear H
                      intro _ H
                      by_cases q7 : 256 * (f : Int) + (t : Int) ≤ 256 * (yf : Int) + (yt : Int)
                      · have d7 : decide (256 * (f : Int) + (t : Int) ≤ 256 * (yf : Int) + (yt : Int)) = true := decide_eq_true q7
                        have HN := Lib.hid (show ¬ MayD F from fun h => by have := HCF.out.1 ((HMAY.out h).2 _ (by omega) HY.out); simp only at this; omega)
                        clear q7
                        rw [d7]
                        clear d7
                        go_wp2_with (go_skip)
                        go_ret
                        exact ⟨by rw [decide_eq_false HN.out]; rfl, H.tail⟩
                      · have d7 : decide (256 * (f : Int) + (t : Int) ≤ 256 * (yf : Int) + (yt : Int)) = false := decide_eq_false q7
                        have HN := Lib.hid (show cfF ⟨yf, yt, ym⟩ ⟨f, t, m⟩ < 0 from HCF.out.2 (by simp only; omega))
                        clear q7
                        rw [d7]
                        clear d7
                        go_wp2_with (go_skip)
                        refine ⟨⟨k + 1, by omega, by go_num, HO.out.next HX.out HK.out (fun z _ hz => by rw [HY.out] at hz; cases hz; exact HN.out), H.tail⟩, ?measure2⟩
                        case measure2 => simp [intOf]; omega
    · obtain rfl : k = n := by omega
      have HN := Lib.hid (show MayD F from by unfold MayD; rw [HL.out]; exact HO.out)
      go_wp2_with (go_skip)
      go_ret
      exact ⟨by rw [decide_eq_true HN.out]; rfl, H⟩
end
end Go.Proofs.Ytbmmdfjabkpoeaa

/- countinghouselaw08: Sum, of. -/
namespace Go.Proofs.Ytbmmdfjabkpoeaa
open Go.RowKit
set_option linter.unusedSimpArgs false
set_option linter.unusedVariables false
def sumF (F : List Flw) : Int := (F.map Flw.n).sum
theorem sumF_take {F : List Flw} {k : Nat} {x : Flw} (h : F[k]? = some x) : sumF (F.take (k + 1)) = sumF (F.take k) + x.n := by
  unfold sumF
  rw [List.take_add_one, h, Option.toList_some, List.map_append, List.sum_append]
  simp
theorem sumF_bnd : ∀ (F : List Flw), (∀ x ∈ F, 0 ≤ x.n ∧ x.n ≤ 1099511627776) → 0 ≤ sumF F ∧ sumF F ≤ 1099511627776 * (F.length : Int)
  | [], _ => by simp [sumF]
  | x :: F, h => by
    have h1 := h x List.mem_cons_self
    have h2 := sumF_bnd F fun y hy => h y (List.mem_cons_of_mem _ hy)
    unfold sumF at *
    rw [List.map_cons, List.sum_cons, List.length_cons]
    omega
structure SuR (W : World) (l : List Thing) (F : List Flw) (n : Nat) (s i : Value) (wr : World) : Prop where
  out : ∃ k : Nat, k ≤ n ∧ i = .int .i64 (k : Int) ∧ s = .int .i64 (sumF (F.take k)) ∧ Heap W l wr
structure OfR (W : World) (l : List Thing) (F : List Flw) (f t n : Nat) (i : Value) (wr : World) : Prop where
  out : ∃ k : Nat, k ≤ n ∧ i = .int .i64 (k : Int) ∧ (∀ (j : Nat) (y : Flw), j < k → F[j]? = some y → ¬ (y.f = f ∧ y.t = t)) ∧ Heap W l wr
section
variable {W w : World} {l : List Thing}
set_option maxRecDepth 100000
set_option maxHeartbeats 4000000
theorem sum8_H (a : Option Addr) (n c : Nat) (F : List Flw) (hl : F.length = n) (hn : n ≤ 1000) (hF : ∀ x ∈ F, 0 ≤ x.n ∧ x.n ≤ 1099511627776) (R : ∀ w', Heap W l w' → Rd w' a (flwL F)) :
    AnsH W l 16 #[.slice a n c] (.int .i64 (sumF F)) := by
  intro w H
  have HL := Lib.hid hl
  have HR := Lib.hid R
  have HF := Lib.hid hF
  clear hl R hF
  go_enter Try.func16, Try.ntmps16
  go_wp2_with (go_skip)
  have H0 := H
  clear H
  go_loopw [3, 4] (fun s i wr => SuR W l F n s i wr) (fun _ i _ => n - (intOf i).toNat)
  case atStart => exact ⟨0, Nat.zero_le _, rfl, rfl, H0⟩
  case round =>
    obtain ⟨k, hk, rfl, rfl, H⟩ := hrel.out
    clear H0 hrel
    by_cases hlt : k < n
    · have hfk : F[k]? = some (F[k]'(by rw [HL.out]; exact hlt)) := List.getElem?_eq_getElem _
      generalize F[k]'(by rw [HL.out]; exact hlt) = x at *
      have hb := sumF_bnd (F.take k) fun y hy => HF.out y (List.mem_of_mem_take hy)
      rw [List.length_take, HL.out] at hb
      have hx := HF.out x (List.mem_of_getElem? hfk)
      obtain ⟨eb, eo, rfl, _⟩ := (HR.out _ H).lt (by rw [flwL_len, HL.out]; omega)
      have hc := (rd_flow (HR.out _ H) hfk).2.2
      have HT := Lib.hid (sumF_take hfk)
      clear hfk
      generalize sumF (F.take k) = s at *
      obtain ⟨f, t, y⟩ := x
      simp only at hx hc
      have hb2 : s ≤ 1099511627776000 := by omega
      go_wp2_with (first | go_skip | ((with_reducible show wpList _ _ _ (_ :: _) _ _); (with_reducible apply wpl_loadCell cell_i64); (· rfl); (· rfl); (· exact hc); (simp only [Act.put, List.setIfInBounds_toArray, List.set_cons_zero, List.set_cons_succ])))
      refine ⟨⟨k + 1, by omega, by go_num, ?_, H⟩, ?measure1⟩
      case measure1 => simp [intOf]; omega
      rw [HT.out]
    · obtain rfl : k = n := by omega
      have ht : F.take k = F := List.take_of_length_le (by rw [HL.out]; exact Nat.le_refl _)
      rw [ht]
      go_wp2_with (go_skip)
      go_ret
      exact ⟨rfl, H⟩
theorem of8_H (a : Option Addr) (n c : Nat) (F : List Flw) (f t : Nat) (hl : F.length = n) (hn : n ≤ 1000000) (R : ∀ w', Heap W l w' → Rd w' a (flwL F)) :
    AnsH W l 30 #[.slice a n c, .int .u8 (f : Int), .int .u8 (t : Int)] (.int .i64 (ofF F f t)) := by
  intro w H
  have HL := Lib.hid hl
  have HR := Lib.hid R
  clear hl R
  go_enter Try.func30, Try.ntmps30
  go_wp2_with (go_skip)
  have H0 := H
  clear H
  go_loopw [7] (fun i wr => OfR W l F f t n i wr) (fun i _ => n - (intOf i).toNat)
  case atStart => exact ⟨0, Nat.zero_le _, rfl, fun j y hj => absurd hj (by omega), H0⟩
  case round =>
    obtain ⟨k, hk, rfl, hno, H⟩ := hrel.out
    clear H0 hrel
    have HNO := Lib.hid hno
    clear hno
    by_cases hlt : k < n
    · have hfk : F[k]? = some (F[k]'(by rw [HL.out]; exact hlt)) := List.getElem?_eq_getElem _
      generalize F[k]'(by rw [HL.out]; exact hlt) = x at *
      obtain ⟨eb, eo, rfl, _⟩ := (HR.out _ H).lt (by rw [flwL_len, HL.out]; omega)
      have hc := rd_flow (HR.out _ H) hfk
      obtain ⟨x1, x2, y⟩ := x
      obtain ⟨hc0, hc1, hc2⟩ := hc
      rw [Nat.add_zero] at hc0
      simp only at hc0 hc1 hc2
      have HFK := Lib.hid hfk
      clear hfk
      have hnext : ¬ (x1 = f ∧ x2 = t) → ∀ (j : Nat) (y : Flw), j < k + 1 → F[j]? = some y → ¬ (y.f = f ∧ y.t = t) := fun h j z hj hz => by
        by_cases e : j = k
        · subst e; rw [HFK.out] at hz; cases hz; exact h
        · exact HNO.out j z (by omega) hz
      have HNX := Lib.hid hnext
      clear hnext
      by_cases u1 : x1 = f
      · have e1 : ((x1 : Int) == (f : Int)) = true := by simp; omega
        by_cases u2 : x2 = t
        · have e2 : ((x2 : Int) == (t : Int)) = true := by simp; omega
          have HRES := Lib.hid (show ofF F f t = y from ofF_at HFK.out u1 u2 HNO.out)
          clear u1 u2
          go_wp2_with (first | go_skip | ((with_reducible show wpList _ _ _ (_ :: _) _ _); (with_reducible first | apply wpl_loadCell cell_party | apply wpl_loadCell cell_i64); (· rfl); (· rfl); (· with_reducible first | exact hc0 | exact hc1 | exact hc2); (simp only [Act.put, List.setIfInBounds_toArray, List.set_cons_zero, List.set_cons_succ])))
          go_ret
          rw [HRES.out]
          exact ⟨rfl, H⟩
        · have e2 : ((x2 : Int) == (t : Int)) = false := by simp; omega
          have HQ := Lib.hid (HNX.out fun h => u2 h.2)
          clear u1 u2
          go_wp2_with (first | go_skip | ((with_reducible show wpList _ _ _ (_ :: _) _ _); (with_reducible first | apply wpl_loadCell cell_party | apply wpl_loadCell cell_i64); (· rfl); (· rfl); (· with_reducible first | exact hc0 | exact hc1 | exact hc2); (simp only [Act.put, List.setIfInBounds_toArray, List.set_cons_zero, List.set_cons_succ])))
          refine ⟨⟨k + 1, by omega, by go_num, HQ.out, H⟩, ?measure2⟩
          case measure2 => simp [intOf]; omega
      · have e1 : ((x1 : Int) == (f : Int)) = false := by simp; omega
        have HQ := Lib.hid (HNX.out fun h => u1 h.1)
        clear u1
        go_wp2_with (first | go_skip | ((with_reducible show wpList _ _ _ (_ :: _) _ _); (with_reducible first | apply wpl_loadCell cell_party | apply wpl_loadCell cell_i64); (· rfl); (· rfl); (· with_reducible first | exact hc0 | exact hc1 | exact hc2); (simp only [Act.put, List.setIfInBounds_toArray, List.set_cons_zero, List.set_cons_succ])))
        refine ⟨⟨k + 1, by omega, by go_num, HQ.out, H⟩, ?measure3⟩
        case measure3 => simp [intOf]; omega
    · obtain rfl : k = n := by omega
      have HRES := Lib.hid (show ofF F f t = 0 from ofF_no fun y hy => by
        obtain ⟨j, hj, rfl⟩ := List.mem_iff_getElem.1 hy
        exact HNO.out j _ (by rw [← HL.out]; exact hj) (List.getElem?_eq_getElem hj))
      go_wp2_with (go_skip)
      go_ret
      rw [HRES.out]
      exact ⟨rfl, H⟩
end
end Go.Proofs.Ytbmmdfjabkpoeaa
