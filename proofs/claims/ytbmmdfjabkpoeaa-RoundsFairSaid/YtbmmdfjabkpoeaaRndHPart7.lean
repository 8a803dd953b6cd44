/- Part 7 of what several laws stand on: Rnd11, SameF, BsAny, Lives08, Great8, Open, Shape, Leaf, Open05. -/
import Derived.Test.YtbmmdfjabkpoeaaRndHPart6
import Derived.Laws.StructEq
import Derived.ProofKit
import Derived.OpenShut
import Derived.ChangeOld
import Derived.Test.YtbmmdfjabkpoeaaProg
import Derived.Lib.SmallJoins
/- rounds.Least. -/
namespace Go.Proofs.Ytbmmdfjabkpoeaa
open Go.RowKit
set_option linter.unusedSimpArgs false
set_option linter.unusedVariables false
theorem slDb8 : SlTy Try.prog 50 51 1 8 (.pointer none) := slTy_mk Try.underlying50 (by kernel_rfl) rfl (by decide)
theorem dbs_app : ∀ (ps : List Nat) (F : List Flw) (N : List Int) (p : Nat) (x : Flw) (m : Int), ps.length = F.length → N.length = F.length → dbs (ps ++ [p]) (F ++ [x]) (N ++ [m]) = dbs ps F N ++ [debtT p x m]
  | [], [], [], p, x, m, _, _ => rfl
  | [], y :: F, _, p, x, m, h, _ => by simp at h
  | [], [], k :: N, p, x, m, _, h => by simp at h
  | q :: ps, [], _, p, x, m, h, _ => by simp at h
  | q :: ps, y :: F, [], p, x, m, _, h => by simp at h
  | q :: ps, y :: F, k :: N, p, x, m, h1, h2 => by
    show debtT q y k :: dbs (ps ++ [p]) (F ++ [x]) (N ++ [m]) = _
    rw [dbs_app ps F N p x m (by simpa using h1) (by simpa using h2)]
    rfl
theorem leftL_app : ∀ (F : List Flw) (N : List Int) (x : Flw) (m : Int), N.length = F.length → leftL (F ++ [x]) (N ++ [m]) = leftL F N ++ if 0 < m then [⟨x.f, x.t, m⟩] else []
  | [], [], x, m, _ => by simp [leftL]
  | [], k :: N, x, m, h => by simp at h
  | y :: F, [], x, m, h => by simp at h
  | y :: F, k :: N, x, m, h => by
    show _ ++ leftL (F ++ [x]) (N ++ [m]) = (_ ++ leftL F N) ++ _
    rw [leftL_app F N x m (by simpa using h), List.append_assoc]
theorem leftL_take {F : List Flw} {N : List Int} (h : N.length = F.length) {k : Nat} {x : Flw} {m : Int} (hx : F[k]? = some x) (hm : N[k]? = some m) : leftL (F.take (k + 1)) (N.take (k + 1)) = leftL (F.take k) (N.take k) ++ if 0 < m then [⟨x.f, x.t, m⟩] else [] := by
  rw [List.take_add_one, hx, List.take_add_one, hm]
  exact leftL_app _ _ _ _ (by simp; omega)
theorem leftL_len : ∀ (F : List Flw) (N : List Int), (leftL F N).length ≤ F.length
  | [], N => by simp [leftL]
  | x :: F, [] => by simp [leftL]
  | x :: F, m :: N => by
    have := leftL_len F N
    rw [leftL, List.length_append, List.length_cons]
    split <;> simp <;> omega
theorem dbt_flow (a b n k : Int) : (dbt a b n k).extract 0 (0 + 3) = flow a b n := by simp [dbt, flow]
theorem bd8 (a b n : Int) : Array.foldl (fun (cs : Array Value) (x : Value × Nat) => cs.setIfInBounds x.2 x.1) #[.int .u8 0, .int .u8 0, .int .i64 0, .int .i64 0] (flow a b n).zipIdx 0 (flow a b n).size = dbt a b n 0 := by simp [flow, dbt]
theorem bd8b (a b n : Int) : Array.foldl (fun (cs : Array Value) (x : Value × Nat) => cs.setIfInBounds x.2 x.1) #[.int .u8 0, .int .u8 0, .int .i64 0, .int .i64 0] (flow a b n).zipIdx 0 3 = dbt a b n 0 := by simp [flow, dbt]
theorem OwnT.form0 {w : World} {e size n : Nat} {v : Value} {xs : List Value} (h : (OwnT e size v n xs).ok w) : ∃ a c, v = .slice a n c ∧ n ≤ c ∧ c ≤ maxLen := by
  obtain ⟨_, ⟨h1, h2⟩ | ⟨g, off, cap, cur, h1, _, _, h2, h3, _⟩⟩ := h
  · exact ⟨none, 0, by rw [h1, h2], by omega, by unfold maxLen; omega⟩
  · exact ⟨_, cap, h1, h2, h3⟩
/-- The pointers so far. -/
def PtrIn (ps : List Nat) (xs : List Value) (k : Nat) : Prop := ps.length = k ∧ xs.take k = ptrL ps
theorem PtrIn.put {ps : List Nat} {xs : List Value} {k : Nat} (h : PtrIn ps xs k) (hk : k < xs.length) (p : Nat) : PtrIn (ps ++ [p]) (xs.set k (.pointer (some ⟨p, 0, none⟩))) (k + 1) := by
  refine ⟨by simp [h.1], ?_⟩
  rw [List.take_add_one, List.take_set_of_le (Nat.le_refl k), h.2, List.getElem?_set_self hk]
  simp [ptrL]
structure LsA (W : World) (l : List Thing) (F : List Flw) (g n : Nat) (i : Value) (wr : World) : Prop where
  out : ∃ (k : Nat) (ps : List Nat) (xs : List Value), k ≤ n ∧ i = .int .i64 (k : Int) ∧ xs.length = n ∧ PtrIn ps xs k ∧ Heap W (OwnT 51 1 (.slice (some ⟨g, 0, none⟩) n n) n xs :: (dbs ps (F.take k) ((F.take k).map Flw.n) ++ l)) wr
structure LsB (W : World) (l : List Thing) (F : List Flw) (ps : List Nat) (g n : Nat) (q : Int) (v j : Value) (wr : World) : Prop where
  out : ∃ (k : Nat) (N : List Int), v = .slice none 0 0 ∧ j = .int .i64 (k : Int) ∧ RdTr F k N ∧ (k : Int) ≤ q ∧ Heap W (dbs ps F N ++ (OwnT 51 1 (.slice (some ⟨g, 0, none⟩) n n) n (ptrL ps) :: l)) wr
structure LsC (W : World) (l : List Thing) (F : List Flw) (N : List Int) (n : Nat) (v i : Value) (wr : World) : Prop where
  out : ∃ (k : Nat), k ≤ n ∧ i = .int .i64 (k : Int) ∧ Heap W (RowT 39 3 v (leftL (F.take k) (N.take k)).length (flwL (leftL (F.take k) (N.take k))) :: l) wr
def LeastPost (W : World) (l : List Thing) (q0 : Int) (F : List Flw) (q : Int) (e : Ending) (w' : World) : Prop := ∃ v L k er, e = .returned (.tuple #[v, .int .i64 k, .int .i64 er]) ∧ LeastOut q0 F q L k er ∧ Heap W (OwnT 39 3 v L.length (flwL L) :: l) w'
section
variable {W w : World} {l : List Thing}
set_option maxRecDepth 100000
set_option maxHeartbeats 8000000
theorem Heap.nilOwn (e size : Nat) (H : Heap W l w) : Heap W (OwnT e size (.slice none 0 0) 0 [] :: l) w := (H.nilRow e size).slide
theorem wpl_storeOwnP {ops : Array Oper} {rest : List Oper} {a : Act} {l' : List Thing} {Q : Exit → Act → World → Prop} {T e : TypeId} {dst : Option Tmp} {ty : TypeId} {pos : String} {after : Array Edge} {guard : Option (Nat × Bool)} {x y : Operand} {g ad off n c size j : Nat} {q : Option Addr} {xs : List Value} (CT : CellTy T) (hw : Region.wanted ⟨dst, .store T x y, ty, pos, after, guard⟩ (yielded ops a.tmps) = true) (hx : a.eval x = .pointer (some ⟨g, ad, none⟩)) (hy : a.eval y = .pointer q)
    (H : Heap W l w) (m : OwnT e size (.slice (some ⟨g, off, none⟩) n c) n xs ∈ l) (hk : ad = off + j) (hj : j < xs.length) (r : Repl l (OwnT e size (.slice (some ⟨g, off, none⟩) n c) n xs) (OwnT e size (.slice (some ⟨g, off, none⟩) n c) n (xs.set j (.pointer q))) l')
    (h : ∀ w', Heap W l' w' → wpList Try.prog ops Q rest (a.put dst undef) w') : wpList Try.prog ops Q (⟨dst, .store T x y, ty, pos, after, guard⟩ :: rest) a w := wpl_storeOwnC CT hw hx hy ⟨rfl, rfl⟩ H m hk hj r h
theorem Heap.sub {l' : List Thing} (H : Heap W l w) (h : l'.Sublist l) : Heap W l' w := ⟨H.low, fun x hx => H.ok x (h.subset hx), fun x hx => H.fp x (h.subset hx), H.apart.sublist h⟩
theorem edround_H {F : List Flw} {N : List Int} (hM : MayD F) (hl : F.length ≤ 1000) (ea : Option Addr) (ec : Nat) (H : Heap W (RowT 42 3 (.slice ea (edD F N).length ec) (edD F N).length (edgL (edD F N)) :: l) w) :
    Calls Try.prog 19 #[.slice ea (edD F N).length ec] w fun e w' => ∃ a c, e = .returned (.slice a (roundOf (edD F N)).length c) ∧ Heap W (OwnT 37 1 (.slice a (roundOf (edD F N)).length c) (roundOf (edD F N)).length ((roundOf (edD F N)).map pv) :: RowT 42 3 (.slice ea (edD F N).length ec) (edD F N).length (edgL (edD F N)) :: l) w' := by
  have h1 := edD_len F N
  have C := round_H (W := W) ea _ ec (edD F N) rfl (by omega) (fun e he => by have := edD_ok hM e he; exact ⟨by omega, by omega, by omega, by omega⟩) (fun w' H' => H'.rowRd List.mem_cons_self) H
  refine C.mono ?_
  rintro e w' ⟨v, rfl, H'⟩
  rw [edD_keep hM] at H'
  obtain ⟨a, c, rfl, _, _⟩ := OwnT.form0 (H'.ok _ List.mem_cons_self)
  exact ⟨a, c, rfl, H'⟩
attribute [local go_sem high] bd8 bd8b flow_sz
open Classical in
theorem least8_H (a : Option Addr) (n c : Nat) (F : List Flw) (q : Int) (hl : F.length = n) (hn : n ≤ 1000) (hF : ∀ x ∈ F, FlwOk x) (h63 : q ≤ 9223372036854775807) (R : ∀ l' w', (∀ x ∈ l, x ∈ l') → Heap W l' w' → Rd w' a (flwL F)) (H : Heap W l w) :
    Calls Try.prog 10 #[.slice a n c, .int .i64 q] w (LeastPost W l 13 F q) := by
  have M := may8_H (W := W) a n c F hl (by omega) hF R
  have HL := Lib.hid hl
  have HR := Lib.hid R
  have HF := Lib.hid hF
  clear hl R hF
  go_enter Try.func10, Try.ntmps10
  by_cases hM : MayD F
  · by_cases hq : 0 ≤ q
    · have d1 : decide (MayD F) = true := decide_eq_true hM
      have d2 : decide (q < 0) = false := decide_eq_false (by omega)
      rw [d1] at M
      have HM := Lib.hid hM
      have hn1 : n ≤ 65536 := by omega
      have hn2 : 8 * n ≤ 281474976710656 := by omega
      clear hM d1
      go_wp2_with (first
        | go_skip
        | ((with_reducible refine AnsH.call (by assumption) H ?_); clear H; intro _ H)
        | ((with_reducible show wpList _ _ _ (_ :: _) _ _); (with_reducible apply wpl_makeC slDb8 (n := n) (m := n)); (· rfl); (· rfl); (· rfl); (· rfl); (· exact Nat.le_refl _); (· exact hn1); (· exact hn2); (· exact H); (clear H; intro g _ H); (simp only [Act.put, List.setIfInBounds_toArray, List.set_cons_zero, List.set_cons_succ])))
      replace H := H.celOwn (n := n) (size := 1) (by rw [size_madeCells]) (by unfold maxLen; omega)
      obtain ⟨xs0, hx0⟩ : ∃ xs0, (madeCells (Value.cells (.pointer none)) (n * 1)).toList = xs0 := ⟨_, rfl⟩
      have hx0l : xs0.length = n := by rw [← hx0]; simp [size_madeCells]
      rw [hx0] at H
      clear hx0 hn1 hn2 M
      have H0 := H
      clear H
      go_loopw [25] (fun i wr => LsA W l F g n i wr) (fun i _ => n - (intOf i).toNat)
      case atStart => exact ⟨0, [], xs0, Nat.zero_le _, rfl, hx0l, ⟨rfl, rfl⟩, by simpa [dbs] using H0⟩
      case round =>
        obtain ⟨k, ps, xs, hk, rfl, hxl, hps, H⟩ := hrel.out
        clear H0 hrel hx0l
        by_cases hlt : k < n
        · have Rw := HR.out _ wr (fun x hx => List.mem_cons_of_mem _ (List.mem_append_right _ hx)) H
          obtain ⟨eb, eo, rfl, _⟩ := Rw.lt (by rw [flwL_len, HL.out]; omega)
          have hfk : F[k]? = some (F[k]'(by rw [HL.out]; exact hlt)) := List.getElem?_eq_getElem _
          have hrow := flwL_at F k (by rw [HL.out]; exact hlt)
          have hlen : k * 3 + 3 ≤ (flwL F).length := by rw [flwL_len, HL.out]; omega
          generalize F[k]'(by rw [HL.out]; exact hlt) = x at *
          have hrw : (((flwL F).drop (k * 3)).take 3).toArray = flow (x.f : Int) (x.t : Int) x.n := by rw [hrow]; rfl
          have HFK := Lib.hid hfk
          have HPS := Lib.hid hps
          clear hrow hfk hps
          have hkx : k < xs.length := by omega
          go_wp2_with (first
            | ((with_reducible show wpList _ _ _ (_ :: _) _ _); (with_reducible apply wpl_boxRH); (· rfl); (· rfl); (· exact H); (clear H; intro pd _ H); (simp only [Act.put, List.setIfInBounds_toArray, List.set_cons_zero, List.set_cons_succ]))
            | go_skip
            | ((with_reducible show wpList _ _ _ (_ :: _) _ _); (with_reducible apply wpl_storeOwnP cell_pdbt); (· rfl); (· rfl); (· rfl); (· exact H); (· (repeat (first | (with_reducible exact List.mem_cons_self) | with_reducible apply List.mem_cons_of_mem))); (· exact (Nat.zero_add _).symm); (· exact hkx); (· (repeat (first | (with_reducible exact Repl.here) | with_reducible apply Repl.there))); (clear H; intro _ H); (simp only [Act.put, List.setIfInBounds_toArray, List.set_cons_zero, List.set_cons_succ]))
            | ((with_reducible show wpList _ _ _ (_ :: _) _ _); (with_reducible apply wpl_loadRdR row_flow); (· rfl); (· rfl); (· exact Rw); (· rfl); (· exact hlen); (· decide); (· exact hrw); (simp only [Act.put, List.setIfInBounds_toArray, List.set_cons_zero, List.set_cons_succ]))
            | ((with_reducible show wpList _ _ _ (_ :: _) _ _); (with_reducible apply wpl_allocRH row_flow); (· rfl); (· exact H); (clear H; intro px _ H); (simp only [Act.put, List.setIfInBounds_toArray, List.set_cons_zero, List.set_cons_succ]))
            | ((with_reducible show wpList _ _ _ (_ :: _) _ _); (with_reducible apply wpl_storeRH row_flow); (· rfl); (· rfl); (· rfl); (· with_reducible exact flow_cells ..); (· exact H); (· (repeat (first | (with_reducible exact List.mem_cons_self) | with_reducible apply List.mem_cons_of_mem))); (· (simp only [flow_sz, Nat.reduceAdd, Nat.reduceLeDiff, Nat.le_refl]; done)); (· with_reducible exact flow_splice ..); (· (repeat (first | (with_reducible exact Repl.here) | with_reducible apply Repl.there))); (clear H; intro _ H); (simp only [Act.put, List.setIfInBounds_toArray, List.set_cons_zero, List.set_cons_succ]))
            | ((with_reducible show wpList _ _ _ (_ :: _) _ _); (with_reducible apply wpl_loadRH row_flow); (· rfl); (· rfl); (· exact H); (· (repeat (first | (with_reducible exact List.mem_cons_self) | with_reducible apply List.mem_cons_of_mem))); (· (simp only [flow_sz, Nat.reduceAdd, Nat.reduceLeDiff, Nat.le_refl]; done)); (· with_reducible exact flow_all ..); (simp only [Act.put, List.setIfInBounds_toArray, List.set_cons_zero, List.set_cons_succ])))
          refine ⟨⟨k + 1, ps ++ [pd], _, by omega, by go_num, by rw [List.length_set]; exact hxl, HPS.out.put hkx pd, ?_⟩, ?measure1⟩
          case measure1 => simp [intOf]; omega
          rw [List.take_add_one, HFK.out, Option.toList_some, List.map_append, List.map_cons, List.map_nil, dbs_app _ _ _ _ _ _ (by rw [HPS.out.1, List.length_take, HL.out]; omega) (by simp), List.append_assoc, List.cons_append, List.nil_append]
          replace H := H.drop (.there .here)
          have e : DbC pd x.f x.t x.n 0 = debtT pd x x.n := by unfold debtT; rw [Int.sub_self]
          rw [show (Cel pd (dbt (x.f : Int) (x.t : Int) x.n 0) 53) = debtT pd x x.n from e] at H
          refine H.perm ((List.Perm.swap _ _ _).trans (.cons _ ?_))
          exact List.perm_middle.symm
        · obtain rfl : k = n := by omega
          rw [List.take_of_length_le (by rw [HL.out]; exact Nat.le_refl _)] at H
          have hx2 : xs = ptrL ps := by rw [← hps.2, List.take_of_length_le (by omega)]
          subst hx2
          have hp := hps.1
          clear hps hxl hlt hk
          go_wp2_with (go_skip)
          replace H : Heap W (dbs ps F (F.map Flw.n) ++ (OwnT 51 1 (.slice (some ⟨g, 0, none⟩) k k) k (ptrL ps) :: l)) wr := H.perm List.perm_middle.symm
          have HP := Lib.hid hp
          have H0 := H
          clear H hp
          go_loopw [4, 5] (fun v j wr => LsB W l F ps g k q v j wr) (fun _ j _ => (q - intOf j).toNat)
          case atStart => exact ⟨0, _, rfl, rfl, .nil, by omega, H0⟩
          case round =>
            obtain ⟨j, N, rfl, rfl, ht, hjq, H⟩ := hrel.out
            clear H0 hrel
            have HRT := Lib.hid ht
            have hI := (ht.inv HM.out).1
            have HI := Lib.hid hI
            have hN : N.length = k := hI.len.trans HL.out
            have HN := Lib.hid hN
            clear ht hI hN
            have C1 := edges8_H (some ⟨g, 0, none⟩) k k ps F N HP.out HL.out HN.out (by omega) (fun l' w' hh H' => H'.ownRd (hh _ (List.mem_append_right _ List.mem_cons_self))) (fun i p x m g1 g2 g3 => dbs_mem g1 g2 g3) H
            have C2 := fun ea ec w' (H' : Heap W (RowT 42 3 (.slice ea (edD F N).length ec) (edD F N).length (edgL (edD F N)) :: (dbs ps F N ++ (OwnT 51 1 (.slice (some ⟨g, 0, none⟩) k k) k (ptrL ps) :: l))) w') => edround_H HM.out (by rw [HL.out]; exact hn) ea ec H'
            obtain ⟨T, hT⟩ : ∃ T, roundOf (edD F N) = T := ⟨_, rfl⟩
            have HT := Lib.hid hT
            rw [hT] at C2
            obtain ⟨tn, htn⟩ : ∃ tn, T.length = tn := ⟨_, rfl⟩
            have HTN := Lib.hid htn
            rw [htn] at C2
            clear hT htn
            by_cases hr : tn = 0
            · have e1 : ((tn : Int) == 0) = true := by simp; omega
              go_wp2_with (first
                | go_skip
                | (refine C1.mono ?_; clear C1 H; rintro _ _ ⟨_, rfl, H⟩; obtain ⟨ea, ec, rfl, _, _⟩ := RowT.form0 (H.ok _ List.mem_cons_self))
                | (refine (C2 _ _ _ H).mono ?_; clear C2 H; rintro _ _ ⟨ta, tc, rfl, H⟩))
              subst hr
              have H0 := H.nilRow 39 3
              clear H
              go_loopw [4, 46] (fun v i wr => LsC W (OwnT 37 1 (.slice ta 0 tc) 0 (T.map pv) :: RowT 42 3 (.slice ea (edD F N).length ec) (edD F N).length (edgL (edD F N)) :: (dbs ps F N ++ (OwnT 51 1 (.slice (some ⟨g, 0, none⟩) k k) k (ptrL ps) :: l))) F N k v i wr) (fun _ i _ => k - (intOf i).toNat)
              case atStart => exact ⟨0, Nat.zero_le _, rfl, by simpa [leftL, flwL] using H0⟩
              case round =>
                obtain ⟨i, hi, rfl, H⟩ := hrel.out
                clear H0 hrel
                by_cases hlt : i < k
                · have hpk : ps[i]? = some (ps[i]'(by rw [HP.out]; exact hlt)) := List.getElem?_eq_getElem _
                  have hfk : F[i]? = some (F[i]'(by rw [HL.out]; exact hlt)) := List.getElem?_eq_getElem _
                  have hnk : N[i]? = some (N[i]'(by rw [HN.out]; exact hlt)) := List.getElem?_eq_getElem _
                  generalize ps[i]'(by rw [HP.out]; exact hlt) = p at *
                  generalize F[i]'(by rw [HL.out]; exact hlt) = x at *
                  generalize N[i]'(by rw [HN.out]; exact hlt) = m at *
                  have hm : debtT p x m ∈ OwnT 37 1 (.slice ta 0 tc) 0 (T.map pv) :: RowT 42 3 (.slice ea (edD F N).length ec) (edD F N).length (edgL (edD F N)) :: (dbs ps F N ++ (OwnT 51 1 (.slice (some ⟨g, 0, none⟩) k k) k (ptrL ps) :: l)) := List.mem_cons_of_mem _ (List.mem_cons_of_mem _ (dbs_mem hpk hfk hnk))
                  have hc : wr.cell? ⟨g, i, none⟩ = some (.pointer (some ⟨p, 0, none⟩)) := by
                    have := (H.ownRd (List.mem_cons_of_mem _ (List.mem_cons_of_mem _ (List.mem_cons_of_mem _ (List.mem_append_right _ List.mem_cons_self))))).get (i := i) (by rw [ptrL_len, HP.out]; exact hlt)
                    simpa [ptrL, List.getElem_map, (List.getElem?_eq_some_iff.1 hpk).2] using this
                  have htk := leftL_take (by rw [HN.out, HL.out]) hfk hnk
                  have HTK := Lib.hid htk
                  have hlen := leftL_len (F.take i) (N.take i)
                  have hlk : (F.take i).length ≤ 1000 := by simp; omega
                  clear htk hpk hfk hnk
                  generalize leftL (F.take i) (N.take i) = E at *
                  generalize OwnT 37 1 (.slice ta 0 tc) 0 (T.map pv) :: RowT 42 3 (.slice ea (edD F N).length ec) (edD F N).length (edgL (edD F N)) :: (dbs ps F N ++ (OwnT 51 1 (.slice (some ⟨g, 0, none⟩) k k) k (ptrL ps) :: l)) = l2 at *
                  obtain ⟨f, t, y⟩ := x
                  unfold debtT at hm
                  simp only at hm
                  obtain ⟨kk, hkk⟩ : ∃ kk, y - m = kk := ⟨_, rfl⟩
                  rw [hkk] at hm
                  obtain ⟨ne, hne⟩ : ∃ ne, E.length = ne := ⟨_, rfl⟩
                  have HNE := Lib.hid hne
                  rw [hne] at H hlen
                  clear hne hkk
                  have h1 : ne + 1 ≤ maxLen := by unfold maxLen; omega
                  have h2 : (ne + 1) * 16 ≤ 140737488355328 := by omega
                  by_cases h0 : 0 < m
                  · have d0 : decide (m > 0) = true := decide_eq_true h0
                    have hX : (if 0 < m then [(⟨f, t, m⟩ : Flw)] else []) = [⟨f, t, m⟩] := if_pos h0
                    have HX := Lib.hid hX
                    clear hX h0
                    go_wp2_with (first
                      | go_skip
                      | ((with_reducible show wpList _ _ _ (_ :: _) _ _); (with_reducible apply wpl_loadCell cell_pdbt); (· rfl); (· rfl); (· exact hc); (simp only [Act.put, List.setIfInBounds_toArray, List.set_cons_zero, List.set_cons_succ]))
                      | ((with_reducible show wpList _ _ _ (_ :: _) _ _); (with_reducible apply wpl_loadCH); (· exact cell_i64); (· rfl); (· rfl); (· exact H); (· exact List.mem_cons_of_mem _ hm); (· (with_reducible first | exact dbt_g0 .. | exact dbt_g1 .. | exact dbt_g2 .. | exact dbt_g3 ..)); (simp only [Act.put, List.setIfInBounds_toArray, List.set_cons_zero, List.set_cons_succ]))
                      | ((with_reducible show wpList _ _ _ (_ :: _) _ _); (with_reducible apply wpl_loadRH row_flow); (· rfl); (· rfl); (· exact H); (· exact List.mem_cons_of_mem _ hm); (· (simp only [dbt_sz, Nat.reduceAdd, Nat.reduceLeDiff]; done)); (· exact dbt_flow ..); (simp only [Act.put, List.setIfInBounds_toArray, List.set_cons_zero, List.set_cons_succ]))
                      | ((with_reducible show wpList _ _ _ (_ :: _) _ _); (with_reducible apply wpl_bsRH); (· rfl); (· rfl); (· exact bs_flow); (· exact rfl); (· exact H); (clear H; intro pf _ H); (simp only [Act.put, List.setIfInBounds_toArray, List.set_cons_zero, List.set_cons_succ]))
                      | ((with_reducible show wpList _ _ _ (_ :: _) _ _); (with_reducible apply wpl_appendH slF); (· rfl); (· rfl); (· rfl); (· rfl); (· exact H.perm (.swap _ _ _)); (· exact H.celRd List.mem_cons_self); (· rfl); (· exact flowC_one _ _ _); (· exact h1); (· exact h2); (clear H; intro v2 _ H); (simp only [Act.put, List.setIfInBounds_toArray, List.set_cons_zero, List.set_cons_succ])))
                    refine ⟨⟨i + 1, by omega, by go_num, ?_⟩, ?measure2⟩
                    case measure2 => simp [intOf]; omega
                    rw [HTK.out, HX.out, flwL_app, List.length_append, HNE.out]
                    exact H.drop (.there .here)
                  · have d0 : decide (m > 0) = false := decide_eq_false h0
                    have hX : (if 0 < m then [(⟨f, t, m⟩ : Flw)] else []) = [] := if_neg h0
                    have HX := Lib.hid hX
                    clear hX h0
                    go_wp2_with (first
                      | go_skip
                      | ((with_reducible show wpList _ _ _ (_ :: _) _ _); (with_reducible apply wpl_loadCell cell_pdbt); (· rfl); (· rfl); (· exact hc); (simp only [Act.put, List.setIfInBounds_toArray, List.set_cons_zero, List.set_cons_succ]))
                      | ((with_reducible show wpList _ _ _ (_ :: _) _ _); (with_reducible apply wpl_loadCH); (· exact cell_i64); (· rfl); (· rfl); (· exact H); (· exact List.mem_cons_of_mem _ hm); (· (with_reducible first | exact dbt_g0 .. | exact dbt_g1 .. | exact dbt_g2 .. | exact dbt_g3 ..)); (simp only [Act.put, List.setIfInBounds_toArray, List.set_cons_zero, List.set_cons_succ])))
                    refine ⟨⟨i + 1, by omega, by go_num, ?_⟩, ?measure3⟩
                    case measure3 => simp [intOf]; omega
                    rw [HTK.out, HX.out, List.append_nil, HNE.out]
                    exact H
                · obtain rfl : i = k := by omega
                  rw [List.take_of_length_le (by rw [HL.out]; exact Nat.le_refl _), List.take_of_length_le (by rw [HN.out]; exact Nat.le_refl _)] at H
                  rename_i v _ _
                  obtain ⟨va, vc, rfl, hv1, hv2⟩ := RowT.form0 (H.ok _ List.mem_cons_self)
                  have K := clipFA va (leftL F N).length vc hv1 hv2 (fun e => RowT.nil7 (H.ok _ List.mem_cons_self) _ _ (by rw [e]))
                  go_wp2_with (first | go_skip | ((with_reducible refine Ans.callH (by assumption) H ?_); clear H; intro _ H))
                  go_ret3
                  refine ⟨_, leftL F N, j, 0, rfl, .inr ⟨HM.out, hq, j, N, HRT.out, hjq, .inl ⟨?_, rfl, rfl, rfl⟩⟩, ?_⟩
                  · rw [HT.out]; exact List.length_eq_zero_iff.1 HTN.out
                  · exact (H.sub (.cons_cons _ (.cons _ (.cons _ ((List.sublist_cons_self _ _).trans (List.sublist_append_right _ _)))))).slide.clipOwn
            · have e1 : ((tn : Int) == 0) = false := by simp; omega
              by_cases hq2 : (j : Int) = q
              · have e2 : ((j : Int) == q) = true := by simp; omega
                go_wp2_with (first
                  | go_skip
                  | (refine C1.mono ?_; clear C1 H; rintro _ _ ⟨_, rfl, H⟩; obtain ⟨ea, ec, rfl, _, _⟩ := RowT.form0 (H.ok _ List.mem_cons_self))
                  | (refine (C2 _ _ _ H).mono ?_; clear C2 H; rintro _ _ ⟨ta, tc, rfl, H⟩))
                go_ret3
                refine ⟨_, [], 0, 13, rfl, .inr ⟨HM.out, hq, j, N, HRT.out, hjq, .inr ⟨?_, hq2, rfl, rfl, rfl⟩⟩, ?_⟩
                · rw [HT.out]; intro h; apply hr; rw [← HTN.out, h]; rfl
                · exact Heap.nilOwn _ _ (H.sub (.cons _ (.cons _ ((List.sublist_cons_self _ _).trans (List.sublist_append_right _ _)))))
              · have e2 : ((j : Int) == q) = false := by simp; omega
                have hN0 : roundOf (edD F N) ≠ [] := fun h => hr (by rw [← HTN.out, ← HT.out, h]; rfl)
                obtain ⟨S, hS, s2, s3, _⟩ := round_go HM.out HI.out hN0
                obtain ⟨tf, Cf, hR⟩ := edD_rnd HM.out hN0
                have hN0' := Lib.hid hN0
                have hr1 := hR.pos
                have hr2 := hR.max
                have HS := Lib.hid hS
                rw [HT.out] at hr1 hr2 hS
                rw [HTN.out] at hr1 hr2
                have C3 := fun ea ec ta tc w' (H' : Heap W (dbs ps F N ++ (OwnT 37 1 (.slice ta tn tc) tn (T.map pv) :: RowT 42 3 (.slice ea (edD F N).length ec) (edD F N).length (edgL (edD F N)) :: OwnT 51 1 (.slice (some ⟨g, 0, none⟩) k k) k (ptrL ps) :: l)) w') =>
                  round8_H (some ⟨g, 0, none⟩) k k ps F N HM.out HI.out HP.out HL.out hn (fun l' w' hh H' => H'.ownRd (hh _ (List.mem_cons_of_mem _ (List.mem_cons_of_mem _ List.mem_cons_self)))) ta tn tc T S hS s2 s3 HTN.out hr1 hr2 (fun l' w' hh H' => H'.ownRd (hh _ List.mem_cons_self)) H'
                clear hS s2 s3 hR hN0
                go_wp2_with (first
                  | go_skip
                  | (refine C1.mono ?_; clear C1 H; rintro _ _ ⟨_, rfl, H⟩; obtain ⟨ea, ec, rfl, _, _⟩ := RowT.form0 (H.ok _ List.mem_cons_self))
                  | (refine (C2 _ _ _ H).mono ?_; clear C2 H; rintro _ _ ⟨ta, tc, rfl, H⟩)
                  | (refine (C3 _ _ _ _ _ (H.perm ((List.Perm.cons _ List.perm_middle.symm).trans List.perm_middle.symm))).mono ?_; clear C3 H; rintro _ _ ⟨rfl, H⟩))
                refine ⟨⟨j + 1, _, rfl, by go_num, .step HRT.out hN0'.out ⟨S, HS.out, rfl⟩, by omega, H.sub (.append (.refl _) (.cons _ (.cons _ (.refl _))))⟩, ?measure4⟩
                case measure4 => simp [intOf]; omega
    · have d1 : decide (MayD F) = true := decide_eq_true hM
      have d2 : decide (q < 0) = true := decide_eq_true (by omega)
      rw [d1] at M
      have HM := Lib.hid hM
      have HQ := Lib.hid hq
      clear hM d1 hq
      go_wp2_with (first | go_skip | ((with_reducible refine AnsH.call (by assumption) H ?_); clear H; intro _ H))
      go_ret3
      exact ⟨_, [], 0, 1, rfl, .inl ⟨.inr (by have := HQ.out; omega), rfl, rfl, rfl⟩, Heap.nilOwn _ _ H⟩
  · have d1 : decide (MayD F) = false := decide_eq_false hM
    rw [d1] at M
    have HM := Lib.hid hM
    clear hM d1
    go_wp2_with (first | go_skip | ((with_reducible refine AnsH.call (by assumption) H ?_); clear H; intro _ H))
    go_ret3
    exact ⟨_, [], 0, 1, rfl, .inl ⟨.inl HM.out, rfl, rfl, rfl⟩, Heap.nilOwn _ _ H⟩
end
end Go.Proofs.Ytbmmdfjabkpoeaa

/- countinghouselaw01's SameFlows. -/
namespace Go.Proofs.Ytbmmdfjabkpoeaa
open Go.RowKit
set_option linter.unusedSimpArgs false
set_option linter.unusedVariables false
instance : DecidableEq Flw := fun x y => if h : x.f = y.f ∧ x.t = y.t ∧ x.n = y.n then .isTrue (by cases x; cases y; simp at h; obtain ⟨rfl, rfl, rfl⟩ := h; rfl) else .isFalse (fun e => by subst e; exact h ⟨rfl, rfl, rfl⟩)
def flowSame (a b n x y z : Int) : Bool := decide (a = x ∧ b = y ∧ n = z)
theorem eqF_run (d : Nat) (a b n x y z : Int) (w : World) : (Op.equalIn (d + 2) 39 (.agg (flow a b n)) (.agg (flow x y z))).run Try.prog w = .ok (flowSame a b n x y z) w := by
  unfold flow
  rw [run_equalIn_struct w (d + 1) 39 _ _ (by kernel_rfl) (by kernel_rfl)]
  have hu := Try.underlying37
  have hv := Try.underlying2
  by_cases h1 : a = x <;> by_cases h2 : b = y <;> by_cases h3 : n = z
  all_goals simp [flowSame, go_sem, Try.underlying39, hu, hv, h1, h2, h3]
theorem neqF_run (a b n x y z : Int) (w : World) : (binOp .neq 39 (.agg (flow a b n)) (.agg (flow x y z))).run Try.prog w = .ok (.bool (!flowSame a b n x y z)) w := by
  have h : (Op.equal 39 (.agg (flow a b n)) (.agg (flow x y z))).run Try.prog w = .ok (flowSame a b n x y z) w := eqF_run 9998 a b n x y z w
  simp only [binOp]
  simp [Sem.run_bind, h]
section
variable {W w : World} {l : List Thing} {ops : Array Oper} {rest : List Oper} {a : Act}
theorem wpQ_neqF {dst : Option Tmp} {ty : TypeId} {pos : String} {after : Array Edge} {guard : Option (Nat × Bool)} {p q : Operand} {a0 b0 n0 x y n : Int} {K : Act → Prop} {H : Heap W l w} (hw : Region.wanted ⟨dst, .binOp .neq 39 p q 39, ty, pos, after, guard⟩ (yielded ops a.tmps) = true) (hp : a.eval p = .agg (flow a0 b0 n0)) (hq : a.eval q = .agg (flow x y n))
    (h : wpQuiet Try.prog ops (fun w' => ∃ d, w' = H.any d) K rest (a.put dst (.bool (!flowSame a0 b0 n0 x y n)))) : wpQuiet Try.prog ops (fun w' => ∃ d, w' = H.any d) K (⟨dst, .binOp .neq 39 p q 39, ty, pos, after, guard⟩ :: rest) a := by
  have hg : (Try.prog.eqGuardType Try.prog.depth 39) = false := by kernel_rfl
  refine BigFrame.wpQuiet_want hw fun K hK => ⟨_, ?_, hK _ h⟩
  rintro _ ⟨d, rfl⟩
  unfold Oper.quietAt execOp
  simp only [hp, hq, Sem.run_bind, neqF_run]
  simp [eqGuard, hg, neqF_run]
  exact ⟨rfl, rfl⟩
end
structure SameFL (W : World) (l : List Thing) (A B : List Flw) (n : Nat) (vi : Value) (wr : World) : Prop where
  out : ∃ k : Nat, k ≤ n ∧ vi = .int .i64 (k : Int) ∧ A.take k = B.take k ∧ Heap W l wr
section
variable {W w : World} {l : List Thing}
set_option maxRecDepth 100000
set_option maxHeartbeats 2000000
theorem sameF_no {A B : List Flw} (a b : Option Addr) (n m c d : Nat) (hA : A.length = n) (hB : B.length = m) (hn : n ≤ 1000000) (hm : m ≤ 1000000) (hne : n ≠ m) : AnsH W l 27 #[.slice a n c, .slice b m d] (.bool false) := by
  intro w H
  have e1 : ((n : Int) != (m : Int)) = true := by simp; omega
  have e2 : ((n : Int) == (m : Int)) = false := by simp; omega
  go_enter Try.func27, Try.ntmps27
  go_wp2_with (go_skip)
  go_ret
  exact ⟨rfl, H⟩
theorem sameF_P {A B : List Flw} (a b : Option Addr) (n c d : Nat) (hA : A.length = n) (hB : B.length = n) (hn : n ≤ 1000000) (RA : ∀ w', Heap W l w' → Rd w' a (flwL A)) (RB : ∀ w', Heap W l w' → Rd w' b (flwL B)) :
    AnsH W l 27 #[.slice a n c, .slice b n d] (.bool (decide (A = B))) := by
  intro w H
  have HA := Lib.hid hA
  have HB := Lib.hid hB
  have HRA := Lib.hid RA
  have HRB := Lib.hid RB
  clear hA hB RA RB
  generalize hres : decide (A = B) = res
  have HRES := Lib.hid hres
  clear hres
  go_enter Try.func27, Try.ntmps27
  go_wp2_with (go_skip)
  have H0 := H
  clear H
  go_loopw [5] (fun vi wr => SameFL W l A B n vi wr) (fun vi _ => n - (intOf vi).toNat)
  case atStart => exact ⟨0, Nat.zero_le _, rfl, rfl, H0⟩
  case round =>
    obtain ⟨k, hk, rfl, ht, H'⟩ := hrel.out
    clear H0 hrel
    have H := H'
    clear H'
    by_cases hlt : k < n
    · have hkA : k < A.length := by rw [HA.out]; exact hlt
      have hkB : k < B.length := by rw [HB.out]; exact hlt
      have hx : A[k]? = some A[k] := List.getElem?_eq_getElem hkA
      have hy : B[k]? = some B[k] := List.getElem?_eq_getElem hkB
      have ra := flwL_at A k hkA
      have rb := flwL_at B k hkB
      have hlA : k * 3 + 3 ≤ (flwL A).length := by rw [flwL_len]; omega
      have hlB : k * 3 + 3 ≤ (flwL B).length := by rw [flwL_len]; omega
      have HT := Lib.hid ht
      clear ht
      generalize A[k] = x at *
      generalize B[k] = y at *
      obtain ⟨ba, oa, rfl, _⟩ := (HRA.out _ H).lt (by omega)
      obtain ⟨bb, ob, rfl, _⟩ := (HRB.out _ H).lt (by omega)
      obtain ⟨xa, xb, xn⟩ := x
      obtain ⟨ya, yb, yn⟩ := y
      have hrA : (((flwL A).drop (k * 3)).take 3).toArray = flow (xa : Int) (xb : Int) xn := by rw [ra]; rfl
      have hrB : (((flwL B).drop (k * 3)).take 3).toArray = flow (ya : Int) (yb : Int) yn := by rw [rb]; rfl
      clear ra rb
      cases he : flowSame (xa : Int) (xb : Int) xn (ya : Int) (yb : Int) yn
      · have HN := Lib.hid (show A ≠ B from fun e => by
          subst e
          rw [hx] at hy
          obtain ⟨rfl, rfl, rfl⟩ := by simpa using hy
          simp [flowSame] at he)
        clear hx hy
        go_wp2_with (go_skip)
        refine wp_region_H H (by kernel_rfl) (by kernel_rfl) ?_
        repeat (first | go_big_quiet_skip | (first | ((with_reducible apply wpQ_loadRdR row_flow); (· rfl); (· rfl); (· exact HRA.out); (· rfl); (· exact hlA); (· decide); (· exact hrA); (simp only [Act.put, List.setIfInBounds_toArray, List.set_cons_zero, List.set_cons_succ])) | ((with_reducible apply wpQ_loadRdR row_flow); (· rfl); (· rfl); (· exact HRB.out); (· rfl); (· exact hlB); (· decide); (· exact hrB); (simp only [Act.put, List.setIfInBounds_toArray, List.set_cons_zero, List.set_cons_succ])) | ((with_reducible apply wpQ_neqF); (· rfl); (· rfl); (· rfl); (rw [he]); (simp only [Act.put, List.setIfInBounds_toArray, List.set_cons_zero, List.set_cons_succ]))) | go_big_quiet_step (fail))
        refine wpQuiet_nil ?_
        clear H
        intro _ H
        go_wp2_with (go_skip)
        go_ret
        rw [← HRES.out, decide_eq_false HN.out]
        exact ⟨rfl, H⟩
      · have HS := Lib.hid (show A.take (k + 1) = B.take (k + 1) by
          rw [List.take_add_one, List.take_add_one, hx, hy, HT.out]
          have h2 := he
          simp [flowSame] at h2
          obtain ⟨h3, h4, h5⟩ := h2
          have h3' : xa = ya := by omega
          have h4' : xb = yb := by omega
          subst h3' h4' h5
          rfl)
        clear hx hy
        go_wp2_with (go_skip)
        refine wp_region_H H (by kernel_rfl) (by kernel_rfl) ?_
        repeat (first | go_big_quiet_skip | (first | ((with_reducible apply wpQ_loadRdR row_flow); (· rfl); (· rfl); (· exact HRA.out); (· rfl); (· exact hlA); (· decide); (· exact hrA); (simp only [Act.put, List.setIfInBounds_toArray, List.set_cons_zero, List.set_cons_succ])) | ((with_reducible apply wpQ_loadRdR row_flow); (· rfl); (· rfl); (· exact HRB.out); (· rfl); (· exact hlB); (· decide); (· exact hrB); (simp only [Act.put, List.setIfInBounds_toArray, List.set_cons_zero, List.set_cons_succ])) | ((with_reducible apply wpQ_neqF); (· rfl); (· rfl); (· rfl); (rw [he]); (simp only [Act.put, List.setIfInBounds_toArray, List.set_cons_zero, List.set_cons_succ]))) | go_big_quiet_step (fail))
        refine wpQuiet_nil ?_
        clear H
        intro _ H
        go_wp2_with (go_skip)
        refine ⟨⟨k + 1, by omega, by go_num, HS.out, H⟩, ?measure⟩
        case measure => simp [intOf]; omega
    · obtain rfl : k = n := by omega
      have HE := Lib.hid (show A = B by
        have h := ht
        rw [List.take_of_length_le (by rw [HA.out]; exact Nat.le_refl _), List.take_of_length_le (by rw [HB.out]; exact Nat.le_refl _)] at h
        exact h)
      clear ht
      go_wp2_with (go_skip)
      go_ret
      rw [← HRES.out, decide_eq_true HE.out]
      exact ⟨rfl, H⟩
theorem sameFlows_P {A B : List Flw} (a b : Option Addr) (n m c d : Nat) (hA : A.length = n) (hB : B.length = m) (hn : n ≤ 1000000) (hm : m ≤ 1000000) (RA : ∀ w', Heap W l w' → Rd w' a (flwL A)) (RB : ∀ w', Heap W l w' → Rd w' b (flwL B)) :
    AnsH W l 12 #[.slice a n c, .slice b m d] (.bool (decide (A = B))) := by
  intro w H
  have S : AnsH W l 27 #[.slice a n c, .slice b m d] (.bool (decide (A = B))) := by
    by_cases e : n = m
    · subst e
      exact sameF_P a b n c d hA hB hn RA RB
    · rw [decide_eq_false (fun h => e (by rw [← hA, ← hB, h]))]
      exact sameF_no a b n m c d hA hB hn hm e
  clear RA RB hA hB
  generalize decide (A = B) = res at *
  go_enter Try.func12, Try.ntmps12
  go_wp2_with (first | go_skip | ((with_reducible refine AnsH.call (by assumption) H ?_); clear H; intro _ H))
  go_ret
  exact ⟨rfl, H⟩
end
end Go.Proofs.Ytbmmdfjabkpoeaa

/- A slice literal of whatever elements. -/
namespace Go.Proofs.Ytbmmdfjabkpoeaa
open Go.RowKit
set_option linter.unusedSimpArgs false
set_option linter.unusedVariables false
section
variable {W w : World} {l : List Thing}
theorem wpl_bsAny {dst : Option Tmp} {ty : TypeId} {pos : String} {after : Array Edge} {guard : Option (Nat × Bool)} {t e n size bytes : Nat} {z : Value} {ops : Array Oper} {rest : List Oper} {a : Act} {Q : Exit → Act → World → Prop} (T : SlTy Try.prog t e size bytes z) (xs : List (Nat × Operand)) (vs : List (Nat × Value)) (c : Array Value) (hw : Region.wanted ⟨dst, .buildSlice t n xs.toArray, ty, pos, after, guard⟩ (yielded ops a.tmps) = true)
    (hx : xs.map (fun (i, x) => (i, a.eval x)) = vs) (h0 : 0 < n) (h1 : n * size ≤ 65536)
    (hf : Instr.fill (fun i => some (i * size, size)) (Array.map (fun x => z.cells[x % z.cells.size]!) (Array.range (n * size))) vs = some c)
    (H : Heap W l w) (h : ∀ p w', Heap W (Cel p c e :: l) w' → wpList Try.prog ops Q rest (a.put dst (.slice (some ⟨p, 0, none⟩) n n)) w') : wpList Try.prog ops Q (⟨dst, .buildSlice t n xs.toArray, ty, pos, after, guard⟩ :: rest) a w := by
  obtain ⟨i, hi, hz, hsi, hbi⟩ := T.inf
  have h2 := T.pos
  have h3 : n ≤ n * size := Nat.le_mul_of_pos_right _ h2
  have r1 : (sizeOf e).run Try.prog w = .ok size w := by simp [sizeOf, typeInfo, hi, hsi, go_sem]
  have r2 : (zeroValue e).run Try.prog w = .ok z w := by simp [zeroValue, typeInfo, hi, hz, go_sem]
  refine BigFrame.wpList_want hw fun K hK => ?_
  have hrun : (Instr.buildSlice t n (xs.toArray.map fun (i, x) => (i, a.eval x))).run Try.prog w = .ok (.slice (some ⟨w.heap.size, 0, none⟩) n n) (w.alloc (.cells c e)) := by
    unfold Instr.buildSlice
    rw [Sem.run_bind, run_underlying T.und]
    simp only [Result.andThen_ok]
    rw [Sem.run_bind, r1]
    simp only [Result.andThen_ok]
    rw [if_neg (by omega), if_neg (by omega)]
    simp only [Sem.run_bind, r2, Result.andThen_ok, Sem.run_pure]
    have hx2 : (xs.toArray.map (fun (i, x) => (i, a.eval x))).toList = vs := by rw [← hx]; simp
    rw [hx2, hf]
    simp [newRow, go_sem]
  unfold Oper.wp execOp
  simp only [Sem.run_bind, hrun, Result.andThen_ok, Sem.run_pure]
  exact hK _ _ (h _ _ (H.alloc _ _))
end
end Go.Proofs.Ytbmmdfjabkpoeaa

/- The chapter's example of rounds. -/
namespace Go.Proofs.Ytbmmdfjabkpoeaa
open Go.RowKit
set_option linter.unusedSimpArgs false
set_option linter.unusedVariables false
set_option maxRecDepth 100000
def l8A : List Flw := [⟨1, 2, 5⟩, ⟨2, 3, 3⟩, ⟨3, 1, 4⟩]
def l8B : List Flw := [⟨1, 2, 2⟩, ⟨3, 1, 1⟩]
def l8C : List Flw := [⟨1, 2, 5⟩]
def l8D : List Flw := [⟨1, 1, 5⟩]
theorem mayD_of {F : List Flw} (h : ∀ i, i < F.length → ∃ x, F[i]? = some x ∧ okD x = true ∧ ∀ y, 0 < i → F[i - 1]? = some y → cfF y x < 0) : MayD F := by
  intro i x hi hx
  obtain ⟨y, h1, h2, h3⟩ := h i hi
  rw [hx] at h1
  cases h1
  exact ⟨h2, h3⟩
theorem l8A_may : MayD l8A := mayD_of fun i hi => by
  have : i = 0 ∨ i = 1 ∨ i = 2 := by simp [l8A] at hi; omega
  rcases this with rfl | rfl | rfl
  · exact ⟨_, rfl, by decide, fun y h => by omega⟩
  · exact ⟨_, rfl, by decide, fun y _ h => by cases h; decide⟩
  · exact ⟨_, rfl, by decide, fun y _ h => by cases h; decide⟩
theorem l8C_may : MayD l8C := mayD_of fun i hi => by
  have : i = 0 := by simp [l8C] at hi; omega
  subst this
  exact ⟨_, rfl, by decide, fun y h => by omega⟩
theorem l8D_no : ¬ MayD l8D := fun h => by
  have := (h 0 ⟨1, 1, 5⟩ (by decide) rfl).1
  simp [okD] at this
theorem r8a : roundOf (edD l8A [5, 3, 4]) = [1, 2, 3] := by decide +kernel
theorem r8b : roundOf (edD l8A [2, 0, 1]) = [] := by decide +kernel
theorem r8c : roundOf (edD l8C [5]) = [] := by decide +kernel
theorem l8A_steps : StepsAre l8A [5, 3, 4] [1, 2, 3] [(0, false), (1, false), (2, false)] := ⟨rfl, fun k hk => by
  have : k = 0 ∨ k = 1 ∨ k = 2 := by simp at hk; omega
  rcases this with rfl | rfl | rfl
  · exact ⟨0, false, rfl, ⟨1, 2, 5⟩, 5, rfl, rfl, .inl ⟨rfl, rfl, rfl, by decide⟩⟩
  · exact ⟨1, false, rfl, ⟨2, 3, 3⟩, 3, rfl, rfl, .inl ⟨rfl, rfl, rfl, by decide⟩⟩
  · exact ⟨2, false, rfl, ⟨3, 1, 4⟩, 4, rfl, rfl, .inl ⟨rfl, rfl, rfl, by decide⟩⟩⟩
theorem l8A_one : RdTr l8A 1 [2, 0, 1] := .step (N := [5, 3, 4]) .nil (by rw [r8a]; simp) ⟨_, by rw [r8a]; exact l8A_steps, by decide⟩
theorem l8_1 : LeastOut 13 l8A 9 l8B 1 0 := .inr ⟨l8A_may, by decide, 1, _, l8A_one, by decide, .inl ⟨r8b, rfl, rfl, rfl⟩⟩
theorem l8_2 : LeastOut 13 l8A 0 [] 0 13 := .inr ⟨l8A_may, by decide, 0, _, .nil, by decide, .inr ⟨by rw [show l8A.map Flw.n = [5, 3, 4] from rfl, r8a]; simp, rfl, rfl, rfl, rfl⟩⟩
theorem l8_3 : LeastOut 13 l8C 0 l8C 0 0 := .inr ⟨l8C_may, by decide, 0, _, .nil, by decide, .inl ⟨r8c, rfl, rfl, rfl⟩⟩
theorem l8_4 : LeastOut 13 l8D 9 [] 0 1 := .inl ⟨.inl l8D_no, rfl, rfl, rfl⟩
def x8A : Array Value := (flwL l8A).toArray
def x8B : Array Value := (flwL l8B).toArray
def x8D : Array Value := (flwL l8D).toArray
theorem l8_ok {F : List Flw} (h : ∀ x ∈ F, x.f ≤ 255 ∧ x.t ≤ 255 ∧ 0 ≤ x.n ∧ x.n ≤ 1000) : ∀ x ∈ F, FlwOk x := fun x hx => by have := h x hx; exact ⟨by omega, by omega, by omega, by omega⟩
section
variable {W w : World} {l : List Thing}
set_option maxHeartbeats 4000000
theorem least8_S (a : Option Addr) (n c : Nat) (F : List Flw) (q : Int) (hl : F.length = n) (hn : n ≤ 1000) (hF : ∀ x ∈ F, FlwOk x) (h63 : q ≤ 9223372036854775807) (R : ∀ l' w', (∀ x ∈ l, x ∈ l') → Heap W l' w' → Rd w' a (flwL F)) (H : Heap W l w) :
    Calls Try.prog 10 #[.slice a n c, .int .i64 q] w fun e w' => ∃ b m d L k er, e = .returned (.tuple #[.slice b m d, .int .i64 k, .int .i64 er]) ∧ L.length = m ∧ m ≤ d ∧ d ≤ maxLen ∧ LeastOut 13 F q L k er ∧ Heap W (OwnT 39 3 (.slice b m d) m (flwL L) :: l) w' := by
  refine (least8_H a n c F q hl hn hF h63 R H).mono ?_
  rintro e w' ⟨v, L, k, er, rfl, ho, H'⟩
  obtain ⟨b, d, rfl, h1, h2⟩ := OwnT.form0 (H'.ok _ List.mem_cons_self)
  exact ⟨b, _, d, L, k, er, rfl, rfl, h1, h2, ho, H'⟩
theorem lives08_H (H : Heap W l w) : Calls Try.prog 8 #[] w fun e w' => e = .returned (.bool true) ∧ Heap W l w' := by
  go_enter Try.func8, Try.ntmps8
  go_wp2_with (first
    | go_skip
    | ((with_reducible show wpList _ _ _ (_ :: _) _ _); (with_reducible apply wpl_bsAny (n := 3) slF _ _ x8A); (· rfl); (· rfl); (· decide); (· decide); (· kernel_rfl); (· exact H); (clear H; intro pA _ H); (simp only [Act.put, List.setIfInBounds_toArray, List.set_cons_zero, List.set_cons_succ])))
  refine (least8_S (some ⟨pA, 0, none⟩) 3 3 l8A 9 rfl (by omega) (l8_ok (by decide)) (by omega) (fun l' w' hh H' => H'.celRd (c := x8A) (hh _ List.mem_cons_self)) H).mono ?_
  clear H
  rintro _ _ ⟨b1, m1, d1, L, k, er, rfl, hm, hc1, hx1, ho, H⟩
  obtain ⟨rfl, rfl, rfl⟩ := ho.det l8_1
  obtain rfl : m1 = 2 := hm.symm
  clear hm ho
  go_wp2_with (go_skip)
  refine (least8_S (some ⟨pA, 0, none⟩) 3 3 l8A 0 rfl (by omega) (l8_ok (by decide)) (by omega) (fun l' w' hh H' => H'.celRd (c := x8A) (hh _ (List.mem_cons_of_mem _ List.mem_cons_self))) H).mono ?_
  clear H
  rintro _ _ ⟨b2, m2, d2, L, k, er, rfl, hm, hc2, hx2, ho, H⟩
  obtain ⟨rfl, rfl, rfl⟩ := ho.det l8_2
  obtain rfl : m2 = 0 := hm.symm
  clear hm ho
  go_wp2_with (go_skip)
  refine (least8_S (some ⟨pA, 0, none⟩) 1 3 l8C 0 rfl (by omega) (l8_ok (by decide)) (by omega) (fun l' w' hh H' => (H'.celRd (c := x8A) (hh _ (List.mem_cons_of_mem _ (List.mem_cons_of_mem _ List.mem_cons_self)))).takeN 3) H).mono ?_
  clear H
  rintro _ _ ⟨b3, m3, d3, L, k, er, rfl, hm, hc3, hx3, ho, H⟩
  obtain ⟨rfl, rfl, rfl⟩ := ho.det l8_3
  obtain rfl : m3 = 1 := hm.symm
  clear hm ho
  go_wp2_with (first | go_skip | ((with_reducible show wpList _ _ _ (_ :: _) _ _); (with_reducible apply wpl_bsAny (n := 1) slF _ _ x8D); (· rfl); (· rfl); (· decide); (· decide); (· kernel_rfl); (· exact H); (clear H; intro pD _ H); (simp only [Act.put, List.setIfInBounds_toArray, List.set_cons_zero, List.set_cons_succ])))
  refine (least8_S (some ⟨pD, 0, none⟩) 1 1 l8D 9 rfl (by omega) (l8_ok (by decide)) (by omega) (fun l' w' hh H' => H'.celRd (c := x8D) (hh _ List.mem_cons_self)) H).mono ?_
  clear H
  rintro _ _ ⟨b4, m4, d4, L, k, er, rfl, hm, hc4, hx4, ho, H⟩
  obtain ⟨rfl, rfl, rfl⟩ := ho.det l8_4
  obtain rfl : m4 = 0 := hm.symm
  clear hm ho
  go_wp2_with (first | go_skip | ((with_reducible show wpList _ _ _ (_ :: _) _ _); (with_reducible apply wpl_bsAny (n := 2) slF _ _ x8B); (· rfl); (· rfl); (· decide); (· decide); (· kernel_rfl); (· exact H); (clear H; intro pB _ H); (simp only [Act.put, List.setIfInBounds_toArray, List.set_cons_zero, List.set_cons_succ])))
  have S1 := sameFlows_P (W := W) (l := Cel pB x8B 39 :: OwnT 39 3 (.slice b4 0 d4) 0 (flwL []) :: Cel pD x8D 39 :: OwnT 39 3 (.slice b3 1 d3) 1 (flwL l8C) :: OwnT 39 3 (.slice b2 0 d2) 0 (flwL []) :: OwnT 39 3 (.slice b1 2 d1) 2 (flwL l8B) :: Cel pA x8A 39 :: l) (A := l8B) (B := l8B) b1 (some ⟨pB, 0, none⟩) 2 2 d1 2 rfl rfl (by omega) (by omega) (fun w' h => h.ownRd (by (repeat (first | (with_reducible exact List.mem_cons_self) | with_reducible apply List.mem_cons_of_mem)))) (fun w' h => h.celRd (c := x8B) List.mem_cons_self)
  rw [decide_eq_true rfl] at S1
  refine (S1 _ H).mono ?_
  clear H S1
  rintro _ _ ⟨rfl, H⟩
  go_wp2_with (go_skip)
  have S1 := sameFlows_P (W := W) (l := Cel pB x8B 39 :: OwnT 39 3 (.slice b4 0 d4) 0 (flwL []) :: Cel pD x8D 39 :: OwnT 39 3 (.slice b3 1 d3) 1 (flwL l8C) :: OwnT 39 3 (.slice b2 0 d2) 0 (flwL []) :: OwnT 39 3 (.slice b1 2 d1) 2 (flwL l8B) :: Cel pA x8A 39 :: l) (A := l8C) (B := l8C) b3 (some ⟨pA, 0, none⟩) 1 1 d3 3 rfl rfl (by omega) (by omega) (fun w' h => h.ownRd (by (repeat (first | (with_reducible exact List.mem_cons_self) | with_reducible apply List.mem_cons_of_mem)))) (fun w' h => (h.celRd (p := pA) (c := x8A) (t := 39) (by (repeat (first | (with_reducible exact List.mem_cons_self) | with_reducible apply List.mem_cons_of_mem)))).takeN 3)
  rw [decide_eq_true rfl] at S1
  refine (S1 _ H).mono ?_
  clear H S1
  rintro _ _ ⟨rfl, H⟩
  go_wp2_with (go_skip)
  go_ret
  exact ⟨rfl, H.tail.tail.tail.tail.tail.tail.tail⟩
end
end Go.Proofs.Ytbmmdfjabkpoeaa

/- countinghouselaw08.great: is more owed than is gone through? -/
namespace Go.Proofs.Ytbmmdfjabkpoeaa
open Go.RowKit
set_option linter.unusedSimpArgs false
set_option linter.unusedVariables false
def grX (s : Int) (x : Flw) : Int := if 0 < x.n ∧ x.n < 1125899906842624 then s + x.n else s
def grS (F : List Flw) : Int := F.foldl grX 0
theorem grS_app (F : List Flw) (x : Flw) : grS (F ++ [x]) = grX (grS F) x := by unfold grS; rw [List.foldl_append]; rfl
theorem grS_take {F : List Flw} {k : Nat} {x : Flw} (h : F[k]? = some x) : grS (F.take (k + 1)) = grX (grS (F.take k)) x := by
  rw [List.take_add_one, h, Option.toList_some]
  exact grS_app _ _
theorem fold_bnd : ∀ (F : List Flw) (s b : Int), 0 ≤ s → s ≤ b → 0 ≤ F.foldl grX s ∧ F.foldl grX s ≤ b + 1125899906842624 * (F.length : Int)
  | [], s, b, h0, h1 => by simp; omega
  | x :: F, s, b, h0, h1 => by
    have hx : 0 ≤ grX s x ∧ grX s x ≤ b + 1125899906842624 := by unfold grX; split <;> omega
    have := fold_bnd F (grX s x) (b + 1125899906842624) hx.1 hx.2
    rw [List.foldl_cons, List.length_cons]
    omega
theorem grS_bnd (F : List Flw) : 0 ≤ grS F ∧ grS F ≤ 1125899906842624 * (F.length : Int) := by
  have := fold_bnd F 0 0 (by omega) (by omega)
  unfold grS
  omega
def great8 (F : List Flw) : Bool := decide (240 < F.length) || (decide (70 < F.length) && decide (5000 < grS F))
theorem great8_few {F : List Flw} (h : great8 F = false) : F.length ≤ 240 := by
  unfold great8 at h
  simp at h
  omega
structure GrR (W : World) (l : List Thing) (F : List Flw) (n : Nat) (s i : Value) (wr : World) : Prop where
  out : ∃ k : Nat, k ≤ n ∧ i = .int .i64 (k : Int) ∧ s = .int .i64 (grS (F.take k)) ∧ Heap W l wr
section
variable {W w : World} {l : List Thing}
set_option maxRecDepth 100000
set_option maxHeartbeats 4000000
theorem great8_H (a : Option Addr) (n c : Nat) (F : List Flw) (hl : F.length = n) (h63 : n ≤ 9223372036854775807) (R : ∀ l' w', (∀ x ∈ l, x ∈ l') → Heap W l' w' → Rd w' a (flwL F)) :
    AnsH W l 7 #[.slice a n c] (.bool (great8 F)) := by
  intro w H
  have HL := Lib.hid hl
  have HR := Lib.hid R
  clear hl R
  go_enter Try.func7, Try.ntmps7
  by_cases h240 : 240 < n
  · have d1 : decide ((n : Int) > 240) = true := decide_eq_true (by omega)
    have hg : great8 F = true := by unfold great8; rw [HL.out, decide_eq_true h240]; rfl
    rw [hg]
    clear hg
    go_wp2_with (go_skip)
    go_ret
    exact ⟨rfl, H⟩
  · have d1 : decide ((n : Int) > 240) = false := decide_eq_false (by omega)
    go_wp2_with (go_skip)
    have H0 := H
    clear H
    go_loopw [3, 4] (fun s i wr => GrR W l F n s i wr) (fun _ i _ => n - (intOf i).toNat)
    case atStart => exact ⟨0, Nat.zero_le _, rfl, rfl, H0⟩
    case round =>
      obtain ⟨k, hk, rfl, rfl, H⟩ := hrel.out
      clear H0 hrel
      have hb := grS_bnd (F.take k)
      rw [List.length_take, HL.out] at hb
      by_cases hlt : k < n
      · have hfk : F[k]? = some (F[k]'(by rw [HL.out]; exact hlt)) := List.getElem?_eq_getElem _
        have hrow := flwL_at F k (by rw [HL.out]; exact hlt)
        have hlen : k * 3 + 3 ≤ (flwL F).length := by rw [flwL_len, HL.out]; omega
        generalize F[k]'(by rw [HL.out]; exact hlt) = x at *
        have Rw := HR.out _ wr (fun x hx => hx) H
        obtain ⟨eb, eo, rfl, _⟩ := Rw.lt (by rw [flwL_len, HL.out]; omega)
        have hc : wr.cell? ⟨eb, eo + k * 3 + 2, none⟩ = some (.int .i64 x.n) := by
          have h1 := Rw.get (i := k * 3 + 2) (by omega)
          rw [← Nat.add_assoc] at h1
          rw [h1]
          have h2 : (((flwL F).drop (k * 3)).take 3)[2]? = some (.int .i64 x.n) := by rw [hrow]; rfl
          rw [List.getElem?_take, if_pos (by omega), List.getElem?_drop] at h2
          rw [← h2, List.getElem?_eq_getElem (by omega)]
        have htk := grS_take hfk
        have HTK := Lib.hid htk
        clear htk hrow hfk Rw
        generalize grS (F.take k) = s at *
        have hb2 : s ≤ 1125899906842624 * 240 := by omega
        by_cases h0 : 0 < x.n
        · have e0 : decide (x.n > 0) = true := decide_eq_true h0
          by_cases h1 : x.n < 1125899906842624
          · have e1 : decide (x.n < 1125899906842624) = true := decide_eq_true h1
            have hw : wrap64 (s + x.n) = s + x.n := IntWalk.wrap64_in _ ⟨by omega, by omega⟩
            go_wp2_with (first | go_skip | ((with_reducible show wpList _ _ _ (_ :: _) _ _); (with_reducible apply wpl_loadCell cell_i64); (· rfl); (· rfl); (· exact hc); (simp only [Act.put, List.setIfInBounds_toArray, List.set_cons_zero, List.set_cons_succ])))
            refine ⟨⟨k + 1, by omega, by go_num, ?_, H⟩, ?measure1⟩
            case measure1 => simp [intOf]; omega
            rw [HTK.out, grX, if_pos ⟨h0, h1⟩]
          · have e1 : decide (x.n < 1125899906842624) = false := decide_eq_false h1
            go_wp2_with (first | go_skip | ((with_reducible show wpList _ _ _ (_ :: _) _ _); (with_reducible apply wpl_loadCell cell_i64); (· rfl); (· rfl); (· exact hc); (simp only [Act.put, List.setIfInBounds_toArray, List.set_cons_zero, List.set_cons_succ])))
            refine ⟨⟨k + 1, by omega, by go_num, ?_, H⟩, ?measure2⟩
            case measure2 => simp [intOf]; omega
            rw [HTK.out, grX, if_neg (by omega)]
        · have e0 : decide (x.n > 0) = false := decide_eq_false h0
          go_wp2_with (first | go_skip | ((with_reducible show wpList _ _ _ (_ :: _) _ _); (with_reducible apply wpl_loadCell cell_i64); (· rfl); (· rfl); (· exact hc); (simp only [Act.put, List.setIfInBounds_toArray, List.set_cons_zero, List.set_cons_succ])))
          refine ⟨⟨k + 1, by omega, by go_num, ?_, H⟩, ?measure3⟩
          case measure3 => simp [intOf]; omega
          rw [HTK.out, grX, if_neg (by omega)]
      · obtain rfl : k = n := by omega
        rw [List.take_of_length_le (by rw [HL.out]; exact Nat.le_refl _)]
        have hg : great8 F = (decide (70 < k) && decide (5000 < grS F)) := by unfold great8; rw [HL.out, decide_eq_false h240]; rfl
        have HG := Lib.hid hg
        clear hg hb
        generalize grS F = s at *
        by_cases h70 : 70 < k
        · have e0 : decide ((k : Int) > 70) = true := decide_eq_true (by omega)
          by_cases h5 : 5000 < s
          · have e1 : decide (s > 5000) = true := decide_eq_true h5
            go_wp2_with (go_skip)
            go_ret
            exact ⟨by rw [HG.out, decide_eq_true (by omega), decide_eq_true (by omega)]; rfl, H⟩
          · have e1 : decide (s > 5000) = false := decide_eq_false h5
            go_wp2_with (go_skip)
            go_ret
            exact ⟨by rw [HG.out, decide_eq_true (by omega), decide_eq_false (by omega)]; rfl, H⟩
        · have e0 : decide ((k : Int) > 70) = false := decide_eq_false (by omega)
          go_wp2_with (go_skip)
          go_ret
          exact ⟨by rw [HG.out, decide_eq_false (by omega)]; rfl, H⟩
end
end Go.Proofs.Ytbmmdfjabkpoeaa

/- How an argument's reading gives what a walk asks of it. -/
namespace Go.Proofs.Ytbmmdfjabkpoeaa
open Go.ChangeShapes Go.WideShapes Go.ChangeAt Go.RowKit

theorem ints_bytes : ∀ (zs : List Int), (∀ n ∈ zs, (Lit.int .u8 n).wf = true) → ∃ bs : List (BitVec 8), zs = bs.map I8
  | [], _ => ⟨[], rfl⟩
  | z :: zs, h => by
    obtain ⟨bs, rfl⟩ := ints_bytes zs (fun n hn => h n (List.mem_cons_of_mem _ hn))
    have hz := h z (List.mem_cons_self ..)
    have hb := bounds_u8 hz
    obtain ⟨b, rfl⟩ := exists_I8 z (by omega) (by omega)
    exact ⟨b :: bs, rfl⟩

theorem Rd.ofCells {w : World} {x : Addr} {xs : List Value} (h : ∀ i, (hi : i < xs.length) → w.cell? (x.add i) = some xs[i]) : Rd w (some x) xs := by
  obtain ⟨b, o, sp⟩ := x
  intro i hi
  have h0 := h 0 (by omega)
  have hsp : sp = none := by
    rcases sp with _ | s
    · rfl
    · simp only [Addr.add, if_true, World.cell?] at h0
      split at h0 <;> simp at h0
  subst hsp
  exact ⟨b, o, rfl, by rw [← addr_add]; exact h i hi⟩

/-- A slice of bytes that came in. -/
structure IsBytes (w : World) (a : Option Addr) (n c : Nat) (zs : List (BitVec 8)) : Prop where
  len : n = zs.length
  cap : n ≤ c
  max : c ≤ maxLen
  rd : Rd w a (zs.map B8)

theorem open_bytes {H : Type} {enc : TypeId × Value → H} {P : Program} {W : World} {held : Bool} {t e : TypeId} {v : Value} {d : DataW H} {p : List MemPlace} {r : Reach} {base : Nat}
    (ht : P.underlying t = some (.slice e)) (he : P.underlying e = some (.int .u8)) (hc : P.cellsOf e = 1) (hv : Value.okWide P W r base t v)
    (h : DataW.Trod enc P W 0 (fun _ => true) held t v d p) : ∃ a n c zs, v = .slice a n c ∧ IsBytes W a n c zs := by
  obtain ⟨a, n, c, rfl⟩ := okWide_slice ht hv
  obtain ⟨fuel, hf⟩ := h
  rcases open_ints ht he hc hf with ⟨hcs, _⟩ | ⟨x, l, c', zs, hcs, _, hl, hm, hz, _, hcell, hwz⟩
  · simp [Value.cells] at hcs
    obtain ⟨rfl, rfl, rfl⟩ := hcs
    exact ⟨none, 0, 0, [], rfl, rfl, Nat.le_refl _, by unfold maxLen; omega, Rd.nil _ _⟩
  · simp [Value.cells] at hcs
    obtain ⟨rfl, rfl, rfl⟩ := hcs
    obtain ⟨bs, rfl⟩ := ints_bytes zs hwz
    rw [if_pos rfl] at hz
    refine ⟨_, n, c, bs.take n, rfl, ?_, hl, hm, Rd.ofCells fun i hi => ?_⟩
    · simp at hz ⊢; omega
    · simp at hi hz
      rw [hcell i (by simp; omega)]
      simp [List.getD_eq_getElem?_getD, B8, show i < bs.length by omega]
end Go.Proofs.Ytbmmdfjabkpoeaa

/- Arguments of whatever type, opened: a value's cells are those of its parts, one behind the other; a slice's elements likewise, however deep. -/
namespace Go.Proofs.Ytbmmdfjabkpoeaa
open Go.ChangeShapes Go.WideShapes Go.ChangeAt Go.RowKit
set_option linter.unusedVariables false
set_option linter.unusedSimpArgs false

/-- The parts of fields, one behind the other; none, if they do not lie so. -/
def flatFs (P : Program) (g : TypeId → Option (List TypeId)) : Nat → List Field → Option (List TypeId)
  | _, [] => some []
  | o, f :: fs => (g f.type).bind fun ts => if f.offset = o ∧ ts.length = P.cellsOf f.type then (flatFs P g (o + ts.length) fs).map (ts ++ ·) else none
def repFlat (ts : List TypeId) : Nat → List TypeId
  | 0 => []
  | n + 1 => ts ++ repFlat ts n
/-- The one-cell parts of a type. -/
def flat (P : Program) : Nat → TypeId → Option (List TypeId)
  | 0, _ => none
  | d + 1, t => match P.underlying t with
    | some (.int _) => some [t]
    | some .bool => some [t]
    | some (.slice _) => some [t]
    | some (.struct fs) => (flatFs P (flat P d) 0 fs.toList).bind fun ts => if ts.length = P.cellsOf t then some ts else none
    | some (.array n e) => (flat P d e).bind fun ts => if ts.length = P.cellsOf e ∧ n * ts.length = P.cellsOf t then some (repFlat ts n) else none
    | _ => none
section
variable {H : Type} {enc : TypeId × Value → H} {P : Program} {w : World} {base : Nat} {spare : Nat → Bool} {held : Bool}
/-- What a cell of such a part holds. -/
def PartOk (enc : TypeId × Value → H) (P : Program) (w : World) (base : Nat) (spare : Nat → Bool) (held : Bool) (u : TypeId) (v : Value) : Prop := ∃ m y, DataW.trod enc P w base spare held m u [v] = some y
theorem flatFs_spec {g : TypeId → Option (List TypeId)}
    (hg : ∀ (t : TypeId) (ts : List TypeId), g t = some ts → ∀ (fuel : Nat) (cs : List Value) (x : DataW H × List MemPlace), DataW.trod enc P w base spare held fuel t cs = some x → cs.length = ts.length ∧ ∀ (i : Nat) (u : TypeId), ts[i]? = some u → ∃ v, cs[i]? = some v ∧ PartOk enc P w base spare held u v) (cs : List Value) :
    ∀ (fs : List Field) (o : Nat) (ts : List TypeId), flatFs P g o fs = some ts → (∀ f ∈ fs, ∃ n y, DataW.trod enc P w base spare held n f.type ((cs.drop f.offset).take (P.cellsOf f.type)) = some y) →
      ∀ (i : Nat) (u : TypeId), ts[i]? = some u → ∃ v, cs[o + i]? = some v ∧ PartOk enc P w base spare held u v := by
  intro fs
  induction fs with
  | nil =>
    intro o ts h _ i u hu
    simp [flatFs] at h
    subst h
    simp at hu
  | cons f fs ih =>
    intro o ts h hall i u hu
    simp only [flatFs, Option.bind_eq_some_iff] at h
    obtain ⟨t1, h1, h2⟩ := h
    split at h2
    · rename_i hc
      obtain ⟨t2, h3, rfl⟩ := Option.map_eq_some_iff.1 h2
      obtain ⟨n, y, hy⟩ := hall f (List.mem_cons_self ..)
      obtain ⟨hl, hp⟩ := hg _ _ h1 _ _ _ hy
      by_cases hi : i < t1.length
      · rw [List.getElem?_append_left hi] at hu
        obtain ⟨v, hv, hk⟩ := hp i u hu
        refine ⟨v, ?_, hk⟩
        rw [hc.1, List.getElem?_take] at hv
        split at hv
        · rw [List.getElem?_drop] at hv; exact hv
        · cases hv
      · rw [List.getElem?_append_right (by omega)] at hu
        obtain ⟨v, hv, hk⟩ := ih _ _ h3 (fun f hf => hall f (List.mem_cons_of_mem _ hf)) _ _ hu
        exact ⟨v, by rw [← hv]; congr 1; omega, hk⟩
    · cases h2
theorem repFlat_len (ts : List TypeId) : ∀ n, (repFlat ts n).length = n * ts.length
  | 0 => by simp [repFlat]
  | n + 1 => by simp [repFlat, repFlat_len ts n, Nat.add_mul]; omega
theorem repFlat_spec {cs : List Value} {ts : List TypeId} {L : Nat} (hL : ts.length = L) (e : TypeId) :
    ∀ (n k : Nat), (∀ (i : Nat), i < n → ∀ (j : Nat) (u : TypeId), ts[j]? = some u → ∃ v, ((cs.drop ((k + i) * L)).take L)[j]? = some v ∧ PartOk enc P w base spare held u v) →
      ∀ (i : Nat) (u : TypeId), (repFlat ts n)[i]? = some u → ∃ v, cs[k * L + i]? = some v ∧ PartOk enc P w base spare held u v := by
  intro n
  induction n with
  | zero => intro k _ i u hu; simp [repFlat] at hu
  | succ n ih =>
    intro k hall i u hu
    simp only [repFlat] at hu
    by_cases hi : i < ts.length
    · rw [List.getElem?_append_left hi] at hu
      obtain ⟨v, hv, hk⟩ := hall 0 (by omega) i u hu
      refine ⟨v, ?_, hk⟩
      rw [List.getElem?_take] at hv
      split at hv
      · rw [List.getElem?_drop] at hv; simpa using hv
      · cases hv
    · rw [List.getElem?_append_right (by omega)] at hu
      obtain ⟨v, hv, hk⟩ := ih (k + 1) (fun i hi j u hu => by have := hall (i + 1) (by omega) j u hu; rwa [show k + (i + 1) = k + 1 + i by omega] at this) _ _ hu
      exact ⟨v, by rw [← hv]; congr 1; rw [Nat.add_mul]; omega, hk⟩
theorem flat_spec : ∀ (d : Nat) (t : TypeId) (ts : List TypeId), flat P d t = some ts → ∀ (fuel : Nat) (cs : List Value) (x : DataW H × List MemPlace), DataW.trod enc P w base spare held fuel t cs = some x →
    cs.length = ts.length ∧ ∀ (i : Nat) (u : TypeId), ts[i]? = some u → ∃ v, cs[i]? = some v ∧ PartOk enc P w base spare held u v := by
  intro d
  induction d with
  | zero => intro t ts h; simp [flat] at h
  | succ d ih =>
    intro t ts h fuel cs x hx
    have one : ∀ v, cs = [v] → ts = [t] → cs.length = ts.length ∧ ∀ (i : Nat) (u : TypeId), ts[i]? = some u → ∃ v, cs[i]? = some v ∧ PartOk enc P w base spare held u v := by
      rintro v rfl rfl
      refine ⟨rfl, fun i u hu => ?_⟩
      rcases i with _ | i
      · simp at hu; subst hu; exact ⟨v, rfl, _, _, hx⟩
      · simp at hu
    unfold flat at h
    split at h
    · rename_i k hk
      obtain ⟨n, rfl, _⟩ := DataW.trod_int hk hx
      exact one _ rfl (by simpa using h.symm)
    · rename_i hk
      obtain ⟨n, rfl, _⟩ := DataW.trod_bool hk hx
      exact one _ rfl (by simpa using h.symm)
    · rename_i e hk
      rcases DataW.trod_slice hk hx with ⟨rfl, _⟩ | ⟨a, len, cap, elems, rest, n, _, rfl, _⟩
      · exact one _ rfl (by simpa using h.symm)
      · exact one _ rfl (by simpa using h.symm)
    · rename_i fs hk
      simp only [Option.bind_eq_some_iff] at h
      obtain ⟨t1, h1, h2⟩ := h
      split at h2
      · rename_i hl
        cases h2
        obtain ⟨xs, m, _, _, hlen, hxs, hf⟩ := DataW.trod_struct hk hx
        refine ⟨by rw [hlen, hl], fun i u hu => ?_⟩
        have := flatFs_spec (fun t ts h => ih t ts h) cs fs.toList 0 ts h1 (fun f hf' => by
          obtain ⟨j, hj, rfl⟩ := List.getElem_of_mem hf'
          have hj' : j < fs.size := by simpa using hj
          have h3 := hf j fs[j] (by simp [hj'])
          have hj2 : j < xs.length := by omega
          exact ⟨m, xs[j], by simpa [hj2] using h3⟩) i u hu
        simpa using this
      · cases h2
    · rename_i n e hk
      simp only [Option.bind_eq_some_iff] at h
      obtain ⟨t1, h1, h2⟩ := h
      split at h2
      · rename_i hl
        cases h2
        obtain ⟨xs, m, _, _, hlen, hxs, hf⟩ := DataW.trod_array hk hx
        refine ⟨by rw [hlen, repFlat_len, hl.2], fun i u hu => ?_⟩
        have := repFlat_spec (cs := cs) hl.1 e n 0 (fun i hi j u hu => by
          have h3 := hf i hi
          have hi2 : i < xs.length := by omega
          have h4 : DataW.trod enc P w base spare held m e ((cs.drop (i * P.cellsOf e)).take (P.cellsOf e)) = some xs[i] := by rw [h3]; simp [hi2]
          rw [Nat.zero_add]
          exact (ih e t1 h1 _ _ _ h4).2 j u hu) i u hu
        simpa using this
      · cases h2
    · cases h

theorem add_add (a : Addr) (m k : Nat) : (a.add m).add k = a.add (m + k) := by
  unfold Addr.add
  by_cases hm : m = 0
  · subst hm; simp
  · by_cases hk : k = 0
    · subst hk; simp
    · simp [hm, hk]; omega
/-- What a one-cell part holds, d slices deep. -/
def LeafOk (P : Program) (w : World) : Nat → TypeId → Value → Prop
  | 0, _, _ => True
  | d + 1, u, v => match P.underlying u with
    | some (.int k) => ∃ n, v = .int k n ∧ (Lit.int k n).wf = true
    | some .bool => ∃ b, v = .bool b
    | some (.slice e) => ∃ a n c xs, v = .slice a n c ∧ n ≤ c ∧ c ≤ maxLen ∧ xs.length = n * P.cellsOf e ∧ Rd w a xs ∧ (a = none → n = 0 ∧ c = 0) ∧
        ∀ ts : List TypeId, flat P 9 e = some ts → ∀ (i j : Nat) (u' : TypeId), i < n → ts[j]? = some u' → ∃ v', xs[i * P.cellsOf e + j]? = some v' ∧ LeafOk P w d u' v'
    | _ => True
theorem cells_get {a : Addr} {n : Nat} {cs : List Value} (h : w.cells? 0 a n = some cs) : cs.length = n ∧ ∀ i, i < n → w.cell? (a.add i) = cs[i]? := by
  unfold World.cells? at h
  rw [if_pos (Nat.zero_le _)] at h
  refine ⟨by simpa using mapM_some_length h, fun i hi => ?_⟩
  have := mapM_some_get h i i (by simp [hi])
  exact this
theorem leaf_ok : ∀ (d : Nat) (u : TypeId) (v : Value), PartOk enc P w 0 (fun _ => true) held u v → LeafOk P w d u v := by
  intro d
  induction d with
  | zero => intros; trivial
  | succ d ih =>
    intro u v h
    obtain ⟨m, y, hy⟩ := h
    unfold LeafOk
    split
    · rename_i k hk
      obtain ⟨n, hv, _, hw⟩ := DataW.trod_int hk hy
      simp at hv
      exact ⟨n, hv, hw⟩
    · rename_i hk
      obtain ⟨b, hv, _⟩ := DataW.trod_bool hk hy
      simp at hv
      exact ⟨b, hv⟩
    · rename_i e hk
      rcases DataW.trod_slice hk hy with ⟨hv, _⟩ | ⟨a, len, cap, elems, rest, n, _, hv, _, _, hl, hm, hlen, hel, _, _⟩
      · simp at hv
        exact ⟨none, 0, 0, [], hv, Nat.le_refl _, by unfold maxLen; omega, by simp, Rd.nil _ _, fun _ => ⟨rfl, rfl⟩, fun ts hts i j u' hi => by omega⟩
      · simp at hv
        have each : ∀ i, i < len → ∃ cs y, w.cells? 0 (a.add (i * P.cellsOf e)) (P.cellsOf e) = some cs ∧ DataW.trod enc P w 0 (fun _ => true) held n e cs = some y := by
          intro i hi
          have h1 := hel i hi
          have hi2 : i < elems.length := by omega
          rw [List.getElem?_eq_getElem hi2] at h1
          obtain ⟨cs, h2, h3⟩ := Option.bind_eq_some_iff.1 h1
          exact ⟨cs, _, h2, h3⟩
        have cell : ∀ k, k < len * P.cellsOf e → ∃ x, w.cell? (a.add k) = some x := by
          intro k hk'
          have hpos : 0 < P.cellsOf e := Nat.pos_of_ne_zero fun h => by rw [h] at hk'; simp at hk'
          have hi : k / P.cellsOf e < len := by rw [Nat.div_lt_iff_lt_mul hpos]; exact hk'
          obtain ⟨cs, _, h1, _⟩ := each _ hi
          obtain ⟨hl, hg⟩ := cells_get h1
          have hm := Nat.mod_lt k hpos
          have := hg _ hm
          rw [add_add, Nat.mul_comm, Nat.div_add_mod] at this
          exact ⟨cs[k % P.cellsOf e], by rw [this]; simp [hl, hm]⟩
        have hxl : ((List.range (len * P.cellsOf e)).map fun j => (w.cell? (a.add j)).getD undef).length = len * P.cellsOf e := by simp
        have hget : ∀ k, k < len * P.cellsOf e → ((List.range (len * P.cellsOf e)).map fun j => (w.cell? (a.add j)).getD undef)[k]? = w.cell? (a.add k) := by
          intro k hk'
          obtain ⟨x, hx⟩ := cell k hk'
          simp [hk', hx]
        refine ⟨some a, len, cap, _, hv, hl, hm, hxl, Rd.ofCells fun k hk' => ?_, (fun h => by cases h), fun ts hts i j u' hi hj => ?_⟩
        · rw [hxl] at hk'
          rw [← hget k hk']
          exact List.getElem?_eq_getElem _
        · obtain ⟨cs, y', h1, h2⟩ := each i hi
          obtain ⟨hl, hg⟩ := cells_get h1
          obtain ⟨hlen2, hp⟩ := flat_spec 9 e ts hts _ _ _ h2
          obtain ⟨v', hv', hk'⟩ := hp j u' hj
          have hjl : j < P.cellsOf e := by have := (List.getElem?_eq_some_iff.1 hj).1; omega
          have hb : i * P.cellsOf e + j < len * P.cellsOf e := by
            have := Nat.mul_le_mul_right (P.cellsOf e) (show i + 1 ≤ len by omega)
            rw [Nat.add_mul] at this
            omega
          refine ⟨v', ?_, ih _ _ hk'⟩
          rw [hget _ hb, ← add_add, hg j hjl]
          exact hv'
    · trivial
/-- A value of a type whose parts lie one behind the other: its cells. -/
theorem open_flat {r : Reach} {b0 : Nat} {t : TypeId} {v : Value} {d : DataW H} {p : List MemPlace} {ts : List TypeId} (hs : (∃ fs, P.underlying t = some (.struct fs)) ∨ ∃ n e, P.underlying t = some (.array n e)) (hf : flat P 9 t = some ts)
    (hv : Value.okWide P w r b0 t v) (h : DataW.Trod enc P w 0 (fun _ => true) held t v d p) : ∃ cs : Array Value, v = .agg cs ∧ cs.size = ts.length ∧ ∀ (i : Nat) (u : TypeId), ts[i]? = some u → ∃ x, cs[i]? = some x ∧ ∀ d, LeafOk P w d u x := by
  have hcs : ∃ cs, v = .agg cs ∧ cs.size = P.cellsOf t := by
    unfold Value.okWide at hv
    rcases hs with ⟨fs, hs⟩ | ⟨n, e, hs⟩ <;> rw [hs] at hv <;> obtain ⟨cs, h1, h2, _⟩ := hv <;> exact ⟨cs, h1, h2⟩
  obtain ⟨cs, rfl, _⟩ := hcs
  obtain ⟨fuel, h1⟩ := h
  obtain ⟨hl, hp⟩ := flat_spec 9 t ts hf _ _ _ h1
  simp only [Value.cells] at hl hp
  refine ⟨cs, rfl, by simpa using hl, fun i u hu => ?_⟩
  obtain ⟨x, hx, hk⟩ := hp i u hu
  exact ⟨x, by simpa using hx, fun d => leaf_ok d u x hk⟩
/-- A slice's value, d slices deep. -/
theorem open_sl {r : Reach} {b0 : Nat} {t e : TypeId} {v : Value} {dd : DataW H} {p : List MemPlace} (hs : P.underlying t = some (.slice e)) (hv : Value.okWide P w r b0 t v) (h : DataW.Trod enc P w 0 (fun _ => true) held t v dd p) (d : Nat) : LeafOk P w d t v := by
  obtain ⟨a, n, c, rfl⟩ := okWide_slice hs hv
  obtain ⟨fuel, h1⟩ := h
  exact leaf_ok d t _ ⟨fuel, _, h1⟩
theorem leaf_int {u : TypeId} {k : IntKind} {v : Value} (hu : P.underlying u = some (.int k)) (h : ∀ d, LeafOk P w d u v) : ∃ n, v = .int k n ∧ (Lit.int k n).wf = true := by
  have h := h 1
  unfold LeafOk at h
  rw [hu] at h
  exact h
theorem leaf_bool {u : TypeId} {v : Value} (hu : P.underlying u = some .bool) (h : ∀ d, LeafOk P w d u v) : ∃ b, v = .bool b := by
  have h := h 1
  unfold LeafOk at h
  rw [hu] at h
  exact h
theorem leaf_slice {u e : TypeId} {v : Value} (hu : P.underlying u = some (.slice e)) {ts : List TypeId} (hf : flat P 9 e = some ts) (h : ∀ d, LeafOk P w d u v) :
    ∃ a n c xs, v = .slice a n c ∧ n ≤ c ∧ c ≤ maxLen ∧ xs.length = n * P.cellsOf e ∧ Rd w a xs ∧ (a = none → n = 0 ∧ c = 0) ∧ ∀ (i j : Nat) (u' : TypeId), i < n → ts[j]? = some u' → ∃ v', xs[i * P.cellsOf e + j]? = some v' ∧ ∀ d, LeafOk P w d u' v' := by
  have h1 := h 1
  unfold LeafOk at h1
  rw [hu] at h1
  obtain ⟨a, n, c, xs, rfl, hn, hc, hl, hr, h0, hp⟩ := h1
  refine ⟨a, n, c, xs, rfl, hn, hc, hl, hr, h0, fun i j u' hi hj => ?_⟩
  obtain ⟨v', hv', _⟩ := hp ts hf i j u' hi hj
  refine ⟨v', hv', fun d => ?_⟩
  have h2 := h (d + 1)
  unfold LeafOk at h2
  rw [hu] at h2
  obtain ⟨a2, n2, c2, xs2, he, _, _, hl2, hr2, _, hp2⟩ := h2
  simp only [Value.slice.injEq] at he
  obtain ⟨rfl, rfl, rfl⟩ := he
  obtain ⟨v2, hv2, hk⟩ := hp2 ts hf i j u' hi hj
  have e1 : xs2 = xs := by
    apply List.ext_getElem (by rw [hl2, hl])
    intro m h3 h4
    obtain ⟨b, o, e5, h5⟩ := hr m h4
    obtain ⟨b', o', e6, h6⟩ := hr2 m h3
    rw [e5] at e6
    simp only [Option.some.injEq, Addr.mk.injEq] at e6
    obtain ⟨rfl, rfl, _⟩ := e6
    rw [h5] at h6
    exact (Option.some.inj h6).symm
  subst e1
  rw [hv'] at hv2
  cases hv2
  exact hk
end
end Go.Proofs.Ytbmmdfjabkpoeaa

/- Leaves of arguments: parties, numbers. -/
namespace Go.Proofs.Ytbmmdfjabkpoeaa
open Go.ChangeShapes Go.WideShapes Go.ChangeAt Go.RowKit
theorem leaf_party {w : World} {v : Value} (h : ∀ d, LeafOk Try.prog w d 37 v) : ∃ n : Nat, v = .int .u8 n ∧ n ≤ 255 := by
  obtain ⟨n, rfl, hw⟩ := leaf_int Try.underlying37 h
  have := bounds_u8 hw
  exact ⟨n.toNat, by rw [Int.toNat_of_nonneg this.1], by omega⟩
theorem leaf_i64 {w : World} {v : Value} (h : ∀ d, LeafOk Try.prog w d 2 v) : ∃ n : Int, v = .int .i64 n ∧ -9223372036854775808 ≤ n ∧ n ≤ 9223372036854775807 := by
  obtain ⟨n, rfl, hw⟩ := leaf_int Try.underlying2 h
  exact ⟨n, rfl, (bounds_i64 hw).1, (bounds_i64 hw).2⟩
end Go.Proofs.Ytbmmdfjabkpoeaa

/- Flows as arguments: one, and lists of them. -/
namespace Go.Proofs.Ytbmmdfjabkpoeaa
open Go.ChangeShapes Go.WideShapes Go.ChangeAt Go.RowKit
set_option linter.unusedVariables false
set_option maxRecDepth 100000
theorem flat_flow : flat Try.prog 9 39 = some [37, 37, 2] := by kernel_rfl
def FlowArg (w : World) (v : Value) : Prop := ∃ x : Flw, v = .agg (flow x.f x.t x.n) ∧ FlwOk x
theorem open_flow {H : Type} {enc : TypeId × Value → H} {W : World} {held : Bool} {v : Value} {d : DataW H} {p : List MemPlace} {r : Reach} {b0 : Nat}
    (hval : Value.okWide Try.prog W r b0 39 v) (h : DataW.Trod enc Try.prog W 0 (fun _ => true) held 39 v d p) : FlowArg W v := by
  obtain ⟨cs, rfl, hn, hp⟩ := open_flat (.inl ⟨_, Try.underlying39⟩) flat_flow hval h
  obtain ⟨x0, h0, k0⟩ := hp 0 _ rfl
  obtain ⟨x1, h1, k1⟩ := hp 1 _ rfl
  obtain ⟨x2, h2, k2⟩ := hp 2 _ rfl
  obtain ⟨a, rfl, ha⟩ := leaf_party k0
  obtain ⟨b, rfl, hb⟩ := leaf_party k1
  obtain ⟨n, rfl, hn0, hn1⟩ := leaf_i64 k2
  obtain ⟨l⟩ := cs
  refine ⟨⟨a, b, n⟩, ?_, ha, hb, hn0, hn1⟩
  match l, hn with
  | [c0, c1, c2], _ => simp at h0 h1 h2; subst_vars; rfl
/-- A list of flows that came in. -/
structure FlowsArg (w : World) (a : Option Addr) (n c : Nat) (F : List Flw) : Prop where
  len : F.length = n
  cap : n ≤ c
  max : c ≤ maxLen
  rd : Rd w a (flwL F)
  ok : ∀ x ∈ F, FlwOk x
theorem flow_cellsOf : Try.prog.cellsOf 39 = 3 := by kernel_rfl
theorem flows_of {w : World} : ∀ (n : Nat) (xs : List Value), xs.length = n * 3 → (∀ (i j : Nat) (u : TypeId), i < n → ([37, 37, 2] : List TypeId)[j]? = some u → ∃ v, xs[i * 3 + j]? = some v ∧ ∀ d, LeafOk Try.prog w d u v) → ∃ F : List Flw, F.length = n ∧ xs = flwL F ∧ ∀ x ∈ F, FlwOk x
  | 0, xs, hl, _ => ⟨[], rfl, by simpa [flwL] using hl, by simp⟩
  | n + 1, xs, hl, h => by
    rcases xs with _ | ⟨c0, _ | ⟨c1, _ | ⟨c2, ys⟩⟩⟩
    · simp at hl
    · simp at hl; omega
    · simp at hl; omega
    · obtain ⟨x0, h0, k0⟩ := h 0 0 _ (by omega) rfl
      obtain ⟨x1, h1, k1⟩ := h 0 1 _ (by omega) rfl
      obtain ⟨x2, h2, k2⟩ := h 0 2 _ (by omega) rfl
      simp at h0 h1 h2
      subst h0 h1 h2
      obtain ⟨a, rfl, ha⟩ := leaf_party k0
      obtain ⟨b, rfl, hb⟩ := leaf_party k1
      obtain ⟨m, rfl, hn0, hn1⟩ := leaf_i64 k2
      obtain ⟨F, hF, rfl, hok⟩ := flows_of n ys (by simp at hl; omega) (fun i j u hi hj => by
        obtain ⟨v, hv, hk⟩ := h (i + 1) j u (by omega) hj
        refine ⟨v, ?_, hk⟩
        rw [show (i + 1) * 3 + j = (i * 3 + j) + 3 by omega] at hv
        simpa using hv)
      exact ⟨⟨a, b, m⟩ :: F, by simp [hF], by simp [flwL, flwV], fun x hx => by
        rcases List.mem_cons.1 hx with rfl | hx
        · exact ⟨ha, hb, hn0, hn1⟩
        · exact hok x hx⟩
theorem open_flows {H : Type} {enc : TypeId × Value → H} {W : World} {held : Bool} {v : Value} {d : DataW H} {p : List MemPlace} {r : Reach} {b0 : Nat}
    (hval : Value.okWide Try.prog W r b0 22 v) (h : DataW.Trod enc Try.prog W 0 (fun _ => true) held 22 v d p) : ∃ a n c F, v = .slice a n c ∧ FlowsArg W a n c F := by
  have hk := fun d => open_sl Try.underlying22 hval h d
  obtain ⟨a, n, c, xs, rfl, hn, hc, hl, hr, _, hp⟩ := leaf_slice Try.underlying22 flat_flow hk
  rw [flow_cellsOf] at hl hp
  obtain ⟨F, hF, rfl, hok⟩ := flows_of (w := W) n xs hl hp
  exact ⟨a, n, c, F, rfl, hF, hn, hc, hr, hok⟩
def FlowsV (w : World) (v : Value) : Prop := ∃ a n c F, v = .slice a n c ∧ FlowsArg w a n c F
theorem open_flowsV {H : Type} {enc : TypeId × Value → H} {W : World} {held : Bool} {v : Value} {d : DataW H} {p : List MemPlace} {r : Reach} {b0 : Nat}
    (hval : Value.okWide Try.prog W r b0 22 v) (h : DataW.Trod enc Try.prog W 0 (fun _ => true) held 22 v d p) : FlowsV W v := open_flows hval h
end Go.Proofs.Ytbmmdfjabkpoeaa
