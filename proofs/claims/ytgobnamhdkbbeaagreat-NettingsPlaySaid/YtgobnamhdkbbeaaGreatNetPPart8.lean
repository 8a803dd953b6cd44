/- Part 8 of what ProofNettingsPlay stands on: Led11, Made, Duo3, Bfs, MayP, Flw. -/
import Derived.Test.YtgobnamhdkbbeaaGreatNetPPart7
import Derived.Laws.Externs
/- ledgers.Ledger: Copy; what nobody made. -/
namespace Go.Proofs.YtgobnamhdkbbeaaGreat
open Go.RowKit
set_option linter.unusedSimpArgs false
set_option linter.unusedVariables false
theorem run_eql_mapL (p : Option Nat) (w : World) : (binOp .eql 54 (.map p) (.map none)).run Tryz.prog w = .ok (.bool p.isNone) w := run_eql_map_nil_sl w _ _ _ p Tryz.underlying54
section
variable {ops : Array Oper} {rest : List Oper} {a : Act} {w W : World} {l r s : List Thing} {Q : Exit → Act → World → Prop} {p q : Nat} {S : Lgr} {P : List Int} {m : Option Nat}
set_option maxRecDepth 100000
set_option maxHeartbeats 2000000
theorem lclone_C (b : Nat) (es : Array MapEntry) (clock : Nat) (w : World) (hb : w.heap[b]? = some (.map es clock)) :
    Calls Tryz.prog 59 #[.map (some b)] w fun e w' => e = .returned (.map (some w.heap.size)) ∧ w' = w.alloc (.map es clock) := by
  have hq := run_eql_mapL (some b)
  go_enter Tryz.func59, Tryz.ntmps59
  go_wp2_with (go_skip)
  rw [run_callFunc_extern Tryz.func82 (by kernel_rfl) (by kernel_rfl) (by kernel_rfl) (e := Extern.MapsClone.clone) (by kernel_rfl), run_maps_clone_sl w 54 hb]
  simp only [Result.andThen]
  rw [Oper.upon_value]
  go_wp2_with (go_skip)
  rw [run_typeAssert_map_sl _ 54 _ _ _ _ Tryz.underlying54]
  simp only [Result.andThen]
  rw [Oper.upon_value]
  go_wp2_with (go_skip)
  go_ret
  exact ⟨rfl, rfl⟩
theorem lclone_H {L : List Lin} (H : Heap W l w) (hm : LdM q L ∈ l) : Calls Tryz.prog 59 #[.map (some q)] w fun e w' => ∃ q', e = .returned (.map (some q')) ∧ Heap W (LdM q' L :: l) w' := by
  obtain ⟨es, clock, hb, hh⟩ := H.ok _ hm
  refine (lclone_C q es clock w hb).mono fun e w' ⟨he, hw⟩ => ?_
  subst hw
  exact ⟨_, he, H.add ⟨rfl, rfl, rfl, by simp, fun k hk _ => Below.heap_alloc _ _ _ hk⟩ ⟨es, clock, heap_alloc_new w _, hh⟩ (fun k hk => by cases hk; exact ⟨Nat.le_refl _, by simp⟩)⟩
theorem run_buildLed (P : List Int) (m : Option Nat) (w : World) : (Instr.build 57 #[(0, .agg (parA P)), (1, .map m)]).run Tryz.prog w = .ok (.agg (ledA P m)) w := by kernel_rfl
theorem wpQ_buildLed {K : Act → Prop} {H : Heap W l w} {dst : Option Tmp} {ty : TypeId} {pos : String} {after : Array Edge} {guard : Option (Nat × Bool)} {x y : Operand} (hw : Region.wanted ⟨dst, .build 57 #[(0, x), (1, y)], ty, pos, after, guard⟩ (yielded ops a.tmps) = true) (hx : a.eval x = .agg (parA P)) (hy : a.eval y = .map m)
    (h : wpQuiet Tryz.prog ops (fun w' => ∃ d, w' = H.any d) K rest (a.put dst (.agg (ledA P m)))) : wpQuiet Tryz.prog ops (fun w' => ∃ d, w' = H.any d) K (⟨dst, .build 57 #[(0, x), (1, y)], ty, pos, after, guard⟩ :: rest) a := by
  refine BigFrame.wpQuiet_want hw fun K hK => ⟨_, ?_, hK _ h⟩
  rintro _ ⟨d, rfl⟩
  unfold Oper.quietAt execOp
  simp only [List.map_toArray, List.map_cons, List.map_nil, hx, hy, Sem.run_bind, run_buildLed]
  exact ⟨rfl, rfl⟩
theorem lcopy_H (H : Heap W l w) (h1 : LdC p P (some q) ∈ l) (h2 : LdM q S.L ∈ l) : Calls Tryz.prog 35 #[.pointer (some ⟨p, 0, none⟩)] w fun e w' => ∃ p' q', e = .returned (.pointer (some ⟨p', 0, none⟩)) ∧ Heap W (LdC p' P (some q') :: LdM q' S.L :: l) w' := by
  go_enter Tryz.func35, Tryz.ntmps35
  go_wp2_with (first
    | go_skip
    | ((with_reducible apply lthere_call H); (· exact h1); (clear H; intro _ H)))
  refine wp_region_K0 [8, 10] [0, 1, 2, 3, 4, 5, 6, 7, 8, 9, 10, 11] H (by kernel_rfl) (by kernel_rfl) ?_
  iterate 8 (apply wpK_step; (· rfl); (· rfl); (· rfl); (· exact Nat.le_of_ble_eq_true rfl); (· intro l0 hs0 w0 H0; (first | go_big_quiet_skip | (first | ((with_reducible apply wpQ_loadRH row_par); (· rfl); (· rfl); (· exact hs0 _ h1); (· (simp only [ledA_sz, Nat.reduceAdd, Nat.reduceLeDiff]; done)); (· exact ledA_par _ _); (simp only [Act.put, List.setIfInBounds_toArray, List.set_cons_zero, List.set_cons_succ])) | ((with_reducible apply wpQ_loadCH); (· exact cell_map); (· rfl); (· rfl); (· exact hs0 _ h1); (· exact ledA_map _ _); (simp only [Act.put, List.setIfInBounds_toArray, List.set_cons_zero, List.set_cons_succ]))) | go_big_quiet_step (fail)); (refine wpQuiet_nil ?_); (simp only [Array.getD_eq_getD_getElem?, List.getElem?_toArray, List.getElem?_cons_succ, List.getElem?_cons_zero, Option.getD_some]; rfl)); (simp only [Act.put, List.setIfInBounds_toArray, List.set_cons_zero, List.set_cons_succ]))
  refine wpK_call (f := 59) (argl := [.map (some q)]) rfl rfl rfl Tryz.call59 rfl ?_
  intro w0 H0
  refine (lclone_H H0 h2).mono ?_
  clear H0
  rintro e w1 ⟨q', rfl, H1⟩
  refine ⟨_, _, rfl, H1, _, Keeps.refl _, fun t ht => List.mem_cons_of_mem _ ht, ?_⟩
  clear H1
  (simp only [Act.put, List.setIfInBounds_toArray, List.set_cons_zero, List.set_cons_succ])
  (apply wpK_step; (· rfl); (· rfl); (· rfl); (· exact Nat.le_of_ble_eq_true rfl); (· intro l0 hs0 w0 H0; (first | go_big_quiet_skip | ((with_reducible apply wpQ_buildLed); (· rfl); (· rfl); (· rfl); (simp only [Act.put, List.setIfInBounds_toArray, List.set_cons_zero, List.set_cons_succ])) | go_big_quiet_step (fail)); (refine wpQuiet_nil ?_); (simp only [Array.getD_eq_getD_getElem?, List.getElem?_toArray, List.getElem?_cons_succ, List.getElem?_cons_zero, Option.getD_some]; rfl)); (simp only [Act.put, List.setIfInBounds_toArray, List.set_cons_zero, List.set_cons_succ]))
  ((with_reducible apply wpK_boxR); (· rfl); (· rfl); (· rfl); (· rfl); (· exact fun t ht => List.mem_cons_of_mem _ ht); (intro p'); (simp only [Act.put, List.setIfInBounds_toArray, List.set_cons_zero, List.set_cons_succ]))
  (apply wpK_step; (· rfl); (· rfl); (· rfl); (· exact Nat.le_of_ble_eq_true rfl); (· intro l0 hs0 w0 H0; (first | go_big_quiet_skip | fail | go_big_quiet_step (fail)); (refine wpQuiet_nil ?_); (simp only [Array.getD_eq_getD_getElem?, List.getElem?_toArray, List.getElem?_cons_succ, List.getElem?_cons_zero, Option.getD_some]; rfl)); (simp only [Act.put, List.setIfInBounds_toArray, List.set_cons_zero, List.set_cons_succ]))
  (refine wpK_nil ?_; clear H; intro _ H)
  go_wp2_with (go_skip)
  go_ret
  exact ⟨p', q', rfl, H⟩
end
end Go.Proofs.YtgobnamhdkbbeaaGreat

/- countinghouselaw03.Made: a ledger of whatever acts. -/
namespace Go.Proofs.YtgobnamhdkbbeaaGreat
open Go.RowKit
set_option linter.unusedSimpArgs false
set_option linter.unusedVariables false
theorem cell_u8 : CellTy 5 := ⟨⟨_, Tryz.underlying5, rfl⟩, by kernel_rfl⟩
section
variable {W w : World} {l : List Thing}
set_option maxRecDepth 100000
set_option maxHeartbeats 8000000
end
end Go.Proofs.YtgobnamhdkbbeaaGreat

/- countinghouselaw03.Same, Does: a ledger beside the reference's. -/
/- countinghouselaw03.Same: of a ledger and the reference's. -/
namespace Go.Proofs.YtgobnamhdkbbeaaGreat
open Go.RowKit
set_option linter.unusedSimpArgs false
set_option linter.unusedVariables false
theorem Pull.mem {l r : List Thing} {x : Thing} (h : Pull l x r) : x ∈ l := h.perm.mem_iff.2 List.mem_cons_self
section
variable {W w : World} {l r s : List Thing} {p q rp : Nat} {S : Lgr}
set_option maxRecDepth 100000
set_option maxHeartbeats 8000000
theorem lparM (G : S.Good) (H : Heap W l w) (hm : LdC p S.P (some q) ∈ l) : Calls Tryz.prog 42 #[.pointer (some ⟨p, 0, none⟩)] w fun e w' => ∃ a cc, e = .returned (.slice a S.P.length S.P.length) ∧ Heap W (RowT 30 1 (.slice a S.P.length cc) S.P.length (pI S.P) :: l) w' := by
  refine (lparties_H (p := p) (q := q) G.par G.par1 H hm).mono ?_
  rintro e w' (⟨h0, rfl, H⟩ | ⟨_, g, cc, rfl, _, H⟩)
  · refine ⟨none, 0, by rw [h0], ?_⟩
    have := H.nilRow 30 1
    rw [h0, List.eq_nil_of_length_eq_zero h0]
    exact this
  · exact ⟨_, _, rfl, H⟩
theorem llinesM (G : S.Good) (h1 : Pull l (LdC p S.P (some q)) r) (h2 : Pull r (LdM q S.L) s) (H : Heap W l w) : Calls Tryz.prog 26 #[.pointer (some ⟨p, 0, none⟩)] w fun e w' => ∃ g c, e = .returned (.slice (some ⟨g, 0, none⟩) S.L.length c) ∧ S.L.length ≤ c ∧ c ≤ maxLen ∧ Heap W (RowT 65 5 (.slice (some ⟨g, 0, none⟩) S.L.length c) S.L.length (linL S.L) :: l) w' := by
  refine (llines_H G (H.top2 h1 h2)).mono ?_
  rintro e w' ⟨g, c, rfl, h3, h4, H⟩
  exact ⟨g, c, rfl, h3, h4, H.perm (.cons _ (h1.perm.trans (h2.perm.cons _)).symm)⟩
theorem sameLed_A (G : S.Good) (h1 : Pull l (LdC p S.P (some q)) r) (h2 : Pull r (LdM q S.L) s) (M : RefM l rp S) : AnsH W l 14 #[.pointer (some ⟨p, 0, none⟩), .pointer (some ⟨rp, 0, none⟩)] (.bool true) := by
  intro w H
  obtain ⟨a, n, c, b, m, d, e1, e2, m1, m2, m3⟩ := M
  have hn := G.few16
  have hm := G.few
  have HM := Lib.hid (And.intro m1 (And.intro m2 m3))
  have PA := Lib.hid (fun (w' : World) (h : Heap W l w') => lparM G h h1.mem)
  have LI := Lib.hid (fun (x : Thing) (w' : World) (h : Heap W (x :: l) w') => llinesM (W := W) G (.there h1) (.there h2) h)
  rw [e1] at PA
  rw [e2] at LI
  have SP := Lib.hid (fun (l' : List Thing) (a2 : Option Addr) (k2 : Nat) (x1 : RowT 30 1 (.slice a2 n k2) n (pI S.P) ∈ l') (x2 : RowT 30 1 (.slice a n c) n (pI S.P) ∈ l') => sameParties_Q (W := W) (l := l') a2 a n n n c e1 e1 (by omega) (by omega) (fun w' H' => H'.rowRd x1) (fun w' H' => H'.rowRd x2))
  have SL := Lib.hid (fun (l' : List Thing) (a2 : Option Addr) (k2 : Nat) (x1 : RowT 65 5 (.slice a2 m k2) m (linL S.L) ∈ l') (x2 : RowT 65 5 (.slice b m d) m (linL S.L) ∈ l') => sameLines_P (W := W) (l := l') a2 b m m k2 d e2 e2 (by omega) (by omega) (fun w' H' => H'.rowRd x1) (fun w' H' => H'.rowRd x2))
  rw [decide_eq_true rfl] at SP SL
  clear e1 e2 m1 m2 m3 h1 h2 G hn hm
  go_enter Tryz.func14, Tryz.ntmps14
  go_wp2_with (go_skip)
  refine wp_region_K0 [1, 9] [0, 2, 3, 4, 5, 1, 6, 7, 8, 10, 11, 12, 13, 9, 14, 15, 16] H (by kernel_rfl) (by kernel_rfl) ?_
  iterate 5 (apply wpK_step; (· rfl); (· rfl); (· rfl); (· exact Nat.le_of_ble_eq_true rfl); (· intro l0 hs0 w0 H0; (first | go_big_quiet_skip | ((with_reducible apply wpQ_loadCH); (· exact cell_pars); (· rfl); (· rfl); (· exact hs0 _ HM.out.1); (· exact refA_g0 ..); (simp only [Act.put, List.setIfInBounds_toArray, List.set_cons_zero, List.set_cons_succ])) | go_big_quiet_step (fail)); (refine wpQuiet_nil ?_); (simp only [Array.getD_eq_getD_getElem?, List.getElem?_toArray, List.getElem?_cons_succ, List.getElem?_cons_zero, Option.getD_some]; rfl)); (simp only [Act.put, List.setIfInBounds_toArray, List.set_cons_zero, List.set_cons_succ]))
  refine wpK_call (f := 42) (argl := [.pointer (some ⟨p, 0, none⟩)]) rfl rfl rfl Tryz.call42 rfl ?_
  intro w0 H0
  refine (PA.out _ H0).mono ?_
  clear H0
  rintro e w1 ⟨a3, k3, rfl, H1⟩
  refine ⟨_, _, rfl, H1, _, fun t ht => List.mem_cons_of_mem _ ht, Keeps.refl _, ?_⟩
  clear H1
  (simp only [Act.put, List.setIfInBounds_toArray, List.set_cons_zero, List.set_cons_succ])
  (apply wpK_step; (· rfl); (· rfl); (· rfl); (· exact Nat.le_of_ble_eq_true rfl); (· intro l0 hs0 w0 H0; (first | go_big_quiet_skip | fail | go_big_quiet_step (exact (SP.out _ a3 k3 (hs0 _ (by (repeat (first | (with_reducible exact List.mem_cons_self) | with_reducible apply List.mem_cons_of_mem)))) (hs0 _ (List.mem_cons_of_mem _ HM.out.2.1))).quiet)); (refine wpQuiet_nil ?_); (simp only [Array.getD_eq_getD_getElem?, List.getElem?_toArray, List.getElem?_cons_succ, List.getElem?_cons_zero, Option.getD_some]; rfl)); (simp only [Act.put, List.setIfInBounds_toArray, List.set_cons_zero, List.set_cons_succ]))
  iterate 6 (apply wpK_step; (· rfl); (· rfl); (· rfl); (· exact Nat.le_of_ble_eq_true rfl); (· intro l0 hs0 w0 H0; (first | go_big_quiet_skip | ((with_reducible apply wpQ_loadCH); (· exact cell_lins); (· rfl); (· rfl); (· exact hs0 _ (List.mem_cons_of_mem _ HM.out.1)); (· exact refA_g1 ..); (simp only [Act.put, List.setIfInBounds_toArray, List.set_cons_zero, List.set_cons_succ])) | go_big_quiet_step (fail)); (refine wpQuiet_nil ?_); (simp only [Array.getD_eq_getD_getElem?, List.getElem?_toArray, List.getElem?_cons_succ, List.getElem?_cons_zero, Option.getD_some]; rfl)); (simp only [Act.put, List.setIfInBounds_toArray, List.set_cons_zero, List.set_cons_succ]))
  refine wpK_call (f := 26) (argl := [.pointer (some ⟨p, 0, none⟩)]) rfl rfl rfl Tryz.call26 rfl ?_
  intro w0 H0
  refine (LI.out _ _ H0).mono ?_
  clear H0
  rintro e w2 ⟨g4, k4, rfl, _, _, H1⟩
  refine ⟨_, _, rfl, H1, _, fun t ht => List.mem_cons_of_mem _ ht, Keeps.refl _, ?_⟩
  clear H1
  (simp only [Act.put, List.setIfInBounds_toArray, List.set_cons_zero, List.set_cons_succ])
  (apply wpK_step; (· rfl); (· rfl); (· rfl); (· exact Nat.le_of_ble_eq_true rfl); (· intro l0 hs0 w0 H0; (first | go_big_quiet_skip | fail | go_big_quiet_step (exact (SL.out _ (some ⟨g4, 0, none⟩) k4 (hs0 _ (by (repeat (first | (with_reducible exact List.mem_cons_self) | with_reducible apply List.mem_cons_of_mem)))) (hs0 _ (List.mem_cons_of_mem _ (List.mem_cons_of_mem _ HM.out.2.2)))).quiet)); (refine wpQuiet_nil ?_); (simp only [Array.getD_eq_getD_getElem?, List.getElem?_toArray, List.getElem?_cons_succ, List.getElem?_cons_zero, Option.getD_some]; rfl)); (simp only [Act.put, List.setIfInBounds_toArray, List.set_cons_zero, List.set_cons_succ]))
  iterate 2 (apply wpK_step; (· rfl); (· rfl); (· rfl); (· exact Nat.le_of_ble_eq_true rfl); (· intro l0 hs0 w0 H0; (first | go_big_quiet_skip | fail | go_big_quiet_step (fail)); (refine wpQuiet_nil ?_); (simp only [Array.getD_eq_getD_getElem?, List.getElem?_toArray, List.getElem?_cons_succ, List.getElem?_cons_zero, Option.getD_some]; rfl)); (simp only [Act.put, List.setIfInBounds_toArray, List.set_cons_zero, List.set_cons_succ]))
  (refine wpK_nil ?_; clear H; intro _ H)
  go_wp2_with (go_skip)
  go_ret
  exact ⟨rfl, H.tail.tail⟩
end
end Go.Proofs.YtgobnamhdkbbeaaGreat

/- countinghouselaw03.Does: an act on a ledger and on the reference's: both answer alike. -/
namespace Go.Proofs.YtgobnamhdkbbeaaGreat
open Go.RowKit
set_option linter.unusedSimpArgs false
set_option linter.unusedVariables false
attribute [local go_sem high] run_min2
/-- A ledger and the reference's, with the same parties and lines. -/
def DuoH (W : World) (l : List Thing) (p q rp : Nat) (S : Lgr) (w : World) : Prop := ∃ a n c b m d, S.P.length = n ∧ S.L.length = m ∧ Heap W (LdC p S.P (some q) :: LdM q S.L :: RefC rp (.slice a n c) (.slice b m d) :: RowT 30 1 (.slice a n c) n (pI S.P) :: RowT 65 5 (.slice b m d) m (linL S.L) :: l) w
/-- What is pushed by an act. -/
def doesN (S : Lgr) (x : LAct) : Int := if 128 ≤ x.k then min x.n (roomOf S x.a x.b x.c) else x.n
def doesS (S : Lgr) (x : LAct) : Lgr :=
  if x.k % 8 = 0 then openS S x.a else if x.k % 8 = 1 ∨ x.k % 8 = 2 then trustS S x.a x.b x.c x.n else if x.k % 8 = 3 ∨ x.k % 8 = 4 ∨ x.k % 8 = 5 then pushS S x.a x.b x.c (doesN S x) else if x.k % 8 = 6 then forgS S x.a x.b x.c x.n else S
theorem doesS_good {S : Lgr} (G : S.Good) (x : LAct) : (doesS S x).Good := by
  unfold doesS
  split
  · exact G.open _
  · split
    · exact G.trust _ _ _ _
    · split
      · exact G.push _ _ _ _
      · split
        · exact G.forg _ _ _ _
        · exact G
section
variable {W w : World} {l : List Thing} {p q rp : Nat} {S : Lgr}
set_option maxRecDepth 100000
set_option maxHeartbeats 8000000
theorem does_H (x : LAct) (hok : ActOk x) (G : S.Good) (H : DuoH W l p q rp S w) :
    Calls Tryz.prog 7 #[.pointer (some ⟨p, 0, none⟩), .pointer (some ⟨rp, 0, none⟩), .agg (actA x)] w fun e w' => e = .returned (.bool true) ∧ DuoH W l p q rp (doesS S x) w' := by
  obtain ⟨a, n, c, b, m, d, hl1, hl2, H⟩ := H
  have HL := Lib.hid (And.intro hl1 hl2)
  have HG := Lib.hid G
  have hN : doesN S x = if 128 ≤ x.k then min x.n (roomOf S x.a x.b x.c) else x.n := rfl
  have hroom := G.room x.a x.b x.c
  have RM := Lib.hid (fun (z : Thing) => rroom_H (W := W) (S := S) (p := rp) (l := z :: LdC p S.P (some q) :: LdM q S.L :: RefC rp (.slice a n c) (.slice b m d) :: RowT 30 1 (.slice a n c) n (pI S.P) :: RowT 65 5 (.slice b m d) m (linL S.L) :: l) x.a x.b x.c G ⟨a, n, c, b, m, d, hl1, hl2, by (repeat (first | (with_reducible exact List.mem_cons_self) | with_reducible apply List.mem_cons_of_mem)), by (repeat (first | (with_reducible exact List.mem_cons_self) | with_reducible apply List.mem_cons_of_mem)), by (repeat (first | (with_reducible exact List.mem_cons_self) | with_reducible apply List.mem_cons_of_mem))⟩ hok.2.1 hok.2.2.1 hok.2.2.2.1)
  have hD : ∀ S', doesS S x = S' → DuoH W l p q rp S' = DuoH W l p q rp (doesS S x) := fun S' h => by rw [h]
  obtain ⟨xk, xa, xb, xc, xn⟩ := x
  obtain ⟨o0, o1, o2, o3, o4⟩ := hok
  simp only at o0 o1 o2 o3 o4 hN RM hroom hD
  have HO := Lib.hid o4
  have HNB := Lib.hid (show -9223372036854775808 ≤ doesN S ⟨xk, xa, xb, xc, xn⟩ ∧ doesN S ⟨xk, xa, xb, xc, xn⟩ ≤ 9223372036854775807 by rw [hN]; split <;> omega)
  generalize doesN S ⟨xk, xa, xb, xc, xn⟩ = N at *
  have hr : xk % 8 = 0 ∨ xk % 8 = 1 ∨ xk % 8 = 2 ∨ xk % 8 = 3 ∨ xk % 8 = 4 ∨ xk % 8 = 5 ∨ xk % 8 = 6 ∨ xk % 8 = 7 := by omega
  clear hl1 hl2 G
  rcases hr with hr | hr | hr | hr | hr | hr | hr | hr
  · have h8 : Int.tmod (xk : Int) 8 = 0 := by rw [Int.tmod_eq_emod_of_nonneg (by omega)]; omega
    have HD := Lib.hid (hD (openS S xa) (by simp [hr, doesS]))
    clear hD hN hroom RM HNB hr
    go_enter Tryz.func7, Tryz.ntmps7
    go_wp2_with (first | go_skip | ((with_reducible show wpList _ _ _ (_ :: _) _ _); (with_reducible apply wpl_boxRH); (· rfl); (· rfl); (· exact H); (clear H; intro px _ H); (simp only [Act.put, List.setIfInBounds_toArray, List.set_cons_zero, List.set_cons_succ])) | ((with_reducible show wpList _ _ _ (_ :: _) _ _); (with_reducible apply wpl_loadCH); (· first | exact cell_u8 | exact cell_party | exact cell_cur | exact cell_i64); (· rfl); (· rfl); (· exact H); (· (repeat (first | (with_reducible exact List.mem_cons_self) | with_reducible apply List.mem_cons_of_mem))); (· with_reducible first | exact act_g0 .. | exact act_g1 .. | exact act_g2 .. | exact act_g3 .. | exact act_g4 ..); (simp only [Act.put, List.setIfInBounds_toArray, List.set_cons_zero, List.set_cons_succ])))
    have LC := Lib.hid (fun (l' : List Thing) (w' : World) (h : Heap W (LdC p S.P (some q) :: LdM q S.L :: l') w') => lopen2_H (S := S) xa o1 (p := p) (q := q) (l := l') h)
    have RC := Lib.hid (fun (l' : List Thing) (w' : World) (h : RefH W l' rp S w') => ropen_H (S := S) xa o1 HG.out h)
    have hb : (openE S xa == openE S xa) = true := by simp
    generalize hE : openE S xa = E at *
    clear hE
    generalize hS2 : openS S xa = S2 at *
    clear hS2
    refine wp_region_K [3, 7] [0, 1, 2, 4, 5, 6, 3, 7, 8, 9] [Cel px (act (xk : Int) (xa : Int) (xb : Int) (xc : Int) xn) 33] H (fun t ht => by rw [List.mem_singleton.1 ht]; (repeat (first | (with_reducible exact List.mem_cons_self) | with_reducible apply List.mem_cons_of_mem))) (by kernel_rfl) (by kernel_rfl) ?_
    iterate 6 (apply wpK_step; (· rfl); (· rfl); (· rfl); (· exact Nat.le_of_ble_eq_true rfl); (· intro l0 hs0 w0 H0; (first | go_big_quiet_skip | ((with_reducible apply wpQ_loadCH); (· first | exact cell_u8 | exact cell_party | exact cell_cur | exact cell_i64); (· rfl); (· rfl); (· exact hs0 _ (List.mem_singleton.2 rfl)); (· with_reducible first | exact act_g0 .. | exact act_g1 .. | exact act_g2 .. | exact act_g3 .. | exact act_g4 ..); (simp only [Act.put, List.setIfInBounds_toArray, List.set_cons_zero, List.set_cons_succ])) | go_big_quiet_step (fail)); (refine wpQuiet_nil ?_); (simp only [Array.getD_eq_getD_getElem?, List.getElem?_toArray, List.getElem?_cons_succ, List.getElem?_cons_zero, Option.getD_some]; rfl)); (simp only [Act.put, List.setIfInBounds_toArray, List.set_cons_zero, List.set_cons_succ]))
    refine wpK_call (f := 16) (argl := [.pointer (some ⟨p, 0, none⟩), .int .u8 (xa : Int)]) rfl rfl rfl Tryz.call16 rfl ?_
    intro w0 H0
    refine (LC.out _ _ (H0.top2 (.there .here) (.there .here))).mono ?_
    clear H0
    rintro e w1 ⟨rfl, H1⟩
    refine ⟨_, _, rfl, H1, _, Keeps.refl _, fun t ht => by rw [List.mem_singleton.1 ht]; (repeat (first | (with_reducible exact List.mem_cons_self) | with_reducible apply List.mem_cons_of_mem)), ?_⟩
    clear H1
    (simp only [Act.put, List.setIfInBounds_toArray, List.set_cons_zero, List.set_cons_succ])
    refine wpK_call (f := 19) (argl := [.pointer (some ⟨rp, 0, none⟩), .int .u8 (xa : Int)]) rfl rfl rfl Tryz.call19 rfl ?_
    intro w0 H0
    refine (RC.out _ _ (RefH.shut HL.out.1 HL.out.2 (H0.top3 (.there (.there (.there .here))) (.there (.there (.there .here))) (.there (.there (.there .here)))))).mono ?_
    clear H0
    rintro e w2 ⟨rfl, HH⟩
    obtain ⟨a2, n2, c2, b2, m2, d2, hl3, hl4, _, H1⟩ := HH.open3
    have HL2 := Lib.hid (And.intro hl3 hl4)
    refine ⟨_, _, rfl, H1, _, Keeps.refl _, fun t ht => by rw [List.mem_singleton.1 ht]; (repeat (first | (with_reducible exact List.mem_cons_self) | with_reducible apply List.mem_cons_of_mem)), ?_⟩
    clear H1 HH hl3 hl4
    (simp only [Act.put, List.setIfInBounds_toArray, List.set_cons_zero, List.set_cons_succ])
    iterate 2 (apply wpK_step; (· rfl); (· rfl); (· rfl); (· exact Nat.le_of_ble_eq_true rfl); (· intro l0 hs0 w0 H0; (first | go_big_quiet_skip | fail | go_big_quiet_step (fail)); (refine wpQuiet_nil ?_); (simp only [Array.getD_eq_getD_getElem?, List.getElem?_toArray, List.getElem?_cons_succ, List.getElem?_cons_zero, Option.getD_some]; rfl)); (simp only [Act.put, List.setIfInBounds_toArray, List.set_cons_zero, List.set_cons_succ]))
    (refine wpK_nil ?_; clear H; intro _ H)
    go_wp2_with (go_skip)
    go_ret
    rw [← HD.out]
    exact ⟨rfl, a2, n2, c2, b2, m2, d2, HL2.out.1, HL2.out.2, (H.drop (.there (.there (.there (.there (.there .here)))))).top2 (.there (.there (.there .here))) (.there (.there (.there .here)))⟩
  · have h8 : Int.tmod (xk : Int) 8 = 1 := by rw [Int.tmod_eq_emod_of_nonneg (by omega)]; omega
    have HD := Lib.hid (hD (trustS S xa xb xc xn) (by simp [hr, doesS]))
    clear hD hN hroom RM HNB hr
    go_enter Tryz.func7, Tryz.ntmps7
    go_wp2_with (first | go_skip | ((with_reducible show wpList _ _ _ (_ :: _) _ _); (with_reducible apply wpl_boxRH); (· rfl); (· rfl); (· exact H); (clear H; intro px _ H); (simp only [Act.put, List.setIfInBounds_toArray, List.set_cons_zero, List.set_cons_succ])) | ((with_reducible show wpList _ _ _ (_ :: _) _ _); (with_reducible apply wpl_loadCH); (· first | exact cell_u8 | exact cell_party | exact cell_cur | exact cell_i64); (· rfl); (· rfl); (· exact H); (· (repeat (first | (with_reducible exact List.mem_cons_self) | with_reducible apply List.mem_cons_of_mem))); (· with_reducible first | exact act_g0 .. | exact act_g1 .. | exact act_g2 .. | exact act_g3 .. | exact act_g4 ..); (simp only [Act.put, List.setIfInBounds_toArray, List.set_cons_zero, List.set_cons_succ])))
    have LC := Lib.hid (fun (l' : List Thing) (w' : World) (h : Heap W (LdC p S.P (some q) :: LdM q S.L :: l') w') => ltrust2_H (S := S) xa xb xc xn o1 o2 o3 HG.out (p := p) (q := q) (l := l') h)
    have RC := Lib.hid (fun (l' : List Thing) (w' : World) (h : RefH W l' rp S w') => rtrust_H (S := S) xa xb xc xn o1 o2 o3 HO.out HG.out h)
    have hb : (trustE S xa xb xc xn == trustE S xa xb xc xn) = true := by simp
    generalize hE : trustE S xa xb xc xn = E at *
    clear hE
    generalize hS2 : trustS S xa xb xc xn = S2 at *
    clear hS2
    refine wp_region_K [9, 19] [0, 1, 2, 3, 4, 5, 6, 7, 8, 10, 11, 12, 13, 14, 15, 16, 17, 18, 9, 19, 20, 21] [Cel px (act (xk : Int) (xa : Int) (xb : Int) (xc : Int) xn) 33] H (fun t ht => by rw [List.mem_singleton.1 ht]; (repeat (first | (with_reducible exact List.mem_cons_self) | with_reducible apply List.mem_cons_of_mem))) (by kernel_rfl) (by kernel_rfl) ?_
    iterate 18 (apply wpK_step; (· rfl); (· rfl); (· rfl); (· exact Nat.le_of_ble_eq_true rfl); (· intro l0 hs0 w0 H0; (first | go_big_quiet_skip | ((with_reducible apply wpQ_loadCH); (· first | exact cell_u8 | exact cell_party | exact cell_cur | exact cell_i64); (· rfl); (· rfl); (· exact hs0 _ (List.mem_singleton.2 rfl)); (· with_reducible first | exact act_g0 .. | exact act_g1 .. | exact act_g2 .. | exact act_g3 .. | exact act_g4 ..); (simp only [Act.put, List.setIfInBounds_toArray, List.set_cons_zero, List.set_cons_succ])) | go_big_quiet_step (fail)); (refine wpQuiet_nil ?_); (simp only [Array.getD_eq_getD_getElem?, List.getElem?_toArray, List.getElem?_cons_succ, List.getElem?_cons_zero, Option.getD_some]; rfl)); (simp only [Act.put, List.setIfInBounds_toArray, List.set_cons_zero, List.set_cons_succ]))
    refine wpK_call (f := 17) (argl := [.pointer (some ⟨p, 0, none⟩), .int .u8 (xa : Int), .int .u8 (xb : Int), .int .u8 (xc : Int), .int .i64 xn]) rfl rfl rfl Tryz.call17 rfl ?_
    intro w0 H0
    refine (LC.out _ _ (H0.top2 (.there .here) (.there .here))).mono ?_
    clear H0
    rintro e w1 ⟨rfl, H1⟩
    refine ⟨_, _, rfl, H1, _, Keeps.refl _, fun t ht => by rw [List.mem_singleton.1 ht]; (repeat (first | (with_reducible exact List.mem_cons_self) | with_reducible apply List.mem_cons_of_mem)), ?_⟩
    clear H1
    (simp only [Act.put, List.setIfInBounds_toArray, List.set_cons_zero, List.set_cons_succ])
    refine wpK_call (f := 20) (argl := [.pointer (some ⟨rp, 0, none⟩), .int .u8 (xa : Int), .int .u8 (xb : Int), .int .u8 (xc : Int), .int .i64 xn]) rfl rfl rfl Tryz.call20 rfl ?_
    intro w0 H0
    refine (RC.out _ _ (RefH.shut HL.out.1 HL.out.2 (H0.top3 (.there (.there (.there .here))) (.there (.there (.there .here))) (.there (.there (.there .here)))))).mono ?_
    clear H0
    rintro e w2 ⟨rfl, HH⟩
    obtain ⟨a2, n2, c2, b2, m2, d2, hl3, hl4, _, H1⟩ := HH.open3
    have HL2 := Lib.hid (And.intro hl3 hl4)
    refine ⟨_, _, rfl, H1, _, Keeps.refl _, fun t ht => by rw [List.mem_singleton.1 ht]; (repeat (first | (with_reducible exact List.mem_cons_self) | with_reducible apply List.mem_cons_of_mem)), ?_⟩
    clear H1 HH hl3 hl4
    (simp only [Act.put, List.setIfInBounds_toArray, List.set_cons_zero, List.set_cons_succ])
    iterate 2 (apply wpK_step; (· rfl); (· rfl); (· rfl); (· exact Nat.le_of_ble_eq_true rfl); (· intro l0 hs0 w0 H0; (first | go_big_quiet_skip | fail | go_big_quiet_step (fail)); (refine wpQuiet_nil ?_); (simp only [Array.getD_eq_getD_getElem?, List.getElem?_toArray, List.getElem?_cons_succ, List.getElem?_cons_zero, Option.getD_some]; rfl)); (simp only [Act.put, List.setIfInBounds_toArray, List.set_cons_zero, List.set_cons_succ]))
    (refine wpK_nil ?_; clear H; intro _ H)
    go_wp2_with (go_skip)
    go_ret
    rw [← HD.out]
    exact ⟨rfl, a2, n2, c2, b2, m2, d2, HL2.out.1, HL2.out.2, (H.drop (.there (.there (.there (.there (.there .here)))))).top2 (.there (.there (.there .here))) (.there (.there (.there .here)))⟩
  · have h8 : Int.tmod (xk : Int) 8 = 2 := by rw [Int.tmod_eq_emod_of_nonneg (by omega)]; omega
    have HD := Lib.hid (hD (trustS S xa xb xc xn) (by simp [hr, doesS]))
    clear hD hN hroom RM HNB hr
    go_enter Tryz.func7, Tryz.ntmps7
    go_wp2_with (first | go_skip | ((with_reducible show wpList _ _ _ (_ :: _) _ _); (with_reducible apply wpl_boxRH); (· rfl); (· rfl); (· exact H); (clear H; intro px _ H); (simp only [Act.put, List.setIfInBounds_toArray, List.set_cons_zero, List.set_cons_succ])) | ((with_reducible show wpList _ _ _ (_ :: _) _ _); (with_reducible apply wpl_loadCH); (· first | exact cell_u8 | exact cell_party | exact cell_cur | exact cell_i64); (· rfl); (· rfl); (· exact H); (· (repeat (first | (with_reducible exact List.mem_cons_self) | with_reducible apply List.mem_cons_of_mem))); (· with_reducible first | exact act_g0 .. | exact act_g1 .. | exact act_g2 .. | exact act_g3 .. | exact act_g4 ..); (simp only [Act.put, List.setIfInBounds_toArray, List.set_cons_zero, List.set_cons_succ])))
    have LC := Lib.hid (fun (l' : List Thing) (w' : World) (h : Heap W (LdC p S.P (some q) :: LdM q S.L :: l') w') => ltrust2_H (S := S) xa xb xc xn o1 o2 o3 HG.out (p := p) (q := q) (l := l') h)
    have RC := Lib.hid (fun (l' : List Thing) (w' : World) (h : RefH W l' rp S w') => rtrust_H (S := S) xa xb xc xn o1 o2 o3 HO.out HG.out h)
    have hb : (trustE S xa xb xc xn == trustE S xa xb xc xn) = true := by simp
    generalize hE : trustE S xa xb xc xn = E at *
    clear hE
    generalize hS2 : trustS S xa xb xc xn = S2 at *
    clear hS2
    refine wp_region_K [9, 19] [0, 1, 2, 3, 4, 5, 6, 7, 8, 10, 11, 12, 13, 14, 15, 16, 17, 18, 9, 19, 20, 21] [Cel px (act (xk : Int) (xa : Int) (xb : Int) (xc : Int) xn) 33] H (fun t ht => by rw [List.mem_singleton.1 ht]; (repeat (first | (with_reducible exact List.mem_cons_self) | with_reducible apply List.mem_cons_of_mem))) (by kernel_rfl) (by kernel_rfl) ?_
    iterate 18 (apply wpK_step; (· rfl); (· rfl); (· rfl); (· exact Nat.le_of_ble_eq_true rfl); (· intro l0 hs0 w0 H0; (first | go_big_quiet_skip | ((with_reducible apply wpQ_loadCH); (· first | exact cell_u8 | exact cell_party | exact cell_cur | exact cell_i64); (· rfl); (· rfl); (· exact hs0 _ (List.mem_singleton.2 rfl)); (· with_reducible first | exact act_g0 .. | exact act_g1 .. | exact act_g2 .. | exact act_g3 .. | exact act_g4 ..); (simp only [Act.put, List.setIfInBounds_toArray, List.set_cons_zero, List.set_cons_succ])) | go_big_quiet_step (fail)); (refine wpQuiet_nil ?_); (simp only [Array.getD_eq_getD_getElem?, List.getElem?_toArray, List.getElem?_cons_succ, List.getElem?_cons_zero, Option.getD_some]; rfl)); (simp only [Act.put, List.setIfInBounds_toArray, List.set_cons_zero, List.set_cons_succ]))
    refine wpK_call (f := 17) (argl := [.pointer (some ⟨p, 0, none⟩), .int .u8 (xa : Int), .int .u8 (xb : Int), .int .u8 (xc : Int), .int .i64 xn]) rfl rfl rfl Tryz.call17 rfl ?_
    intro w0 H0
    refine (LC.out _ _ (H0.top2 (.there .here) (.there .here))).mono ?_
    clear H0
    rintro e w1 ⟨rfl, H1⟩
    refine ⟨_, _, rfl, H1, _, Keeps.refl _, fun t ht => by rw [List.mem_singleton.1 ht]; (repeat (first | (with_reducible exact List.mem_cons_self) | with_reducible apply List.mem_cons_of_mem)), ?_⟩
    clear H1
    (simp only [Act.put, List.setIfInBounds_toArray, List.set_cons_zero, List.set_cons_succ])
    refine wpK_call (f := 20) (argl := [.pointer (some ⟨rp, 0, none⟩), .int .u8 (xa : Int), .int .u8 (xb : Int), .int .u8 (xc : Int), .int .i64 xn]) rfl rfl rfl Tryz.call20 rfl ?_
    intro w0 H0
    refine (RC.out _ _ (RefH.shut HL.out.1 HL.out.2 (H0.top3 (.there (.there (.there .here))) (.there (.there (.there .here))) (.there (.there (.there .here)))))).mono ?_
    clear H0
    rintro e w2 ⟨rfl, HH⟩
    obtain ⟨a2, n2, c2, b2, m2, d2, hl3, hl4, _, H1⟩ := HH.open3
    have HL2 := Lib.hid (And.intro hl3 hl4)
    refine ⟨_, _, rfl, H1, _, Keeps.refl _, fun t ht => by rw [List.mem_singleton.1 ht]; (repeat (first | (with_reducible exact List.mem_cons_self) | with_reducible apply List.mem_cons_of_mem)), ?_⟩
    clear H1 HH hl3 hl4
    (simp only [Act.put, List.setIfInBounds_toArray, List.set_cons_zero, List.set_cons_succ])
    iterate 2 (apply wpK_step; (· rfl); (· rfl); (· rfl); (· exact Nat.le_of_ble_eq_true rfl); (· intro l0 hs0 w0 H0; (first | go_big_quiet_skip | fail | go_big_quiet_step (fail)); (refine wpQuiet_nil ?_); (simp only [Array.getD_eq_getD_getElem?, List.getElem?_toArray, List.getElem?_cons_succ, List.getElem?_cons_zero, Option.getD_some]; rfl)); (simp only [Act.put, List.setIfInBounds_toArray, List.set_cons_zero, List.set_cons_succ]))
    (refine wpK_nil ?_; clear H; intro _ H)
    go_wp2_with (go_skip)
    go_ret
    rw [← HD.out]
    exact ⟨rfl, a2, n2, c2, b2, m2, d2, HL2.out.1, HL2.out.2, (H.drop (.there (.there (.there (.there (.there .here)))))).top2 (.there (.there (.there .here))) (.there (.there (.there .here)))⟩
  · have h8 : Int.tmod (xk : Int) 8 = 3 := by rw [Int.tmod_eq_emod_of_nonneg (by omega)]; omega
    by_cases hk : 128 ≤ xk
    · rw [if_pos hk] at hN
      have HD := Lib.hid (hD (pushS S xa xb xc N) (by simp [hr, doesS, doesN, hk, hN]))
      have hmin : min xn (roomOf S (xa : Int) (xb : Int) (xc : Int)) = N := hN.symm
      clear hD hroom hr hN
      generalize roomOf S (xa : Int) (xb : Int) (xc : Int) = r at *
      go_enter Tryz.func7, Tryz.ntmps7
      go_wp2_with (first | go_skip | ((with_reducible show wpList _ _ _ (_ :: _) _ _); (with_reducible apply wpl_boxRH); (· rfl); (· rfl); (· exact H); (clear H; intro px _ H); (simp only [Act.put, List.setIfInBounds_toArray, List.set_cons_zero, List.set_cons_succ])) | ((with_reducible refine AnsH.call (RM.out _) H ?_); clear H; intro _ H) | ((with_reducible show wpList _ _ _ (_ :: _) _ _); (with_reducible apply wpl_loadCH); (· first | exact cell_u8 | exact cell_party | exact cell_cur | exact cell_i64); (· rfl); (· rfl); (· exact H); (· (repeat (first | (with_reducible exact List.mem_cons_self) | with_reducible apply List.mem_cons_of_mem))); (· with_reducible first | exact act_g0 .. | exact act_g1 .. | exact act_g2 .. | exact act_g3 .. | exact act_g4 ..); (simp only [Act.put, List.setIfInBounds_toArray, List.set_cons_zero, List.set_cons_succ])))
      try rw [hmin]
      try go_wp2_with (go_skip)
      clear RM
      have LC := Lib.hid (fun (l' : List Thing) (w' : World) (h : Heap W (LdC p S.P (some q) :: LdM q S.L :: l') w') => lpush2_H (S := S) xa xb xc N o1 o2 o3 HNB.out HG.out (p := p) (q := q) (l := l') h)
      have RC := Lib.hid (fun (l' : List Thing) (w' : World) (h : RefH W l' rp S w') => rpushL_H (S := S) xa xb xc N o1 o2 o3 HNB.out HG.out h)
      have hb : (pushE S xa xb xc N == pushE S xa xb xc N) = true := by simp
      generalize hE : pushE S xa xb xc N = E at *
      clear hE
      generalize hS2 : pushS S xa xb xc N = S2 at *
      clear hS2
      refine wp_region_K [8, 17] [0, 1, 2, 3, 4, 5, 6, 7, 9, 10, 11, 12, 13, 14, 15, 16, 8, 17, 18, 19] [Cel px (act (xk : Int) (xa : Int) (xb : Int) (xc : Int) xn) 33] H (fun t ht => by rw [List.mem_singleton.1 ht]; (repeat (first | (with_reducible exact List.mem_cons_self) | with_reducible apply List.mem_cons_of_mem))) (by kernel_rfl) (by kernel_rfl) ?_
      iterate 16 (apply wpK_step; (· rfl); (· rfl); (· rfl); (· exact Nat.le_of_ble_eq_true rfl); (· intro l0 hs0 w0 H0; (first | go_big_quiet_skip | ((with_reducible apply wpQ_loadCH); (· first | exact cell_u8 | exact cell_party | exact cell_cur | exact cell_i64); (· rfl); (· rfl); (· exact hs0 _ (List.mem_singleton.2 rfl)); (· with_reducible first | exact act_g0 .. | exact act_g1 .. | exact act_g2 .. | exact act_g3 .. | exact act_g4 ..); (simp only [Act.put, List.setIfInBounds_toArray, List.set_cons_zero, List.set_cons_succ])) | go_big_quiet_step (fail)); (refine wpQuiet_nil ?_); (simp only [Array.getD_eq_getD_getElem?, List.getElem?_toArray, List.getElem?_cons_succ, List.getElem?_cons_zero, Option.getD_some]; rfl)); (simp only [Act.put, List.setIfInBounds_toArray, List.set_cons_zero, List.set_cons_succ]))
      refine wpK_call (f := 18) (argl := [.pointer (some ⟨p, 0, none⟩), .int .u8 (xa : Int), .int .u8 (xb : Int), .int .u8 (xc : Int), .int .i64 N]) rfl rfl rfl Tryz.call18 rfl ?_
      intro w0 H0
      refine (LC.out _ _ (H0.top2 (.there .here) (.there .here))).mono ?_
      clear H0
      rintro e w1 ⟨rfl, H1⟩
      refine ⟨_, _, rfl, H1, _, Keeps.refl _, fun t ht => by rw [List.mem_singleton.1 ht]; (repeat (first | (with_reducible exact List.mem_cons_self) | with_reducible apply List.mem_cons_of_mem)), ?_⟩
      clear H1
      (simp only [Act.put, List.setIfInBounds_toArray, List.set_cons_zero, List.set_cons_succ])
      refine wpK_call (f := 22) (argl := [.pointer (some ⟨rp, 0, none⟩), .int .u8 (xa : Int), .int .u8 (xb : Int), .int .u8 (xc : Int), .int .i64 N]) rfl rfl rfl Tryz.call22 rfl ?_
      intro w0 H0
      refine (RC.out _ _ (RefH.shut HL.out.1 HL.out.2 (H0.top3 (.there (.there (.there .here))) (.there (.there (.there .here))) (.there (.there (.there .here)))))).mono ?_
      clear H0
      rintro e w2 ⟨rfl, HH⟩
      obtain ⟨a2, n2, c2, b2, m2, d2, hl3, hl4, _, H1⟩ := HH.open3
      have HL2 := Lib.hid (And.intro hl3 hl4)
      refine ⟨_, _, rfl, H1, _, Keeps.refl _, fun t ht => by rw [List.mem_singleton.1 ht]; (repeat (first | (with_reducible exact List.mem_cons_self) | with_reducible apply List.mem_cons_of_mem)), ?_⟩
      clear H1 HH hl3 hl4
      (simp only [Act.put, List.setIfInBounds_toArray, List.set_cons_zero, List.set_cons_succ])
      iterate 2 (apply wpK_step; (· rfl); (· rfl); (· rfl); (· exact Nat.le_of_ble_eq_true rfl); (· intro l0 hs0 w0 H0; (first | go_big_quiet_skip | fail | go_big_quiet_step (fail)); (refine wpQuiet_nil ?_); (simp only [Array.getD_eq_getD_getElem?, List.getElem?_toArray, List.getElem?_cons_succ, List.getElem?_cons_zero, Option.getD_some]; rfl)); (simp only [Act.put, List.setIfInBounds_toArray, List.set_cons_zero, List.set_cons_succ]))
      (refine wpK_nil ?_; clear H; intro _ H)
      go_wp2_with (go_skip)
      go_ret
      rw [← HD.out]
      exact ⟨rfl, a2, n2, c2, b2, m2, d2, HL2.out.1, HL2.out.2, (H.drop (.there (.there (.there (.there (.there .here)))))).top2 (.there (.there (.there .here))) (.there (.there (.there .here)))⟩
    · rw [if_neg hk] at hN
      have HD := Lib.hid (hD (pushS S xa xb xc xn) (by simp [hr, doesS, doesN, hk]))
      subst N
      clear hD hroom hr RM
      go_enter Tryz.func7, Tryz.ntmps7
      go_wp2_with (first | go_skip | ((with_reducible show wpList _ _ _ (_ :: _) _ _); (with_reducible apply wpl_boxRH); (· rfl); (· rfl); (· exact H); (clear H; intro px _ H); (simp only [Act.put, List.setIfInBounds_toArray, List.set_cons_zero, List.set_cons_succ])) | ((with_reducible show wpList _ _ _ (_ :: _) _ _); (with_reducible apply wpl_loadCH); (· first | exact cell_u8 | exact cell_party | exact cell_cur | exact cell_i64); (· rfl); (· rfl); (· exact H); (· (repeat (first | (with_reducible exact List.mem_cons_self) | with_reducible apply List.mem_cons_of_mem))); (· with_reducible first | exact act_g0 .. | exact act_g1 .. | exact act_g2 .. | exact act_g3 .. | exact act_g4 ..); (simp only [Act.put, List.setIfInBounds_toArray, List.set_cons_zero, List.set_cons_succ])))
      have LC := Lib.hid (fun (l' : List Thing) (w' : World) (h : Heap W (LdC p S.P (some q) :: LdM q S.L :: l') w') => lpush2_H (S := S) xa xb xc xn o1 o2 o3 HNB.out HG.out (p := p) (q := q) (l := l') h)
      have RC := Lib.hid (fun (l' : List Thing) (w' : World) (h : RefH W l' rp S w') => rpushL_H (S := S) xa xb xc xn o1 o2 o3 HNB.out HG.out h)
      have hb : (pushE S xa xb xc xn == pushE S xa xb xc xn) = true := by simp
      generalize hE : pushE S xa xb xc xn = E at *
      clear hE
      generalize hS2 : pushS S xa xb xc xn = S2 at *
      clear hS2
      refine wp_region_K [8, 17] [0, 1, 2, 3, 4, 5, 6, 7, 9, 10, 11, 12, 13, 14, 15, 16, 8, 17, 18, 19] [Cel px (act (xk : Int) (xa : Int) (xb : Int) (xc : Int) xn) 33] H (fun t ht => by rw [List.mem_singleton.1 ht]; (repeat (first | (with_reducible exact List.mem_cons_self) | with_reducible apply List.mem_cons_of_mem))) (by kernel_rfl) (by kernel_rfl) ?_
      iterate 16 (apply wpK_step; (· rfl); (· rfl); (· rfl); (· exact Nat.le_of_ble_eq_true rfl); (· intro l0 hs0 w0 H0; (first | go_big_quiet_skip | ((with_reducible apply wpQ_loadCH); (· first | exact cell_u8 | exact cell_party | exact cell_cur | exact cell_i64); (· rfl); (· rfl); (· exact hs0 _ (List.mem_singleton.2 rfl)); (· with_reducible first | exact act_g0 .. | exact act_g1 .. | exact act_g2 .. | exact act_g3 .. | exact act_g4 ..); (simp only [Act.put, List.setIfInBounds_toArray, List.set_cons_zero, List.set_cons_succ])) | go_big_quiet_step (fail)); (refine wpQuiet_nil ?_); (simp only [Array.getD_eq_getD_getElem?, List.getElem?_toArray, List.getElem?_cons_succ, List.getElem?_cons_zero, Option.getD_some]; rfl)); (simp only [Act.put, List.setIfInBounds_toArray, List.set_cons_zero, List.set_cons_succ]))
      refine wpK_call (f := 18) (argl := [.pointer (some ⟨p, 0, none⟩), .int .u8 (xa : Int), .int .u8 (xb : Int), .int .u8 (xc : Int), .int .i64 xn]) rfl rfl rfl Tryz.call18 rfl ?_
      intro w0 H0
      refine (LC.out _ _ (H0.top2 (.there .here) (.there .here))).mono ?_
      clear H0
      rintro e w1 ⟨rfl, H1⟩
      refine ⟨_, _, rfl, H1, _, Keeps.refl _, fun t ht => by rw [List.mem_singleton.1 ht]; (repeat (first | (with_reducible exact List.mem_cons_self) | with_reducible apply List.mem_cons_of_mem)), ?_⟩
      clear H1
      (simp only [Act.put, List.setIfInBounds_toArray, List.set_cons_zero, List.set_cons_succ])
      refine wpK_call (f := 22) (argl := [.pointer (some ⟨rp, 0, none⟩), .int .u8 (xa : Int), .int .u8 (xb : Int), .int .u8 (xc : Int), .int .i64 xn]) rfl rfl rfl Tryz.call22 rfl ?_
      intro w0 H0
      refine (RC.out _ _ (RefH.shut HL.out.1 HL.out.2 (H0.top3 (.there (.there (.there .here))) (.there (.there (.there .here))) (.there (.there (.there .here)))))).mono ?_
      clear H0
      rintro e w2 ⟨rfl, HH⟩
      obtain ⟨a2, n2, c2, b2, m2, d2, hl3, hl4, _, H1⟩ := HH.open3
      have HL2 := Lib.hid (And.intro hl3 hl4)
      refine ⟨_, _, rfl, H1, _, Keeps.refl _, fun t ht => by rw [List.mem_singleton.1 ht]; (repeat (first | (with_reducible exact List.mem_cons_self) | with_reducible apply List.mem_cons_of_mem)), ?_⟩
      clear H1 HH hl3 hl4
      (simp only [Act.put, List.setIfInBounds_toArray, List.set_cons_zero, List.set_cons_succ])
      iterate 2 (apply wpK_step; (· rfl); (· rfl); (· rfl); (· exact Nat.le_of_ble_eq_true rfl); (· intro l0 hs0 w0 H0; (first | go_big_quiet_skip | fail | go_big_quiet_step (fail)); (refine wpQuiet_nil ?_); (simp only [Array.getD_eq_getD_getElem?, List.getElem?_toArray, List.getElem?_cons_succ, List.getElem?_cons_zero, Option.getD_some]; rfl)); (simp only [Act.put, List.setIfInBounds_toArray, List.set_cons_zero, List.set_cons_succ]))
      (refine wpK_nil ?_; clear H; intro _ H)
      go_wp2_with (go_skip)
      go_ret
      rw [← HD.out]
      exact ⟨rfl, a2, n2, c2, b2, m2, d2, HL2.out.1, HL2.out.2, (H.drop (.there (.there (.there (.there (.there .here)))))).top2 (.there (.there (.there .here))) (.there (.there (.there .here)))⟩
  · have h8 : Int.tmod (xk : Int) 8 = 4 := by rw [Int.tmod_eq_emod_of_nonneg (by omega)]; omega
    by_cases hk : 128 ≤ xk
    · rw [if_pos hk] at hN
      have HD := Lib.hid (hD (pushS S xa xb xc N) (by simp [hr, doesS, doesN, hk, hN]))
      have hmin : min xn (roomOf S (xa : Int) (xb : Int) (xc : Int)) = N := hN.symm
      clear hD hroom hr hN
      generalize roomOf S (xa : Int) (xb : Int) (xc : Int) = r at *
      go_enter Tryz.func7, Tryz.ntmps7
      go_wp2_with (first | go_skip | ((with_reducible show wpList _ _ _ (_ :: _) _ _); (with_reducible apply wpl_boxRH); (· rfl); (· rfl); (· exact H); (clear H; intro px _ H); (simp only [Act.put, List.setIfInBounds_toArray, List.set_cons_zero, List.set_cons_succ])) | ((with_reducible refine AnsH.call (RM.out _) H ?_); clear H; intro _ H) | ((with_reducible show wpList _ _ _ (_ :: _) _ _); (with_reducible apply wpl_loadCH); (· first | exact cell_u8 | exact cell_party | exact cell_cur | exact cell_i64); (· rfl); (· rfl); (· exact H); (· (repeat (first | (with_reducible exact List.mem_cons_self) | with_reducible apply List.mem_cons_of_mem))); (· with_reducible first | exact act_g0 .. | exact act_g1 .. | exact act_g2 .. | exact act_g3 .. | exact act_g4 ..); (simp only [Act.put, List.setIfInBounds_toArray, List.set_cons_zero, List.set_cons_succ])))
      try rw [hmin]
      try go_wp2_with (go_skip)
      clear RM
      have LC := Lib.hid (fun (l' : List Thing) (w' : World) (h : Heap W (LdC p S.P (some q) :: LdM q S.L :: l') w') => lpush2_H (S := S) xa xb xc N o1 o2 o3 HNB.out HG.out (p := p) (q := q) (l := l') h)
      have RC := Lib.hid (fun (l' : List Thing) (w' : World) (h : RefH W l' rp S w') => rpushL_H (S := S) xa xb xc N o1 o2 o3 HNB.out HG.out h)
      have hb : (pushE S xa xb xc N == pushE S xa xb xc N) = true := by simp
      generalize hE : pushE S xa xb xc N = E at *
      clear hE
      generalize hS2 : pushS S xa xb xc N = S2 at *
      clear hS2
      refine wp_region_K [8, 17] [0, 1, 2, 3, 4, 5, 6, 7, 9, 10, 11, 12, 13, 14, 15, 16, 8, 17, 18, 19] [Cel px (act (xk : Int) (xa : Int) (xb : Int) (xc : Int) xn) 33] H (fun t ht => by rw [List.mem_singleton.1 ht]; (repeat (first | (with_reducible exact List.mem_cons_self) | with_reducible apply List.mem_cons_of_mem))) (by kernel_rfl) (by kernel_rfl) ?_
      iterate 16 (apply wpK_step; (· rfl); (· rfl); (· rfl); (· exact Nat.le_of_ble_eq_true rfl); (· intro l0 hs0 w0 H0; (first | go_big_quiet_skip | ((with_reducible apply wpQ_loadCH); (· first | exact cell_u8 | exact cell_party | exact cell_cur | exact cell_i64); (· rfl); (· rfl); (· exact hs0 _ (List.mem_singleton.2 rfl)); (· with_reducible first | exact act_g0 .. | exact act_g1 .. | exact act_g2 .. | exact act_g3 .. | exact act_g4 ..); (simp only [Act.put, List.setIfInBounds_toArray, List.set_cons_zero, List.set_cons_succ])) | go_big_quiet_step (fail)); (refine wpQuiet_nil ?_); (simp only [Array.getD_eq_getD_getElem?, List.getElem?_toArray, List.getElem?_cons_succ, List.getElem?_cons_zero, Option.getD_some]; rfl)); (simp only [Act.put, List.setIfInBounds_toArray, List.set_cons_zero, List.set_cons_succ]))
      refine wpK_call (f := 18) (argl := [.pointer (some ⟨p, 0, none⟩), .int .u8 (xa : Int), .int .u8 (xb : Int), .int .u8 (xc : Int), .int .i64 N]) rfl rfl rfl Tryz.call18 rfl ?_
      intro w0 H0
      refine (LC.out _ _ (H0.top2 (.there .here) (.there .here))).mono ?_
      clear H0
      rintro e w1 ⟨rfl, H1⟩
      refine ⟨_, _, rfl, H1, _, Keeps.refl _, fun t ht => by rw [List.mem_singleton.1 ht]; (repeat (first | (with_reducible exact List.mem_cons_self) | with_reducible apply List.mem_cons_of_mem)), ?_⟩
      clear H1
      (simp only [Act.put, List.setIfInBounds_toArray, List.set_cons_zero, List.set_cons_succ])
      refine wpK_call (f := 22) (argl := [.pointer (some ⟨rp, 0, none⟩), .int .u8 (xa : Int), .int .u8 (xb : Int), .int .u8 (xc : Int), .int .i64 N]) rfl rfl rfl Tryz.call22 rfl ?_
      intro w0 H0
      refine (RC.out _ _ (RefH.shut HL.out.1 HL.out.2 (H0.top3 (.there (.there (.there .here))) (.there (.there (.there .here))) (.there (.there (.there .here)))))).mono ?_
      clear H0
      rintro e w2 ⟨rfl, HH⟩
      obtain ⟨a2, n2, c2, b2, m2, d2, hl3, hl4, _, H1⟩ := HH.open3
      have HL2 := Lib.hid (And.intro hl3 hl4)
      refine ⟨_, _, rfl, H1, _, Keeps.refl _, fun t ht => by rw [List.mem_singleton.1 ht]; (repeat (first | (with_reducible exact List.mem_cons_self) | with_reducible apply List.mem_cons_of_mem)), ?_⟩
      clear H1 HH hl3 hl4
      (simp only [Act.put, List.setIfInBounds_toArray, List.set_cons_zero, List.set_cons_succ])
      iterate 2 (apply wpK_step; (· rfl); (· rfl); (· rfl); (· exact Nat.le_of_ble_eq_true rfl); (· intro l0 hs0 w0 H0; (first | go_big_quiet_skip | fail | go_big_quiet_step (fail)); (refine wpQuiet_nil ?_); (simp only [Array.getD_eq_getD_getElem?, List.getElem?_toArray, List.getElem?_cons_succ, List.getElem?_cons_zero, Option.getD_some]; rfl)); (simp only [Act.put, List.setIfInBounds_toArray, List.set_cons_zero, List.set_cons_succ]))
      (refine wpK_nil ?_; clear H; intro _ H)
      go_wp2_with (go_skip)
      go_ret
      rw [← HD.out]
      exact ⟨rfl, a2, n2, c2, b2, m2, d2, HL2.out.1, HL2.out.2, (H.drop (.there (.there (.there (.there (.there .here)))))).top2 (.there (.there (.there .here))) (.there (.there (.there .here)))⟩
    · rw [if_neg hk] at hN
      have HD := Lib.hid (hD (pushS S xa xb xc xn) (by simp [hr, doesS, doesN, hk]))
      subst N
      clear hD hroom hr RM
      go_enter Tryz.func7, Tryz.ntmps7
      go_wp2_with (first | go_skip | ((with_reducible show wpList _ _ _ (_ :: _) _ _); (with_reducible apply wpl_boxRH); (· rfl); (· rfl); (· exact H); (clear H; intro px _ H); (simp only [Act.put, List.setIfInBounds_toArray, List.set_cons_zero, List.set_cons_succ])) | ((with_reducible show wpList _ _ _ (_ :: _) _ _); (with_reducible apply wpl_loadCH); (· first | exact cell_u8 | exact cell_party | exact cell_cur | exact cell_i64); (· rfl); (· rfl); (· exact H); (· (repeat (first | (with_reducible exact List.mem_cons_self) | with_reducible apply List.mem_cons_of_mem))); (· with_reducible first | exact act_g0 .. | exact act_g1 .. | exact act_g2 .. | exact act_g3 .. | exact act_g4 ..); (simp only [Act.put, List.setIfInBounds_toArray, List.set_cons_zero, List.set_cons_succ])))
      have LC := Lib.hid (fun (l' : List Thing) (w' : World) (h : Heap W (LdC p S.P (some q) :: LdM q S.L :: l') w') => lpush2_H (S := S) xa xb xc xn o1 o2 o3 HNB.out HG.out (p := p) (q := q) (l := l') h)
      have RC := Lib.hid (fun (l' : List Thing) (w' : World) (h : RefH W l' rp S w') => rpushL_H (S := S) xa xb xc xn o1 o2 o3 HNB.out HG.out h)
      have hb : (pushE S xa xb xc xn == pushE S xa xb xc xn) = true := by simp
      generalize hE : pushE S xa xb xc xn = E at *
      clear hE
      generalize hS2 : pushS S xa xb xc xn = S2 at *
      clear hS2
      refine wp_region_K [8, 17] [0, 1, 2, 3, 4, 5, 6, 7, 9, 10, 11, 12, 13, 14, 15, 16, 8, 17, 18, 19] [Cel px (act (xk : Int) (xa : Int) (xb : Int) (xc : Int) xn) 33] H (fun t ht => by rw [List.mem_singleton.1 ht]; (repeat (first | (with_reducible exact List.mem_cons_self) | with_reducible apply List.mem_cons_of_mem))) (by kernel_rfl) (by kernel_rfl) ?_
      iterate 16 (apply wpK_step; (· rfl); (· rfl); (· rfl); (· exact Nat.le_of_ble_eq_true rfl); (· intro l0 hs0 w0 H0; (first | go_big_quiet_skip | ((with_reducible apply wpQ_loadCH); (· first | exact cell_u8 | exact cell_party | exact cell_cur | exact cell_i64); (· rfl); (· rfl); (· exact hs0 _ (List.mem_singleton.2 rfl)); (· with_reducible first | exact act_g0 .. | exact act_g1 .. | exact act_g2 .. | exact act_g3 .. | exact act_g4 ..); (simp only [Act.put, List.setIfInBounds_toArray, List.set_cons_zero, List.set_cons_succ])) | go_big_quiet_step (fail)); (refine wpQuiet_nil ?_); (simp only [Array.getD_eq_getD_getElem?, List.getElem?_toArray, List.getElem?_cons_succ, List.getElem?_cons_zero, Option.getD_some]; rfl)); (simp only [Act.put, List.setIfInBounds_toArray, List.set_cons_zero, List.set_cons_succ]))
      refine wpK_call (f := 18) (argl := [.pointer (some ⟨p, 0, none⟩), .int .u8 (xa : Int), .int .u8 (xb : Int), .int .u8 (xc : Int), .int .i64 xn]) rfl rfl rfl Tryz.call18 rfl ?_
      intro w0 H0
      refine (LC.out _ _ (H0.top2 (.there .here) (.there .here))).mono ?_
      clear H0
      rintro e w1 ⟨rfl, H1⟩
      refine ⟨_, _, rfl, H1, _, Keeps.refl _, fun t ht => by rw [List.mem_singleton.1 ht]; (repeat (first | (with_reducible exact List.mem_cons_self) | with_reducible apply List.mem_cons_of_mem)), ?_⟩
      clear H1
      (simp only [Act.put, List.setIfInBounds_toArray, List.set_cons_zero, List.set_cons_succ])
      refine wpK_call (f := 22) (argl := [.pointer (some ⟨rp, 0, none⟩), .int .u8 (xa : Int), .int .u8 (xb : Int), .int .u8 (xc : Int), .int .i64 xn]) rfl rfl rfl Tryz.call22 rfl ?_
      intro w0 H0
      refine (RC.out _ _ (RefH.shut HL.out.1 HL.out.2 (H0.top3 (.there (.there (.there .here))) (.there (.there (.there .here))) (.there (.there (.there .here)))))).mono ?_
      clear H0
      rintro e w2 ⟨rfl, HH⟩
      obtain ⟨a2, n2, c2, b2, m2, d2, hl3, hl4, _, H1⟩ := HH.open3
      have HL2 := Lib.hid (And.intro hl3 hl4)
      refine ⟨_, _, rfl, H1, _, Keeps.refl _, fun t ht => by rw [List.mem_singleton.1 ht]; (repeat (first | (with_reducible exact List.mem_cons_self) | with_reducible apply List.mem_cons_of_mem)), ?_⟩
      clear H1 HH hl3 hl4
      (simp only [Act.put, List.setIfInBounds_toArray, List.set_cons_zero, List.set_cons_succ])
      iterate 2 (apply wpK_step; (· rfl); (· rfl); (· rfl); (· exact Nat.le_of_ble_eq_true rfl); (· intro l0 hs0 w0 H0; (first | go_big_quiet_skip | fail | go_big_quiet_step (fail)); (refine wpQuiet_nil ?_); (simp only [Array.getD_eq_getD_getElem?, List.getElem?_toArray, List.getElem?_cons_succ, List.getElem?_cons_zero, Option.getD_some]; rfl)); (simp only [Act.put, List.setIfInBounds_toArray, List.set_cons_zero, List.set_cons_succ]))
      (refine wpK_nil ?_; clear H; intro _ H)
      go_wp2_with (go_skip)
      go_ret
      rw [← HD.out]
      exact ⟨rfl, a2, n2, c2, b2, m2, d2, HL2.out.1, HL2.out.2, (H.drop (.there (.there (.there (.there (.there .here)))))).top2 (.there (.there (.there .here))) (.there (.there (.there .here)))⟩
  · have h8 : Int.tmod (xk : Int) 8 = 5 := by rw [Int.tmod_eq_emod_of_nonneg (by omega)]; omega
    by_cases hk : 128 ≤ xk
    · rw [if_pos hk] at hN
      have HD := Lib.hid (hD (pushS S xa xb xc N) (by simp [hr, doesS, doesN, hk, hN]))
      have hmin : min xn (roomOf S (xa : Int) (xb : Int) (xc : Int)) = N := hN.symm
      clear hD hroom hr hN
      generalize roomOf S (xa : Int) (xb : Int) (xc : Int) = r at *
      go_enter Tryz.func7, Tryz.ntmps7
      go_wp2_with (first | go_skip | ((with_reducible show wpList _ _ _ (_ :: _) _ _); (with_reducible apply wpl_boxRH); (· rfl); (· rfl); (· exact H); (clear H; intro px _ H); (simp only [Act.put, List.setIfInBounds_toArray, List.set_cons_zero, List.set_cons_succ])) | ((with_reducible refine AnsH.call (RM.out _) H ?_); clear H; intro _ H) | ((with_reducible show wpList _ _ _ (_ :: _) _ _); (with_reducible apply wpl_loadCH); (· first | exact cell_u8 | exact cell_party | exact cell_cur | exact cell_i64); (· rfl); (· rfl); (· exact H); (· (repeat (first | (with_reducible exact List.mem_cons_self) | with_reducible apply List.mem_cons_of_mem))); (· with_reducible first | exact act_g0 .. | exact act_g1 .. | exact act_g2 .. | exact act_g3 .. | exact act_g4 ..); (simp only [Act.put, List.setIfInBounds_toArray, List.set_cons_zero, List.set_cons_succ])))
      try rw [hmin]
      try go_wp2_with (go_skip)
      clear RM
      have LC := Lib.hid (fun (l' : List Thing) (w' : World) (h : Heap W (LdC p S.P (some q) :: LdM q S.L :: l') w') => lpush2_H (S := S) xa xb xc N o1 o2 o3 HNB.out HG.out (p := p) (q := q) (l := l') h)
      have RC := Lib.hid (fun (l' : List Thing) (w' : World) (h : RefH W l' rp S w') => rpushL_H (S := S) xa xb xc N o1 o2 o3 HNB.out HG.out h)
      have hb : (pushE S xa xb xc N == pushE S xa xb xc N) = true := by simp
      generalize hE : pushE S xa xb xc N = E at *
      clear hE
      generalize hS2 : pushS S xa xb xc N = S2 at *
      clear hS2
      refine wp_region_K [8, 17] [0, 1, 2, 3, 4, 5, 6, 7, 9, 10, 11, 12, 13, 14, 15, 16, 8, 17, 18, 19] [Cel px (act (xk : Int) (xa : Int) (xb : Int) (xc : Int) xn) 33] H (fun t ht => by rw [List.mem_singleton.1 ht]; (repeat (first | (with_reducible exact List.mem_cons_self) | with_reducible apply List.mem_cons_of_mem))) (by kernel_rfl) (by kernel_rfl) ?_
      iterate 16 (apply wpK_step; (· rfl); (· rfl); (· rfl); (· exact Nat.le_of_ble_eq_true rfl); (· intro l0 hs0 w0 H0; (first | go_big_quiet_skip | ((with_reducible apply wpQ_loadCH); (· first | exact cell_u8 | exact cell_party | exact cell_cur | exact cell_i64); (· rfl); (· rfl); (· exact hs0 _ (List.mem_singleton.2 rfl)); (· with_reducible first | exact act_g0 .. | exact act_g1 .. | exact act_g2 .. | exact act_g3 .. | exact act_g4 ..); (simp only [Act.put, List.setIfInBounds_toArray, List.set_cons_zero, List.set_cons_succ])) | go_big_quiet_step (fail)); (refine wpQuiet_nil ?_); (simp only [Array.getD_eq_getD_getElem?, List.getElem?_toArray, List.getElem?_cons_succ, List.getElem?_cons_zero, Option.getD_some]; rfl)); (simp only [Act.put, List.setIfInBounds_toArray, List.set_cons_zero, List.set_cons_succ]))
      refine wpK_call (f := 18) (argl := [.pointer (some ⟨p, 0, none⟩), .int .u8 (xa : Int), .int .u8 (xb : Int), .int .u8 (xc : Int), .int .i64 N]) rfl rfl rfl Tryz.call18 rfl ?_
      intro w0 H0
      refine (LC.out _ _ (H0.top2 (.there .here) (.there .here))).mono ?_
      clear H0
      rintro e w1 ⟨rfl, H1⟩
      refine ⟨_, _, rfl, H1, _, Keeps.refl _, fun t ht => by rw [List.mem_singleton.1 ht]; (repeat (first | (with_reducible exact List.mem_cons_self) | with_reducible apply List.mem_cons_of_mem)), ?_⟩
      clear H1
      (simp only [Act.put, List.setIfInBounds_toArray, List.set_cons_zero, List.set_cons_succ])
      refine wpK_call (f := 22) (argl := [.pointer (some ⟨rp, 0, none⟩), .int .u8 (xa : Int), .int .u8 (xb : Int), .int .u8 (xc : Int), .int .i64 N]) rfl rfl rfl Tryz.call22 rfl ?_
      intro w0 H0
      refine (RC.out _ _ (RefH.shut HL.out.1 HL.out.2 (H0.top3 (.there (.there (.there .here))) (.there (.there (.there .here))) (.there (.there (.there .here)))))).mono ?_
      clear H0
      rintro e w2 ⟨rfl, HH⟩
      obtain ⟨a2, n2, c2, b2, m2, d2, hl3, hl4, _, H1⟩ := HH.open3
      have HL2 := Lib.hid (And.intro hl3 hl4)
      refine ⟨_, _, rfl, H1, _, Keeps.refl _, fun t ht => by rw [List.mem_singleton.1 ht]; (repeat (first | (with_reducible exact List.mem_cons_self) | with_reducible apply List.mem_cons_of_mem)), ?_⟩
      clear H1 HH hl3 hl4
      (simp only [Act.put, List.setIfInBounds_toArray, List.set_cons_zero, List.set_cons_succ])
      iterate 2 (apply wpK_step; (· rfl); (· rfl); (· rfl); (· exact Nat.le_of_ble_eq_true rfl); (· intro l0 hs0 w0 H0; (first | go_big_quiet_skip | fail | go_big_quiet_step (fail)); (refine wpQuiet_nil ?_); (simp only [Array.getD_eq_getD_getElem?, List.getElem?_toArray, List.getElem?_cons_succ, List.getElem?_cons_zero, Option.getD_some]; rfl)); (simp only [Act.put, List.setIfInBounds_toArray, List.set_cons_zero, List.set_cons_succ]))
      (refine wpK_nil ?_; clear H; intro _ H)
      go_wp2_with (go_skip)
      go_ret
      rw [← HD.out]
      exact ⟨rfl, a2, n2, c2, b2, m2, d2, HL2.out.1, HL2.out.2, (H.drop (.there (.there (.there (.there (.there .here)))))).top2 (.there (.there (.there .here))) (.there (.there (.there .here)))⟩
    · rw [if_neg hk] at hN
      have HD := Lib.hid (hD (pushS S xa xb xc xn) (by simp [hr, doesS, doesN, hk]))
      subst N
      clear hD hroom hr RM
      go_enter Tryz.func7, Tryz.ntmps7
      go_wp2_with (first | go_skip | ((with_reducible show wpList _ _ _ (_ :: _) _ _); (with_reducible apply wpl_boxRH); (· rfl); (· rfl); (· exact H); (clear H; intro px _ H); (simp only [Act.put, List.setIfInBounds_toArray, List.set_cons_zero, List.set_cons_succ])) | ((with_reducible show wpList _ _ _ (_ :: _) _ _); (with_reducible apply wpl_loadCH); (· first | exact cell_u8 | exact cell_party | exact cell_cur | exact cell_i64); (· rfl); (· rfl); (· exact H); (· (repeat (first | (with_reducible exact List.mem_cons_self) | with_reducible apply List.mem_cons_of_mem))); (· with_reducible first | exact act_g0 .. | exact act_g1 .. | exact act_g2 .. | exact act_g3 .. | exact act_g4 ..); (simp only [Act.put, List.setIfInBounds_toArray, List.set_cons_zero, List.set_cons_succ])))
      have LC := Lib.hid (fun (l' : List Thing) (w' : World) (h : Heap W (LdC p S.P (some q) :: LdM q S.L :: l') w') => lpush2_H (S := S) xa xb xc xn o1 o2 o3 HNB.out HG.out (p := p) (q := q) (l := l') h)
      have RC := Lib.hid (fun (l' : List Thing) (w' : World) (h : RefH W l' rp S w') => rpushL_H (S := S) xa xb xc xn o1 o2 o3 HNB.out HG.out h)
      have hb : (pushE S xa xb xc xn == pushE S xa xb xc xn) = true := by simp
      generalize hE : pushE S xa xb xc xn = E at *
      clear hE
      generalize hS2 : pushS S xa xb xc xn = S2 at *
      clear hS2
      refine wp_region_K [8, 17] [0, 1, 2, 3, 4, 5, 6, 7, 9, 10, 11, 12, 13, 14, 15, 16, 8, 17, 18, 19] [Cel px (act (xk : Int) (xa : Int) (xb : Int) (xc : Int) xn) 33] H (fun t ht => by rw [List.mem_singleton.1 ht]; (repeat (first | (with_reducible exact List.mem_cons_self) | with_reducible apply List.mem_cons_of_mem))) (by kernel_rfl) (by kernel_rfl) ?_
      iterate 16 (apply wpK_step; (· rfl); (· rfl); (· rfl); (· exact Nat.le_of_ble_eq_true rfl); (· intro l0 hs0 w0 H0; (first | go_big_quiet_skip | ((with_reducible apply wpQ_loadCH); (· first | exact cell_u8 | exact cell_party | exact cell_cur | exact cell_i64); (· rfl); (· rfl); (· exact hs0 _ (List.mem_singleton.2 rfl)); (· with_reducible first | exact act_g0 .. | exact act_g1 .. | exact act_g2 .. | exact act_g3 .. | exact act_g4 ..); (simp only [Act.put, List.setIfInBounds_toArray, List.set_cons_zero, List.set_cons_succ])) | go_big_quiet_step (fail)); (refine wpQuiet_nil ?_); (simp only [Array.getD_eq_getD_getElem?, List.getElem?_toArray, List.getElem?_cons_succ, List.getElem?_cons_zero, Option.getD_some]; rfl)); (simp only [Act.put, List.setIfInBounds_toArray, List.set_cons_zero, List.set_cons_succ]))
      refine wpK_call (f := 18) (argl := [.pointer (some ⟨p, 0, none⟩), .int .u8 (xa : Int), .int .u8 (xb : Int), .int .u8 (xc : Int), .int .i64 xn]) rfl rfl rfl Tryz.call18 rfl ?_
      intro w0 H0
      refine (LC.out _ _ (H0.top2 (.there .here) (.there .here))).mono ?_
      clear H0
      rintro e w1 ⟨rfl, H1⟩
      refine ⟨_, _, rfl, H1, _, Keeps.refl _, fun t ht => by rw [List.mem_singleton.1 ht]; (repeat (first | (with_reducible exact List.mem_cons_self) | with_reducible apply List.mem_cons_of_mem)), ?_⟩
      clear H1
      (simp only [Act.put, List.setIfInBounds_toArray, List.set_cons_zero, List.set_cons_succ])
      refine wpK_call (f := 22) (argl := [.pointer (some ⟨rp, 0, none⟩), .int .u8 (xa : Int), .int .u8 (xb : Int), .int .u8 (xc : Int), .int .i64 xn]) rfl rfl rfl Tryz.call22 rfl ?_
      intro w0 H0
      refine (RC.out _ _ (RefH.shut HL.out.1 HL.out.2 (H0.top3 (.there (.there (.there .here))) (.there (.there (.there .here))) (.there (.there (.there .here)))))).mono ?_
      clear H0
      rintro e w2 ⟨rfl, HH⟩
      obtain ⟨a2, n2, c2, b2, m2, d2, hl3, hl4, _, H1⟩ := HH.open3
      have HL2 := Lib.hid (And.intro hl3 hl4)
      refine ⟨_, _, rfl, H1, _, Keeps.refl _, fun t ht => by rw [List.mem_singleton.1 ht]; (repeat (first | (with_reducible exact List.mem_cons_self) | with_reducible apply List.mem_cons_of_mem)), ?_⟩
      clear H1 HH hl3 hl4
      (simp only [Act.put, List.setIfInBounds_toArray, List.set_cons_zero, List.set_cons_succ])
      iterate 2 (apply wpK_step; (· rfl); (· rfl); (· rfl); (· exact Nat.le_of_ble_eq_true rfl); (· intro l0 hs0 w0 H0; (first | go_big_quiet_skip | fail | go_big_quiet_step (fail)); (refine wpQuiet_nil ?_); (simp only [Array.getD_eq_getD_getElem?, List.getElem?_toArray, List.getElem?_cons_succ, List.getElem?_cons_zero, Option.getD_some]; rfl)); (simp only [Act.put, List.setIfInBounds_toArray, List.set_cons_zero, List.set_cons_succ]))
      (refine wpK_nil ?_; clear H; intro _ H)
      go_wp2_with (go_skip)
      go_ret
      rw [← HD.out]
      exact ⟨rfl, a2, n2, c2, b2, m2, d2, HL2.out.1, HL2.out.2, (H.drop (.there (.there (.there (.there (.there .here)))))).top2 (.there (.there (.there .here))) (.there (.there (.there .here)))⟩
  · have h8 : Int.tmod (xk : Int) 8 = 6 := by rw [Int.tmod_eq_emod_of_nonneg (by omega)]; omega
    have HD := Lib.hid (hD (forgS S xa xb xc xn) (by simp [hr, doesS]))
    clear hD hN hroom RM HNB hr
    go_enter Tryz.func7, Tryz.ntmps7
    go_wp2_with (first | go_skip | ((with_reducible show wpList _ _ _ (_ :: _) _ _); (with_reducible apply wpl_boxRH); (· rfl); (· rfl); (· exact H); (clear H; intro px _ H); (simp only [Act.put, List.setIfInBounds_toArray, List.set_cons_zero, List.set_cons_succ])) | ((with_reducible show wpList _ _ _ (_ :: _) _ _); (with_reducible apply wpl_loadCH); (· first | exact cell_u8 | exact cell_party | exact cell_cur | exact cell_i64); (· rfl); (· rfl); (· exact H); (· (repeat (first | (with_reducible exact List.mem_cons_self) | with_reducible apply List.mem_cons_of_mem))); (· with_reducible first | exact act_g0 .. | exact act_g1 .. | exact act_g2 .. | exact act_g3 .. | exact act_g4 ..); (simp only [Act.put, List.setIfInBounds_toArray, List.set_cons_zero, List.set_cons_succ])))
    have LC := Lib.hid (fun (l' : List Thing) (w' : World) (h : Heap W (LdC p S.P (some q) :: LdM q S.L :: l') w') => lforg2_H (S := S) xa xb xc xn o1 o2 o3 HO.out HG.out (p := p) (q := q) (l := l') h)
    have RC := Lib.hid (fun (l' : List Thing) (w' : World) (h : RefH W l' rp S w') => rforg_H (S := S) xa xb xc xn o1 o2 o3 HO.out HG.out h)
    have hb : (forgE S xa xb xc xn == forgE S xa xb xc xn) = true := by simp
    generalize hE : forgE S xa xb xc xn = E at *
    clear hE
    generalize hS2 : forgS S xa xb xc xn = S2 at *
    clear hS2
    refine wp_region_K [9, 19] [0, 1, 2, 3, 4, 5, 6, 7, 8, 10, 11, 12, 13, 14, 15, 16, 17, 18, 9, 19, 20, 21] [Cel px (act (xk : Int) (xa : Int) (xb : Int) (xc : Int) xn) 33] H (fun t ht => by rw [List.mem_singleton.1 ht]; (repeat (first | (with_reducible exact List.mem_cons_self) | with_reducible apply List.mem_cons_of_mem))) (by kernel_rfl) (by kernel_rfl) ?_
    iterate 18 (apply wpK_step; (· rfl); (· rfl); (· rfl); (· exact Nat.le_of_ble_eq_true rfl); (· intro l0 hs0 w0 H0; (first | go_big_quiet_skip | ((with_reducible apply wpQ_loadCH); (· first | exact cell_u8 | exact cell_party | exact cell_cur | exact cell_i64); (· rfl); (· rfl); (· exact hs0 _ (List.mem_singleton.2 rfl)); (· with_reducible first | exact act_g0 .. | exact act_g1 .. | exact act_g2 .. | exact act_g3 .. | exact act_g4 ..); (simp only [Act.put, List.setIfInBounds_toArray, List.set_cons_zero, List.set_cons_succ])) | go_big_quiet_step (fail)); (refine wpQuiet_nil ?_); (simp only [Array.getD_eq_getD_getElem?, List.getElem?_toArray, List.getElem?_cons_succ, List.getElem?_cons_zero, Option.getD_some]; rfl)); (simp only [Act.put, List.setIfInBounds_toArray, List.set_cons_zero, List.set_cons_succ]))
    refine wpK_call (f := 23) (argl := [.pointer (some ⟨p, 0, none⟩), .int .u8 (xa : Int), .int .u8 (xb : Int), .int .u8 (xc : Int), .int .i64 xn]) rfl rfl rfl Tryz.call23 rfl ?_
    intro w0 H0
    refine (LC.out _ _ (H0.top2 (.there .here) (.there .here))).mono ?_
    clear H0
    rintro e w1 ⟨rfl, H1⟩
    refine ⟨_, _, rfl, H1, _, Keeps.refl _, fun t ht => by rw [List.mem_singleton.1 ht]; (repeat (first | (with_reducible exact List.mem_cons_self) | with_reducible apply List.mem_cons_of_mem)), ?_⟩
    clear H1
    (simp only [Act.put, List.setIfInBounds_toArray, List.set_cons_zero, List.set_cons_succ])
    refine wpK_call (f := 24) (argl := [.pointer (some ⟨rp, 0, none⟩), .int .u8 (xa : Int), .int .u8 (xb : Int), .int .u8 (xc : Int), .int .i64 xn]) rfl rfl rfl Tryz.call24 rfl ?_
    intro w0 H0
    refine (RC.out _ _ (RefH.shut HL.out.1 HL.out.2 (H0.top3 (.there (.there (.there .here))) (.there (.there (.there .here))) (.there (.there (.there .here)))))).mono ?_
    clear H0
    rintro e w2 ⟨rfl, HH⟩
    obtain ⟨a2, n2, c2, b2, m2, d2, hl3, hl4, _, H1⟩ := HH.open3
    have HL2 := Lib.hid (And.intro hl3 hl4)
    refine ⟨_, _, rfl, H1, _, Keeps.refl _, fun t ht => by rw [List.mem_singleton.1 ht]; (repeat (first | (with_reducible exact List.mem_cons_self) | with_reducible apply List.mem_cons_of_mem)), ?_⟩
    clear H1 HH hl3 hl4
    (simp only [Act.put, List.setIfInBounds_toArray, List.set_cons_zero, List.set_cons_succ])
    iterate 2 (apply wpK_step; (· rfl); (· rfl); (· rfl); (· exact Nat.le_of_ble_eq_true rfl); (· intro l0 hs0 w0 H0; (first | go_big_quiet_skip | fail | go_big_quiet_step (fail)); (refine wpQuiet_nil ?_); (simp only [Array.getD_eq_getD_getElem?, List.getElem?_toArray, List.getElem?_cons_succ, List.getElem?_cons_zero, Option.getD_some]; rfl)); (simp only [Act.put, List.setIfInBounds_toArray, List.set_cons_zero, List.set_cons_succ]))
    (refine wpK_nil ?_; clear H; intro _ H)
    go_wp2_with (go_skip)
    go_ret
    rw [← HD.out]
    exact ⟨rfl, a2, n2, c2, b2, m2, d2, HL2.out.1, HL2.out.2, (H.drop (.there (.there (.there (.there (.there .here)))))).top2 (.there (.there (.there .here))) (.there (.there (.there .here)))⟩
  · have h8 : Int.tmod (xk : Int) 8 = 7 := by rw [Int.tmod_eq_emod_of_nonneg (by omega)]; omega
    have HD := Lib.hid (hD S (by simp [hr, doesS]))
    clear hD hN hroom RM HNB
    go_enter Tryz.func7, Tryz.ntmps7
    go_wp2_with (first | go_skip | ((with_reducible show wpList _ _ _ (_ :: _) _ _); (with_reducible apply wpl_boxRH); (· rfl); (· rfl); (· exact H); (clear H; intro px _ H); (simp only [Act.put, List.setIfInBounds_toArray, List.set_cons_zero, List.set_cons_succ])) | ((with_reducible show wpList _ _ _ (_ :: _) _ _); (with_reducible apply wpl_loadCH); (· first | exact cell_u8 | exact cell_party | exact cell_cur | exact cell_i64); (· rfl); (· rfl); (· exact H); (· (repeat (first | (with_reducible exact List.mem_cons_self) | with_reducible apply List.mem_cons_of_mem))); (· with_reducible first | exact act_g0 .. | exact act_g1 .. | exact act_g2 .. | exact act_g3 .. | exact act_g4 ..); (simp only [Act.put, List.setIfInBounds_toArray, List.set_cons_zero, List.set_cons_succ])))
    go_ret
    rw [← HD.out]
    exact ⟨rfl, a, n, c, b, m, d, HL.out.1, HL.out.2, H.tail⟩
end
end Go.Proofs.YtgobnamhdkbbeaaGreat

/- Distances by breadth: plain laws, with no program in sight. -/
namespace Go.Proofs.YtgobnamhdkbbeaaGreat
set_option linter.unusedVariables false
/-- A value of one more place. -/
def updN {α : Type} (d : Nat → α) (p : Nat) (v : α) : Nat → α := fun q => if q = p then v else d q
/-- How many of the parties have no distance. -/
def und (d : Nat → Nat) : Nat := (List.range' 1 16).countP fun p => d p == 17
theorem countP_upd (d : Nat → Nat) (p v : Nat) (hv : v ≠ 17) (hd : d p = 17) : ∀ (l : List Nat), l.Nodup → l.countP (fun q => updN d p v q == 17) + (if p ∈ l then 1 else 0) = l.countP (fun q => d q == 17)
  | [], _ => by simp
  | x :: l, h => by
    have ih := countP_upd d p v hv hd l (List.nodup_cons.1 h).2
    have hx := (List.nodup_cons.1 h).1
    by_cases e : x = p
    · subst e
      have h1 : (updN d x v x == 17) = false := by simp [updN, hv]
      have h2 : (d x == 17) = true := by simp [hd]
      simp only [List.countP_cons, h1, h2]
      rw [if_neg hx] at ih
      simp
      omega
    · have e2 : updN d p v x = d x := by simp [updN, e]
      have hm : (p ∈ x :: l) ↔ p ∈ l := by
        rw [List.mem_cons]
        exact ⟨fun h => h.resolve_left (fun h => e h.symm), .inr⟩
      simp only [List.countP_cons, e2, hm]
      omega
theorem und_upd {d : Nat → Nat} {p v : Nat} (hv : v ≠ 17) (hd : d p = 17) (h1 : 1 ≤ p) (h2 : p ≤ 16) : und (updN d p v) + 1 = und d := by
  have := countP_upd d p v hv hd (List.range' 1 16) (List.nodup_range' ..)
  rw [if_pos (by rw [List.mem_range']; exact ⟨p - 1, by omega, by omega⟩)] at this
  exact this
theorem und_le (d : Nat → Nat) : und d ≤ 16 := by
  have := List.countP_le_length (p := fun p => d p == 17) (l := List.range' 1 16)
  simpa [und] using this
/-- The state ahead of a round: who has a distance, and who waits. -/
structure Bfs (A : Nat → Nat → Bool) (t : Nat) (d : Nat → Nat) (Q : List Nat) : Prop where
  top : d t = 0
  le : ∀ p, d p ≤ 17
  ins : ∀ p, d p < 17 → 1 ≤ p ∧ p ≤ 16
  qd : ∀ q ∈ Q, d q < 17
  near : ∀ q ∈ Q, ∀ p, d p < 17 → d p ≤ d q + 1
  sort : Q.Pairwise fun x y => d x ≤ d y
  closed : ∀ q, d q < 17 → q ∉ Q → ∀ p, A p q = true → d p ≤ d q + 1
  par : ∀ p, d p < 17 → p ≠ t → ∃ q, A p q = true ∧ d q + 1 = d p
  cnt : ∀ p, d p < 17 → d p + und d ≤ 15
/-- The state in the midst of a round: a is gone through, up to k. -/
structure BfsIn (A : Nat → Nat → Bool) (t : Nat) (d : Nat → Nat) (Q : List Nat) (a k : Nat) : Prop where
  top : d t = 0
  le : ∀ p, d p ≤ 17
  ins : ∀ p, d p < 17 → 1 ≤ p ∧ p ≤ 16
  qd : ∀ q ∈ Q, d q < 17
  near : ∀ q ∈ Q, ∀ p, d p < 17 → d p ≤ d q + 1
  sort : Q.Pairwise fun x y => d x ≤ d y
  ad : d a < 17
  nearA : ∀ p, d p < 17 → d p ≤ d a + 1
  sortA : ∀ q ∈ Q, d a ≤ d q
  closed : ∀ q, d q < 17 → q ∉ Q → q ≠ a → ∀ p, A p q = true → d p ≤ d q + 1
  part : ∀ p, p < k → A p a = true → d p ≤ d a + 1
  par : ∀ p, d p < 17 → p ≠ t → ∃ q, A p q = true ∧ d q + 1 = d p
  cnt : ∀ p, d p < 17 → d p + und d ≤ 15
section
variable {A : Nat → Nat → Bool} {t a k : Nat} {d : Nat → Nat} {Q : List Nat}
/-- No distance. -/
def farN : Nat → Nat := fun _ => 17
theorem farN_at (p : Nat) : farN p = 17 := rfl
theorem Bfs.start (h1 : 1 ≤ t) (h2 : t ≤ 16) : Bfs A t (updN farN t 0) [t] := by
  have hd : ∀ p, updN farN t 0 p < 17 → p = t := fun p hp => by
    unfold updN at hp
    split at hp
    · assumption
    · rw [farN_at] at hp; omega
  have hu : und (updN farN t 0) ≤ 15 := by
    have := und_upd (d := farN) (p := t) (v := 0) (by omega) rfl h1 h2
    have := und_le farN
    omega
  have ht : updN farN t 0 t = 0 := by simp [updN]
  have hle : ∀ p, updN farN t 0 p ≤ 17 := fun p => by
    unfold updN
    split
    · omega
    · rw [farN_at]; omega
  refine ⟨ht, hle, fun p hp => (by rw [hd p hp]; exact ⟨h1, h2⟩), fun q hq => (by simp at hq; subst hq; rw [ht]; omega), fun q hq p hp => (by rw [hd p hp, ht]; omega), List.pairwise_singleton _ _, fun q hq hn => ?_, fun p hp hn => absurd (hd p hp) hn, fun p hp => (by rw [hd p hp, ht]; omega)⟩
  rw [hd q hq] at hn
  simp at hn
theorem BfsIn.no (h : BfsIn A t d Q a k) (hk : ¬ (d k = 17 ∧ A k a = true)) : BfsIn A t d Q a (k + 1) :=
  ⟨h.top, h.le, h.ins, h.qd, h.near, h.sort, h.ad, h.nearA, h.sortA, h.closed, fun p hp hA => (by
      by_cases e : p = k
      · subst e
        have : d p ≠ 17 := fun e => hk ⟨e, hA⟩
        have := h.le p
        exact h.nearA p (by omega)
      · exact h.part p (by omega) hA), h.par, h.cnt⟩
theorem BfsIn.yes (h : BfsIn A t d Q a k) (hd : d k = 17) (hA : A k a = true) (h1 : 1 ≤ k) (h2 : k ≤ 16) : BfsIn A t (updN d k (d a + 1)) (Q ++ [k]) a (k + 1) ∧ und (updN d k (d a + 1)) + 1 = und d := by
  have hka : a ≠ k := fun e => by have := h.ad; rw [e] at this; omega
  have hca := h.cnt a h.ad
  have hu : und (updN d k (d a + 1)) + 1 = und d := und_upd (by omega) hd h1 h2
  have old : ∀ p, p ≠ k → updN d k (d a + 1) p = d p := fun p hp => by simp [updN, hp]
  have new : updN d k (d a + 1) k = d a + 1 := by simp [updN]
  have hqk : ∀ q ∈ Q, q ≠ k := fun q hq e => by have := h.qd q hq; rw [e] at this; omega
  have htk : t ≠ k := fun e => by have := h.top; rw [e] at this; omega
  refine ⟨⟨by rw [old t htk]; exact h.top, fun p => ?_, fun p hp => ?_, fun q hq => ?_, fun q hq p hp => ?_, ?_, by rw [old a hka]; exact h.ad, fun p hp => ?_, fun q hq => ?_, fun q hq hn hne p hAp => ?_, fun p hp hAp => ?_, fun p hp hne => ?_, fun p hp => ?_⟩, hu⟩
  · by_cases e : p = k
    · subst e; rw [new]; omega
    · rw [old p e]; exact h.le p
  · by_cases e : p = k
    · subst e; exact ⟨h1, h2⟩
    · rw [old p e] at hp; exact h.ins p hp
  · rcases List.mem_append.1 hq with hq | hq
    · rw [old q (hqk q hq)]; exact h.qd q hq
    · obtain rfl : q = k := by simpa using hq
      rw [new]; omega
  · have hp' : updN d k (d a + 1) p ≤ d a + 1 := by
      by_cases e : p = k
      · subst e; rw [new]; omega
      · rw [old p e] at hp ⊢; exact h.nearA p hp
    rcases List.mem_append.1 hq with hq | hq
    · rw [old q (hqk q hq)]
      have := h.sortA q hq
      omega
    · obtain rfl : q = k := by simpa using hq
      rw [new]; omega
  · rw [List.pairwise_append]
    refine ⟨?_, List.pairwise_singleton _ _, fun x hx y hy => ?_⟩
    · refine h.sort.imp_of_mem fun hx hy hxy => ?_
      rw [old _ (hqk _ hx), old _ (hqk _ hy)]; exact hxy
    · obtain rfl : y = k := by simpa using hy
      rw [old x (hqk x hx), new]
      exact h.nearA x (h.qd x hx)
  · rw [old a hka]
    by_cases e : p = k
    · subst e; rw [new]; omega
    · rw [old p e] at hp ⊢; exact h.nearA p hp
  · rw [old a hka]
    rcases List.mem_append.1 hq with hq | hq
    · rw [old q (hqk q hq)]; exact h.sortA q hq
    · obtain rfl : q = k := by simpa using hq
      rw [new]; omega
  · have hqk' : q ≠ k := fun e => hn (by simp [e])
    rw [old q hqk'] at hq ⊢
    have := h.closed q hq (fun hm => hn (by simp [hm])) hne p hAp
    by_cases e : p = k
    · subst e; rw [hd] at this; omega
    · rw [old p e]; exact this
  · rw [old a hka]
    by_cases e : p = k
    · subst e; rw [new]; omega
    · rw [old p e]; exact h.part p (by omega) hAp
  · by_cases e : p = k
    · subst e
      exact ⟨a, hA, by rw [old a hka, new]⟩
    · rw [old p e] at hp
      obtain ⟨q, hq, he⟩ := h.par p hp hne
      have hqk' : q ≠ k := fun e2 => by rw [e2, hd] at he; have := h.le p; omega
      exact ⟨q, hq, by rw [old q hqk', old p e]; exact he⟩
  · by_cases e : p = k
    · subst e; rw [new]; omega
    · rw [old p e] at hp ⊢
      have := h.cnt p hp
      omega
theorem BfsIn.done (h : BfsIn A t d Q a 17) (hA : ∀ p q, A p q = true → p ≤ 16) : Bfs A t d Q :=
  ⟨h.top, h.le, h.ins, h.qd, h.near, h.sort, fun q hq hn p hAp => (by
    by_cases e : q = a
    · subst e; exact h.part p (by have := hA p q hAp; omega) hAp
    · exact h.closed q hq hn e p hAp), h.par, h.cnt⟩
end
end Go.Proofs.YtgobnamhdkbbeaaGreat

/- Parties that may be; rows of 17; a party's cell. -/
namespace Go.Proofs.YtgobnamhdkbbeaaGreat
open Go.RowKit
set_option linter.unusedSimpArgs false
set_option linter.unusedVariables false
def row17 (r : Nat → Int) : Array Value := tab 17 fun i => .int .i64 (r i)
theorem row17_sz (c : Nat → Int) : (row17 c).size = 17 := tab_size _ _
/-- May a party be? -/
def mayP (a : Nat) : Bool := decide (1 ≤ a) && decide (a ≤ 16)
theorem mayP_true {a : Nat} (h : mayP a = true) : 1 ≤ a ∧ a ≤ 16 := by simpa [mayP] using h
theorem cell_int : CellTy 3 := ⟨⟨_, Tryz.underlying3, rfl⟩, by kernel_rfl⟩
theorem slP : SlTy Tryz.prog 58 30 1 1 (.int .u8 0) := slTy_mk Tryz.underlying58 (by kernel_rfl) rfl (by decide)
theorem bs_party : Tryz.prog.underlying 58 = some (.slice 30) ∧ (Tryz.prog.info? 30).map (fun i => (i.size, i.zero)) = some (1, some (.int .u8 0)) := ⟨Tryz.underlying58, by kernel_rfl⟩
theorem row_17i : RowTy 144 17 (row17 fun _ => 0) := ⟨⟨_, Tryz.underlying144, rfl⟩, by kernel_rfl, by kernel_rfl⟩
theorem row17_get (r : Nat → Int) {i : Nat} (h : i < 17) : (row17 r)[i]? = some (.int .i64 (r i)) := tab_get _ h
theorem row17_set (r : Nat → Int) {i : Nat} (h : i < 17) (v : Int) : (row17 r).setIfInBounds i (.int .i64 v) = row17 (updN r i v) := by
  unfold row17
  rw [tab_set _ _ h]
  apply tab_congr
  intro j hj
  unfold updN
  split <;> rfl
def pv (p : Nat) : Value := .int .u8 (p : Int)
theorem pv_ones (p : Nat) : ∀ v ∈ [Value.int .u8 (p : Int)], v.cells = #[v] := by intro v hv; simp at hv; subst hv; rfl
theorem pv_one (p : Nat) : OneCells [Value.int .u8 (p : Int)] := by intro v hv; simp at hv; subst hv; rfl
end Go.Proofs.YtgobnamhdkbbeaaGreat

/- Flows in memory. -/
namespace Go.Proofs.YtgobnamhdkbbeaaGreat
open Go.RowKit
set_option linter.unusedSimpArgs false
set_option linter.unusedVariables false
/-- A flow: from, to, how much. -/
structure Flw where
  f : Nat
  t : Nat
  n : Int
def flwV (x : Flw) : List Value := [.int .u8 (x.f : Int), .int .u8 (x.t : Int), .int .i64 x.n]
def flwL (F : List Flw) : List Value := F.flatMap flwV
theorem flwL_len (F : List Flw) : (flwL F).length = F.length * 3 := by
  induction F with
  | nil => rfl
  | cons x F ih => simp only [flwL, List.flatMap_cons, List.length_append] at *; rw [ih]; simp [flwV, Nat.add_mul]; omega
theorem flwL_at (F : List Flw) (i : Nat) (h : i < F.length) : ((flwL F).drop (i * 3)).take 3 = flwV F[i] := by
  induction F generalizing i with
  | nil => simp at h
  | cons x F ih =>
    rcases i with _ | i
    · simp [flwL, flwV]
    · have : (i + 1) * 3 = 3 + i * 3 := by omega
      rw [this, ← List.drop_drop]
      simp only [List.length_cons] at h
      have := ih i (by omega)
      simpa [flwL, flwV] using this
/-- Such as can be: numbers of their types. -/
def FlwOk (x : Flw) : Prop := x.f ≤ 255 ∧ x.t ≤ 255 ∧ -9223372036854775808 ≤ x.n ∧ x.n ≤ 9223372036854775807
def flow (f : Int) (t : Int) (n : Int) : Array Value := #[.int .u8 f, .int .u8 t, .int .i64 n]
section
variable (f : Int) (t : Int) (n : Int)
theorem flow_sz : (flow f t n).size = 3 := rfl
theorem flow_g0 : (flow f t n)[0]? = some (.int .u8 f) := rfl
theorem flow_g1 : (flow f t n)[1]? = some (.int .u8 t) := rfl
theorem flow_g2 : (flow f t n)[2]? = some (.int .i64 n) := rfl
end
theorem flow_all (f t n : Int) : (flow f t n).extract 0 (0 + 3) = flow f t n := by simp [flow]
theorem flow_cells (f t n : Int) : Cells 3 (flow f t n) := ⟨rfl, by simp [flow, Value.oneCell']⟩
theorem flow_splice (a b c f t n : Int) : splice (flow a b c) 0 (flow f t n) = flow f t n := splice_all rfl
theorem row_flow : RowTy 53 3 (flow 0 0 0) := ⟨⟨_, Tryz.underlying53, rfl⟩, by kernel_rfl, by kernel_rfl⟩
theorem slF : SlTy Tryz.prog 36 53 3 16 (.agg (flow 0 0 0)) := slTy_mk Tryz.underlying36 (by kernel_rfl) rfl (by decide)
theorem bs_flow : Tryz.prog.underlying 36 = some (.slice 53) ∧ (Tryz.prog.info? 53).map (fun i => (i.size, i.zero.map Value.cells)) = some ((flow 0 0 0).size, some (flow 0 0 0)) ∧ 0 < (flow 0 0 0).size ∧ (flow 0 0 0).size ≤ 65536 := ⟨Tryz.underlying36, by kernel_rfl, by decide, by decide⟩
end Go.Proofs.YtgobnamhdkbbeaaGreat
