/- Part 5 of what ProofNettingsPlay stands on: HeapSlide, Grw, CmpP, LedSort, LedOrd, PwExt, SortG, SortH, Full, Append, Led7, Led8, Led9, HeapLoud. -/
import Derived.Test.YtgobnamhdkbbeaaGreatNetPPart4
import Derived.Sort.Grow
import Derived.Lib.Small
import Derived.Shelf.SlSortCmp.WholeK
import Derived.RowKit
import Derived.Test.YtgobnamhdkbbeaaGreatShelfL
/- Rows of one's own that begin anywhere in their block (a queue: s = s[1:], s = append(s, x)). -/
namespace Go.Proofs.YtgobnamhdkbbeaaGreat
open Go.RowKit
set_option linter.unusedSimpArgs false
set_option linter.unusedVariables false
/-- A row of a slice's value v, wherever in its block. -/
def OwnT (e size : Nat) (v : Value) (n : Nat) (xs : List Value) : Thing := ⟨v.ownBlock, fun w => Own w 0 e size v n xs, fun w w' h ho => ho.same h⟩
theorem RowT.own {w : World} {e size n : Nat} {v : Value} {xs : List Value} (h : (RowT e size v n xs).ok w) : (OwnT e size v n xs).ok w := Own.ofRow h
theorem Heap.slide {W w : World} {l : List Thing} {e size n : Nat} {v : Value} {xs : List Value} (H : Heap W (RowT e size v n xs :: l) w) : Heap W (OwnT e size v n xs :: l) w :=
  H.head (World.grownBy.refl _ _) (RowT.own (H.ok _ List.mem_cons_self)) (.inl rfl)
theorem Heap.ownRd {W w : World} {l : List Thing} {e size n c : Nat} {a : Option Addr} {xs : List Value} (H : Heap W l w) (m : OwnT e size (.slice a n c) n xs ∈ l) : Rd w a xs := by
  obtain ⟨ao, c', he, hr, _⟩ := Own.rd (H.ok _ m)
  simp only [Value.slice.injEq, true_and] at he
  obtain ⟨rfl, _⟩ := he
  exact hr
theorem OwnT.form {w : World} {e size n : Nat} {v : Value} {xs : List Value} (h : (OwnT e size v n xs).ok w) (hn : 0 < n) : ∃ g o c, v = .slice (some ⟨g, o, none⟩) n c ∧ n ≤ c ∧ c ≤ maxLen := by
  obtain ⟨_, ⟨_, rfl⟩ | ⟨g, off, cap, cur, rfl, _, _, h1, h2, _⟩⟩ := h
  · omega
  · exact ⟨g, off, cap, rfl, h1, h2⟩
/-- s[1:]. -/
theorem Own.tail {w : World} {base e size g off n c : Nat} {xs : List Value} (h : Own w base e size (.slice (some ⟨g, off, none⟩) n c) n xs) (hn : 1 ≤ n) :
    Own w base e size (.slice (cutA (some ⟨g, off, none⟩) c 1 size) (n - 1) (c - 1)) (n - 1) (xs.drop size) := by
  obtain ⟨hl, ⟨hv, _⟩ | ⟨g', off', cap, cur, hv, hb, hg, hnc, hcm, hs, ht⟩⟩ := h
  · cases hv
  · simp only [Value.slice.injEq, Option.some.injEq, Addr.mk.injEq, true_and] at hv
    obtain ⟨⟨rfl, rfl, _⟩, rfl⟩ := hv
    have hsz : n * size = size + (n - 1) * size := by
      obtain ⟨k, rfl⟩ : ∃ k, n = k + 1 := ⟨n - 1, by omega⟩
      rw [Nat.add_sub_cancel, Nat.add_mul]; omega
    refine ⟨by simp [hl]; omega, .inr ?_⟩
    by_cases hc : c = 1
    · subst hc
      obtain rfl : n = 1 := by omega
      refine ⟨g, off, 0, cur, by simp [cutA], hb, hg, by omega, by omega, by omega, ?_⟩
      simp only [Nat.sub_self, Nat.zero_mul, List.take_zero]
      rw [List.drop_of_length_le (by rw [hl]; omega)]
    · refine ⟨g, off + size, c - 1, cur, by simp [cutA, hc, addr_add], hb, hg, by omega, by omega, ?_, ?_⟩
      · have : c * size = size + (c - 1) * size := by
          obtain ⟨k, rfl⟩ : ∃ k, c = k + 1 := ⟨c - 1, by omega⟩
          rw [Nat.add_sub_cancel, Nat.add_mul]; omega
        omega
      · rw [← ht, hsz, List.drop_take, List.drop_drop, Nat.add_sub_cancel_left]
theorem Heap.ownTail {W w : World} {l : List Thing} {e size g off n c : Nat} {xs : List Value} (H : Heap W (OwnT e size (.slice (some ⟨g, off, none⟩) n c) n xs :: l) w) (hn : 1 ≤ n) :
    Heap W (OwnT e size (.slice (cutA (some ⟨g, off, none⟩) c 1 size) (n - 1) (c - 1)) (n - 1) (xs.drop size) :: l) w := by
  refine H.head (World.grownBy.refl _ _) (Own.tail (H.ok _ List.mem_cons_self) hn) (.inl ?_)
  unfold OwnT cutA
  simp only
  split
  · rfl
  · simp [Value.ownBlock, Addr.add]
    split <;> rfl
section
variable {P : Program}
end
section
variable {ops : Array Oper} {rest : List Oper} {o : Oper} {a : Act} {w W : World} {l : List Thing} {Q : Exit → Act → World → Prop}
theorem wpl_loadCell {T : TypeId} {dst : Option Tmp} {ty : TypeId} {pos : String} {after : Array Edge} {guard : Option (Nat × Bool)} {x : Operand} {b off : Nat} (CT : CellTy T) (hw : Region.wanted ⟨dst, .load T x, ty, pos, after, guard⟩ (yielded ops a.tmps) = true) (hx : a.eval x = .pointer (some ⟨b, off, none⟩))
    {v : Value} (hc : w.cell? ⟨b, off, none⟩ = some v) (h : wpList Tryz.prog ops Q rest (a.put dst v) w) : wpList Tryz.prog ops Q (⟨dst, .load T x, ty, pos, after, guard⟩ :: rest) a w := by
  simp only [World.cell?, if_true] at hc
  cases hb : w.heap[b]? with
  | none => rw [hb] at hc; cases hc
  | some o =>
    rw [hb] at hc
    cases o <;> first | (cases hc; done) | skip
    rename_i cs t f
    exact wpl_loadC CT hw hx hb hc h
theorem wpl_cut1 {t e size bytes : Nat} {z : Value} (T : SlTy Tryz.prog t e size bytes z) {dst : Option Tmp} {ty : TypeId} {pos : String} {after : Array Edge} {guard : Option (Nat × Bool)} {x : Operand} (hw : Region.wanted ⟨dst, .slice t x (some (.const (.int .i64 1))) none none, ty, pos, after, guard⟩ (yielded ops a.tmps) = true)
    {ao : Option Addr} {n c : Nat} (hx : a.eval x = .slice ao n c) (hn : 1 ≤ n) (h : wpList Tryz.prog ops Q rest (a.put dst (.slice (cutA ao c 1 size) (n - 1) (c - 1))) w) : wpList Tryz.prog ops Q (⟨dst, .slice t x (some (.const (.int .i64 1))) none none, ty, pos, after, guard⟩ :: rest) a w := by
  refine wpl_pure hw _ (fun w => ?_) h
  have hr : (Instr.slice t (.slice ao n c) (some (.int .i64 1)) none none).run Tryz.prog w = .ok (.slice (cutA ao c 1 size) (n - 1) (c - 1)) w := run_cutFrom (P := Tryz.prog) T ao n c 1 .i64 hn w
  have hs : (Instr.sliceAt t (.slice ao n c) (some (.int .i64 1)) none none).run Tryz.prog w = .ok (.slice (cutA ao c 1 size) (n - 1) (c - 1)) w := by
    unfold Instr.sliceAt
    rw [Sem.run_bind, run_underlying T.und]
    simp only [Result.andThen_ok]
    exact hr
  have e : (some (Operand.const (.int .i64 1))).map a.eval = some (.int .i64 1) := rfl
  unfold execOp
  simp only [hx, e, Option.map_none, Sem.run_bind, hs, Result.andThen_ok, Sem.run_pure]
/-- A block as a row that is full. -/
theorem Heap.celOwn {W w : World} {l : List Thing} {g e size n : Nat} {c : Array Value} (H : Heap W (Cel g c e :: l) w) (hc : c.size = n * size) (hn : n ≤ maxLen) : Heap W (OwnT e size (.slice (some ⟨g, 0, none⟩) n n) n c.toList :: l) w :=
  H.head (World.grownBy.refl _ _) ⟨by simpa using hc, .inr ⟨g, 0, n, c, rfl, Nat.zero_le _, H.blk List.mem_cons_self, Nat.le_refl _, hn, by omega, by rw [List.drop_zero, List.take_of_length_le (by simp [hc])]⟩⟩ (.inl rfl)
/-- make([]T, n, m). -/
theorem wpl_makeC {t e size bytes : Nat} {z : Value} (T : SlTy Tryz.prog t e size bytes z) {dst : Option Tmp} {ty : TypeId} {pos : String} {after : Array Edge} {guard : Option (Nat × Bool)} {x y : Operand} (hw : Region.wanted ⟨dst, .makeSlice t x y, ty, pos, after, guard⟩ (yielded ops a.tmps) = true)
    {kl kc : IntKind} {L C : Int} (n m : Nat) (hx : a.eval x = .int kl L) (hy : a.eval y = .int kc C) (hL : L = (n : Int)) (hC : C = (m : Int)) (hnm : n ≤ m) (hm : m ≤ 65536) (hb : bytes * m ≤ 281474976710656)
    (H : Heap W l w) (h : ∀ p w', Heap W (Cel p (madeCells z.cells (m * size)) e :: l) w' → wpList Tryz.prog ops Q rest (a.put dst (.slice (some ⟨p, 0, none⟩) n m)) w') : wpList Tryz.prog ops Q (⟨dst, .makeSlice t x y, ty, pos, after, guard⟩ :: rest) a w := by
  subst hL hC
  obtain ⟨i, hi, hz, hsi, hbi⟩ := T.inf
  subst hsi hbi
  have hb2 : (i.bytes : Int) * (m : Int) ≤ 281474976710656 := by rw [← Int.natCast_mul]; omega
  have hr := run_make (P := Tryz.prog) w t e i z T.und hi hz kl kc (n : Int) (m : Int) (by omega) (by omega) hb2 (by omega)
  simp only [Int.toNat_natCast] at hr
  refine BigFrame.wpList_want hw fun K hK => ?_
  unfold Oper.wp execOp
  simp only [hx, hy, Sem.run_bind, hr, Result.andThen_ok, Sem.run_pure]
  exact hK _ _ (h _ _ (H.alloc _ _))
end
end Go.Proofs.YtgobnamhdkbbeaaGreat

/- Worlds that are others grown: some draws on, some blocks behind. cmp.Compare, cmp.Or. -/
namespace Go.Proofs.YtgobnamhdkbbeaaGreat
open Go.RowKit Go.Sort
set_option linter.unusedSimpArgs false
set_option linter.unusedVariables false
def Grw (w w' : World) : Prop := ∃ q os, w' = grow (w.drewN q) os
theorem Grw.refl (w : World) : Grw w w := ⟨0, #[], by rw [grow_empty]; rfl⟩
theorem Grw.trans {a b c : World} (h : Grw a b) (k : Grw b c) : Grw a c := by
  obtain ⟨q, os, rfl⟩ := h
  obtain ⟨q', os', rfl⟩ := k
  exact ⟨q + q', os ++ os', by rw [show (grow (a.drewN q) os).drewN q' = grow ((a.drewN q).drewN q') os from rfl, grow_grow]; simp [World.drewN, grow, Nat.add_assoc]⟩
theorem Grw.alloc {a b : World} (h : Grw a b) (o : Obj) : Grw a (b.alloc o) := h.trans ⟨0, #[o], by rw [alloc_eq_grow]; rfl⟩
theorem Grw.drew {a b : World} (h : Grw a b) : Grw a b.drew := h.trans ⟨1, #[], by rw [grow_empty]; rfl⟩
theorem Grw.old {a b : World} (h : Grw a b) {k : Nat} (hk : k < a.heap.size) : b.heap[k]? = a.heap[k]? := by
  obtain ⟨q, os, rfl⟩ := h
  exact heap_grow_old _ _ hk
theorem Grw.size {a b : World} (h : Grw a b) : a.heap.size ≤ b.heap.size := by
  obtain ⟨q, os, rfl⟩ := h
  simp [grow, World.drewN]
theorem Grw.blk {a b : World} (h : Grw a b) {p : Nat} {o : Obj} (hb : blk a p = some o) : blk b p = some o := (h.old (Array.getElem?_eq_some_iff.1 hb).1).trans hb
theorem Grw.below {a b : World} (h : Grw a b) : Below a.heap.size a b := by
  obtain ⟨q, os, rfl⟩ := h
  exact ⟨rfl, rfl, rfl, by simp [grow, World.drewN], fun k hk => heap_grow_old _ _ hk⟩
open Classical in
noncomputable def World.gr (w d : World) : World := if Grw w d then d else w
theorem gr_grw (w d : World) : Grw w (World.gr w d) := by
  unfold World.gr
  split
  · assumption
  · exact .refl _
theorem gr_of {w w' : World} (h : Grw w w') : ∃ d, w' = World.gr w d := ⟨w', by unfold World.gr; rw [if_pos h]⟩
/-- Called so it answers v, in whatever world, which is then some draws on, with blocks behind. -/
def AnsG (f : FuncId) (args : Array Value) (v : Value) : Prop := ∀ w, Calls Tryz.prog f args w fun e w' => e = .returned v ∧ Grw w w'
theorem AnsG.quiet {f : FuncId} {args : Array Value} {v : Value} {W d : World} (h : AnsG f args v) : Calls Tryz.prog f args (World.gr W d) fun e w'' => e = .returned v ∧ ∃ m, w'' = World.gr W m :=
  (h _).mono fun _ _ ⟨he, hg⟩ => ⟨he, gr_of ((gr_grw W d).trans hg)⟩
theorem AnsG.ans {f : FuncId} {args : Array Value} {v : Value} (h : AnsG f args v) : Ans f args v := fun w => (h w).mono fun _ _ ⟨he, hg⟩ => ⟨he, hg.below⟩
section
variable {ops : Array Oper} {rest : List Oper} {a : Act} {w W : World} {Q : Exit → Act → World → Prop}
theorem wp_region_G_tail {id : Nat} {lo : List Oper} (n : Nat) (hm : Tryz.prog.follows .mixedOrders = true) (hB : Region.lexTailB .any lo.toArray n = true)
    (h : wpQuiet Tryz.prog lo.toArray (fun w' => ∃ d, w' = World.gr W d) (fun a' => ∀ w', Grw W w' → wpList Tryz.prog lo.toArray Q (lo.drop n) a' w') (lo.take n) a) : (Code.region id lo.toArray true).wp Tryz.prog Q a W :=
  wp_region_tail (C := fun w' => ∃ d, w' = World.gr W d) n hm hB (gr_of (Grw.refl W).drew) (wpQuiet_mono (fun _ h w' hw' => by obtain ⟨d, rfl⟩ := hw'; exact h _ (gr_grw _ _)) _ _ h)
theorem wpQ_loadCG {T : TypeId} {dst : Option Tmp} {ty : TypeId} {pos : String} {after : Array Edge} {guard : Option (Nat × Bool)} {x : Operand} {b off : Nat} {K : Act → Prop} (CT : CellTy T) (hw : Region.wanted ⟨dst, .load T x, ty, pos, after, guard⟩ (yielded ops a.tmps) = true) (hx : a.eval x = .pointer (some ⟨b, off, none⟩))
    {c : Array Value} {v : Value} {t : TypeId} (hb : blk W b = some (.cells c t (0, 0))) (hv : c[off]? = some v)
    (h : wpQuiet Tryz.prog ops (fun w' => ∃ d, w' = World.gr W d) K rest (a.put dst v)) : wpQuiet Tryz.prog ops (fun w' => ∃ d, w' = World.gr W d) K (⟨dst, .load T x, ty, pos, after, guard⟩ :: rest) a := by
  refine BigFrame.wpQuiet_want hw fun K hK => ⟨_, ?_, hK _ h⟩
  rintro _ ⟨d, rfl⟩
  unfold Oper.quietAt execOp
  simp only [hx, Sem.run_bind, run_loadC CT ((gr_grw W d).blk hb) hv]
  exact ⟨rfl, rfl⟩
end
/-- The first that is not 0. -/
def orL : List Int → Int
  | [] => 0
  | x :: xs => if x ≠ 0 then x else orL xs
set_option maxRecDepth 100000
set_option maxHeartbeats 1000000
theorem or_C (b n c : Nat) (xs : List Int) (hl : xs.length = n) (hn : n ≤ 1000) (w : World) (R : Rd w (some ⟨b, 0, none⟩) (xs.map (Value.int .i64))) :
    Calls Tryz.prog 30 #[.slice (some ⟨b, 0, none⟩) n c] w fun e w' => e = .returned (.int .i64 (orL xs)) ∧ w' = w := by
  have HL := Lib.hid hl
  have HR := Lib.hid R
  clear R hl
  go_enter Tryz.func30, Tryz.ntmps30
  go_wp2_with (go_skip)
  have hstart : orL xs = orL (xs.drop 0) := rfl
  go_loopw [8] (fun i wr => ∃ k : Nat, k ≤ n ∧ i = .int .i64 k ∧ orL xs = orL (xs.drop k) ∧ wr = w) (fun i _ => n - (intOf i).toNat)
  case atStart => exact ⟨0, Nat.zero_le _, rfl, hstart, rfl⟩
  case round =>
    obtain ⟨k, hk, rfl, hO, rfl⟩ := hrel
    clear hstart
    by_cases hlt : k < n
    · have hkx : k < xs.length := by rw [HL.out]; exact hlt
      have hc : wr.cell? ⟨b, k, none⟩ = some (.int .i64 xs[k]) := by
        have := HR.out.get (i := k) (by simpa using hkx)
        simpa using this
      rw [List.drop_eq_getElem_cons hkx] at hO
      generalize xs[k] = x at *
      by_cases h0 : x = 0
      · subst h0
        have HO := Lib.hid (show orL xs = orL (xs.drop (k + 1)) from hO.trans (by rw [orL, if_neg (fun h => h rfl)]))
        clear hO
        go_wp2_with (go_skip)
        refine ⟨⟨k + 1, by omega, by go_num, HO.out, by trivial⟩, ?measure⟩
        case measure => simp [intOf]; omega
      · have HO := Lib.hid (show orL xs = x from hO.trans (by rw [orL, if_pos h0]))
        clear hO
        have e0 : (x != 0) = true := by simpa using h0
        go_wp2_with (go_skip)
        go_ret
        exact ⟨by rw [HO.out]; rfl, rfl⟩
    · obtain rfl : k = n := by omega
      rw [List.drop_of_length_le (by rw [HL.out]; omega)] at hO
      have HO := Lib.hid (show orL xs = 0 from hO)
      clear hO
      go_wp2_with (go_skip)
      go_ret
      exact ⟨by rw [HO.out]; rfl, rfl⟩
end Go.Proofs.YtgobnamhdkbbeaaGreat

/- cmp.Compare of parties. -/
namespace Go.Proofs.YtgobnamhdkbbeaaGreat
open Go.RowKit Go.Sort
set_option linter.unusedSimpArgs false
set_option linter.unusedVariables false
set_option maxRecDepth 100000
set_option maxHeartbeats 1000000
theorem nanP_ans (x : Int) (w : World) : Calls Tryz.prog 57 #[.int .u8 x] w fun e w' => e = .returned (.bool false) ∧ w' = w := by
  go_enter Tryz.func57, Tryz.ntmps57
  go_wp2_with (go_skip)
  go_ret
  exact ⟨by simp, rfl⟩
theorem cmpP_ans (x y : Int) (w : World) : Calls Tryz.prog 31 #[.int .u8 x, .int .u8 y] w fun e w' => e = .returned (.int .i64 (Lib.compareInt x y)) ∧ w' = w := by
  have c1 := nanP_ans x
  have c2 := nanP_ans y
  have key : (x < y ∧ Lib.compareInt x y = -1) ∨ (¬ x < y ∧ y < x ∧ Lib.compareInt x y = 1) ∨ (¬ x < y ∧ ¬ y < x ∧ Lib.compareInt x y = 0) := by
    unfold Lib.compareInt
    by_cases h : x < y
    · exact .inl ⟨h, by rw [if_pos h]⟩
    · by_cases h2 : y < x
      · exact .inr (.inl ⟨h, h2, by rw [if_neg h, if_pos h2]⟩)
      · exact .inr (.inr ⟨h, h2, by rw [if_neg h, if_neg h2]⟩)
  rcases key with ⟨h, e⟩ | ⟨h, h2, e⟩ | ⟨h, h2, e⟩
  all_goals
    rw [e]
    clear e
    go_enter Tryz.func31, Tryz.ntmps31
    go_wp2_with (first | go_skip | ((refine (c1 _).mono ?_); rintro e w' ⟨rfl, rfl⟩) | ((refine (c2 _).mono ?_); rintro e w' ⟨rfl, rfl⟩))
    go_ret
    exact ⟨rfl, rfl⟩
theorem AnsG.same {f : FuncId} {args : Array Value} {v : Value} (h : ∀ w, Calls Tryz.prog f args w fun e w' => e = .returned v ∧ w' = w) : AnsG f args v := fun w => (h w).mono fun _ _ ⟨he, hw⟩ => ⟨he, hw ▸ Grw.refl _⟩
end Go.Proofs.YtgobnamhdkbbeaaGreat

/- The lines of a ledger in order. -/
namespace Go.Proofs.YtgobnamhdkbbeaaGreat
open Go.RowKit Go.Sort
instance : Inhabited Lin := ⟨⟨0, 0, 0, 0, 0⟩⟩
def linV (x : Lin) : List Value := [.int .u8 x.cr, .int .u8 x.db, .int .u8 x.cu, .int .i64 x.lim, .int .i64 x.deb]
def linL (L : List Lin) : List Value := L.flatMap linV
theorem linL_len (L : List Lin) : (linL L).length = L.length * 5 := by
  induction L with
  | nil => rfl
  | cons x F ih => simp only [linL, List.flatMap_cons, List.length_append] at *; rw [ih]; simp [linV, Nat.add_mul]; omega
theorem linL_app (F G : List Lin) : linL (F ++ G) = linL F ++ linL G := by simp [linL]
theorem linL_at : ∀ (L : List Lin) (k : Nat) (h : k < L.length), ((linL L).drop (k * 5)).take 5 = linV L[k]
  | [], k, h => by simp at h
  | x :: L, 0, _ => by simp [linL, linV]
  | x :: L, k + 1, h => by
    have := linL_at L k (by simpa using h)
    rw [List.getElem_cons_succ, ← this]
    rw [show linL (x :: L) = linV x ++ linL L by simp [linL]]
    rw [show (k + 1) * 5 = (linV x).length + k * 5 by simp [linV]; omega, List.drop_length_add_append]
theorem linL_row (L : List Lin) (k : Nat) (h : k < L.length) : (((linL L).drop (k * 5)).take 5).toArray = line L[k].cr L[k].db L[k].cu L[k].lim L[k].deb := by
  rw [linL_at L k h]; rfl
theorem flatK_lin (d : Array Lin) : flatK linV 5 d = (linL d.toList).toArray := by
  refine Go.Sort.ext_get! (by simp [linL_len]) fun t ht => ?_
  have ht' : t < d.size * 5 := by simpa using ht
  rw [get_flatK _ _ _ _ ht']
  have hq : t / 5 < d.toList.length := by simp; omega
  have h1 := linL_at d.toList (t / 5) hq
  have hr : t % 5 < 5 := Nat.mod_lt _ (by omega)
  have h2 : (linL d.toList)[t]? = (linV d.toList[t / 5])[t % 5]? := by
    rw [← h1, List.getElem?_take, if_pos hr, List.getElem?_drop]
    congr 1; omega
  have h3 : d[t / 5]! = d.toList[t / 5] := by
    rw [getElem!_pos d (t / 5) (by simpa using hq)]; simp
  rw [h3]
  have h4 : ((linL d.toList).toArray)[t]! = ((linL d.toList)[t]?).getD default := by simp [Array.getElem!_eq_getD, Array.getD_eq_getD_getElem?]
  rw [h4, h2]
  simp [List.getElem!_eq_getElem?_getD]
def or3 (a b c : Int) : Int := if a ≠ 0 then a else if b ≠ 0 then b else c
def cfL (x y : Lin) : Int := or3 (Lib.compareInt x.cu y.cu) (Lib.compareInt x.cr y.cr) (Lib.compareInt x.db y.db)
theorem lt_cfL (x y : Lin) : ltOf cfL x y = decide (x.cu < y.cu ∨ x.cu = y.cu ∧ (x.cr < y.cr ∨ x.cr = y.cr ∧ x.db < y.db)) := by
  have key : ∀ a b : Int, (a < b ∧ Lib.compareInt a b = -1) ∨ (a = b ∧ Lib.compareInt a b = 0) ∨ (b < a ∧ Lib.compareInt a b = 1) := fun a b => by
    unfold Lib.compareInt
    rcases Int.lt_trichotomy a b with h | h | h
    · exact .inl ⟨h, by simp [h]⟩
    · exact .inr (.inl ⟨h, by simp [h]⟩)
    · refine .inr (.inr ⟨h, ?_⟩)
      rw [if_neg (by omega)]
      simp [h]
  unfold ltOf cfL or3
  congr 1
  rcases key x.cu y.cu with ⟨h, e⟩ | ⟨h, e⟩ | ⟨h, e⟩ <;> rw [e]
  · simp [h]
  · rcases key x.cr y.cr with ⟨h2, e2⟩ | ⟨h2, e2⟩ | ⟨h2, e2⟩ <;> rw [e2]
    · simp [h, h2]
    · rcases key x.db y.db with ⟨h3, e3⟩ | ⟨h3, e3⟩ | ⟨h3, e3⟩ <;> rw [e3]
      · simp [h, h2, h3]
      · simp [h, h2, h3]
      · simp [h, h2]; omega
    · simp [h]; omega
  · simp; omega
theorem swoL : SWO (ltOf cfL) where
  irrefl x := by rw [lt_cfL]; simp
  trans x y z h1 h2 := by rw [lt_cfL] at *; simp only [decide_eq_true_eq] at *; omega
  ntrans x y z h1 h2 := by rw [lt_cfL] at *; simp only [decide_eq_false_iff_not] at *; omega
theorem lt_rank {x y : Lin} (hx : Small x) (hy : Small y) : ltOf cfL x y = decide (x.rank < y.rank) := by
  rw [lt_cfL]
  unfold Small at hx hy
  unfold Lin.rank
  congr 1
  refine propext ⟨?_, ?_⟩ <;> intro h <;> omega
theorem sorted_lines {S : Lgr} {d d' : Array Lin} (G : S.Good) (hd : d.toList.Perm S.L) (hp : PermIn 0 d.size d d') (hs : SortedIn (ltOf cfL) 0 d.size d') : d'.toList = S.L := by
  obtain ⟨hsz, _, hperm⟩ := hp
  have e1 : d'.extract 0 d.size = d' := by rw [← hsz]; simp
  have e2 : d.extract 0 d.size = d := by simp
  rw [e1, e2] at hperm
  have hP : d'.toList.Perm S.L := hperm.trans hd
  have hnd : d'.toList.Nodup := hP.nodup_iff.2 (sorted_nodup G.ord)
  refine sorted_ext ?_ G.ord (fun z => hP.mem_iff)
  rw [List.pairwise_iff_getElem]
  intro i j hi hj hij
  have hi' : i < d'.size := by simpa using hi
  have hj' : j < d'.size := by simpa using hj
  have h := hs i j (Nat.zero_le _) hij (by omega)
  rw [getElem!_pos d' i hi', getElem!_pos d' j hj'] at h
  have mi : d'[i] ∈ S.L := hP.mem_iff.1 (by simp)
  have mj : d'[j] ∈ S.L := hP.mem_iff.1 (by simp)
  rw [lt_rank (G.smalls _ mj) (G.smalls _ mi)] at h
  simp only [decide_eq_false_iff_not] at h
  simp only [Array.getElem_toList]
  rcases Int.lt_or_le d'[i].rank d'[j].rank with h' | h'
  · exact h'
  · exfalso
    have e : d'[i] = d'[j] := G.uniq mi mj (by omega)
    have hne := List.pairwise_iff_getElem.1 hnd i j hi hj hij
    exact hne (by simpa using e)
end Go.Proofs.YtgobnamhdkbbeaaGreat

/- ledgers.order. -/
namespace Go.Proofs.YtgobnamhdkbbeaaGreat
open Go.RowKit Go.Sort
set_option linter.unusedSimpArgs false
set_option linter.unusedVariables false
set_option maxRecDepth 100000
set_option maxHeartbeats 1000000
theorem nanC_ans (x : Int) (w : World) : Calls Tryz.prog 105 #[.int .u8 x] w fun e w' => e = .returned (.bool false) ∧ w' = w := by
  go_enter Tryz.func105, Tryz.ntmps105
  go_wp2_with (go_skip)
  go_ret
  exact ⟨by simp, rfl⟩
theorem cmpC_ans (x y : Int) (w : World) : Calls Tryz.prog 71 #[.int .u8 x, .int .u8 y] w fun e w' => e = .returned (.int .i64 (Lib.compareInt x y)) ∧ w' = w := by
  have c1 := nanC_ans x
  have c2 := nanC_ans y
  have key : (x < y ∧ Lib.compareInt x y = -1) ∨ (¬ x < y ∧ y < x ∧ Lib.compareInt x y = 1) ∨ (¬ x < y ∧ ¬ y < x ∧ Lib.compareInt x y = 0) := by
    unfold Lib.compareInt
    by_cases h : x < y
    · exact .inl ⟨h, by rw [if_pos h]⟩
    · by_cases h2 : y < x
      · exact .inr (.inl ⟨h, h2, by rw [if_neg h, if_pos h2]⟩)
      · exact .inr (.inr ⟨h, h2, by rw [if_neg h, if_neg h2]⟩)
  rcases key with ⟨h, e⟩ | ⟨h, h2, e⟩ | ⟨h, h2, e⟩
  all_goals
    rw [e]
    clear e
    go_enter Tryz.func71, Tryz.ntmps71
    go_wp2_with (first | go_skip | ((refine (c1 _).mono ?_); rintro e w' ⟨rfl, rfl⟩) | ((refine (c2 _).mono ?_); rintro e w' ⟨rfl, rfl⟩))
    go_ret
    exact ⟨rfl, rfl⟩
theorem order_ans (x y : Lin) : AnsG 54 #[.agg (line x.cr x.db x.cu x.lim x.deb), .agg (line y.cr y.db y.cu y.lim y.deb)] (.int .i64 (cfL x y)) := by
  intro w
  have hcf : cfL x y = orL [Lib.compareInt x.cu y.cu, Lib.compareInt x.cr y.cr, Lib.compareInt x.db y.db] := by
    unfold cfL or3 orL orL orL orL
    split <;> first | rfl | (split <;> first | rfl | (split <;> first | rfl | (simp_all)))
  rw [hcf]
  clear hcf
  have c1 := AnsG.same (cmpC_ans x.cu y.cu)
  have c2 := AnsG.same (cmpP_ans x.cr y.cr)
  have c3 := AnsG.same (cmpP_ans x.db y.db)
  obtain ⟨xr, xd, xu, xl, xe⟩ := x
  obtain ⟨yr, yd, yu, yl, ye⟩ := y
  simp only at c1 c2 c3 ⊢
  have h1 : blk ((w.alloc (.cells (line xr xd xu xl xe) 65)).alloc (.cells (line yr yd yu yl ye) 65)) w.heap.size = some (.cells (line xr xd xu xl xe) 65 (0, 0)) := by
    unfold blk
    rw [Below.heap_alloc _ _ _ (by simp)]
    exact heap_alloc_new w _
  have h2 : blk ((w.alloc (.cells (line xr xd xu xl xe) 65)).alloc (.cells (line yr yd yu yl ye) 65)) (w.heap.size + 1) = some (.cells (line yr yd yu yl ye) 65 (0, 0)) := by
    have := heap_alloc_new (w.alloc (.cells (line xr xd xu xl xe) 65)) (.cells (line yr yd yu yl ye) 65)
    simpa [blk] using this
  have hg : Grw w ((w.alloc (.cells (line xr xd xu xl xe) 65)).alloc (.cells (line yr yd yu yl ye) 65)) := ((Grw.refl w).alloc _).alloc _
  generalize Lib.compareInt xu yu = a at *
  generalize Lib.compareInt xr yr = b at *
  generalize Lib.compareInt xd yd = c at *
  generalize hw0 : ((w.alloc (.cells (line xr xd xu xl xe) 65)).alloc (.cells (line yr yd yu yl ye) 65)) = w0 at *
  have HW := Lib.hid hw0
  clear hw0
  go_enter Tryz.func54, Tryz.ntmps54
  go_wp2_with (go_skip)
  rw [HW.out]
  refine wp_region_G_tail 15 (by kernel_rfl) (by kernel_rfl) ?_
  simp only [List.take_succ_cons, List.take_zero, List.drop_succ_cons, List.drop_zero]
  repeat (first
    | go_big_quiet_skip
    | ((with_reducible apply wpQ_loadCG); (· first | exact cell_party | exact cell_cur); (· rfl); (· rfl); (· first | exact h1 | exact h2); (· with_reducible first | exact line_g0 .. | exact line_g1 .. | exact line_g2 ..); (simp only [Act.put, List.setIfInBounds_toArray, List.set_cons_zero, List.set_cons_succ]))
    | go_big_quiet_step (with_reducible exact AnsG.quiet (by assumption)))
  refine wpQuiet_nil ?_
  clear h1 h2
  intro w1 g1
  have g2 := hg.trans g1
  go_wp2_with (go_skip)
  have hb : Rd (w1.alloc (.cells #[.int .i64 a, .int .i64 b, .int .i64 c] 3)) (some ⟨w1.heap.size, 0, none⟩) ([a, b, c].map (Value.int .i64)) := by
    intro i hi
    refine ⟨_, _, rfl, ?_⟩
    rw [cell_of_row _ _ (0 + i) _ _ _ (heap_alloc_new w1 _)]
    simp at hi
    simp [hi]
  refine (or_C _ 3 3 [a, b, c] rfl (by omega) _ hb).mono ?_
  clear hb
  rintro e w' ⟨rfl, rfl⟩
  go_wp2_with (go_skip)
  go_ret
  exact ⟨rfl, g2.alloc _⟩
end Go.Proofs.YtgobnamhdkbbeaaGreat

/- Lists in a strict order. (Plain.) -/
namespace Go.Proofs.YtgobnamhdkbbeaaGreat
theorem pw_ext {α : Type} {r : α → α → Prop} (ha : ∀ x y, r x y → ¬ r y x) : ∀ {L M : List α}, L.Pairwise r → M.Pairwise r → (∀ z, z ∈ L ↔ z ∈ M) → L = M
  | [], [], _, _, _ => rfl
  | [], b :: M, _, _, h => by have := (h b).2 (List.mem_cons_self ..); cases this
  | a :: L, [], _, _, h => by have := (h a).1 (List.mem_cons_self ..); cases this
  | a :: L, b :: M, hL, hM, h => by
    have h1 := List.pairwise_cons.1 hL
    have h2 := List.pairwise_cons.1 hM
    have e : a = b := by
      rcases List.mem_cons.1 ((h a).1 (List.mem_cons_self ..)) with e | ha'
      · exact e
      · rcases List.mem_cons.1 ((h b).2 (List.mem_cons_self ..)) with e | hb
        · exact e.symm
        · exact absurd (h2.1 _ ha') (ha _ _ (h1.1 _ hb))
    subst e
    congr 1
    refine pw_ext ha h1.2 h2.2 fun z => ⟨fun hz => ?_, fun hz => ?_⟩
    · rcases List.mem_cons.1 ((h z).1 (List.mem_cons_of_mem _ hz)) with e | hz'
      · subst e; exact absurd (h1.1 _ hz) (ha _ _ (h1.1 _ hz))
      · exact hz'
    · rcases List.mem_cons.1 ((h z).2 (List.mem_cons_of_mem _ hz)) with e | hz'
      · subst e; exact absurd (h2.1 _ hz) (ha _ _ (h2.1 _ hz))
      · exact hz'
theorem pw_nodup {α : Type} {r : α → α → Prop} (hr : ∀ x, ¬ r x x) {L : List α} (h : L.Pairwise r) : L.Nodup := by
  unfold List.Nodup
  exact h.imp fun {a b} hab e => by subst e; exact hr _ hab
theorem nodup_map_on {α β : Type} {f : α → β} : ∀ {l : List α}, l.Nodup → (∀ x ∈ l, ∀ y ∈ l, f x = f y → x = y) → (l.map f).Nodup
  | [], _, _ => by simp
  | a :: l, h, hi => by
    rw [List.nodup_cons] at h
    rw [List.map_cons, List.nodup_cons]
    refine ⟨fun hm => ?_, nodup_map_on h.2 fun x hx y hy => hi x (List.mem_cons_of_mem _ hx) y (List.mem_cons_of_mem _ hy)⟩
    obtain ⟨b, hb, e⟩ := List.mem_map.1 hm
    have := hi b (List.mem_cons_of_mem _ hb) a List.mem_cons_self e
    exact h.1 (this ▸ hb)
theorem perm_of_nodup {α : Type} : ∀ {A B : List α}, A.Nodup → B.Nodup → (∀ z, z ∈ A ↔ z ∈ B) → A.Perm B
  | [], B, _, _, h => by
    cases B with
    | nil => exact .nil
    | cons b B => have := (h b).2 List.mem_cons_self; cases this
  | a :: A, B, hA, hB, h => by
    obtain ⟨s, t, rfl⟩ := List.append_of_mem ((h a).1 List.mem_cons_self)
    have h1 := List.nodup_cons.1 hA
    have hp : (s ++ a :: t).Perm (a :: (s ++ t)) := List.perm_middle
    have h2 := List.nodup_cons.1 (hp.nodup_iff.1 hB)
    refine ((perm_of_nodup h1.2 h2.2 fun z => ⟨fun hz => ?_, fun hz => ?_⟩).cons a).trans hp.symm
    · have := hp.mem_iff.1 ((h z).1 (List.mem_cons_of_mem _ hz))
      rcases List.mem_cons.1 this with e | e
      · exact absurd (e ▸ hz) h1.1
      · exact e
    · have := (h z).2 (hp.mem_iff.2 (List.mem_cons_of_mem _ hz))
      rcases List.mem_cons.1 this with e | e
      · exact absurd (e ▸ hz) h2.1
      · exact e
theorem perm_sumI : ∀ {A B : List Int}, A.Perm B → A.sum = B.sum := fun h => by
  induction h with
  | nil => rfl
  | cons x h ih => simp [ih]
  | swap x y l => simp; omega
  | trans h1 h2 ih1 ih2 => exact ih1.trans ih2
end Go.Proofs.YtgobnamhdkbbeaaGreat

/- A row of structs put in order, as a thing: of whatever type. -/
namespace Go.Proofs.YtgobnamhdkbbeaaGreat
open Go.RowKit Go.Sort
set_option linter.unusedVariables false
set_option linter.unusedSimpArgs false
section
variable {W w : World} {l : List Thing} {g n c : Nat} {e : TypeId} {cur F : Array Value}
theorem putRow_at (h : w.heap[g]? = some (.cells cur e (0, 0))) (F : Array Value) : (putRow id w g 0 F).heap[g]? = some (.cells (putCells id 0 F cur) e (0, 0)) := by
  simp [putRow, mapBlock, Array.getElem?_modify, h, onCells]
theorem putRow_else {k : Nat} {off : Nat} (h : k ≠ g) (F : Array Value) : (putRow id w g off F).heap[k]? = w.heap[k]? := by
  simp [putRow, mapBlock, Array.getElem?_modify, Ne.symm h]
theorem putCells_take (hF : F.size ≤ cur.size) : (putCells id 0 F cur).toList.take F.size = F.toList := by
  apply List.ext_getElem?
  intro i
  rw [List.getElem?_take]
  by_cases hi : i < F.size
  · rw [if_pos hi]
    have h1 : i < cur.size := by omega
    simp [putCells, h1, hi]
  · rw [if_neg hi]
    simp [hi]
theorem sort_grown {α : Type} [Inhabited α] (enc : α → List Value) (k m : Nat) {off : Nat} (d' : Array α) (os : Array Obj) : w.grownBy (sortWorldK enc k w g off m d' os) (some g) := by
  refine ⟨rfl, rfl, rfl, size_sortWorldK_c enc k w g off m d' os, fun j hj hne => ?_⟩
  have hne : j ≠ g := fun h => hne (by rw [h])
  unfold sortWorldK
  rw [heap_grow_old _ _ (by simpa [putRowK, putRow, mapBlock, Sort.ahead] using hj)]
  unfold putRowK
  rw [putRow_else hne]
  rfl
end
section
variable {α : Type} {enc : α → List Value} {k : Nat}
theorem encL_len (he : ∀ x, (enc x).length = k) : ∀ L : List α, (L.flatMap enc).length = L.length * k
  | [] => by simp
  | x :: L => by rw [List.flatMap_cons, List.length_append, encL_len he L, he, List.length_cons, Nat.add_mul]; omega
theorem encL_at (he : ∀ x, (enc x).length = k) : ∀ (L : List α) (i : Nat) (h : i < L.length), ((L.flatMap enc).drop (i * k)).take k = enc L[i]
  | [], i, h => by simp at h
  | x :: L, 0, _ => by
    rw [List.flatMap_cons, Nat.zero_mul, List.drop_zero, List.take_append_of_le_length (by rw [he]; exact Nat.le_refl _), List.take_of_length_le (by rw [he]; exact Nat.le_refl _)]
    rfl
  | x :: L, i + 1, h => by
    have ih := encL_at he L i (by simpa using h)
    rw [List.getElem_cons_succ, ← ih, List.flatMap_cons, show (i + 1) * k = (enc x).length + i * k by rw [he, Nat.add_mul]; omega, List.drop_length_add_append]
variable [Inhabited α]
theorem flatG (he : ∀ x, (enc x).length = k) (hk : 0 < k) (d : Array α) : flatK enc k d = (d.toList.flatMap enc).toArray := by
  refine Go.Sort.ext_get! (by simp [encL_len he]) fun t ht => ?_
  have ht' : t < d.size * k := by simpa using ht
  rw [get_flatK _ _ _ _ ht']
  have hq : t / k < d.toList.length := by rw [Array.length_toList]; exact (Nat.div_lt_iff_lt_mul hk).2 ht'
  have h1 := encL_at he d.toList (t / k) hq
  have hr : t % k < k := Nat.mod_lt _ hk
  have h2 : (d.toList.flatMap enc)[t]? = (enc d.toList[t / k])[t % k]? := by
    rw [← h1, List.getElem?_take, if_pos hr, List.getElem?_drop]
    congr 1
    have := Nat.div_add_mod t k
    rw [Nat.mul_comm] at this
    omega
  have h3 : d[t / k]! = d.toList[t / k] := by
    rw [getElem!_pos d (t / k) (by simpa using hq)]; simp
  rw [h3]
  have h4 : ((d.toList.flatMap enc).toArray)[t]! = ((d.toList.flatMap enc)[t]?).getD default := by simp [Array.getElem!_eq_getD, Array.getD_eq_getD_getElem?]
  rw [h4, h2]
  simp [List.getElem!_eq_getElem?_getD]
section
variable {W w : World} {l : List Thing} {g n c : Nat} {e : TypeId} {cur F : Array Value}
theorem putRow_atO (h : w.heap[g]? = some (.cells cur e (0, 0))) (off : Nat) (F : Array Value) : (putRow id w g off F).heap[g]? = some (.cells (putCells id off F cur) e (0, 0)) := by
  simp [putRow, mapBlock, Array.getElem?_modify, h, onCells]
theorem putCells_takeO {off : Nat} (hF : off + F.size ≤ cur.size) : ((putCells id off F cur).toList.drop off).take F.size = F.toList := by
  apply List.ext_getElem?
  intro i
  rw [List.getElem?_take]
  by_cases hi : i < F.size
  · rw [if_pos hi, List.getElem?_drop]
    have h1 : off + i < cur.size := by omega
    simp [putCells, h1, hi]
  · rw [if_neg hi]
    simp [hi]
theorem sortG_holds (he : ∀ x, (enc x).length = k) (hk : 0 < k) {off : Nat} {L : List α} (h : (OwnT e k (.slice (some ⟨g, off, none⟩) n c) n (L.flatMap enc)).ok w) (hn : L.length = n) : HoldsK enc k w g off L.toArray := by
  obtain ⟨_, ⟨h1, _⟩ | ⟨g', off', cap, cur, h1, _, hh, h3, _, h5, ht⟩⟩ := h
  · cases h1
  · cases h1
    unfold HoldsK
    rw [flatG he hk]
    intro j hj
    have hj' : j < (L.flatMap enc).length := by simpa using hj
    have hj3 : j < n * k := by rw [encL_len he, hn] at hj'; exact hj'
    have hj2 : off + j < cur.size := by
      have := Nat.mul_le_mul_right k h3
      omega
    have hc : cur[off + j]? = (L.flatMap enc)[j]? := by
      rw [← ht, List.getElem?_take, if_pos hj3, List.getElem?_drop]
      simp
    rw [List.getElem?_eq_getElem hj'] at hc
    refine ⟨?_, ?_⟩
    · simp only [World.cell?, hh, if_true, hc]
      simp [hj']
      rw [List.getElem?_eq_getElem hj']
      rfl
    · simp [World.frozen?, hh]
theorem sortG_after (he : ∀ x, (enc x).length = k) (hk : 0 < k) {off : Nat} {L : List α} (h : (OwnT e k (.slice (some ⟨g, off, none⟩) n c) n (L.flatMap enc)).ok w) (m : Nat) (d' : Array α) (os : Array Obj) (hd : d'.size = n) : (OwnT e k (.slice (some ⟨g, off, none⟩) n c) n (d'.toList.flatMap enc)).ok (sortWorldK enc k w g off m d' os) := by
  obtain ⟨_, ⟨h1, _⟩ | ⟨g', off', cap, cur, h1, hg, hh, h2, h3, h4, ht⟩⟩ := h
  · cases h1
  · cases h1
    have hm := Nat.mul_le_mul_right k h2
    have hF : off + (flatK enc k d').size ≤ cur.size := by rw [size_flatK, hd]; omega
    refine ⟨by rw [encL_len he]; simp [hd], .inr ⟨g, off, c, putCells id off (flatK enc k d') cur, rfl, hg, ?_, h2, h3, ?_, ?_⟩⟩
    · unfold sortWorldK
      have hlt : g < w.heap.size := (Array.getElem?_eq_some_iff.1 hh).1
      rw [heap_grow_old _ _ (by simpa [putRowK, putRow, mapBlock, Sort.ahead] using hlt)]
      exact putRow_atO hh _ _
    · simpa [putCells] using h4
    · have := putCells_takeO hF
      rw [size_flatK, hd] at this
      rw [this, flatG he hk]
theorem sortG_heap (he : ∀ x, (enc x).length = k) (hk : 0 < k) {off : Nat} {L M : List α} (H : Heap W (OwnT e k (.slice (some ⟨g, off, none⟩) n c) n (L.flatMap enc) :: l) w) (hn : L.length = n) {m : Nat} {d' : Array α} {os : Array Obj} (h1 : PermIn 0 L.toArray.size L.toArray d') (hM : d'.toList = M) :
    Heap W (OwnT e k (.slice (some ⟨g, off, none⟩) n c) n (M.flatMap enc) :: l) (sortWorldK enc k w g off m d' os) := by
  have hd : d'.size = n := by rw [h1.1]; simpa using hn
  have := sortG_after he hk (H.ok _ (List.mem_cons_self ..)) m d' os hd
  rw [hM] at this
  exact H.head (sort_grown enc k m d' os) this (.inl rfl)
theorem slG_lt {xs : List Value} {z off : Nat} (H : Heap W (OwnT e z (.slice (some ⟨g, off, none⟩) n c) n xs :: l) w) : g < w.heap.size := (H.fp _ (List.mem_cons_self ..) g rfl).2
end
/-- What is sorted is the one list in this order. -/
theorem sortedG {cf : α → α → Int} {r : α → α → Prop} (ra : ∀ x y, r x y → ¬ r y x) {M : List α} (hM : M.Pairwise r) (hr : ∀ x ∈ M, ∀ y ∈ M, r x y → ltOf cf x y = true) {d d' : Array α} (hd : d.toList.Perm M) (hp : PermIn 0 d.size d d') (hs : SortedIn (ltOf cf) 0 d.size d') : d'.toList = M := by
  obtain ⟨hsz, _, hperm⟩ := hp
  have e1 : d'.extract 0 d.size = d' := by rw [← hsz]; simp
  have e2 : d.extract 0 d.size = d := by simp
  rw [e1, e2] at hperm
  have hP : d'.toList.Perm M := hperm.trans hd
  have hndM : M.Nodup := pw_nodup (fun x h => ra x x h h) hM
  have hnd : d'.toList.Nodup := hP.nodup_iff.2 hndM
  refine pw_ext ra ?_ hM (fun z => hP.mem_iff)
  rw [List.pairwise_iff_getElem]
  intro i j hi hj hij
  have hi' : i < d'.size := by simpa using hi
  have hj' : j < d'.size := by simpa using hj
  have h := hs i j (Nat.zero_le _) hij (by omega)
  rw [getElem!_pos d' i hi', getElem!_pos d' j hj'] at h
  have mi : d'[i] ∈ M := hP.mem_iff.1 (by simp)
  have mj : d'[j] ∈ M := hP.mem_iff.1 (by simp)
  have hne := List.pairwise_iff_getElem.1 hnd i j hi hj hij
  simp only [Array.getElem_toList] at hne ⊢
  obtain ⟨a, ha, ea⟩ := List.mem_iff_getElem.1 mi
  obtain ⟨b, hb, eb⟩ := List.mem_iff_getElem.1 mj
  rw [← ea, ← eb] at hne ⊢
  rcases Nat.lt_trichotomy a b with h2 | h2 | h2
  · exact List.pairwise_iff_getElem.1 hM a b ha hb h2
  · subst h2; exact absurd rfl hne
  · have h3 := List.pairwise_iff_getElem.1 hM b a hb ha h2
    rw [ea, eb] at h3
    rw [hr _ mj _ mi h3] at h
    cases h
end
end Go.Proofs.YtgobnamhdkbbeaaGreat

/- A row of structs put in order, as a thing. -/
namespace Go.Proofs.YtgobnamhdkbbeaaGreat
open Go.RowKit Go.Sort
set_option linter.unusedVariables false
set_option linter.unusedSimpArgs false
section
variable {W w : World} {l : List Thing} {g n c : Nat} {e : TypeId} {cur F : Array Value}
theorem sort_holds {L : List Lin} (h : (Sl g e 5 n c (linL L)).ok w) (hn : L.length = n) : HoldsK linV 5 w g 0 L.toArray := by
  obtain ⟨_, ⟨h1, _⟩ | ⟨g', cap, cur, h1, _, hh, _, _, _, ht⟩⟩ := h
  · cases h1
  · cases h1
    unfold HoldsK
    rw [flatK_lin]
    intro j hj
    have hj' : j < (linL L).length := by simpa using hj
    have hj2 : j < cur.size := by
      have := congrArg List.length ht
      simp at this; omega
    have hc : cur[j]? = (linL L)[j]? := by
      rw [← ht, List.getElem?_take, if_pos (by have := linL_len L; omega)]
      simp
    refine ⟨?_, ?_⟩
    · simp only [World.cell?, Nat.zero_add, hh, if_true, hc]
      simp [hj', List.getElem?_eq_getElem]
    · simp [World.frozen?, hh]
theorem sort_after {L : List Lin} (h : (Sl g e 5 n c (linL L)).ok w) (hn : L.length = n) (m : Nat) (d' : Array Lin) (os : Array Obj) (hd : d'.size = n) : (Sl g e 5 n c (linL d'.toList)).ok (sortWorldK linV 5 w g 0 m d' os) := by
  obtain ⟨_, ⟨h1, _⟩ | ⟨g', cap, cur, h1, hg, hh, h2, h3, h4, ht⟩⟩ := h
  · cases h1
  · cases h1
    have hF : (flatK linV 5 d').size ≤ cur.size := by rw [size_flatK, h4, hd]; exact Nat.mul_le_mul_right 5 h2
    refine ⟨by rw [linL_len]; simp [hd], .inr ⟨g, c, putCells id 0 (flatK linV 5 d') cur, rfl, hg, ?_, h2, h3, ?_, ?_⟩⟩
    · unfold sortWorldK
      have hlt : g < w.heap.size := (Array.getElem?_eq_some_iff.1 hh).1
      rw [heap_grow_old _ _ (by simpa [putRowK, putRow, mapBlock, Sort.ahead] using hlt)]
      exact putRow_at hh _
    · simp [putCells, h4]
    · have := putCells_take hF
      rw [size_flatK, hd] at this
      rw [this, flatK_lin]
theorem sort_heap {L : List Lin} {S : Lgr} (H : Heap W (Sl g e 5 n c (linL L) :: l) w) (hn : L.length = n) (hp : L.Perm S.L) (G : S.Good) {m : Nat} {d' : Array Lin} {os : Array Obj} (h1 : PermIn 0 L.toArray.size L.toArray d') (h2 : SortedIn (ltOf cfL) 0 L.toArray.size d') :
    Heap W (Sl g e 5 n c (linL S.L) :: l) (sortWorldK linV 5 w g 0 m d' os) := by
  have hs := sorted_lines (d := L.toArray) G (by simpa using hp) h1 h2
  have hd : d'.size = n := by rw [h1.1]; simpa using hn
  have := sort_after (H.ok _ (List.mem_cons_self ..)) hn m d' os hd
  rw [hs] at this
  exact H.head (sort_grown linV 5 m d' os) this (.inl rfl)
theorem sl_lt {L : List Lin} (H : Heap W (Sl g e 5 n c (linL L) :: l) w) : g < w.heap.size := (H.fp _ (List.mem_cons_self ..) g rfl).2
end
end Go.Proofs.YtgobnamhdkbbeaaGreat

/- Rows of one's own, written in place; rows with all their room. -/
namespace Go.Proofs.YtgobnamhdkbbeaaGreat
open Go.RowKit
set_option linter.unusedSimpArgs false
set_option linter.unusedVariables false
/-- A row with all its room. -/
def FullT (e size : Nat) (a : Option Addr) (n c : Nat) (P : List Value → Prop) : Thing :=
  ⟨(Value.slice a n c).ownBlock, fun w => n ≤ c ∧ c ≤ maxLen ∧ ∃ xs, Own w 0 e size (.slice a c c) c xs ∧ P xs, fun w w' h ⟨hn, hm, xs, ho, hp⟩ => ⟨hn, hm, xs, ho.same fun k hk => h k (by cases a <;> exact hk), hp⟩⟩
theorem Own.full {w : World} {e size n c : Nat} {a : Option Addr} {xs : List Value} (h : Own w 0 e size (.slice a n c) n xs) : n ≤ c ∧ c ≤ maxLen ∧ ∃ ys, Own w 0 e size (.slice a c c) c ys := by
  obtain ⟨hl, ⟨hv, hn⟩ | ⟨g, off, cap, cur, hv, hb, hg, hnc, hcm, hs, ht⟩⟩ := h
  · simp only [Value.slice.injEq] at hv
    obtain ⟨rfl, rfl, rfl⟩ := hv
    exact ⟨Nat.le_refl _, by unfold maxLen; omega, [], by simp, .inl ⟨rfl, rfl⟩⟩
  · simp only [Value.slice.injEq, true_and] at hv
    obtain ⟨rfl, rfl⟩ := hv
    refine ⟨hnc, hcm, (cur.toList.drop off).take (c * size), ?_, .inr ⟨g, off, c, cur, rfl, hb, hg, Nat.le_refl _, hcm, hs, rfl⟩⟩
    simp
    omega
section
variable {W w : World} {l : List Thing} {e size n c : Nat} {a : Option Addr} {xs : List Value} {P Q : List Value → Prop}
theorem Heap.toFull (H : Heap W (OwnT e size (.slice a n c) n xs :: l) w) : Heap W (FullT e size a n c (fun _ => True) :: l) w := by
  obtain ⟨h1, h2, ys, h3⟩ := Own.full (H.ok _ List.mem_cons_self)
  exact H.head (World.grownBy.refl _ _) ⟨h1, h2, ys, h3, trivial⟩ (.inl rfl)
theorem Heap.openFull (H : Heap W (FullT e size a n c P :: l) w) : ∃ xs, P xs ∧ n ≤ c ∧ c ≤ maxLen ∧ xs.length = c * size ∧ (a = none → c = 0) ∧ Heap W (OwnT e size (.slice a c c) c xs :: l) w := by
  obtain ⟨h1, h2, xs, h3, h4⟩ := H.ok _ List.mem_cons_self
  refine ⟨xs, h4, h1, h2, h3.1, fun e => ?_, H.head (World.grownBy.refl _ _) h3 (.inl (by cases a <;> rfl))⟩
  subst e
  obtain ⟨_, ⟨hv, _⟩ | ⟨g, off, cap, cur, hv, _⟩⟩ := h3
  · simp only [Value.slice.injEq] at hv; exact hv.2.2
  · simp at hv
theorem Heap.shutFull (H : Heap W (OwnT e size (.slice a c c) c xs :: l) w) (hn : n ≤ c) (hc : c ≤ maxLen) (hP : P xs) : Heap W (FullT e size a n c P :: l) w :=
  H.head (World.grownBy.refl _ _) ⟨hn, hc, xs, H.ok _ List.mem_cons_self, hP⟩ (.inl (by cases a <;> rfl))
theorem Heap.clipOwn (H : Heap W (OwnT e size (.slice a n c) n xs :: l) w) : Heap W (OwnT e size (.slice a n n) n xs :: l) w :=
  H.head (World.grownBy.refl _ _) (Own.clip (H.ok _ List.mem_cons_self)) (.inl (by cases a <;> rfl))
theorem OwnT.room (h : (OwnT e size (.slice a n c) n xs).ok w) : n ≤ c ∧ c ≤ maxLen := ⟨(Own.full h).1, (Own.full h).2.1⟩
theorem OwnT.len {v : Value} (h : (OwnT e size v n xs).ok w) : xs.length = n * size := h.1
end
theorem Own.put {w : World} {g off n c e size : Nat} {xs : List Value} (h : Own w 0 e size (.slice (some ⟨g, off, none⟩) n c) n xs) {cur : Array Value} {t : TypeId} (hb : blk w g = some (.cells cur t (0, 0))) (j : Nat) (c2 : Array Value) (hj : j + c2.size ≤ xs.length) :
    Own (setBlk w g (splice cur (off + j) c2)) 0 e size (.slice (some ⟨g, off, none⟩) n c) n (xs.take j ++ c2.toList ++ xs.drop (j + c2.size)) := by
  obtain ⟨hl, ⟨hv, _⟩ | ⟨g', off', cap, cur', hv, hb', hg, hnc, hcm, hs, ht⟩⟩ := h
  · cases hv
  · simp only [Value.slice.injEq, Option.some.injEq, Addr.mk.injEq, true_and] at hv
    obtain ⟨⟨rfl, rfl, _⟩, rfl⟩ := hv
    have hb2 : w.heap[g]? = some (.cells cur t (0, 0)) := hb
    rw [hg] at hb2
    cases hb2
    have hnm : n * size ≤ c * size := Nat.mul_le_mul_right _ hnc
    refine ⟨by simp; omega, .inr ⟨g, off, c, splice cur (off + j) c2, rfl, hb', setBlk_same w g _ cur _ _ hg, hnc, hcm, ?_, ?_⟩⟩
    · unfold splice
      simp
      omega
    · unfold splice
      rw [List.toList_toArray]
      apply List.ext_getElem?
      intro i
      have hxi : ∀ i, i < n * size → xs[i]? = cur.toList[off + i]? := fun i hi => by
        rw [← ht, List.getElem?_take, if_pos hi, List.getElem?_drop]
      have hsz : cur.toList.length = cur.size := Array.length_toList
      rw [List.getElem?_take]
      by_cases hi : i < n * size
      · rw [if_pos hi, List.getElem?_drop]
        have hA : (cur.toList.take (off + j)).length = off + j := by simp; omega
        have hB : (xs.take j).length = j := by simp; omega
        by_cases h1 : i < j
        · rw [List.append_assoc, List.getElem?_append_left (by rw [hA]; omega), List.append_assoc, List.getElem?_append_left (by rw [hB]; omega), List.getElem?_take, if_pos (by omega), List.getElem?_take, if_pos h1, hxi i hi]
        · rw [List.append_assoc, List.append_assoc, List.getElem?_append_right (l₁ := cur.toList.take (off + j)) (by rw [hA]; omega), List.getElem?_append_right (l₁ := xs.take j) (by rw [hB]; omega), hA, hB, show off + i - (off + j) = i - j by omega]
          by_cases h2 : i - j < c2.size
          · rw [List.getElem?_append_left (by simpa using h2), List.getElem?_append_left (by simpa using h2)]
          · rw [List.getElem?_append_right (by simp; omega), List.getElem?_append_right (by simp; omega), List.getElem?_drop, List.getElem?_drop, Array.length_toList, show off + j + c2.size + (i - j - c2.size) = off + i by omega, show j + c2.size + (i - j - c2.size) = i by omega, hxi i hi]
      · rw [if_neg hi, List.getElem?_eq_none (by simp; omega)]
theorem splice_one {cur : Array Value} {k : Nat} {v : Value} (h : k < cur.size) : splice cur k #[v] = cur.setIfInBounds k v := by
  unfold splice
  apply Array.ext_getElem?
  intro i
  rw [Array.getElem?_setIfInBounds, List.getElem?_toArray]
  have hA : (cur.toList.take k).length = k := by simp; omega
  by_cases h1 : i < k
  · rw [List.append_assoc, List.getElem?_append_left (by rw [hA]; omega), List.getElem?_take, if_pos h1, if_neg (by omega)]
    simp
  · rw [List.append_assoc, List.getElem?_append_right (by rw [hA]; omega), hA]
    by_cases h2 : i = k
    · subst h2; simp [h]
    · rw [if_neg (by omega), List.getElem?_append_right (by simp; omega), List.getElem?_drop]
      simp
      congr 1
      omega
theorem list_put_one {xs : List Value} {j : Nat} {v : Value} (h : j < xs.length) : xs.take j ++ [v] ++ xs.drop (j + 1) = xs.set j v := by
  rw [List.append_assoc, List.set_eq_take_append_cons_drop, if_pos h]; rfl
theorem Own.blkOf {w : World} {g off n c e size : Nat} {xs : List Value} (h : Own w 0 e size (.slice (some ⟨g, off, none⟩) n c) n xs) : ∃ cur, blk w g = some (.cells cur e (0, 0)) ∧ off + xs.length ≤ cur.size := by
  obtain ⟨hl, ⟨hv, _⟩ | ⟨g', off', cap, cur', hv, hb', hg, hnc, hcm, hs, ht⟩⟩ := h
  · cases hv
  · simp only [Value.slice.injEq, Option.some.injEq, Addr.mk.injEq, true_and] at hv
    obtain ⟨⟨rfl, rfl, _⟩, rfl⟩ := hv
    have hnm : n * size ≤ c * size := Nat.mul_le_mul_right _ hnc
    exact ⟨cur', hg, by omega⟩
theorem putOwnH {W w : World} {l l' : List Thing} {g off n c e size : Nat} {xs ys : List Value} (H : Heap W l w) {cur c2 : Array Value} (hb : blk w g = some (.cells cur e (0, 0))) {j : Nat} (hj : j + c2.size ≤ xs.length) (hy : xs.take j ++ c2.toList ++ xs.drop (j + c2.size) = ys)
    (r : Repl l (OwnT e size (.slice (some ⟨g, off, none⟩) n c) n xs) (OwnT e size (.slice (some ⟨g, off, none⟩) n c) n ys) l') : Heap W l' (setBlk w g (splice cur (off + j) c2)) :=
  H.upd r grown_setBlk (by subst hy; exact Own.put (H.ok _ r.mem) hb j c2 hj) (.inl rfl)
section
variable {ops : Array Oper} {rest : List Oper} {o : Oper} {a : Act} {w W : World} {l l' : List Thing} {Q : Exit → Act → World → Prop}
/-- s[i] = v, of one cell. -/
theorem wpl_storeOwnC {T e : TypeId} {dst : Option Tmp} {ty : TypeId} {pos : String} {after : Array Edge} {guard : Option (Nat × Bool)} {x y : Operand} {g ad off n c size j : Nat} {v : Value} {xs : List Value} (CT : CellTy T) (hw : Region.wanted ⟨dst, .store T x y, ty, pos, after, guard⟩ (yielded ops a.tmps) = true) (hx : a.eval x = .pointer (some ⟨g, ad, none⟩)) (hy : a.eval y = v) (hc : v.cells = #[v] ∧ v.oneCell' = true)
    (H : Heap W l w) (m : OwnT e size (.slice (some ⟨g, off, none⟩) n c) n xs ∈ l) (hk : ad = off + j) (hj : j < xs.length) (r : Repl l (OwnT e size (.slice (some ⟨g, off, none⟩) n c) n xs) (OwnT e size (.slice (some ⟨g, off, none⟩) n c) n (xs.set j v)) l')
    (h : ∀ w', Heap W l' w' → wpList Tryz.prog ops Q rest (a.put dst undef) w') : wpList Tryz.prog ops Q (⟨dst, .store T x y, ty, pos, after, guard⟩ :: rest) a w := by
  subst hk
  obtain ⟨cur, hb, hs⟩ := Own.blkOf (H.ok _ m)
  have h2 := putOwnH H (j := j) (c2 := #[v]) hb (by simp; omega) (list_put_one hj) r
  rw [splice_one (by omega)] at h2
  exact wpl_storeC CT hw hx hy hc hb (by omega) rfl ⟨⟨_, hb⟩, rfl⟩ (h _ h2)
/-- s[i] = v, of a row. -/
theorem wpl_storeOwnR {T N e : Nat} {z : Array Value} {dst : Option Tmp} {ty : TypeId} {pos : String} {after : Array Edge} {guard : Option (Nat × Bool)} {x y : Operand} {g ad off n c size j : Nat} {c2 : Array Value} {xs ys : List Value} (RT : RowTy T N z) (hw : Region.wanted ⟨dst, .store T x y, ty, pos, after, guard⟩ (yielded ops a.tmps) = true) (hx : a.eval x = .pointer (some ⟨g, ad, none⟩)) (hy : a.eval y = .agg c2) (hc : Cells N c2)
    (H : Heap W l w) (m : OwnT e size (.slice (some ⟨g, off, none⟩) n c) n xs ∈ l) (hk : ad = off + j) (hj : j + N ≤ xs.length) (hys : xs.take j ++ c2.toList ++ xs.drop (j + N) = ys) (r : Repl l (OwnT e size (.slice (some ⟨g, off, none⟩) n c) n xs) (OwnT e size (.slice (some ⟨g, off, none⟩) n c) n ys) l')
    (h : ∀ w', Heap W l' w' → wpList Tryz.prog ops Q rest (a.put dst undef) w') : wpList Tryz.prog ops Q (⟨dst, .store T x y, ty, pos, after, guard⟩ :: rest) a w := by
  subst hk
  obtain ⟨cur, hb, hs⟩ := Own.blkOf (H.ok _ m)
  have hN := hc.1
  have h2 := putOwnH H (j := j) (c2 := c2) hb (by omega) (by rw [hN]; exact hys) r
  exact wpl_storeR RT hw hx hy hc hb (by omega) rfl ⟨⟨_, hb⟩, rfl⟩ (h _ h2)
theorem wpQ_loadRdR {T n : Nat} {z : Array Value} {dst : Option Tmp} {ty : TypeId} {pos : String} {after : Array Edge} {guard : Option (Nat × Bool)} {x : Operand} {b off : Nat} {K : Act → Prop} {H : Heap W l w} (RT : RowTy T n z) (hw : Region.wanted ⟨dst, .load T x, ty, pos, after, guard⟩ (yielded ops a.tmps) = true) (hx : a.eval x = .pointer (some ⟨b, off, none⟩))
    {o k : Nat} {xs : List Value} {c1 : Array Value} (R : ∀ w', Heap W l w' → Rd w' (some ⟨b, o, none⟩) xs) (hk : off = o + k) (hn : k + n ≤ xs.length) (h0 : 0 < n) (hv : ((xs.drop k).take n).toArray = c1)
    (h : wpQuiet Tryz.prog ops (fun w' => ∃ d, w' = H.any d) K rest (a.put dst (.agg c1))) : wpQuiet Tryz.prog ops (fun w' => ∃ d, w' = H.any d) K (⟨dst, .load T x, ty, pos, after, guard⟩ :: rest) a := by
  subst hk
  refine BigFrame.wpQuiet_want hw fun K hK => ⟨_, ?_, hK _ h⟩
  rintro _ ⟨d, rfl⟩
  obtain ⟨cs, t, f, hb, hs, he⟩ := rd_block (R _ (H.any_heap d)) hn h0
  unfold Oper.quietAt execOp
  simp only [hx, Sem.run_bind, run_loadR RT hb hs, he, hv]
  exact ⟨rfl, rfl⟩
theorem wpQ_loadAt {T : TypeId} {dst : Option Tmp} {ty : TypeId} {pos : String} {after : Array Edge} {guard : Option (Nat × Bool)} {x : Operand} {b off : Nat} {K : Act → Prop} {H : Heap W l w} (CT : CellTy T) (hw : Region.wanted ⟨dst, .load T x, ty, pos, after, guard⟩ (yielded ops a.tmps) = true) (hx : a.eval x = .pointer (some ⟨b, off, none⟩))
    {v : Value} (hc : ∀ w', Heap W l w' → w'.cell? ⟨b, off, none⟩ = some v)
    (h : wpQuiet Tryz.prog ops (fun w' => ∃ d, w' = H.any d) K rest (a.put dst v)) : wpQuiet Tryz.prog ops (fun w' => ∃ d, w' = H.any d) K (⟨dst, .load T x, ty, pos, after, guard⟩ :: rest) a := by
  refine BigFrame.wpQuiet_want hw fun K hK => ⟨v, ?_, hK _ h⟩
  rintro _ ⟨d, rfl⟩
  have hv := hc _ (H.any_heap d)
  simp only [World.cell?, if_true] at hv
  cases hb : (H.any d).heap[b]? with
  | none => rw [hb] at hv; cases hv
  | some o =>
    rw [hb] at hv
    cases o <;> first | (cases hv; done) | skip
    rename_i cs t f
    unfold Oper.quietAt execOp
    simp only [hx, Sem.run_bind, run_loadC CT hb hv]
    exact ⟨rfl, rfl⟩
end
theorem RowT.form0 {w : World} {e size n : Nat} {v : Value} {xs : List Value} (h : (RowT e size v n xs).ok w) : ∃ a c, v = .slice a n c ∧ n ≤ c ∧ c ≤ maxLen := by
  obtain ⟨a, c, e, _, h1, h2, _⟩ := (Own.ofRow h).rd
  exact ⟨a, c, e, h1, h2⟩
theorem Heap.rowRd {W w : World} {l : List Thing} {e size n c : Nat} {a : Option Addr} {xs : List Value} (H : Heap W l w) (m : RowT e size (.slice a n c) n xs ∈ l) : Rd w a xs := by
  obtain ⟨a', c', he, hr, _⟩ := (Own.ofRow (H.ok _ m)).rd
  simp only [Value.slice.injEq, true_and] at he
  obtain ⟨rfl, _⟩ := he
  exact hr
end Go.Proofs.YtgobnamhdkbbeaaGreat

/- Append from whatever can be read (nil too); a block's head as a row. -/
namespace Go.Proofs.YtgobnamhdkbbeaaGreat
open Go.RowKit
set_option linter.unusedSimpArgs false
set_option linter.unusedVariables false
theorem Heap.celRowA {W w : World} {l : List Thing} {g e size n m : Nat} {c : Array Value} (H : Heap W (Cel g c e :: l) w) (hc : c.size = m * size) (hn : n ≤ m) (hm : m ≤ maxLen) : Heap W (RowT e size (.slice (some ⟨g, 0, none⟩) n m) n (c.toList.take (n * size)) :: l) w := by
  have h2 : n * size ≤ m * size := Nat.mul_le_mul_right _ hn
  exact H.head (World.grownBy.refl _ _) ⟨by simp; omega, .inr ⟨g, m, c, rfl, Nat.zero_le _, H.blk List.mem_cons_self, hn, hm, by omega, rfl⟩⟩ (.inl rfl)
section
variable {ops : Array Oper} {rest : List Oper} {o : Oper} {a : Act} {w W : World} {l : List Thing} {Q : Exit → Act → World → Prop}
/-- append(s, x...), x whatever can be read. -/
theorem wpl_appendA {t e size bytes : Nat} {z : Value} (T : SlTy Tryz.prog t e size bytes z) (hgd : o.guard = none) {s x : Operand}
    (ho : o.op = .call { callee := .builtin .append, args := #[s, x], argTypes := #[t, t] }) {v : Value} (hs : a.eval s = v) {ao : Option Addr} {m c : Nat} (hx : a.eval x = .slice ao m c)
    {n : Nat} {xs news : List Value} (H : Heap W (RowT e size v n xs :: l) w) (hrd : Rd w ao news) (hl : news.length = m * size) (h1 : OneCells news)
    (h63 : n + m ≤ maxLen) (hbytes : (n + m) * bytes ≤ 140737488355328)
    (h : ∀ v' w', (v' = .slice none 0 0 ↔ v = .slice none 0 0 ∧ m = 0) → Heap W (RowT e size v' (n + m) (xs ++ news) :: l) w' → wpList Tryz.prog ops Q rest (a.put o.dst v') w') : wpList Tryz.prog ops Q (o :: rest) a w := by
  by_cases hm : m = 0
  · subst hm
    have hn0 : news = [] := List.eq_nil_of_length_eq_zero (by simpa using hl)
    subst hn0
    obtain ⟨i, hi, hz, hsi, hbi⟩ := T.inf
    have hr : (Builtin.append_ #[t, t] o.type #[v, .slice ao 0 c]).run Tryz.prog w = .ok v w := by
      rcases (H.ok _ List.mem_cons_self).2 with ⟨rfl, rfl⟩ | ⟨g, cap, cur, rfl, _, _, hnc, _⟩
      · cases ao <;> simp [Builtin.append_, run_underlying T.und, sizeOf, typeInfo, hi, Builtin.lenOf, Builtin.firstCells, loadCells, loadCellsFrom]
      · cases ao <;> simp [Builtin.append_, run_underlying T.und, sizeOf, typeInfo, hi, Builtin.lenOf, Builtin.firstCells, hnc, storeCells, loadCells, loadCellsFrom]
    refine wpList_plain hgd fun K hK => ?_
    unfold Oper.wp execOp
    simp only [ho, resolve, invoke, builtin, Sem.run_bind, Sem.run_pure, Result.andThen_ok, List.map_toArray, List.map_cons, List.map_nil, hs, hx, hr]
    exact hK _ _ (h v w ⟨fun e => ⟨e, rfl⟩, fun e => e.1⟩ (by rw [List.append_nil]; exact H))
  · obtain ⟨b, off, rfl, _⟩ := hrd.lt (by rw [hl]; have := T.pos; exact Nat.mul_pos (by omega) this)
    refine wpl_appendH T hgd ho hs hx H hrd hl h1 h63 hbytes fun v' w' H' => h v' w' ⟨fun e => ?_, fun e => absurd e.2 hm⟩ H'
    subst e
    obtain ⟨_, ⟨_, h0⟩ | ⟨g, cap, cur, hv, _⟩⟩ := H'.ok _ List.mem_cons_self
    · omega
    · cases hv
end
end Go.Proofs.YtgobnamhdkbbeaaGreat

/- ledgers.Ledger: Lines. -/
namespace Go.Proofs.YtgobnamhdkbbeaaGreat
open Go.RowKit Go.Sort
set_option linter.unusedSimpArgs false
set_option linter.unusedVariables false
theorem slLin : SlTy Tryz.prog 59 65 5 24 (.agg (line 0 0 0 0 0)) := slTy_mk Tryz.underlying59 (by kernel_rfl) rfl (by decide)
theorem bs_line : Tryz.prog.underlying 59 = some (.slice 65) ∧ (Tryz.prog.info? 65).map (fun i => (i.size, i.zero.map Value.cells)) = some ((line 0 0 0 0 0).size, some (line 0 0 0 0 0)) ∧ 0 < (line 0 0 0 0 0).size ∧ (line 0 0 0 0 0).size ≤ 65536 := ⟨Tryz.underlying59, by kernel_rfl, by decide, by decide⟩
theorem line_one (a b c d e : Int) : OneCells (line a b c d e).toList := by
  intro u hu
  simp at hu
  rcases hu with rfl | rfl | rfl | rfl | rfl <;> rfl
section
variable {W w : World} {l : List Thing} {p q g n c : Nat} {L : List Lin} {S : Lgr}
theorem cmpLays_order (blk off size : Nat) (w : World) : CmpLays Tryz.prog 54 #[] linV 5 cfL blk off size w := fun m os dk hs x y => order_ans x y _
theorem lsort_H (H : Heap W (Sl g 65 5 n c (linL L) :: l) w) (hn : L.length = n) (hb : n ≤ 1000000) (hp : L.Perm S.L) (G : S.Good) :
    Calls Tryz.prog 53 #[.slice (some ⟨g, 0, none⟩) n c, .func (.func 54) #[] #[]] w fun e w' => e = .returned (.tuple #[]) ∧ Heap W (Sl g 65 5 n c (linL S.L) :: l) w' := by
  have hsz : L.toArray.size = n := by simpa using hn
  have eg : ∀ args w, (callFunc 54 args).run Tryz.prog w = .ok (.enter 54 args) w := enters_of Tryz.func54 (by kernel_rfl) rfl
  have hcon := AnyQ.slices_SortFunc Tryz.sortLine 5 Tryz.isAgg65 Tryz.sizeOf65 linV (fun _ => rfl) (fun x v hv => by simp [linV] at hv; rcases hv with rfl | rfl | rfl | rfl | rfl <;> rfl) cfL swoL 54 #[] g 0 c L.toArray w eg (cmpLays_order g 0 _ w) (sort_holds (H.ok _ List.mem_cons_self) hn) (sl_lt H) (by omega)
  change Calls Tryz.prog 53 _ _ _ at hcon
  rw [hsz] at hcon
  refine hcon.mono fun e w' ⟨he, d', k, os, h1, h2, hw⟩ => ⟨he, ?_⟩
  subst hw
  exact sort_heap H hn hp G (by rw [hsz]; exact h1) (by rw [hsz]; exact h2)
end
end Go.Proofs.YtgobnamhdkbbeaaGreat

/- ledgers.Ledger: Lines. -/
namespace Go.Proofs.YtgobnamhdkbbeaaGreat
open Go.RowKit
set_option linter.unusedSimpArgs false
set_option linter.unusedVariables false
theorem kvL_inj {x y : Lin} (h : kvL x = kvL y) : x = y := by
  obtain ⟨a, b, c, d, e⟩ := x
  obtain ⟨a', b', c', d', e'⟩ := y
  simp [kvL, keyL, valL] at h
  obtain ⟨⟨rfl, rfl, rfl⟩, rfl, rfl⟩ := h
  rfl
theorem perm_of_kv : ∀ {A B : List Lin}, (A.map kvL).Perm (B.map kvL) → A.Perm B := by
  intro A
  induction A with
  | nil => intro B h; have := h.length_eq; simp at this; rw [List.eq_nil_of_length_eq_zero this.symm]
  | cons x A ih =>
    intro B h
    have hx : kvL x ∈ B.map kvL := h.mem_iff.1 (List.mem_cons_self ..)
    obtain ⟨y, hy, e⟩ := List.mem_map.1 hx
    obtain rfl := kvL_inj e
    obtain ⟨s, t, rfl⟩ := List.append_of_mem hy
    have h2 : (kvL y :: A.map kvL).Perm (kvL y :: (s ++ t).map kvL) := by
      refine h.trans ?_
      rw [List.map_append, List.map_cons, List.map_append]
      exact List.perm_middle
    exact ((ih h2.cons_inv).cons y).trans List.perm_middle.symm
/-- A list that is told, in a row of its own. -/
def RowPost (W : World) (l : List Thing) (e size : Nat) (xs : List Value) (n : Nat) (r : Ending) (w' : World) : Prop :=
  ∃ g c, r = .returned (.slice (some ⟨g, 0, none⟩) n c) ∧ n ≤ c ∧ c ≤ maxLen ∧ Heap W (Sl g e size n c xs :: l) w'
structure LinesR (W : World) (l : List Thing) (P : List Int) (p q r : Nat) (es : Array MapEntry) (clock : Nat) (v : Value) (wr : World) : Prop where
  out : ∃ (done : List MapEntry) (D : List Lin) (g c c0 : Nat), done.Nodup ∧ (∀ y ∈ done, y ∈ es.toList) ∧ done.map kvOf = D.map kvL ∧ clock ≤ c0 ∧ v = .slice (some ⟨g, 0, none⟩) D.length c ∧
    Heap W (RowT 65 5 (.slice (some ⟨g, 0, none⟩) D.length c) D.length (linL D) :: IterX r q clock (done.map (fun e : MapEntry => e.born)).toArray c0 :: LdC p P (some q) :: MapX q es clock :: l) wr
def lenV : Value → Nat
  | .slice _ n _ => n
  | _ => 0
section
variable {W w : World} {l : List Thing} {p q : Nat} {S : Lgr}
theorem nodup_leL {α : Type} : ∀ {A B : List α}, A.Nodup → (∀ x ∈ A, x ∈ B) → A.length ≤ B.length
  | [], _, _, _ => by simp
  | x :: A, B, h, hs => by
    obtain ⟨s, t, rfl⟩ := List.append_of_mem (hs x (List.mem_cons_self ..))
    have h1 := List.nodup_cons.1 h
    have := nodup_leL (A := A) (B := s ++ t) h1.2 (fun y hy => by
      have := hs y (List.mem_cons_of_mem _ hy)
      simp only [List.mem_append, List.mem_cons] at this ⊢
      rcases this with h' | rfl | h'
      · exact .inl h'
      · exact absurd hy h1.1
      · exact .inr h')
    simp only [List.length_append, List.length_cons] at this ⊢
    omega
set_option maxRecDepth 100000
set_option maxHeartbeats 2000000
theorem llines_H (G : S.Good) (H : Heap W (LdC p S.P (some q) :: LdM q S.L :: l) w) : Calls Tryz.prog 26 #[.pointer (some ⟨p, 0, none⟩)] w fun e w' => RowPost W (LdC p S.P (some q) :: LdM q S.L :: l) 65 5 (linL S.L) S.L.length e w' := by
  have hlen := prs_len S.L
  have hfew := G.few
  have h1 : (prs S.L).length ≤ 65536 := by omega
  have h2 : 24 * (prs S.L).length ≤ 281474976710656 := by omega
  have h3 : (prs S.L).length ≤ maxLen := by unfold maxLen; omega
  have HG := Lib.hid G
  have HLEN := Lib.hid hlen
  have HFEW := Lib.hid hfew
  clear G hlen hfew
  go_enter Tryz.func26, Tryz.ntmps26
  go_wp2_with (first
    | go_skip
    | ((with_reducible apply lthere_call H); (· (repeat (first | (with_reducible exact List.mem_cons_self) | with_reducible apply List.mem_cons_of_mem))); (clear H; intro _ H))
    | ((with_reducible show wpList _ _ _ (_ :: _) _ _); (with_reducible apply wpl_loadCH); (· exact cell_map); (· rfl); (· rfl); (· exact H); (· (repeat (first | (with_reducible exact List.mem_cons_self) | with_reducible apply List.mem_cons_of_mem))); (· exact ledA_map _ _); (simp only [Act.put, List.setIfInBounds_toArray, List.set_cons_zero, List.set_cons_succ]))
    | ((with_reducible show wpList _ _ _ (_ :: _) _ _); (with_reducible apply wpl_lenM map_ty.und); (· rfl); (· rfl); (· exact H); (· (repeat (first | (with_reducible exact List.mem_cons_self) | with_reducible apply List.mem_cons_of_mem))); (simp only [Act.put, List.setIfInBounds_toArray, List.set_cons_zero, List.set_cons_succ]))
    | ((with_reducible show wpList _ _ _ (_ :: _) _ _); (with_reducible apply wpl_makeC slLin (n := 0) (m := (prs S.L).length)); (· rfl); (· rfl); (· rfl); (· rfl); (· exact Nat.zero_le _); (· exact h1); (· exact h2); (· exact H); (clear H; intro pm _ H); (simp only [Act.put, List.setIfInBounds_toArray, List.set_cons_zero, List.set_cons_succ]); (replace H := ((H.perm (.cons _ (.swap _ _ _))).pull (.there .here)).openM; obtain ⟨es, clock, hes, H⟩ := H))
    | ((with_reducible show wpList _ _ _ (_ :: _) _ _); (with_reducible apply wpl_rangeM map_ty.und); (· rfl); (· rfl); (· exact H); (· (repeat (first | (with_reducible exact List.mem_cons_self) | with_reducible apply List.mem_cons_of_mem))); (clear H; intro pr _ H); (simp only [Act.put, List.setIfInBounds_toArray, List.set_cons_zero, List.set_cons_succ]))
    | ((with_reducible show wpList _ _ _ (_ :: _) _ _); (with_reducible apply wpl_loadCH); (· exact cell_map); (· rfl); (· rfl); (· exact H); (· (repeat (first | (with_reducible exact List.mem_cons_self) | with_reducible apply List.mem_cons_of_mem))); (· exact ledA_map _ _); (simp only [Act.put, List.setIfInBounds_toArray, List.set_cons_zero, List.set_cons_succ])))
  replace H := ((H.pull (.there (.there .here))).celRowA (n := 0) (m := (prs S.L).length) (size := 5) (by rw [size_madeCells]) (Nat.zero_le _) h3)
  simp only [Nat.zero_mul, List.take_zero] at H
  replace H := H.perm (.cons _ (.cons _ (.swap _ _ _)))
  have hsz : es.size = S.L.length := hes.size.trans HLEN.out
  have H0 := H
  clear H
  go_loopw [3] (fun v wr => LinesR W l S.P p q pr es clock v wr) (fun v _ => es.size - lenV v)
  case atStart => exact ⟨[], [], pm, _, clock, .nil, (fun _ h => by cases h), rfl, Nat.le_refl _, rfl, H0⟩
  case round =>
    obtain ⟨done, D, g, c, c0, hnd, hin, hkv, hc0, rfl, H⟩ := hrel.out
    clear H0 hrel
    have hDl : D.length = done.length := by have := congrArg List.length hkv; simpa using this.symm
    have hle : done.length ≤ S.L.length := by
      have := nodup_leL hnd hin
      have e : es.toList.length = es.size := by simp
      omega
    have hD1 : D.length + 1 ≤ maxLen := by have := HFEW.out; unfold maxLen; omega
    have hD2 : (D.length + 1) * 24 ≤ 140737488355328 := by have := HFEW.out; omega
    have HKV := Lib.hid hkv
    have HND := Lib.hid hnd
    have HIN := Lib.hid hin
    have HES := Lib.hid hes
    have HDL := Lib.hid hDl
    have HSZ := Lib.hid hsz
    clear hkv hnd hin hDl hsz hes
    go_wp2_with (first
      | go_skip
      | ((with_reducible show wpList _ _ _ (_ :: _) _ _); (with_reducible apply wpl_nextP); (· rfl); (· rfl); (· exact HES.out.st); (· exact hc0); (· exact HIN.out); (· exact HND.out); (· exact H); (· (repeat (first | (with_reducible exact List.mem_cons_self) | with_reducible apply List.mem_cons_of_mem))); (· (repeat (first | (with_reducible exact List.mem_cons_self) | with_reducible apply List.mem_cons_of_mem))); (· intro en; (repeat (first | (with_reducible exact Repl.here) | with_reducible apply Repl.there)))))
    refine ⟨fun hperm => ?_, fun en hen hnin w1 H1 hent => ?_⟩
    · have hp : D.Perm S.L := perm_of_kv (by rw [← HKV.out]; exact (hperm.map kvOf).trans HES.out.perm)
      have hDn : D.length = S.L.length := hp.length_eq
      have hb : D.length ≤ 1000000 := by have := HFEW.out; omega
      have HP := Lib.hid hp
      have HN := Lib.hid hDn
      clear hperm hp hDn
      (simp only [Act.put, List.setIfInBounds_toArray, List.set_cons_zero, List.set_cons_succ])
      go_wp2_with (go_skip)
      refine (lsort_H (g := g) (n := D.length) (c := c) (L := D) H rfl hb HP.out HG.out).mono ?_
      clear H
      rintro e w2 ⟨rfl, H⟩
      go_wp2_with (go_skip)
      go_ret
      replace H := (H.drop (.there .here)).pull (.there (.there .here))
      replace H := (H.shutM HES.out).perm (.swap _ _ _)
      replace H := H.perm (.cons _ (.swap _ _ _))
      obtain ⟨g', c', e', hn', hm'⟩ : ∃ g' c', Value.slice (some ⟨g, 0, none⟩) D.length c = .slice (some ⟨g', 0, none⟩) D.length c' ∧ D.length ≤ c' ∧ c' ≤ maxLen := by
        obtain ⟨_, ⟨h, _⟩ | ⟨g', cap, cur, h, _, _, h4, h5, _⟩⟩ := H.ok _ List.mem_cons_self
        · cases h
        · exact ⟨g', cap, h, h4, h5⟩
      simp only [Value.slice.injEq, Option.some.injEq, Addr.mk.injEq, true_and, and_true] at e'
      obtain ⟨rfl, rfl⟩ := e'
      rw [HN.out] at H hn' ⊢
      exact ⟨g, c, rfl, hn', hm', H⟩
    · have hm := HES.out.mem hen
      obtain ⟨x, hx, hkx⟩ := List.mem_map.1 hm
      have hk : en.key = keyL x.cr x.db x.cu := (congrArg Prod.fst hkx).symm
      have hv : en.val = valL x.lim x.deb := (congrArg Prod.snd hkx).symm
      rw [hk, hv] at hent
      rw [hk, hv]
      have HE := Lib.hid hent
      have HD2 := Lib.hid (show (done ++ [en]).map kvOf = (D ++ [x]).map kvL by rw [List.map_append, List.map_append, HKV.out]; congr 1; simp [kvOf, hkx])
      have HND2 := Lib.hid (show (done ++ [en]).Nodup by
        rw [List.nodup_append]
        refine ⟨HND.out, by simp, fun a ha b hb e => hnin ?_⟩
        obtain rfl : b = en := by simpa using hb
        exact e ▸ ha)
      have HIN2 := Lib.hid (show ∀ y ∈ done ++ [en], y ∈ es.toList from fun y hy => by
        rcases List.mem_append.1 hy with hy | hy
        · exact HIN.out y hy
        · obtain rfl : y = en := by simpa using hy
          exact hen)
      have HLT := Lib.hid (show D.length < es.size by
        have h1 := nodup_leL HND2.out HIN2.out
        have e : es.toList.length = es.size := by simp
        rw [List.length_append] at h1
        have := HDL.out
        simp at h1; omega)
      clear hent hk hv hm hkx hx hnin H
      have H := H1
      clear H1
      (simp only [Act.put, List.setIfInBounds_toArray, List.set_cons_zero, List.set_cons_succ])
      go_wp2_with (first
        | ((with_reducible show wpList _ _ _ (_ :: _) _ _); (with_reducible apply wpl_appendH slLin); (· rfl); (· rfl); (· rfl); (· rfl); (· exact H.pull (.there (.there (.there .here)))); (· exact H.celRd List.mem_cons_self); (· rfl); (· exact line_one _ _ _ _ _); (· exact hD1); (· exact hD2); (clear H; intro v2 _ H); (simp only [Act.put, List.setIfInBounds_toArray, List.set_cons_zero, List.set_cons_succ]))
        | ((with_reducible show wpList _ _ _ (_ :: _) _ _); (with_reducible apply wpl_bsRH); (· rfl); (· rfl); (· exact bs_line); (· exact rfl); (· exact H); (clear H; intro pl _ H); (simp only [Act.put, List.setIfInBounds_toArray, List.set_cons_zero, List.set_cons_succ]))
        | go_skip
        | ((with_reducible show wpList _ _ _ (_ :: _) _ _); (with_reducible apply wpl_entryM); (· rfl); (· rfl); (· exact HE.out _ _ H (List.mem_cons_of_mem _ (List.mem_cons_of_mem _ (List.mem_cons_of_mem _ List.mem_cons_self))) (List.mem_cons_of_mem _ List.mem_cons_self)); (simp only [Act.put, List.setIfInBounds_toArray, List.set_cons_zero, List.set_cons_succ]))
        | ((with_reducible show wpList _ _ _ (_ :: _) _ _); (with_reducible apply wpl_allocRH row_ends); (· rfl); (· exact H); (clear H; intro pe _ H); (simp only [Act.put, List.setIfInBounds_toArray, List.set_cons_zero, List.set_cons_succ]))
        | ((with_reducible show wpList _ _ _ (_ :: _) _ _); (with_reducible apply wpl_allocRH row_owe); (· rfl); (· exact H); (clear H; intro po _ H); (simp only [Act.put, List.setIfInBounds_toArray, List.set_cons_zero, List.set_cons_succ]))
        | ((with_reducible show wpList _ _ _ (_ :: _) _ _); (with_reducible apply wpl_storeRH row_ends); (· rfl); (· rfl); (· rfl); (· with_reducible exact ends_cells ..); (· exact H); (· (repeat (first | (with_reducible exact List.mem_cons_self) | with_reducible apply List.mem_cons_of_mem))); (· (simp only [ends_sz, Nat.reduceAdd, Nat.reduceLeDiff, Nat.le_refl]; done)); (· with_reducible exact ends_splice ..); (· (repeat (first | (with_reducible exact Repl.here) | with_reducible apply Repl.there))); (clear H; intro _ H); (simp only [Act.put, List.setIfInBounds_toArray, List.set_cons_zero, List.set_cons_succ]))
        | ((with_reducible show wpList _ _ _ (_ :: _) _ _); (with_reducible apply wpl_storeRH row_owe); (· rfl); (· rfl); (· rfl); (· with_reducible exact owe_cells ..); (· exact H); (· (repeat (first | (with_reducible exact List.mem_cons_self) | with_reducible apply List.mem_cons_of_mem))); (· (simp only [owe_sz, Nat.reduceAdd, Nat.reduceLeDiff, Nat.le_refl]; done)); (· with_reducible exact owe_splice ..); (· (repeat (first | (with_reducible exact Repl.here) | with_reducible apply Repl.there))); (clear H; intro _ H); (simp only [Act.put, List.setIfInBounds_toArray, List.set_cons_zero, List.set_cons_succ]))
        | ((with_reducible show wpList _ _ _ (_ :: _) _ _); (with_reducible apply wpl_loadCH); (· first | exact cell_party | exact cell_cur | exact cell_i64); (· rfl); (· rfl); (· exact H); (· (repeat (first | (with_reducible exact List.mem_cons_self) | with_reducible apply List.mem_cons_of_mem))); (· (with_reducible first | exact ends_g0 .. | exact ends_g1 .. | exact ends_g2 .. | exact owe_g0 .. | exact owe_g1 ..)); (simp only [Act.put, List.setIfInBounds_toArray, List.set_cons_zero, List.set_cons_succ]))
        | ((with_reducible show wpList _ _ _ (_ :: _) _ _); (with_reducible apply wpl_bsRH); (· rfl); (· rfl); (· exact bs_line); (· exact rfl); (· exact H); (clear H; intro pl _ H); (simp only [Act.put, List.setIfInBounds_toArray, List.set_cons_zero, List.set_cons_succ])))
      replace H := ((H.drop (.there .here)).drop (.there .here)).drop (.there .here)
      obtain ⟨g2, c2, rfl, _, _⟩ := RowT.sl (H.ok _ List.mem_cons_self) (Nat.succ_pos _)
      have hapx : linL D ++ (line x.cr x.db x.cu x.lim x.deb).toList = linL (D ++ [x]) := by rw [linL_app]; simp [linL, linV]
      rw [hapx] at H
      have hlx : D.length + 1 = (D ++ [x]).length := by simp
      have HLX := Lib.hid hlx
      go_roundw
      case rel =>
        rw [HLX.out] at H ⊢
        exact ⟨⟨done ++ [en], D ++ [x], g2, c2, clock, HND2.out, HIN2.out, HD2.out, Nat.le_refl _, rfl, H⟩⟩
      case measure =>
        have := HLT.out
        simp only [lenV]
        omega
end
end Go.Proofs.YtgobnamhdkbbeaaGreat

/- ledgers.Ledger: Position, Total. -/
namespace Go.Proofs.YtgobnamhdkbbeaaGreat
open Go.RowKit
set_option linter.unusedSimpArgs false
set_option linter.unusedVariables false
structure SumR (W : World) (l : List Thing) (n : Nat) (f : Nat → Int) (v i : Value) (wr : World) : Prop where
  out : ∃ k : Nat, k ≤ n ∧ i = .int .i64 (k : Int) ∧ v = .int .i64 (f k) ∧ Heap W l wr
section
variable {W w : World} {l r s : List Thing} {p q : Nat} {S : Lgr}
set_option maxRecDepth 100000
set_option maxHeartbeats 2000000
end
end Go.Proofs.YtgobnamhdkbbeaaGreat

/- Loud operations in a region that draws: a slice literal of one row, an append. -/
namespace Go.Proofs.YtgobnamhdkbbeaaGreat
open Go.RowKit
set_option linter.unusedVariables false
section
variable {W : World} {G : List Thing → Prop} {loud : List Nat} {K : List Thing → Act → Prop} {l r : List Thing} {a : Act} {lo : List Oper} {ks : List Nat} {k : Nat} {dst : Option Tmp} {ty : TypeId} {pos : String} {after : Array Edge}
theorem wpO_bsR {x : Operand} {t e : TypeId} {c zs : Array Value} (ho : lo[k]? = some ⟨dst, .buildSlice t 1 #[(0, x)], ty, pos, after, none⟩) (hk : loud.contains k = true) (hx : a.eval x = .agg c)
    (hT : Tryz.prog.underlying t = some (.slice e) ∧ (Tryz.prog.info? e).map (fun i => (i.size, i.zero.map Value.cells)) = some (zs.size, some zs) ∧ 0 < zs.size ∧ zs.size ≤ 65536) (hv : c.size = zs.size)
    (hG : ∀ p, G (Cel p c e :: l)) (h : ∀ p, wpO Tryz.prog lo.toArray W G loud K ks (Cel p c e :: l) (a.put dst (.slice (some ⟨p, 0, none⟩) 1 1))) : wpO Tryz.prog lo.toArray W G loud K (k :: ks) l a := by
  refine wpO_loud ho hk ⟨rfl, fun w H => ⟨_, _, _, .inl ?_, H.alloc c e, hG _, h _⟩⟩
  unfold execOp
  simp only [List.map_toArray, List.map_cons, List.map_nil, hx, Sem.run_bind, run_buildSlice1 hT.1 hT.2.1 hT.2.2.1 hT.2.2.2 (.agg c) hv, Result.andThen_ok, Sem.run_pure]
  rfl
theorem wpO_append {t e size bytes : Nat} {z : Value} (T : SlTy Tryz.prog t e size bytes z) {s x : Operand} (ho : lo[k]? = some ⟨dst, .call { callee := .builtin .append, args := #[s, x], argTypes := #[t, t] }, ty, pos, after, none⟩) (hk : loud.contains k = true)
    {v : Value} {b m c n : Nat} {xs news : List Value} {cc : Array Value} {te : TypeId} (hs : a.eval s = v) (hx : a.eval x = .slice (some ⟨b, 0, none⟩) m c) (pl : Pull l (RowT e size v n xs) r) (mb : Cel b cc te ∈ l) (hnews : cc.toList = news)
    (hl : news.length = m * size) (h1 : OneCells news) (h63 : n + m ≤ maxLen) (hbytes : (n + m) * bytes ≤ 140737488355328)
    (hG : ∀ v', G (RowT e size v' (n + m) (xs ++ news) :: r)) (h : ∀ v', wpO Tryz.prog lo.toArray W G loud K ks (RowT e size v' (n + m) (xs ++ news) :: r) (a.put dst v')) : wpO Tryz.prog lo.toArray W G loud K (k :: ks) l a := by
  refine wpO_loud ho hk ⟨rfl, fun w H => ?_⟩
  have H2 := H.pull pl
  have hown : w.ownsRow 0 e size v n xs := H2.ok _ List.mem_cons_self
  have hrd := H.celRd mb
  rw [hnews] at hrd
  obtain ⟨i, hi, hz, hsz, hb⟩ := T.inf
  have hnw := hrd.addr
  obtain ⟨v1, w1, hr1, hbl⟩ := run_append_block w T ty 0 v n xs hown ⟨b, 0, none⟩ m c news hl hnw h1 h63 hbytes
  obtain ⟨v', w', hr, h2, h3, h4⟩ := run_append_own (P := Tryz.prog) w 0 t ty e i z size bytes T.und hi hz hsz hb T.zc T.pos v n xs hown ⟨b, 0, none⟩ m c news hl hnw h1 h63 hbytes (Nat.zero_le _)
  rw [hr1] at hr
  simp only [Result.ok.injEq] at hr
  obtain ⟨rfl, rfl⟩ := hr
  refine ⟨_, v1, w1, .inl ?_, H2.head h3 h2 ?_, hG _, h _⟩
  · unfold execOp
    simp only [resolve, invoke, builtin, Sem.run_bind, Sem.run_pure, Result.andThen_ok, List.map_toArray, List.map_cons, List.map_nil, hs, hx, hr1]
  · rcases hbl with hbl | hbl
    · exact .inl hbl
    · refine .inr fun j hj => ?_
      have h5 := ownsRow_fp h2 j hj
      have hj' : v1.ownBlock = some j := hj
      rw [hbl] at hj'
      cases hj'
      exact ⟨Nat.le_refl _, h5.2⟩
end
end Go.Proofs.YtgobnamhdkbbeaaGreat
