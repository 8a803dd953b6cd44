/- Worlds that are others grown: some draws on, some blocks behind. cmp.Compare, cmp.Or. -/
import Derived.Test.YtacglcpjbepfnaaTail
import Derived.Test.YtacglcpjbepfnaaRow
import Derived.Test.YtacglcpjbepfnaaHeapSlide
import Derived.Sort.Grow
import Derived.Lib.Small
namespace Go.Proofs.Ytacglcpjbepfnaa
open Go.RowKit Go.Sort
set_option linter.unusedSimpArgs false
set_option linter.unusedVariables false
def Grw (w w' : World) : Prop := ∃ q os, w' = grow (w.drewN q) os
theorem Grw.refl (w : World) : Grw w w := ⟨0, #[], by rw [grow_empty]; rfl⟩
theorem Grw.trans {a b c : World} (h : Grw a b) (k : Grw b c) : Grw a c := by
  obtain ⟨q, os, rfl⟩ := h
  obtain ⟨q', os', rfl⟩ := k
  exact ⟨q + q', os ++ os', by rw [show (grow (a.drewN q) os).drewN q' = grow ((a.drewN q).drewN q') os from rfl, grow_grow]; simp [World.drewN, grow, Nat.add_assoc]⟩
theorem Grw.alloc {a b : World} (h : Grw a b) (o : Obj) : Grw a (b.alloc o) := h.trans ⟨0, #[o], by rw [alloc_eq_grow]; rfl⟩
theorem Grw.drew {a b : World} (h : Grw a b) : Grw a b.drew := h.trans ⟨1, #[], by rw [grow_empty]; rfl⟩
theorem Grw.old {a b : World} (h : Grw a b) {k : Nat} (hk : k < a.heap.size) : b.heap[k]? = a.heap[k]? := by
  obtain ⟨q, os, rfl⟩ := h
  exact heap_grow_old _ _ hk
theorem Grw.size {a b : World} (h : Grw a b) : a.heap.size ≤ b.heap.size := by
  obtain ⟨q, os, rfl⟩ := h
  simp [grow, World.drewN]
theorem Grw.blk {a b : World} (h : Grw a b) {p : Nat} {o : Obj} (hb : blk a p = some o) : blk b p = some o := (h.old (Array.getElem?_eq_some_iff.1 hb).1).trans hb
theorem Grw.below {a b : World} (h : Grw a b) : Below a.heap.size a b := by
  obtain ⟨q, os, rfl⟩ := h
  exact ⟨rfl, rfl, rfl, by simp [grow, World.drewN], fun k hk => heap_grow_old _ _ hk⟩
open Classical in
noncomputable def World.gr (w d : World) : World := if Grw w d then d else w
theorem gr_grw (w d : World) : Grw w (World.gr w d) := by
  unfold World.gr
  split
  · assumption
  · exact .refl _
theorem gr_of {w w' : World} (h : Grw w w') : ∃ d, w' = World.gr w d := ⟨w', by unfold World.gr; rw [if_pos h]⟩
/-- Called so it answers v, in whatever world, which is then some draws on, with blocks behind. -/
def AnsG (f : FuncId) (args : Array Value) (v : Value) : Prop := ∀ w, Calls Try.prog f args w fun e w' => e = .returned v ∧ Grw w w'
theorem AnsG.quiet {f : FuncId} {args : Array Value} {v : Value} {W d : World} (h : AnsG f args v) : Calls Try.prog f args (World.gr W d) fun e w'' => e = .returned v ∧ ∃ m, w'' = World.gr W m :=
  (h _).mono fun _ _ ⟨he, hg⟩ => ⟨he, gr_of ((gr_grw W d).trans hg)⟩
theorem AnsG.ans {f : FuncId} {args : Array Value} {v : Value} (h : AnsG f args v) : Ans f args v := fun w => (h w).mono fun _ _ ⟨he, hg⟩ => ⟨he, hg.below⟩
section
variable {ops : Array Oper} {rest : List Oper} {a : Act} {w W : World} {Q : Exit → Act → World → Prop}
theorem wp_region_G_tail {id : Nat} {lo : List Oper} (n : Nat) (hm : Try.prog.follows .mixedOrders = true) (hB : Region.lexTailB .any lo.toArray n = true)
    (h : wpQuiet Try.prog lo.toArray (fun w' => ∃ d, w' = World.gr W d) (fun a' => ∀ w', Grw W w' → wpList Try.prog lo.toArray Q (lo.drop n) a' w') (lo.take n) a) : (Code.region id lo.toArray true).wp Try.prog Q a W :=
  wp_region_tail (C := fun w' => ∃ d, w' = World.gr W d) n hm hB (gr_of (Grw.refl W).drew) (wpQuiet_mono (fun _ h w' hw' => by obtain ⟨d, rfl⟩ := hw'; exact h _ (gr_grw _ _)) _ _ h)
theorem wp_region_G {id : Nat} {lo : List Oper} (hm : Try.prog.follows .mixedOrders = true) (hB : Region.lexB .any lo.toArray = true)
    (h : wpQuiet Try.prog lo.toArray (fun w' => ∃ d, w' = World.gr W d) (fun a' => ∀ w', Grw W w' → Q .normal a' w') lo a) : (Code.region id lo.toArray true).wp Try.prog Q a W :=
  wp_region_quiet (C := fun w' => ∃ d, w' = World.gr W d) hm hB (gr_of (Grw.refl W).drew) (wpQuiet_mono (fun _ h w' hw' => by obtain ⟨d, rfl⟩ := hw'; exact h _ (gr_grw _ _)) _ _ (by simpa using h))
theorem wpQ_loadCG {T : TypeId} {dst : Option Tmp} {ty : TypeId} {pos : String} {after : Array Edge} {guard : Option (Nat × Bool)} {x : Operand} {b off : Nat} {K : Act → Prop} (CT : CellTy T) (hw : Region.wanted ⟨dst, .load T x, ty, pos, after, guard⟩ (yielded ops a.tmps) = true) (hx : a.eval x = .pointer (some ⟨b, off, none⟩))
    {c : Array Value} {v : Value} {t : TypeId} (hb : blk W b = some (.cells c t (0, 0))) (hv : c[off]? = some v)
    (h : wpQuiet Try.prog ops (fun w' => ∃ d, w' = World.gr W d) K rest (a.put dst v)) : wpQuiet Try.prog ops (fun w' => ∃ d, w' = World.gr W d) K (⟨dst, .load T x, ty, pos, after, guard⟩ :: rest) a := by
  refine BigFrame.wpQuiet_want hw fun K hK => ⟨_, ?_, hK _ h⟩
  rintro _ ⟨d, rfl⟩
  unfold Oper.quietAt execOp
  simp only [hx, Sem.run_bind, run_loadC CT ((gr_grw W d).blk hb) hv]
  exact ⟨rfl, rfl⟩
theorem wpQ_loadRG {T n : Nat} {z : Array Value} {dst : Option Tmp} {ty : TypeId} {pos : String} {after : Array Edge} {guard : Option (Nat × Bool)} {x : Operand} {b off : Nat} {K : Act → Prop} (RT : RowTy T n z) (hw : Region.wanted ⟨dst, .load T x, ty, pos, after, guard⟩ (yielded ops a.tmps) = true) (hx : a.eval x = .pointer (some ⟨b, off, none⟩))
    {c c1 : Array Value} {t : TypeId} (hb : blk W b = some (.cells c t (0, 0))) (hn : off + n ≤ c.size) (he : c.extract off (off + n) = c1)
    (h : wpQuiet Try.prog ops (fun w' => ∃ d, w' = World.gr W d) K rest (a.put dst (.agg c1))) : wpQuiet Try.prog ops (fun w' => ∃ d, w' = World.gr W d) K (⟨dst, .load T x, ty, pos, after, guard⟩ :: rest) a := by
  subst he
  refine BigFrame.wpQuiet_want hw fun K hK => ⟨_, ?_, hK _ h⟩
  rintro _ ⟨d, rfl⟩
  unfold Oper.quietAt execOp
  simp only [hx, Sem.run_bind, run_loadR RT ((gr_grw W d).blk hb) hn]
  exact ⟨rfl, rfl⟩
end
/-- The first that is not 0. -/
def orL : List Int → Int
  | [] => 0
  | x :: xs => if x ≠ 0 then x else orL xs
set_option maxRecDepth 100000
set_option maxHeartbeats 1000000
theorem or_C (b n c : Nat) (xs : List Int) (hl : xs.length = n) (hn : n ≤ 1000) (w : World) (R : Rd w (some ⟨b, 0, none⟩) (xs.map (Value.int .i64))) :
    Calls Try.prog 108 #[.slice (some ⟨b, 0, none⟩) n c] w fun e w' => e = .returned (.int .i64 (orL xs)) ∧ w' = w := by
  have HL := Lib.hid hl
  have HR := Lib.hid R
  clear R hl
  go_enter Try.func108, Try.ntmps108
  go_wp2_with (go_skip)
  have hstart : orL xs = orL (xs.drop 0) := rfl
  go_loopw [8] (fun i wr => ∃ k : Nat, k ≤ n ∧ i = .int .i64 k ∧ orL xs = orL (xs.drop k) ∧ wr = w) (fun i _ => n - (intOf i).toNat)
  case atStart => exact ⟨0, Nat.zero_le _, rfl, hstart, rfl⟩
  case round =>
    obtain ⟨k, hk, rfl, hO, rfl⟩ := hrel
    clear hstart
    by_cases hlt : k < n
    · have hkx : k < xs.length := by rw [HL.out]; exact hlt
      have hc : wr.cell? ⟨b, k, none⟩ = some (.int .i64 xs[k]) := by
        have := HR.out.get (i := k) (by simpa using hkx)
        simpa using this
      rw [List.drop_eq_getElem_cons hkx] at hO
      generalize xs[k] = x at *
      by_cases h0 : x = 0
      · subst h0
        have HO := Lib.hid (show orL xs = orL (xs.drop (k + 1)) from hO.trans (by rw [orL, if_neg (fun h => h rfl)]))
        clear hO
        go_wp2_with (go_skip)
        refine ⟨⟨k + 1, by omega, by go_num, HO.out, by trivial⟩, ?measure⟩
        case measure => simp [intOf]; omega
      · have HO := Lib.hid (show orL xs = x from hO.trans (by rw [orL, if_pos h0]))
        clear hO
        have e0 : (x != 0) = true := by simpa using h0
        go_wp2_with (go_skip)
        go_ret
        exact ⟨by rw [HO.out]; rfl, rfl⟩
    · obtain rfl : k = n := by omega
      rw [List.drop_of_length_le (by rw [HL.out]; omega)] at hO
      have HO := Lib.hid (show orL xs = 0 from hO)
      clear hO
      go_wp2_with (go_skip)
      go_ret
      exact ⟨by rw [HO.out]; rfl, rfl⟩
end Go.Proofs.Ytacglcpjbepfnaa
