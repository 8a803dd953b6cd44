/- ledgers.order. -/
import Derived.Test.YtacglcpjbepfnaaGrw
import Derived.Test.YtacglcpjbepfnaaLedSort
import Derived.Test.YtacglcpjbepfnaaLed2
namespace Go.Proofs.Ytacglcpjbepfnaa
open Go.RowKit Go.Sort
set_option linter.unusedSimpArgs false
set_option linter.unusedVariables false
set_option maxRecDepth 100000
set_option maxHeartbeats 1000000
theorem nanC_ans (x : Int) (w : World) : Calls Try.prog 143 #[.int .u8 x] w fun e w' => e = .returned (.bool false) ∧ w' = w := by
  go_enter Try.func143, Try.ntmps143
  go_wp2_with (go_skip)
  go_ret
  exact ⟨by simp, rfl⟩
theorem nanP_ans (x : Int) (w : World) : Calls Try.prog 144 #[.int .u8 x] w fun e w' => e = .returned (.bool false) ∧ w' = w := by
  go_enter Try.func144, Try.ntmps144
  go_wp2_with (go_skip)
  go_ret
  exact ⟨by simp, rfl⟩
theorem cmpC_ans (x y : Int) (w : World) : Calls Try.prog 121 #[.int .u8 x, .int .u8 y] w fun e w' => e = .returned (.int .i64 (Lib.compareInt x y)) ∧ w' = w := by
  have c1 := nanC_ans x
  have c2 := nanC_ans y
  have key : (x < y ∧ Lib.compareInt x y = -1) ∨ (¬ x < y ∧ y < x ∧ Lib.compareInt x y = 1) ∨ (¬ x < y ∧ ¬ y < x ∧ Lib.compareInt x y = 0) := by
    unfold Lib.compareInt
    by_cases h : x < y
    · exact .inl ⟨h, by rw [if_pos h]⟩
    · by_cases h2 : y < x
      · exact .inr (.inl ⟨h, h2, by rw [if_neg h, if_pos h2]⟩)
      · exact .inr (.inr ⟨h, h2, by rw [if_neg h, if_neg h2]⟩)
  rcases key with ⟨h, e⟩ | ⟨h, h2, e⟩ | ⟨h, h2, e⟩
  all_goals
    rw [e]
    clear e
    go_enter Try.func121, Try.ntmps121
    go_wp2_with (first | go_skip | ((refine (c1 _).mono ?_); rintro e w' ⟨rfl, rfl⟩) | ((refine (c2 _).mono ?_); rintro e w' ⟨rfl, rfl⟩))
    go_ret
    exact ⟨rfl, rfl⟩
theorem cmpP_ans (x y : Int) (w : World) : Calls Try.prog 122 #[.int .u8 x, .int .u8 y] w fun e w' => e = .returned (.int .i64 (Lib.compareInt x y)) ∧ w' = w := by
  have c1 := nanP_ans x
  have c2 := nanP_ans y
  have key : (x < y ∧ Lib.compareInt x y = -1) ∨ (¬ x < y ∧ y < x ∧ Lib.compareInt x y = 1) ∨ (¬ x < y ∧ ¬ y < x ∧ Lib.compareInt x y = 0) := by
    unfold Lib.compareInt
    by_cases h : x < y
    · exact .inl ⟨h, by rw [if_pos h]⟩
    · by_cases h2 : y < x
      · exact .inr (.inl ⟨h, h2, by rw [if_neg h, if_pos h2]⟩)
      · exact .inr (.inr ⟨h, h2, by rw [if_neg h, if_neg h2]⟩)
  rcases key with ⟨h, e⟩ | ⟨h, h2, e⟩ | ⟨h, h2, e⟩
  all_goals
    rw [e]
    clear e
    go_enter Try.func122, Try.ntmps122
    go_wp2_with (first | go_skip | ((refine (c1 _).mono ?_); rintro e w' ⟨rfl, rfl⟩) | ((refine (c2 _).mono ?_); rintro e w' ⟨rfl, rfl⟩))
    go_ret
    exact ⟨rfl, rfl⟩
theorem AnsG.same {f : FuncId} {args : Array Value} {v : Value} (h : ∀ w, Calls Try.prog f args w fun e w' => e = .returned v ∧ w' = w) : AnsG f args v := fun w => (h w).mono fun _ _ ⟨he, hw⟩ => ⟨he, hw ▸ Grw.refl _⟩
theorem order_ans (x y : Lin) : AnsG 82 #[.agg (line x.cr x.db x.cu x.lim x.deb), .agg (line y.cr y.db y.cu y.lim y.deb)] (.int .i64 (cfL x y)) := by
  intro w
  have hcf : cfL x y = orL [Lib.compareInt x.cu y.cu, Lib.compareInt x.cr y.cr, Lib.compareInt x.db y.db] := by
    unfold cfL or3 orL orL orL orL
    split <;> first | rfl | (split <;> first | rfl | (split <;> first | rfl | (simp_all)))
  rw [hcf]
  clear hcf
  have c1 := AnsG.same (cmpC_ans x.cu y.cu)
  have c2 := AnsG.same (cmpP_ans x.cr y.cr)
  have c3 := AnsG.same (cmpP_ans x.db y.db)
  obtain ⟨xr, xd, xu, xl, xe⟩ := x
  obtain ⟨yr, yd, yu, yl, ye⟩ := y
  simp only at c1 c2 c3 ⊢
  have h1 : blk ((w.alloc (.cells (line xr xd xu xl xe) 39)).alloc (.cells (line yr yd yu yl ye) 39)) w.heap.size = some (.cells (line xr xd xu xl xe) 39 (0, 0)) := by
    unfold blk
    rw [Below.heap_alloc _ _ _ (by simp)]
    exact heap_alloc_new w _
  have h2 : blk ((w.alloc (.cells (line xr xd xu xl xe) 39)).alloc (.cells (line yr yd yu yl ye) 39)) (w.heap.size + 1) = some (.cells (line yr yd yu yl ye) 39 (0, 0)) := by
    have := heap_alloc_new (w.alloc (.cells (line xr xd xu xl xe) 39)) (.cells (line yr yd yu yl ye) 39)
    simpa [blk] using this
  have hg : Grw w ((w.alloc (.cells (line xr xd xu xl xe) 39)).alloc (.cells (line yr yd yu yl ye) 39)) := ((Grw.refl w).alloc _).alloc _
  generalize Lib.compareInt xu yu = a at *
  generalize Lib.compareInt xr yr = b at *
  generalize Lib.compareInt xd yd = c at *
  generalize hw0 : ((w.alloc (.cells (line xr xd xu xl xe) 39)).alloc (.cells (line yr yd yu yl ye) 39)) = w0 at *
  have HW := Lib.hid hw0
  clear hw0
  go_enter Try.func82, Try.ntmps82
  go_wp2_with (go_skip)
  rw [HW.out]
  refine wp_region_G_tail 15 (by kernel_rfl) (by kernel_rfl) ?_
  simp only [List.take_succ_cons, List.take_zero, List.drop_succ_cons, List.drop_zero]
  repeat (first
    | go_big_quiet_skip
    | ((with_reducible apply wpQ_loadCG); (· first | exact cell_party | exact cell_cur); (· rfl); (· rfl); (· first | exact h1 | exact h2); (· with_reducible first | exact line_g0 .. | exact line_g1 .. | exact line_g2 ..); (simp only [Act.put, List.setIfInBounds_toArray, List.set_cons_zero, List.set_cons_succ]))
    | go_big_quiet_step (with_reducible exact AnsG.quiet (by assumption)))
  refine wpQuiet_nil ?_
  clear h1 h2
  intro w1 g1
  have g2 := hg.trans g1
  go_wp2_with (go_skip)
  have hb : Rd (w1.alloc (.cells #[.int .i64 a, .int .i64 b, .int .i64 c] 3)) (some ⟨w1.heap.size, 0, none⟩) ([a, b, c].map (Value.int .i64)) := by
    intro i hi
    refine ⟨_, _, rfl, ?_⟩
    rw [cell_of_row _ _ (0 + i) _ _ _ (heap_alloc_new w1 _)]
    simp at hi
    simp [hi]
  refine (or_C _ 3 3 [a, b, c] rfl (by omega) _ hb).mono ?_
  clear hb
  rintro e w' ⟨rfl, rfl⟩
  go_wp2_with (go_skip)
  go_ret
  exact ⟨rfl, g2.alloc _⟩
end Go.Proofs.Ytacglcpjbepfnaa
