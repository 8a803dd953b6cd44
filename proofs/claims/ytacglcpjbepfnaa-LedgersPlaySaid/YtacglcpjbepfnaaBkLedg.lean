/- A book's pages of parties and of lines; a ledger's lists laid into it. -/
import Derived.Test.YtacglcpjbepfnaaBkApart
import Derived.Test.YtacglcpjbepfnaaSameQ
import Derived.Test.YtacglcpjbepfnaaFull
import Derived.Test.YtacglcpjbepfnaaBkRows
import Derived.Test.YtacglcpjbepfnaaSameL
import Derived.Test.YtacglcpjbepfnaaLed7
import Derived.Test.YtacglcpjbepfnaaAppend
import Derived.Test.YtacglcpjbepfnaaDuo3
/- A book's pages of api.Party: what write, writeBehind, stands and the book's method do. -/
namespace Go.Proofs.Ytacglcpjbepfnaa
open Go.RowKit
set_option linter.unusedSimpArgs false
set_option linter.unusedVariables false
theorem cell_slPa : CellTy 43 := ⟨⟨_, Try.underlying43, rfl⟩, by kernel_rfl⟩
def browPa (sl : Value) (m b : Int) : Array Value := #[sl, .int .u8 m, .int .u8 b]
theorem browPa_g0 (sl : Value) (m b : Int) : (browPa sl m b)[0]? = some sl := rfl
theorem browPa_g1 (sl : Value) (m b : Int) : (browPa sl m b)[1]? = some (.int .u8 m) := rfl
theorem browPa_g2 (sl : Value) (m b : Int) : (browPa sl m b)[2]? = some (.int .u8 b) := rfl
structure WLoopPa (W : World) (l : List Thing) (pb : Nat) (a : Option Addr) (n c lo hi : Nat) (m b v : Int) (P : Nat → List Value → Prop) (i : Value) (wr : World) : Prop where
  out : ∃ (k : Nat) (xs : List Value), i = .int .i64 (k : Int) ∧ lo ≤ k ∧ k ≤ hi ∧ P k xs ∧ Heap W (OwnT 23 1 (.slice a c c) c xs :: Cel pb (browPa (.slice a n c) m b) 137 :: l) wr
def MarksPa (m : Int) (lo hi : Nat) (xs : List Value) : Prop := ∀ i, lo ≤ i → i < hi → xs[i]? = some (.int .u8 m)
theorem MarksPa.step {m : Int} {lo k : Nat} {xs : List Value} (h : MarksPa m lo k xs) (hk : k < xs.length) : MarksPa m lo (k + 1) (xs.set k (.int .u8 m)) := by
  intro i h1 h2
  rw [List.getElem?_set]
  by_cases e : k = i
  · subst e; rw [if_pos rfl, if_pos hk]
  · rw [if_neg e]; exact h i h1 (by omega)
theorem MarksPa.off {m v : Int} {lo hi k : Nat} {xs : List Value} (h : MarksPa m lo hi xs) (hk : hi ≤ k) : MarksPa m lo hi (xs.set k (.int .u8 v)) := by
  intro i h1 h2
  rw [List.getElem?_set, if_neg (by omega)]
  exact h i h1 h2
section
variable {W w : World} {l : List Thing}
set_option maxRecDepth 100000
set_option maxHeartbeats 4000000
theorem write_Pa (a : Option Addr) (n c : Nat) (m b : Int) (H : Heap W (FullT 23 1 a n c (fun _ => True) :: l) w) :
    Calls Try.prog 183 #[.agg (browPa (.slice a n c) m b)] w fun e w' => e = .returned (.tuple #[]) ∧ Heap W (FullT 23 1 a n c (MarksPa m 0 n) :: l) w' := by
  obtain ⟨xs0, -, hn, hc, hl, ha, H'⟩ := H.openFull
  clear H
  have H := H'
  clear H'
  have hcm := hc
  unfold maxLen at hcm
  have HA := Lib.hid ha
  have HC := Lib.hid hc
  clear ha hc hl
  go_enter Try.func183, Try.ntmps183
  go_wp2_with (first | go_skip | ((with_reducible show wpList _ _ _ (_ :: _) _ _); (with_reducible apply wpl_boxRH); (· rfl); (· rfl); (· exact H); (clear H; intro pb _ H); (simp only [Act.put, List.setIfInBounds_toArray, List.set_cons_zero, List.set_cons_succ])))
  have H0 := H.perm (.swap _ _ _)
  clear H
  go_loopw [2] (fun i wr => WLoopPa W l pb a n c 0 n m b m (fun k xs => xs.length = c ∧ MarksPa m 0 k xs) i wr) (fun i _ => n - (intOf i).toNat)
  case atStart => exact ⟨0, xs0, rfl, by omega, by omega, ⟨by have := OwnT.len (H0.ok _ List.mem_cons_self); omega, fun i h1 h2 => by omega⟩, H0⟩
  case round =>
    obtain ⟨k, xs, rfl, -, hk, ⟨hlen, hmk⟩, H'⟩ := hrel.out
    clear H0 hrel
    have H := H'
    clear H'
    by_cases hlt : k < n
    · obtain ⟨g, o, c', e, _, _⟩ := OwnT.form (H.ok _ List.mem_cons_self) (by omega)
      simp only [Value.slice.injEq, true_and] at e
      obtain ⟨rfl, rfl⟩ := e
      have HM := Lib.hid (And.intro hlen (hmk.step (by omega)))
      have hkl : k < xs.length := by omega
      clear hmk hlen
      go_wp2_with (first
        | go_skip
        | ((with_reducible show wpList _ _ _ (_ :: _) _ _); (with_reducible apply wpl_loadCH); (· exact cell_slPa); (· rfl); (· rfl); (· exact H); (· (repeat (first | (with_reducible exact List.mem_cons_self) | with_reducible apply List.mem_cons_of_mem))); (· exact browPa_g0 ..); (simp only [Act.put, List.setIfInBounds_toArray, List.set_cons_zero, List.set_cons_succ]))
        | ((with_reducible show wpList _ _ _ (_ :: _) _ _); (with_reducible apply wpl_loadCH); (· exact cell_party); (· rfl); (· rfl); (· exact H); (· (repeat (first | (with_reducible exact List.mem_cons_self) | with_reducible apply List.mem_cons_of_mem))); (· exact browPa_g1 ..); (simp only [Act.put, List.setIfInBounds_toArray, List.set_cons_zero, List.set_cons_succ]))
        | ((with_reducible show wpList _ _ _ (_ :: _) _ _); (with_reducible apply wpl_storeOwnC); (· exact cell_party); (· rfl); (· rfl); (· rfl); (· exact ⟨rfl, rfl⟩); (· exact H); (· (repeat (first | (with_reducible exact List.mem_cons_self) | with_reducible apply List.mem_cons_of_mem))); (· rfl); (· exact hkl); (· (repeat (first | (with_reducible exact Repl.here) | with_reducible apply Repl.there))); (clear H; intro _ H); (simp only [Act.put, List.setIfInBounds_toArray, List.set_cons_zero, List.set_cons_succ])))
      refine ⟨?_, ?_⟩
      · exact ⟨⟨k + 1, _, by go_num, by omega, by omega, ⟨by rw [List.length_set]; exact HM.out.1, HM.out.2⟩, H⟩⟩
      · simp [intOf]; omega
    · obtain rfl : n = k := by omega
      have HM := Lib.hid hmk
      clear hmk
      go_wp2_with (first
        | go_skip
        | ((with_reducible show wpList _ _ _ (_ :: _) _ _); (with_reducible apply wpl_loadCH); (· exact cell_slPa); (· rfl); (· rfl); (· exact H); (· (repeat (first | (with_reducible exact List.mem_cons_self) | with_reducible apply List.mem_cons_of_mem))); (· exact browPa_g0 ..); (simp only [Act.put, List.setIfInBounds_toArray, List.set_cons_zero, List.set_cons_succ])))
      go_end0
      exact ⟨rfl, (H.drop (.there .here)).shutFull hn HC.out HM.out⟩
theorem behind_Pa (a : Option Addr) (n c : Nat) (m b : Int) (H : Heap W (FullT 23 1 a n c (MarksPa m 0 n) :: l) w) :
    Calls Try.prog 184 #[.agg (browPa (.slice a n c) m b)] w fun e w' => e = .returned (.tuple #[]) ∧ Heap W (FullT 23 1 a n c (fun xs => MarksPa m 0 n xs ∧ MarksPa b n c xs) :: l) w' := by
  obtain ⟨xs0, hm0, hn, hc, hl, ha, H'⟩ := H.openFull
  clear H
  have H := H'
  clear H'
  have hsl := fun wx => run_cutTo slPa a n c c .i64 (Nat.le_refl _) wx
  have hcm := hc
  unfold maxLen at hcm
  have HA := Lib.hid ha
  have HC := Lib.hid hc
  have HM0 := Lib.hid hm0
  clear ha hc hl hm0
  go_enter Try.func184, Try.ntmps184
  go_wp2_with (first
    | go_skip
    | ((with_reducible show wpList _ _ _ (_ :: _) _ _); (with_reducible apply wpl_boxRH); (· rfl); (· rfl); (· exact H); (clear H; intro pb _ H); (simp only [Act.put, List.setIfInBounds_toArray, List.set_cons_zero, List.set_cons_succ]))
    | ((with_reducible show wpList _ _ _ (_ :: _) _ _); (with_reducible apply wpl_loadCH); (· exact cell_slPa); (· rfl); (· rfl); (· exact H); (· (repeat (first | (with_reducible exact List.mem_cons_self) | with_reducible apply List.mem_cons_of_mem))); (· exact browPa_g0 ..); (simp only [Act.put, List.setIfInBounds_toArray, List.set_cons_zero, List.set_cons_succ])))
  clear hsl
  have H0 := H.perm (.swap _ _ _)
  clear H
  go_loopw [3] (fun i wr => WLoopPa W l pb a n c n c m b b (fun k xs => xs.length = c ∧ MarksPa m 0 n xs ∧ MarksPa b n k xs) i wr) (fun i _ => c - (intOf i).toNat)
  case atStart => exact ⟨n, xs0, rfl, by omega, hn, ⟨by have := OwnT.len (H0.ok _ List.mem_cons_self); omega, HM0.out, fun i h1 h2 => by omega⟩, H0⟩
  case round =>
    obtain ⟨k, xs, rfl, hnk, hk, ⟨hlen, hm1, hmk⟩, H'⟩ := hrel.out
    clear H0 hrel HM0
    have H := H'
    clear H'
    by_cases hlt : k < c
    · obtain ⟨g, o, c', e, _, _⟩ := OwnT.form (H.ok _ List.mem_cons_self) (by omega)
      simp only [Value.slice.injEq, true_and] at e
      obtain ⟨rfl, rfl⟩ := e
      have HM := Lib.hid (And.intro hlen (And.intro (hm1.off (v := b) hnk) (hmk.step (by omega))))
      have hkl : k < xs.length := by omega
      clear hmk hlen hm1
      go_wp2_with (first
        | go_skip
        | ((with_reducible show wpList _ _ _ (_ :: _) _ _); (with_reducible apply wpl_loadCH); (· exact cell_party); (· rfl); (· rfl); (· exact H); (· (repeat (first | (with_reducible exact List.mem_cons_self) | with_reducible apply List.mem_cons_of_mem))); (· exact browPa_g2 ..); (simp only [Act.put, List.setIfInBounds_toArray, List.set_cons_zero, List.set_cons_succ]))
        | ((with_reducible show wpList _ _ _ (_ :: _) _ _); (with_reducible apply wpl_storeOwnC); (· exact cell_party); (· rfl); (· rfl); (· rfl); (· exact ⟨rfl, rfl⟩); (· exact H); (· (repeat (first | (with_reducible exact List.mem_cons_self) | with_reducible apply List.mem_cons_of_mem))); (· rfl); (· exact hkl); (· (repeat (first | (with_reducible exact Repl.here) | with_reducible apply Repl.there))); (clear H; intro _ H); (simp only [Act.put, List.setIfInBounds_toArray, List.set_cons_zero, List.set_cons_succ])))
      refine ⟨?_, ?_⟩
      · exact ⟨⟨k + 1, _, by go_num, by omega, by omega, ⟨by rw [List.length_set]; exact HM.out.1, HM.out.2⟩, H⟩⟩
      · simp [intOf]; omega
    · obtain rfl : c = k := by omega
      have HM := Lib.hid (And.intro hm1 hmk)
      clear hmk hm1
      go_wp2_with (go_skip)
      go_end0
      exact ⟨rfl, (H.drop (.there .here)).shutFull hn HC.out HM.out⟩
structure SLoopPa (W : World) (l : List Thing) (c : Nat) (i : Value) (wr : World) : Prop where
  out : ∃ k : Nat, i = .int .i64 (k : Int) ∧ k ≤ c ∧ Heap W l wr
theorem stands_Pa (a : Option Addr) (n c : Nat) (m b : Int) (H : Heap W (FullT 23 1 a n c (fun xs => MarksPa m 0 n xs ∧ MarksPa b n c xs) :: l) w) :
    Calls Try.prog 182 #[.agg (browPa (.slice a n c) m b)] w fun e w' => e = .returned (.bool true) ∧ Heap W (FullT 23 1 a n c (fun xs => MarksPa m 0 n xs ∧ MarksPa b n c xs) :: l) w' := by
  obtain ⟨xs, hm0, hn, hc, hl, ha, H'⟩ := H.openFull
  clear H
  have H := H'
  clear H'
  have hsl := fun wx => run_cutTo slPa a n c c .i64 (Nat.le_refl _) wx
  have hcm := hc
  unfold maxLen at hcm
  have HC := Lib.hid hc
  have HM := Lib.hid hm0
  have HL := Lib.hid hl
  clear ha hc hl hm0
  go_enter Try.func182, Try.ntmps182
  go_wp2_with (first
    | go_skip
    | ((with_reducible show wpList _ _ _ (_ :: _) _ _); (with_reducible apply wpl_boxRH); (· rfl); (· rfl); (· exact H); (clear H; intro pb _ H); (simp only [Act.put, List.setIfInBounds_toArray, List.set_cons_zero, List.set_cons_succ]))
    | ((with_reducible show wpList _ _ _ (_ :: _) _ _); (with_reducible apply wpl_loadCH); (· exact cell_slPa); (· rfl); (· rfl); (· exact H); (· (repeat (first | (with_reducible exact List.mem_cons_self) | with_reducible apply List.mem_cons_of_mem))); (· exact browPa_g0 ..); (simp only [Act.put, List.setIfInBounds_toArray, List.set_cons_zero, List.set_cons_succ])))
  clear hsl
  have H0 := H
  clear H
  go_loopw [4] (fun i wr => SLoopPa W (Cel pb (browPa (.slice a n c) m b) 137 :: OwnT 23 1 (.slice a c c) c xs :: l) c i wr) (fun i _ => c - (intOf i).toNat)
  case atStart => exact ⟨0, rfl, by omega, H0⟩
  case round =>
    obtain ⟨k, rfl, hk, H'⟩ := hrel.out
    clear H0 hrel
    have H := H'
    clear H'
    by_cases hlt : k < c
    · obtain ⟨g, o, c', e, _, _⟩ := OwnT.form (H.ok _ (List.mem_cons_of_mem _ List.mem_cons_self)) (by omega)
      simp only [Value.slice.injEq, true_and] at e
      obtain ⟨rfl, rfl⟩ := e
      have hkl : k < xs.length := by rw [HL.out]; omega
      by_cases hkn : k < n
      · have hx := HM.out.1 k (by omega) hkn
        have hcell : ∀ w', Heap W (Cel pb (browPa (.slice (some ⟨g, o, none⟩) n c) m b) 137 :: OwnT 23 1 (.slice (some ⟨g, o, none⟩) c c) c xs :: l) w' → w'.cell? ⟨g, o + k, none⟩ = some (.int .u8 m) := fun w' h => by
          have h2 := (h.ownRd (List.mem_cons_of_mem _ List.mem_cons_self)).get hkl
          rw [h2]
          rw [List.getElem?_eq_getElem hkl] at hx
          exact hx
        have HX := Lib.hid hcell
        clear hx hcell
        have hd1 : decide ((k : Int) < n) = true := by simp; omega
        have hd3 : decide (n ≤ k) = false := by simp; omega
        have hd4 : decide (k < n) = true := by simp; omega
        have hmm : (m != m) = false := by simp
        go_wp2_with (go_skip)
        refine wp_region_H H (by kernel_rfl) (by kernel_rfl) ?_
        repeat (first | go_big_quiet_skip | (first | ((with_reducible apply wpQ_loadCH); (· exact cell_slPa); (· rfl); (· rfl); (· (repeat (first | (with_reducible exact List.mem_cons_self) | with_reducible apply List.mem_cons_of_mem))); (· exact browPa_g0 ..); (simp only [Act.put, List.setIfInBounds_toArray, List.set_cons_zero, List.set_cons_succ])) | ((with_reducible apply wpQ_loadCH); (· exact cell_party); (· rfl); (· rfl); (· (repeat (first | (with_reducible exact List.mem_cons_self) | with_reducible apply List.mem_cons_of_mem))); (· exact browPa_g1 ..); (simp only [Act.put, List.setIfInBounds_toArray, List.set_cons_zero, List.set_cons_succ])) | ((with_reducible apply wpQ_loadCH); (· exact cell_party); (· rfl); (· rfl); (· (repeat (first | (with_reducible exact List.mem_cons_self) | with_reducible apply List.mem_cons_of_mem))); (· exact browPa_g2 ..); (simp only [Act.put, List.setIfInBounds_toArray, List.set_cons_zero, List.set_cons_succ])) | ((with_reducible apply wpQ_loadCell); (· exact cell_party); (· rfl); (· rfl); (· exact HX.out); (simp only [Act.put, List.setIfInBounds_toArray, List.set_cons_zero, List.set_cons_succ]))) | go_big_quiet_step (fail))
        refine wpQuiet_nil ?_
        clear H
        intro _ H
        go_wp2_with (go_skip)
        refine ⟨?_, ?_⟩
        · exact ⟨⟨k + 1, by go_num, by omega, H⟩⟩
        · simp [intOf]; omega
      · have hx := HM.out.2 k (by omega) hlt
        have hcell : ∀ w', Heap W (Cel pb (browPa (.slice (some ⟨g, o, none⟩) n c) m b) 137 :: OwnT 23 1 (.slice (some ⟨g, o, none⟩) c c) c xs :: l) w' → w'.cell? ⟨g, o + k, none⟩ = some (.int .u8 b) := fun w' h => by
          have h2 := (h.ownRd (List.mem_cons_of_mem _ List.mem_cons_self)).get hkl
          rw [h2]
          rw [List.getElem?_eq_getElem hkl] at hx
          exact hx
        have HX := Lib.hid hcell
        clear hx hcell
        have hd1 : decide ((k : Int) < n) = false := by simp; omega
        have hd3 : decide (n ≤ k) = true := by simp; omega
        have hd4 : decide (k < n) = false := by simp; omega
        have hmm : (b != b) = false := by simp
        go_wp2_with (go_skip)
        refine wp_region_H H (by kernel_rfl) (by kernel_rfl) ?_
        repeat (first | go_big_quiet_skip | (first | ((with_reducible apply wpQ_loadCH); (· exact cell_slPa); (· rfl); (· rfl); (· (repeat (first | (with_reducible exact List.mem_cons_self) | with_reducible apply List.mem_cons_of_mem))); (· exact browPa_g0 ..); (simp only [Act.put, List.setIfInBounds_toArray, List.set_cons_zero, List.set_cons_succ])) | ((with_reducible apply wpQ_loadCH); (· exact cell_party); (· rfl); (· rfl); (· (repeat (first | (with_reducible exact List.mem_cons_self) | with_reducible apply List.mem_cons_of_mem))); (· exact browPa_g1 ..); (simp only [Act.put, List.setIfInBounds_toArray, List.set_cons_zero, List.set_cons_succ])) | ((with_reducible apply wpQ_loadCH); (· exact cell_party); (· rfl); (· rfl); (· (repeat (first | (with_reducible exact List.mem_cons_self) | with_reducible apply List.mem_cons_of_mem))); (· exact browPa_g2 ..); (simp only [Act.put, List.setIfInBounds_toArray, List.set_cons_zero, List.set_cons_succ])) | ((with_reducible apply wpQ_loadCell); (· exact cell_party); (· rfl); (· rfl); (· exact HX.out); (simp only [Act.put, List.setIfInBounds_toArray, List.set_cons_zero, List.set_cons_succ]))) | go_big_quiet_step (fail))
        refine wpQuiet_nil ?_
        clear H
        intro _ H
        go_wp2_with (go_skip)
        refine ⟨?_, ?_⟩
        · exact ⟨⟨k + 1, by go_num, by omega, H⟩⟩
        · simp [intOf]; omega
    · obtain rfl : c = k := by omega
      go_wp2_with (go_skip)
      go_ret
      exact ⟨rfl, H.tail.shutFull hn HC.out HM.out⟩
/-- A page of such a list. -/
def pagePa (a : Option Addr) (n c : Nat) (m b : Int) : PageT := ⟨137, .agg (browPa (.slice a n c) m b), FullT 23 1 a n c (fun _ => True), FullT 23 1 a n c (MarksPa m 0 n), FullT 23 1 a n c (fun xs => MarksPa m 0 n xs ∧ MarksPa b n c xs)⟩
theorem pagePa_ok (a : Option Addr) (n c : Nat) (m b : Int) : PageOk (pagePa a n c m b) :=
  ⟨⟨183, ⟨fun _ _ => by kernel_rfl, Try.call183⟩, fun W l w H => write_Pa a n c m b H⟩,
   ⟨184, ⟨fun _ _ => by kernel_rfl, Try.call184⟩, fun W l w H => behind_Pa a n c m b H⟩,
   ⟨182, ⟨fun _ _ => by kernel_rfl, Try.call182⟩, fun W l w H => stands_Pa a n c m b H⟩⟩
theorem lay_Pa (kb : Nat) (ps : List PageT) (a : Option Addr) (n c : Nat) {xs : List Value} (hp : ps.length < 120) (B : Book W (OwnT 23 1 (.slice a n c) n xs :: l) kb ps w) :
    Calls Try.prog 42 #[.pointer (some ⟨kb, 0, none⟩), .slice a n c] w fun e w' => e = .returned (.tuple #[]) ∧ ∃ p, Book W l kb (ps ++ [p]) w' := by
  obtain ⟨ba, bc, H, hok⟩ := B
  obtain ⟨N, hN⟩ : ∃ N, ps.length = N := ⟨_, rfl⟩
  rw [hN] at H
  have hn1 : N + 1 ≤ maxLen := by unfold maxLen; omega
  have hn2 : (N + 1) * 16 ≤ 140737488355328 := by omega
  have hNB := number_H (W := W) (l := BkT kb (.slice ba N bc) :: PgsT (.slice ba N bc) N (ps.map PageT.v) :: (ps.map PageT.t0 ++ OwnT 23 1 (.slice a n c) n xs :: l)) kb ba N bc (by omega) List.mem_cons_self
  have HO := Lib.hid (And.intro hok hN)
  have hN120 : N < 120 := by omega
  clear hok hN hp
  go_enter Try.func42, Try.ntmps42
  go_wp2_with (first
    | go_skip
    | ((with_reducible refine AnsH.call (by assumption) H ?_); clear H; intro _ H)
    | ((with_reducible show wpList _ _ _ (_ :: _) _ _); (with_reducible apply wpl_loadCH); (· exact cell_pages); (· rfl); (· rfl); (· exact H); (· (repeat (first | (with_reducible exact List.mem_cons_self) | with_reducible apply List.mem_cons_of_mem))); (· exact bookC_g _); (simp only [Act.put, List.setIfInBounds_toArray, List.set_cons_zero, List.set_cons_succ]))
    | ((with_reducible show wpList _ _ _ (_ :: _) _ _); (with_reducible apply wpl_bsOnes _ [(pagePa a n c ((N : Int) + 1) (bits .xor .u8 ((N : Int) + 1) 128)).v]); (· rfl); (· rfl); (· rfl); (· decide); (· decide); (· intro v hv; rw [List.mem_singleton.1 hv]; rfl); (· exact bs_page); (· rfl); (· exact H); (clear H; intro pk _ H); (simp only [Act.put, List.setIfInBounds_toArray, List.set_cons_zero, List.set_cons_succ]))
    | ((with_reducible show wpList _ _ _ (_ :: _) _ _); (with_reducible apply wpl_appendH slPage); (· rfl); (· rfl); (· rfl); (· rfl); (· exact H.top2 (.there (.there .here)) .here); (· exact H.celRd List.mem_cons_self); (· rfl); (· intro u hu; rw [List.mem_singleton.1 hu]; rfl); (· exact hn1); (· exact hn2); (clear H; intro v2 _ H; obtain ⟨a2, c2, rfl, _, _⟩ := RowT.form0 (H.ok _ List.mem_cons_self)); (simp only [Act.put, List.setIfInBounds_toArray, List.set_cons_zero, List.set_cons_succ]))
    | ((with_reducible show wpList _ _ _ (_ :: _) _ _); (with_reducible apply wpl_storeSH); (· exact cell_pages); (· rfl); (· rfl); (· rfl); (· exact H); (· (repeat (first | (with_reducible exact List.mem_cons_self) | with_reducible apply List.mem_cons_of_mem))); (· exact Nat.le_refl 1); (· rfl); (· (repeat (first | (with_reducible exact Repl.here) | with_reducible apply Repl.there))); (clear H; intro _ H); (simp only [Act.put, List.setIfInBounds_toArray, List.set_cons_zero, List.set_cons_succ])))
  go_end0
  refine ⟨rfl, pagePa a n c ((N : Int) + 1) (bits .xor .u8 ((N : Int) + 1) 128), a2, c2, ?_, fun p hp => ?_⟩
  · rw [List.length_append, List.length_singleton, HO.out.2, List.map_append, List.map_append]
    have H2 := H.drop (.there .here)
    have p1 : (RowT 141 1 (.slice a2 (N + 1) c2) (N + 1) (ps.map PageT.v ++ [(pagePa a n c ((N : Int) + 1) (bits .xor .u8 ((N : Int) + 1) 128)).v]) :: BkT kb (.slice a2 (N + 1) c2) :: (ps.map PageT.t0 ++ OwnT 23 1 (.slice a n c) n xs :: l)).Perm
        (OwnT 23 1 (.slice a n c) n xs :: BkT kb (.slice a2 (N + 1) c2) :: PgsT (.slice a2 (N + 1) c2) (N + 1) (ps.map PageT.v ++ [(pagePa a n c ((N : Int) + 1) (bits .xor .u8 ((N : Int) + 1) 128)).v]) :: (ps.map PageT.t0 ++ l)) :=
      (List.Perm.swap _ _ _).trans (((List.Perm.cons _ (List.Perm.cons _ List.perm_middle)).trans (List.Perm.cons _ (.swap _ _ _))).trans (.swap _ _ _))
    have H3 := (H2.perm p1).toFull
    refine H3.perm ?_
    exact (List.Perm.swap _ _ _).trans (List.Perm.cons _ ((List.Perm.swap _ _ _).trans (List.Perm.cons _ (by rw [List.append_assoc]; exact List.perm_middle.symm))))
  · rcases List.mem_append.1 hp with h | h
    · exact HO.out.1 p h
    · rw [List.mem_singleton.1 h]; exact pagePa_ok ..
end
end Go.Proofs.Ytacglcpjbepfnaa

/- The marks of a book's pages of lines. -/
namespace Go.Proofs.Ytacglcpjbepfnaa
open Go.RowKit
abbrev mkLn (n : Int) : Array Value := #[.int .u8 0, .int .u8 0, .int .u8 0, .int .i64 n, .int .i64 0]
abbrev mkLm (n : Int) : Array Value := #[.int .u8 0, .int .u8 0, .int .u8 0, .int .i64 0, .int .i64 n]
theorem mkLn_good (n : Int) : GoodR 5 39 (mkLn n) := ⟨⟨rfl, by simp [Value.oneCell']⟩, fun w => by
  have := neqL_run 0 0 0 n 0 0 0 0 n 0 w
  rw [show lineSame 0 0 0 n 0 0 0 0 n 0 = true by simp [lineSame]] at this
  exact this⟩
theorem mkLm_good (n : Int) : GoodR 5 39 (mkLm n) := ⟨⟨rfl, by simp [Value.oneCell']⟩, fun w => by
  have := neqL_run 0 0 0 0 n 0 0 0 0 n w
  rw [show lineSame 0 0 0 0 n 0 0 0 0 n = true by simp [lineSame]] at this
  exact this⟩
end Go.Proofs.Ytacglcpjbepfnaa

/- A book's pages of api.Line: what write, writeBehind, stands and the book's method do. -/
namespace Go.Proofs.Ytacglcpjbepfnaa
open Go.RowKit
set_option linter.unusedSimpArgs false
set_option linter.unusedVariables false
theorem cell_slLn : CellTy 35 := ⟨⟨_, Try.underlying35, rfl⟩, by kernel_rfl⟩
structure WLoopLn (W : World) (l : List Thing) (pb : Nat) (a : Option Addr) (n c lo hi : Nat) (m b v : Array Value) (P : Nat → List Value → Prop) (i : Value) (wr : World) : Prop where
  out : ∃ (k : Nat) (xs : List Value), i = .int .i64 (k : Int) ∧ lo ≤ k ∧ k ≤ hi ∧ P k xs ∧ Heap W (OwnT 39 5 (.slice a c c) c xs :: Cel pb (browR (.slice a n c) m b) 139 :: l) wr
section
variable {W w : World} {l : List Thing} {ops : Array Oper} {rest : List Oper} {a : Act}
theorem wpQ_neqLn {dst : Option Tmp} {ty : TypeId} {pos : String} {after : Array Edge} {guard : Option (Nat × Bool)} {p q : Operand} {m : Array Value} {K : Act → Prop} {H : Heap W l w} (hw : Region.wanted ⟨dst, .binOp .neq 39 p q 39, ty, pos, after, guard⟩ (yielded ops a.tmps) = true) (hp : a.eval p = .agg m) (hq : a.eval q = .agg m) (hr : ∀ w, (binOp .neq 39 (.agg m) (.agg m)).run Try.prog w = .ok (.bool false) w)
    (h : wpQuiet Try.prog ops (fun w' => ∃ d, w' = H.any d) K rest (a.put dst (.bool false))) : wpQuiet Try.prog ops (fun w' => ∃ d, w' = H.any d) K (⟨dst, .binOp .neq 39 p q 39, ty, pos, after, guard⟩ :: rest) a := by
  have hg : (Try.prog.eqGuardType Try.prog.depth 39) = false := by kernel_rfl
  refine BigFrame.wpQuiet_want hw fun K hK => ⟨_, ?_, hK _ h⟩
  rintro _ ⟨d, rfl⟩
  unfold Oper.quietAt execOp
  simp only [hp, hq, Sem.run_bind, hr]
  simp [eqGuard, hg, hr]
  exact ⟨rfl, rfl⟩
end
section
variable {W w : World} {l : List Thing}
set_option maxRecDepth 100000
set_option maxHeartbeats 4000000
theorem write_Ln (a : Option Addr) (n c : Nat) (m b : Array Value) (hm : GoodR 5 39 m) (hb : GoodR 5 39 b) (H : Heap W (FullT 39 5 a n c (fun _ => True) :: l) w) :
    Calls Try.prog 186 #[.agg (browR (.slice a n c) m b)] w fun e w' => e = .returned (.tuple #[]) ∧ Heap W (FullT 39 5 a n c (MarksR 5 m 0 n) :: l) w' := by
  obtain ⟨xs0, -, hn, hc, hl, ha, H'⟩ := H.openFull
  clear H
  have H := H'
  clear H'
  have hcm := hc
  unfold maxLen at hcm
  have HC := Lib.hid hc
  clear ha hc hl
  have hb1 : 1 + 5 ≤ (browR (.slice a n c) m b).size := by rw [browR_sz hm.sz hb.sz]; omega
  have hb2 : 1 + 5 + 5 ≤ (browR (.slice a n c) m b).size := by rw [browR_sz hm.sz hb.sz]; omega
  have he1 : (browR (.slice a n c) m b).extract 1 (1 + 5) = m := browR_g1 hm.sz
  have he2 : (browR (.slice a n c) m b).extract (1 + 5) (1 + 5 + 5) = b := browR_g2 hm.sz hb.sz
  go_enter Try.func186, Try.ntmps186
  go_wp2_with (first | go_skip | ((with_reducible show wpList _ _ _ (_ :: _) _ _); (with_reducible apply wpl_boxRH); (· rfl); (· rfl); (· exact H); (clear H; intro pb _ H); (simp only [Act.put, List.setIfInBounds_toArray, List.set_cons_zero, List.set_cons_succ])))
  have H0 := H.perm (.swap _ _ _)
  clear H
  go_loopw [2] (fun i wr => WLoopLn W l pb a n c 0 n m b m (fun k xs => xs.length = c * 5 ∧ MarksR 5 m 0 k xs) i wr) (fun i _ => n - (intOf i).toNat)
  case atStart => exact ⟨0, xs0, rfl, by omega, by omega, ⟨by have := OwnT.len (H0.ok _ List.mem_cons_self); omega, fun i h1 h2 => by omega⟩, H0⟩
  case round =>
    obtain ⟨k, xs, rfl, -, hk, ⟨hlen, hmk⟩, H'⟩ := hrel.out
    clear H0 hrel
    have H := H'
    clear H'
    by_cases hlt : k < n
    · obtain ⟨g, o, c', e, _, _⟩ := OwnT.form (H.ok _ List.mem_cons_self) (by omega)
      simp only [Value.slice.injEq, true_and] at e
      obtain ⟨rfl, rfl⟩ := e
      have hkl : k * 5 + 5 ≤ xs.length := by have := mul_slot (k := k) (c := c) (K := 5) (by omega); omega
      have HM := Lib.hid (And.intro (by rw [bkPut_len hm.sz hkl]; exact hlen : (bkPut xs k 5 m).length = c * 5) (hmk.step hm.sz hkl))
      clear hmk hlen
      go_wp2_with (first
        | go_skip
        | ((with_reducible show wpList _ _ _ (_ :: _) _ _); (with_reducible apply wpl_loadCH); (· exact cell_slLn); (· rfl); (· rfl); (· exact H); (· (repeat (first | (with_reducible exact List.mem_cons_self) | with_reducible apply List.mem_cons_of_mem))); (· exact browR_g0 ..); (simp only [Act.put, List.setIfInBounds_toArray, List.set_cons_zero, List.set_cons_succ]))
        | ((with_reducible show wpList _ _ _ (_ :: _) _ _); (with_reducible apply wpl_loadRH row_line); (· rfl); (· rfl); (· exact H); (· (repeat (first | (with_reducible exact List.mem_cons_self) | with_reducible apply List.mem_cons_of_mem))); (· exact hb1); (· exact he1); (simp only [Act.put, List.setIfInBounds_toArray, List.set_cons_zero, List.set_cons_succ]))
        | ((with_reducible show wpList _ _ _ (_ :: _) _ _); (with_reducible apply wpl_storeOwnR row_line); (· rfl); (· rfl); (· rfl); (· first | exact hm.cells | exact hb.cells); (· exact H); (· (repeat (first | (with_reducible exact List.mem_cons_self) | with_reducible apply List.mem_cons_of_mem))); (· rfl); (· exact hkl); (· rfl); (· (repeat (first | (with_reducible exact Repl.here) | with_reducible apply Repl.there))); (clear H; intro _ H); (simp only [Act.put, List.setIfInBounds_toArray, List.set_cons_zero, List.set_cons_succ])))
      refine ⟨?_, ?_⟩
      · exact ⟨⟨k + 1, _, by go_num, by omega, by omega, ⟨HM.out.1, HM.out.2⟩, H⟩⟩
      · simp [intOf]; omega
    · obtain rfl : n = k := by omega
      have HM := Lib.hid hmk
      clear hmk
      go_wp2_with (first
        | go_skip
        | ((with_reducible show wpList _ _ _ (_ :: _) _ _); (with_reducible apply wpl_loadCH); (· exact cell_slLn); (· rfl); (· rfl); (· exact H); (· (repeat (first | (with_reducible exact List.mem_cons_self) | with_reducible apply List.mem_cons_of_mem))); (· exact browR_g0 ..); (simp only [Act.put, List.setIfInBounds_toArray, List.set_cons_zero, List.set_cons_succ])))
      go_end0
      exact ⟨rfl, (H.drop (.there .here)).shutFull hn HC.out HM.out⟩
theorem behind_Ln (a : Option Addr) (n c : Nat) (m b : Array Value) (hm : GoodR 5 39 m) (hb : GoodR 5 39 b) (H : Heap W (FullT 39 5 a n c (MarksR 5 m 0 n) :: l) w) :
    Calls Try.prog 187 #[.agg (browR (.slice a n c) m b)] w fun e w' => e = .returned (.tuple #[]) ∧ Heap W (FullT 39 5 a n c (fun xs => MarksR 5 m 0 n xs ∧ MarksR 5 b n c xs) :: l) w' := by
  obtain ⟨xs0, hm0, hn, hc, hl, ha, H'⟩ := H.openFull
  clear H
  have H := H'
  clear H'
  have hsl := fun wx => run_cutTo slLin a n c c .i64 (Nat.le_refl _) wx
  have hcm := hc
  unfold maxLen at hcm
  have HC := Lib.hid hc
  have HM0 := Lib.hid hm0
  clear ha hc hl hm0
  have hb1 : 1 + 5 ≤ (browR (.slice a n c) m b).size := by rw [browR_sz hm.sz hb.sz]; omega
  have hb2 : 1 + 5 + 5 ≤ (browR (.slice a n c) m b).size := by rw [browR_sz hm.sz hb.sz]; omega
  have he1 : (browR (.slice a n c) m b).extract 1 (1 + 5) = m := browR_g1 hm.sz
  have he2 : (browR (.slice a n c) m b).extract (1 + 5) (1 + 5 + 5) = b := browR_g2 hm.sz hb.sz
  go_enter Try.func187, Try.ntmps187
  go_wp2_with (first
    | go_skip
    | ((with_reducible show wpList _ _ _ (_ :: _) _ _); (with_reducible apply wpl_boxRH); (· rfl); (· rfl); (· exact H); (clear H; intro pb _ H); (simp only [Act.put, List.setIfInBounds_toArray, List.set_cons_zero, List.set_cons_succ]))
    | ((with_reducible show wpList _ _ _ (_ :: _) _ _); (with_reducible apply wpl_loadCH); (· exact cell_slLn); (· rfl); (· rfl); (· exact H); (· (repeat (first | (with_reducible exact List.mem_cons_self) | with_reducible apply List.mem_cons_of_mem))); (· exact browR_g0 ..); (simp only [Act.put, List.setIfInBounds_toArray, List.set_cons_zero, List.set_cons_succ])))
  clear hsl
  have H0 := H.perm (.swap _ _ _)
  clear H
  go_loopw [3] (fun i wr => WLoopLn W l pb a n c n c m b b (fun k xs => xs.length = c * 5 ∧ MarksR 5 m 0 n xs ∧ MarksR 5 b n k xs) i wr) (fun i _ => c - (intOf i).toNat)
  case atStart => exact ⟨n, xs0, rfl, by omega, hn, ⟨by have := OwnT.len (H0.ok _ List.mem_cons_self); omega, HM0.out, fun i h1 h2 => by omega⟩, H0⟩
  case round =>
    obtain ⟨k, xs, rfl, hnk, hk, ⟨hlen, hm1, hmk⟩, H'⟩ := hrel.out
    clear H0 hrel HM0
    have H := H'
    clear H'
    by_cases hlt : k < c
    · obtain ⟨g, o, c', e, _, _⟩ := OwnT.form (H.ok _ List.mem_cons_self) (by omega)
      simp only [Value.slice.injEq, true_and] at e
      obtain ⟨rfl, rfl⟩ := e
      have hkl : k * 5 + 5 ≤ xs.length := by have := mul_slot (k := k) (c := c) (K := 5) (by omega); omega
      have HM := Lib.hid (And.intro (by rw [bkPut_len hb.sz hkl]; exact hlen : (bkPut xs k 5 b).length = c * 5) (And.intro (hm1.off hb.sz hkl hnk) (hmk.step hb.sz hkl)))
      clear hmk hlen hm1
      go_wp2_with (first
        | go_skip
        | ((with_reducible show wpList _ _ _ (_ :: _) _ _); (with_reducible apply wpl_loadRH row_line); (· rfl); (· rfl); (· exact H); (· (repeat (first | (with_reducible exact List.mem_cons_self) | with_reducible apply List.mem_cons_of_mem))); (· exact hb2); (· exact he2); (simp only [Act.put, List.setIfInBounds_toArray, List.set_cons_zero, List.set_cons_succ]))
        | ((with_reducible show wpList _ _ _ (_ :: _) _ _); (with_reducible apply wpl_storeOwnR row_line); (· rfl); (· rfl); (· rfl); (· first | exact hm.cells | exact hb.cells); (· exact H); (· (repeat (first | (with_reducible exact List.mem_cons_self) | with_reducible apply List.mem_cons_of_mem))); (· rfl); (· exact hkl); (· rfl); (· (repeat (first | (with_reducible exact Repl.here) | with_reducible apply Repl.there))); (clear H; intro _ H); (simp only [Act.put, List.setIfInBounds_toArray, List.set_cons_zero, List.set_cons_succ])))
      refine ⟨?_, ?_⟩
      · exact ⟨⟨k + 1, _, by go_num, by omega, by omega, ⟨HM.out.1, HM.out.2⟩, H⟩⟩
      · simp [intOf]; omega
    · obtain rfl : c = k := by omega
      have HM := Lib.hid (And.intro hm1 hmk)
      clear hmk hm1
      go_wp2_with (go_skip)
      go_end0
      exact ⟨rfl, (H.drop (.there .here)).shutFull hn HC.out HM.out⟩
structure SLoopLn (W : World) (l : List Thing) (c : Nat) (i : Value) (wr : World) : Prop where
  out : ∃ k : Nat, i = .int .i64 (k : Int) ∧ k ≤ c ∧ Heap W l wr
theorem stands_Ln (a : Option Addr) (n c : Nat) (m b : Array Value) (hm : GoodR 5 39 m) (hb : GoodR 5 39 b) (H : Heap W (FullT 39 5 a n c (fun xs => MarksR 5 m 0 n xs ∧ MarksR 5 b n c xs) :: l) w) :
    Calls Try.prog 185 #[.agg (browR (.slice a n c) m b)] w fun e w' => e = .returned (.bool true) ∧ Heap W (FullT 39 5 a n c (fun xs => MarksR 5 m 0 n xs ∧ MarksR 5 b n c xs) :: l) w' := by
  obtain ⟨xs, hm0, hn, hc, hl, ha, H'⟩ := H.openFull
  clear H
  have H := H'
  clear H'
  have hsl := fun wx => run_cutTo slLin a n c c .i64 (Nat.le_refl _) wx
  have hcm := hc
  unfold maxLen at hcm
  have HC := Lib.hid hc
  have HM := Lib.hid hm0
  have HL := Lib.hid hl
  clear ha hc hl hm0
  have hb1 : 1 + 5 ≤ (browR (.slice a n c) m b).size := by rw [browR_sz hm.sz hb.sz]; omega
  have hb2 : 1 + 5 + 5 ≤ (browR (.slice a n c) m b).size := by rw [browR_sz hm.sz hb.sz]; omega
  have he1 : (browR (.slice a n c) m b).extract 1 (1 + 5) = m := browR_g1 hm.sz
  have he2 : (browR (.slice a n c) m b).extract (1 + 5) (1 + 5 + 5) = b := browR_g2 hm.sz hb.sz
  go_enter Try.func185, Try.ntmps185
  go_wp2_with (first
    | go_skip
    | ((with_reducible show wpList _ _ _ (_ :: _) _ _); (with_reducible apply wpl_boxRH); (· rfl); (· rfl); (· exact H); (clear H; intro pb _ H); (simp only [Act.put, List.setIfInBounds_toArray, List.set_cons_zero, List.set_cons_succ]))
    | ((with_reducible show wpList _ _ _ (_ :: _) _ _); (with_reducible apply wpl_loadCH); (· exact cell_slLn); (· rfl); (· rfl); (· exact H); (· (repeat (first | (with_reducible exact List.mem_cons_self) | with_reducible apply List.mem_cons_of_mem))); (· exact browR_g0 ..); (simp only [Act.put, List.setIfInBounds_toArray, List.set_cons_zero, List.set_cons_succ])))
  clear hsl
  have H0 := H
  clear H
  go_loopw [4] (fun i wr => SLoopLn W (Cel pb (browR (.slice a n c) m b) 139 :: OwnT 39 5 (.slice a c c) c xs :: l) c i wr) (fun i _ => c - (intOf i).toNat)
  case atStart => exact ⟨0, rfl, by omega, H0⟩
  case round =>
    obtain ⟨k, rfl, hk, H'⟩ := hrel.out
    clear H0 hrel
    have H := H'
    clear H'
    by_cases hlt : k < c
    · obtain ⟨g, o, c', e, _, _⟩ := OwnT.form (H.ok _ (List.mem_cons_of_mem _ List.mem_cons_self)) (by omega)
      simp only [Value.slice.injEq, true_and] at e
      obtain ⟨rfl, rfl⟩ := e
      have hkl : k * 5 + 5 ≤ xs.length := by have := mul_slot (k := k) (c := c) (K := 5) (by omega); rw [HL.out]; omega
      by_cases hkn : k < n
      · have hx := HM.out.1 k (by omega) hkn
        have HX := Lib.hid (show ∀ w', Heap W (Cel pb (browR (.slice (some ⟨g, o, none⟩) n c) m b) 139 :: OwnT 39 5 (.slice (some ⟨g, o, none⟩) c c) c xs :: l) w' → Rd w' (some ⟨g, o, none⟩) xs from fun w' h => h.ownRd (List.mem_cons_of_mem _ List.mem_cons_self))
        have hxa : ((xs.drop (k * 5)).take 5).toArray = m := by rw [hx]
        clear hx
        have hd1 : decide ((k : Int) < n) = true := by simp; omega
        have hd3 : decide (n ≤ k) = false := by simp; omega
        have hd4 : decide (k < n) = true := by simp; omega
        have hq := hm.neq
        go_wp2_with (go_skip)
        refine wp_region_H H (by kernel_rfl) (by kernel_rfl) ?_
        repeat (first | go_big_quiet_skip | (first | ((with_reducible apply wpQ_loadCH); (· exact cell_slLn); (· rfl); (· rfl); (· (repeat (first | (with_reducible exact List.mem_cons_self) | with_reducible apply List.mem_cons_of_mem))); (· exact browR_g0 ..); (simp only [Act.put, List.setIfInBounds_toArray, List.set_cons_zero, List.set_cons_succ])) | ((with_reducible apply wpQ_loadRH row_line); (· rfl); (· rfl); (· (repeat (first | (with_reducible exact List.mem_cons_self) | with_reducible apply List.mem_cons_of_mem))); (· exact hb1); (· exact he1); (simp only [Act.put, List.setIfInBounds_toArray, List.set_cons_zero, List.set_cons_succ])) | ((with_reducible apply wpQ_loadRH row_line); (· rfl); (· rfl); (· (repeat (first | (with_reducible exact List.mem_cons_self) | with_reducible apply List.mem_cons_of_mem))); (· exact hb2); (· exact he2); (simp only [Act.put, List.setIfInBounds_toArray, List.set_cons_zero, List.set_cons_succ])) | ((with_reducible apply wpQ_loadRdR row_line); (· rfl); (· rfl); (· exact HX.out); (· rfl); (· exact hkl); (· decide); (· exact hxa); (simp only [Act.put, List.setIfInBounds_toArray, List.set_cons_zero, List.set_cons_succ])) | ((with_reducible apply wpQ_neqLn); (· rfl); (· rfl); (· rfl); (· exact hq); (simp only [Act.put, List.setIfInBounds_toArray, List.set_cons_zero, List.set_cons_succ]))) | go_big_quiet_step (fail))
        refine wpQuiet_nil ?_
        clear H
        intro _ H
        go_wp2_with (go_skip)
        refine ⟨?_, ?_⟩
        · exact ⟨⟨k + 1, by go_num, by omega, H⟩⟩
        · simp [intOf]; omega
      · have hx := HM.out.2 k (by omega) hlt
        have HX := Lib.hid (show ∀ w', Heap W (Cel pb (browR (.slice (some ⟨g, o, none⟩) n c) m b) 139 :: OwnT 39 5 (.slice (some ⟨g, o, none⟩) c c) c xs :: l) w' → Rd w' (some ⟨g, o, none⟩) xs from fun w' h => h.ownRd (List.mem_cons_of_mem _ List.mem_cons_self))
        have hxa : ((xs.drop (k * 5)).take 5).toArray = b := by rw [hx]
        clear hx
        have hd1 : decide ((k : Int) < n) = false := by simp; omega
        have hd3 : decide (n ≤ k) = true := by simp; omega
        have hd4 : decide (k < n) = false := by simp; omega
        have hq := hb.neq
        go_wp2_with (go_skip)
        refine wp_region_H H (by kernel_rfl) (by kernel_rfl) ?_
        repeat (first | go_big_quiet_skip | (first | ((with_reducible apply wpQ_loadCH); (· exact cell_slLn); (· rfl); (· rfl); (· (repeat (first | (with_reducible exact List.mem_cons_self) | with_reducible apply List.mem_cons_of_mem))); (· exact browR_g0 ..); (simp only [Act.put, List.setIfInBounds_toArray, List.set_cons_zero, List.set_cons_succ])) | ((with_reducible apply wpQ_loadRH row_line); (· rfl); (· rfl); (· (repeat (first | (with_reducible exact List.mem_cons_self) | with_reducible apply List.mem_cons_of_mem))); (· exact hb1); (· exact he1); (simp only [Act.put, List.setIfInBounds_toArray, List.set_cons_zero, List.set_cons_succ])) | ((with_reducible apply wpQ_loadRH row_line); (· rfl); (· rfl); (· (repeat (first | (with_reducible exact List.mem_cons_self) | with_reducible apply List.mem_cons_of_mem))); (· exact hb2); (· exact he2); (simp only [Act.put, List.setIfInBounds_toArray, List.set_cons_zero, List.set_cons_succ])) | ((with_reducible apply wpQ_loadRdR row_line); (· rfl); (· rfl); (· exact HX.out); (· rfl); (· exact hkl); (· decide); (· exact hxa); (simp only [Act.put, List.setIfInBounds_toArray, List.set_cons_zero, List.set_cons_succ])) | ((with_reducible apply wpQ_neqLn); (· rfl); (· rfl); (· rfl); (· exact hq); (simp only [Act.put, List.setIfInBounds_toArray, List.set_cons_zero, List.set_cons_succ]))) | go_big_quiet_step (fail))
        refine wpQuiet_nil ?_
        clear H
        intro _ H
        go_wp2_with (go_skip)
        refine ⟨?_, ?_⟩
        · exact ⟨⟨k + 1, by go_num, by omega, H⟩⟩
        · simp [intOf]; omega
    · obtain rfl : c = k := by omega
      go_wp2_with (go_skip)
      go_ret
      exact ⟨rfl, H.tail.shutFull hn HC.out HM.out⟩
/-- A page of such a list. -/
def pageLn (a : Option Addr) (n c : Nat) (m b : Array Value) : PageT := ⟨139, .agg (browR (.slice a n c) m b), FullT 39 5 a n c (fun _ => True), FullT 39 5 a n c (MarksR 5 m 0 n), FullT 39 5 a n c (fun xs => MarksR 5 m 0 n xs ∧ MarksR 5 b n c xs)⟩
theorem pageLn_ok (a : Option Addr) (n c : Nat) (m b : Array Value) (hm : GoodR 5 39 m) (hb : GoodR 5 39 b) : PageOk (pageLn a n c m b) :=
  ⟨⟨186, ⟨fun _ _ => by kernel_rfl, Try.call186⟩, fun W l w H => write_Ln a n c m b hm hb H⟩,
   ⟨187, ⟨fun _ _ => by kernel_rfl, Try.call187⟩, fun W l w H => behind_Ln a n c m b hm hb H⟩,
   ⟨185, ⟨fun _ _ => by kernel_rfl, Try.call185⟩, fun W l w H => stands_Ln a n c m b hm hb H⟩⟩
theorem lay_Ln (kb : Nat) (ps : List PageT) (a : Option Addr) (n c : Nat) {xs : List Value} (hp : ps.length < 120) (B : Book W (OwnT 39 5 (.slice a n c) n xs :: l) kb ps w) :
    Calls Try.prog 44 #[.pointer (some ⟨kb, 0, none⟩), .slice a n c] w fun e w' => e = .returned (.tuple #[]) ∧ ∃ p, Book W l kb (ps ++ [p]) w' := by
  obtain ⟨ba, bc, H, hok⟩ := B
  obtain ⟨N, hN⟩ : ∃ N, ps.length = N := ⟨_, rfl⟩
  rw [hN] at H
  have hn1 : N + 1 ≤ maxLen := by unfold maxLen; omega
  have hn2 : (N + 1) * 16 ≤ 140737488355328 := by omega
  have hNB := number_H (W := W) (l := BkT kb (.slice ba N bc) :: PgsT (.slice ba N bc) N (ps.map PageT.v) :: (ps.map PageT.t0 ++ OwnT 39 5 (.slice a n c) n xs :: l)) kb ba N bc (by omega) List.mem_cons_self
  have HO := Lib.hid (And.intro hok hN)
  have hN120 : N < 120 := by omega
  clear hok hN hp
  go_enter Try.func44, Try.ntmps44
  go_wp2_with (first
    | go_skip
    | ((with_reducible refine AnsH.call (by assumption) H ?_); clear H; intro _ H)
    | ((with_reducible show wpList _ _ _ (_ :: _) _ _); (with_reducible apply wpl_loadCH); (· exact cell_pages); (· rfl); (· rfl); (· exact H); (· (repeat (first | (with_reducible exact List.mem_cons_self) | with_reducible apply List.mem_cons_of_mem))); (· exact bookC_g _); (simp only [Act.put, List.setIfInBounds_toArray, List.set_cons_zero, List.set_cons_succ]))
    | ((with_reducible show wpList _ _ _ (_ :: _) _ _); (with_reducible apply wpl_bsOnes _ [(pageLn a n c (mkLn ((N : Int) + 1)) (mkLm ((N : Int) + 1))).v]); (· rfl); (· rfl); (· rfl); (· decide); (· decide); (· intro v hv; rw [List.mem_singleton.1 hv]; rfl); (· exact bs_page); (· rfl); (· exact H); (clear H; intro pk _ H); (simp only [Act.put, List.setIfInBounds_toArray, List.set_cons_zero, List.set_cons_succ]))
    | ((with_reducible show wpList _ _ _ (_ :: _) _ _); (with_reducible apply wpl_appendH slPage); (· rfl); (· rfl); (· rfl); (· rfl); (· exact H.top2 (.there (.there .here)) .here); (· exact H.celRd List.mem_cons_self); (· rfl); (· intro u hu; rw [List.mem_singleton.1 hu]; rfl); (· exact hn1); (· exact hn2); (clear H; intro v2 _ H; obtain ⟨a2, c2, rfl, _, _⟩ := RowT.form0 (H.ok _ List.mem_cons_self)); (simp only [Act.put, List.setIfInBounds_toArray, List.set_cons_zero, List.set_cons_succ]))
    | ((with_reducible show wpList _ _ _ (_ :: _) _ _); (with_reducible apply wpl_storeSH); (· exact cell_pages); (· rfl); (· rfl); (· rfl); (· exact H); (· (repeat (first | (with_reducible exact List.mem_cons_self) | with_reducible apply List.mem_cons_of_mem))); (· exact Nat.le_refl 1); (· rfl); (· (repeat (first | (with_reducible exact Repl.here) | with_reducible apply Repl.there))); (clear H; intro _ H); (simp only [Act.put, List.setIfInBounds_toArray, List.set_cons_zero, List.set_cons_succ])))
  go_end0
  refine ⟨rfl, pageLn a n c (mkLn ((N : Int) + 1)) (mkLm ((N : Int) + 1)), a2, c2, ?_, fun p hp => ?_⟩
  · rw [List.length_append, List.length_singleton, HO.out.2, List.map_append, List.map_append]
    have H2 := H.drop (.there .here)
    have p1 : (RowT 141 1 (.slice a2 (N + 1) c2) (N + 1) (ps.map PageT.v ++ [(pageLn a n c (mkLn ((N : Int) + 1)) (mkLm ((N : Int) + 1))).v]) :: BkT kb (.slice a2 (N + 1) c2) :: (ps.map PageT.t0 ++ OwnT 39 5 (.slice a n c) n xs :: l)).Perm
        (OwnT 39 5 (.slice a n c) n xs :: BkT kb (.slice a2 (N + 1) c2) :: PgsT (.slice a2 (N + 1) c2) (N + 1) (ps.map PageT.v ++ [(pageLn a n c (mkLn ((N : Int) + 1)) (mkLm ((N : Int) + 1))).v]) :: (ps.map PageT.t0 ++ l)) :=
      (List.Perm.swap _ _ _).trans (((List.Perm.cons _ (List.Perm.cons _ List.perm_middle)).trans (List.Perm.cons _ (.swap _ _ _))).trans (.swap _ _ _))
    have H3 := (H2.perm p1).toFull
    refine H3.perm ?_
    exact (List.Perm.swap _ _ _).trans (List.Perm.cons _ ((List.Perm.swap _ _ _).trans (List.Perm.cons _ (by rw [List.append_assoc]; exact List.perm_middle.symm))))
  · rcases List.mem_append.1 hp with h | h
    · exact HO.out.1 p h
    · rw [List.mem_singleton.1 h]; exact pageLn_ok _ _ _ _ _ (mkLn_good _) (mkLm_good _)
end
end Go.Proofs.Ytacglcpjbepfnaa

/- A ledger's lists laid into a book. -/
namespace Go.Proofs.Ytacglcpjbepfnaa
open Go.RowKit
set_option linter.unusedVariables false
section
variable {W w : World} {r : List Thing} {p q : Nat} {S : Lgr}
theorem Book.pars {kb : Nat} {ps : List PageT} (G : S.Good) (B : Book W (LdC p S.P (some q) :: LdM q S.L :: r) kb ps w) : Calls Try.prog 43 #[.pointer (some ⟨p, 0, none⟩)] w fun e w' => ∃ a, e = .returned (.slice a S.P.length S.P.length) ∧ Book W (OwnT 23 1 (.slice a S.P.length S.P.length) S.P.length (pI S.P) :: LdC p S.P (some q) :: LdM q S.L :: r) kb ps w' := by
  obtain ⟨a, c, H, hok⟩ := B
  refine (lparM (p := p) (q := q) G H (List.mem_cons_of_mem _ (List.mem_cons_of_mem _ (List.mem_append_right _ List.mem_cons_self)))).mono ?_
  rintro e w' ⟨ea, ec, rfl, H⟩
  refine ⟨ea, rfl, a, c, ?_, hok⟩
  refine (H.slide.clipOwn).perm ?_
  exact (List.Perm.swap _ _ _).trans (List.Perm.cons _ ((List.Perm.swap _ _ _).trans (List.Perm.cons _ List.perm_middle.symm)))
theorem Book.lins {kb : Nat} {ps : List PageT} (G : S.Good) (B : Book W (LdC p S.P (some q) :: LdM q S.L :: r) kb ps w) : Calls Try.prog 21 #[.pointer (some ⟨p, 0, none⟩)] w fun e w' => ∃ a c, e = .returned (.slice a S.L.length c) ∧ Book W (OwnT 39 5 (.slice a S.L.length c) S.L.length (linL S.L) :: LdC p S.P (some q) :: LdM q S.L :: r) kb ps w' := by
  obtain ⟨a, c, H, hok⟩ := B
  generalize hT : ps.map PageT.t0 = T0 at *
  have H1 := H.perm ((List.Perm.cons _ (List.Perm.cons _ ((List.perm_append_comm_assoc T0 [LdC p S.P (some q), LdM q S.L] r)))).trans ((List.perm_append_comm (l₁ := [BkT kb (.slice a ps.length c), PgsT (.slice a ps.length c) ps.length (ps.map PageT.v)]) (l₂ := [LdC p S.P (some q), LdM q S.L])).append_right (T0 ++ r)))
  refine (llines_H G H1).mono ?_
  rintro e w' ⟨g, cc, rfl, _, _, H2⟩
  refine ⟨some ⟨g, 0, none⟩, cc, rfl, a, c, ?_, hok⟩
  rw [hT]
  exact (Heap.slide H2).perm (((List.perm_append_comm (l₁ := [OwnT 39 5 (.slice (some ⟨g, 0, none⟩) S.L.length cc) S.L.length (linL S.L), LdC p S.P (some q), LdM q S.L]) (l₂ := [BkT kb (.slice a ps.length c), PgsT (.slice a ps.length c) ps.length (ps.map PageT.v)])).append_right (T0 ++ r)).trans (List.Perm.cons _ (List.Perm.cons _ (List.perm_append_comm_assoc [OwnT 39 5 (.slice (some ⟨g, 0, none⟩) S.L.length cc) S.L.length (linL S.L), LdC p S.P (some q), LdM q S.L] T0 r))))
end
end Go.Proofs.Ytacglcpjbepfnaa
