/- Part 8 of what ProofClientsPlay stands on: CliMore. -/
import Derived.Test.YtjipelhcgglhhaaCliPPart7
/- clients.Client: New, Resume, of whatever numbers; Call of a command that may not be; Take of a letter, in all; a reply with gots. -/
namespace Go.Proofs.Ytjipelhcgglhhaa
open Go.RowKit
set_option linter.unusedSimpArgs false
set_option linter.unusedVariables false
set_option maxRecDepth 100000
theorem slG : SlTy Try.prog 32 90 2 16 (.agg (rowGA ⟨0, 0⟩)) := slTy_mk Try.underlying32 (by kernel_rfl) rfl (by decide)
/-- Is it an answer to this client's call? -/
def LetOk (id n num kind frm lto cid cnum : Int) : Prop := kind = 7 ∧ lto = 100 + id ∧ cid = id ∧ cnum = num ∧ 1 ≤ frm ∧ frm ≤ n
section
variable {W w : World} {l : List Thing}
set_option maxHeartbeats 4000000
theorem new_no (id n : Int) (h : ¬ (1 ≤ id ∧ id ≤ 8 ∧ 1 ≤ n ∧ n ≤ 7)) : AnsH W l 13 #[.int .i64 id, .int .i64 n] (.pointer none) := by
  intro w H
  by_cases h0 : id < 1
  · have d0 : decide (id < 1) = true := decide_eq_true h0
    clear h h0
    go_enter Try.func13, Try.ntmps13
    go_wp2_with (go_skip)
    go_ret
    exact ⟨rfl, H⟩
  · have d0 : decide (id < 1) = false := decide_eq_false h0
    by_cases h1 : 8 < id
    · have d1 : decide (8 < id) = true := decide_eq_true h1
      clear h h0 h1
      go_enter Try.func13, Try.ntmps13
      go_wp2_with (go_skip)
      go_ret
      exact ⟨rfl, H⟩
    · have d1 : decide (8 < id) = false := decide_eq_false h1
      by_cases h2 : n < 1
      · have d2 : decide (n < 1) = true := decide_eq_true h2
        clear h h0 h1 h2
        go_enter Try.func13, Try.ntmps13
        go_wp2_with (go_skip)
        go_ret
        exact ⟨rfl, H⟩
      · have d2 : decide (n < 1) = false := decide_eq_false h2
        have h3 : 7 < n := by omega
        have d3 : decide (7 < n) = true := decide_eq_true h3
        clear h h0 h1 h2 h3
        go_enter Try.func13, Try.ntmps13
        go_wp2_with (go_skip)
        go_ret
        exact ⟨rfl, H⟩
theorem resume_no (id n num : Int) (h : ¬ (1 ≤ id ∧ id ≤ 8 ∧ 1 ≤ n ∧ n ≤ 7)) : AnsH W l 15 #[.int .i64 id, .int .i64 n, .int .u64 num] (.pointer none) := by
  intro w H
  have N := new_no (W := W) (l := l) id n h
  clear h
  go_enter Try.func15, Try.ntmps15
  go_wp2_with (first | go_skip | ((with_reducible refine AnsH.call (by assumption) H ?_); clear H; intro _ H))
  go_ret
  exact ⟨rfl, H⟩
theorem resume_H (id n num : Int) (H : Heap W l w) (h0 : 1 ≤ id) (h1 : id ≤ 8) (h2 : 1 ≤ n) (h3 : n ≤ 7) :
    Calls Try.prog 15 #[.int .i64 id, .int .i64 n, .int .u64 num] w fun e w' => ∃ p, e = .returned (.pointer (some ⟨p, 0, none⟩)) ∧ Heap W (Cli p id n 1 num 0 0 0 0 0 0 (.slice none 0 0) false :: l) w' := by
  have N := new_H id n H h0 h1 h2 h3
  clear h0 h1 h2 h3 H
  go_enter Try.func15, Try.ntmps15
  go_wp2_with (go_skip)
  refine N.mono ?_
  clear N
  rintro e w1 ⟨p, rfl, H⟩
  unfold Cli at *
  go_wp2_with (first | go_skip | (first | ((with_reducible show wpList _ _ _ (_ :: _) _ _); (with_reducible apply wpl_storeIH); (· exact cell_u64); (· rfl); (· rfl); (· rfl); (· exact H); (· (repeat (first | (with_reducible exact List.mem_cons_self) | with_reducible apply List.mem_cons_of_mem))); (· (simp only [cli_sz, Nat.reduceLT]; done)); (· (with_reducible first | exact cli_s0 .. | exact cli_s1 .. | exact cli_s2 .. | exact cli_s3 .. | exact cli_s4 .. | exact cli_s5 .. | exact cli_s6 .. | exact cli_s7 .. | exact cli_s15 .. | exact cli_s16 .. | exact cli_s17 .. | exact cli_s22 ..)); (· (repeat (first | (with_reducible exact Repl.here) | with_reducible apply Repl.there))); (clear H; intro _ H); (simp only [Act.put, List.setIfInBounds_toArray, List.set_cons_zero, List.set_cons_succ])) | ((with_reducible show wpList _ _ _ (_ :: _) _ _); (with_reducible apply wpl_storeBH); (· exact cell_u64); (· rfl); (· rfl); (· rfl); (· exact H); (· (repeat (first | (with_reducible exact List.mem_cons_self) | with_reducible apply List.mem_cons_of_mem))); (· (simp only [cli_sz, Nat.reduceLT]; done)); (· (with_reducible first | exact cli_s0 .. | exact cli_s1 .. | exact cli_s2 .. | exact cli_s3 .. | exact cli_s4 .. | exact cli_s5 .. | exact cli_s6 .. | exact cli_s7 .. | exact cli_s15 .. | exact cli_s16 .. | exact cli_s17 .. | exact cli_s22 ..)); (· (repeat (first | (with_reducible exact Repl.here) | with_reducible apply Repl.there))); (clear H; intro _ H); (simp only [Act.put, List.setIfInBounds_toArray, List.set_cons_zero, List.set_cons_succ])) | ((with_reducible show wpList _ _ _ (_ :: _) _ _); (with_reducible apply wpl_storeSH); (· exact cell_u64); (· rfl); (· rfl); (· rfl); (· exact H); (· (repeat (first | (with_reducible exact List.mem_cons_self) | with_reducible apply List.mem_cons_of_mem))); (· (simp only [cli_sz, Nat.reduceLT]; done)); (· (with_reducible first | exact cli_s0 .. | exact cli_s1 .. | exact cli_s2 .. | exact cli_s3 .. | exact cli_s4 .. | exact cli_s5 .. | exact cli_s6 .. | exact cli_s7 .. | exact cli_s15 .. | exact cli_s16 .. | exact cli_s17 .. | exact cli_s22 ..)); (· (repeat (first | (with_reducible exact Repl.here) | with_reducible apply Repl.there))); (clear H; intro _ H); (simp only [Act.put, List.setIfInBounds_toArray, List.set_cons_zero, List.set_cons_succ])) | ((with_reducible show wpList _ _ _ (_ :: _) _ _); (with_reducible apply wpl_storePH); (· exact cell_u64); (· rfl); (· rfl); (· rfl); (· exact H); (· (repeat (first | (with_reducible exact List.mem_cons_self) | with_reducible apply List.mem_cons_of_mem))); (· (simp only [cli_sz, Nat.reduceLT]; done)); (· (with_reducible first | exact cli_s0 .. | exact cli_s1 .. | exact cli_s2 .. | exact cli_s3 .. | exact cli_s4 .. | exact cli_s5 .. | exact cli_s6 .. | exact cli_s7 .. | exact cli_s15 .. | exact cli_s16 .. | exact cli_s17 .. | exact cli_s22 ..)); (· (repeat (first | (with_reducible exact Repl.here) | with_reducible apply Repl.there))); (clear H; intro _ H); (simp only [Act.put, List.setIfInBounds_toArray, List.set_cons_zero, List.set_cons_succ]))))
  go_ret
  exact ⟨p, rfl, H⟩
theorem call_arg (p : Nat) (id n to num waits kind frm lto cid cnum : Int) (s0 : Value) (a : Option Addr) (m c : Nat) (hm : m = 0 ∨ 8 < m) (hb : m ≤ 1000000) (hn : decide (0 < n) = true) (H : Heap W (Cli p id n to num waits kind frm lto cid cnum s0 false :: l) w) :
    Calls Try.prog 8 #[.pointer (some ⟨p, 0, none⟩), .agg #[.slice a m c]] w fun e w' => e = .returned (.tuple #[.slice none 0 0, .int .i64 1]) ∧ Heap W (Cli p id n to num waits kind frm lto cid cnum s0 false :: l) w' := by
  unfold Cli at *
  by_cases h0 : m = 0
  · subst h0
    clear hm
    go_enter Try.func8, Try.ntmps8
    go_wp2_with (first
      | ((with_reducible show wpList _ _ _ (_ :: _) _ _); (with_reducible apply wpl_boxRH); (· rfl); (· rfl); (· exact H); (clear H; intro px _ H); (simp only [Act.put, List.setIfInBounds_toArray, List.set_cons_zero, List.set_cons_succ]); change Heap _ (Cel px (cmd _) _ :: _) _ at H)
      | go_skip
      | ((with_reducible apply there_call H); (· (repeat (first | (with_reducible exact List.mem_cons_self) | with_reducible apply List.mem_cons_of_mem))); (· exact hn); (clear H; intro _ H))
      | ((with_reducible show wpList _ _ _ (_ :: _) _ _); (with_reducible apply wpl_loadCH); (· first | exact cell_bool | exact cell_steps); (· rfl); (· rfl); (· exact H); (· (repeat (first | (with_reducible exact List.mem_cons_self) | with_reducible apply List.mem_cons_of_mem))); (· (with_reducible first | exact cli_g0 .. | exact cli_g1 .. | exact cli_g2 .. | exact cli_g3 .. | exact cli_g4 .. | exact cli_g5 .. | exact cli_g6 .. | exact cli_g7 .. | exact cli_g8 .. | exact cli_g9 .. | exact cli_g10 .. | exact cli_g11 .. | exact cli_g12 .. | exact cli_g13 .. | exact cli_g14 .. | exact cli_g15 .. | exact cli_g16 .. | exact cli_g17 .. | exact cli_g18 .. | exact cli_g19 .. | exact cli_g20 .. | exact cli_g21 .. | exact cli_g22 .. | exact cmd_g0 ..)); (simp only [Act.put, List.setIfInBounds_toArray, List.set_cons_zero, List.set_cons_succ])))
    go_ret2
    exact ⟨rfl, H.tail⟩
  · have k0 : ((m : Int) == 0) = false := by simp; omega
    have k1 : decide (8 < (m : Int)) = true := by simp; omega
    have k2 : decide (8 < m) = true := by simp; omega
    have k3 : (m == 0) = false := by simp; omega
    clear hm h0
    go_enter Try.func8, Try.ntmps8
    go_wp2_with (first
      | ((with_reducible show wpList _ _ _ (_ :: _) _ _); (with_reducible apply wpl_boxRH); (· rfl); (· rfl); (· exact H); (clear H; intro px _ H); (simp only [Act.put, List.setIfInBounds_toArray, List.set_cons_zero, List.set_cons_succ]); change Heap _ (Cel px (cmd _) _ :: _) _ at H)
      | go_skip
      | ((with_reducible apply there_call H); (· (repeat (first | (with_reducible exact List.mem_cons_self) | with_reducible apply List.mem_cons_of_mem))); (· exact hn); (clear H; intro _ H))
      | ((with_reducible show wpList _ _ _ (_ :: _) _ _); (with_reducible apply wpl_loadCH); (· first | exact cell_bool | exact cell_steps); (· rfl); (· rfl); (· exact H); (· (repeat (first | (with_reducible exact List.mem_cons_self) | with_reducible apply List.mem_cons_of_mem))); (· (with_reducible first | exact cli_g0 .. | exact cli_g1 .. | exact cli_g2 .. | exact cli_g3 .. | exact cli_g4 .. | exact cli_g5 .. | exact cli_g6 .. | exact cli_g7 .. | exact cli_g8 .. | exact cli_g9 .. | exact cli_g10 .. | exact cli_g11 .. | exact cli_g12 .. | exact cli_g13 .. | exact cli_g14 .. | exact cli_g15 .. | exact cli_g16 .. | exact cli_g17 .. | exact cli_g18 .. | exact cli_g19 .. | exact cli_g20 .. | exact cli_g21 .. | exact cli_g22 .. | exact cmd_g0 ..)); (simp only [Act.put, List.setIfInBounds_toArray, List.set_cons_zero, List.set_cons_succ])))
    go_ret2
    exact ⟨rfl, H.tail⟩
theorem RowT.nilG {w : World} {e size n : Nat} {v : Value} {xs : List Value} (h : (RowT e size v n xs).ok w) : ∀ n' c', v = .slice none n' c' → n' = 0 ∧ c' = 0 := by
  rintro n' c' rfl
  rcases h.2 with ⟨h, _⟩ | ⟨g, cap, cur, h, _⟩
  · simp only [Value.slice.injEq] at h; exact ⟨h.2.1, h.2.2⟩
  · cases h
theorem cloneG_H (ea : Option Addr) (en ec0 : Nat) (L : List RowG) (hl : L.length = en) (hn : en ≤ 1000000) (R : ∀ l' w', (∀ x ∈ l, x ∈ l') → Heap W l' w' → Rd w' ea (rowGL L)) (H : Heap W l w) :
    Calls Try.prog 31 #[.slice ea en ec0] w fun e w' => ∃ v, e = .returned v ∧ Heap W (RowT 90 2 v en (rowGL L) :: l) w' := by
  have HL := Lib.hid hl
  have HR := Lib.hid R
  clear hl R
  cases ea with
  | none =>
    have hz : en = 0 := by
      apply Classical.byContradiction
      intro hne
      obtain ⟨b, o, he, _⟩ := HR.out l w (fun _ h => h) H 0 (by rw [rowGL_len, HL.out]; omega)
      cases he
    subst hz
    have hF : L = [] := List.eq_nil_of_length_eq_zero HL.out
    have hnil : ∀ V, (binOp .eql 32 (.slice none 0 ec0) (.slice none 0 0)).run Try.prog V = .ok (.bool true) V := fun V => Lib.run_eql_slice_nil V _ _ none 0 ec0 0 0 Try.underlying32
    go_enter Try.func31, Try.ntmps31
    go_wp2_with (go_skip)
    go_ret
    subst hF
    exact ⟨_, rfl, H.nilRow _ _⟩
  | some a0 =>
    have hnil : ∀ V, (binOp .eql 32 (.slice (some a0) en ec0) (.slice none 0 0)).run Try.prog V = .ok (.bool false) V := fun V => Lib.run_eql_slice_nil V _ _ (some a0) en ec0 0 0 Try.underlying32
    have h1 : 0 + en ≤ maxLen := by unfold maxLen; omega
    have h2 : (0 + en) * 16 ≤ 140737488355328 := by omega
    have h3 : (rowGL L).length = en * 2 := by rw [rowGL_len, HL.out]
    go_enter Try.func31, Try.ntmps31
    go_wp2_with (first
      | go_skip
      | ((with_reducible show wpList _ _ _ (_ :: _) _ _); (with_reducible apply wpl_bs0); (· rfl); (· exact slG); (· exact H); (clear H; intro pq _ H); (simp only [Act.put, List.setIfInBounds_toArray, List.set_cons_zero, List.set_cons_succ]))
      | ((with_reducible show wpList _ _ _ (_ :: _) _ _); (with_reducible apply wpl_appendA slG); (· rfl); (· rfl); (· rfl); (· rfl); (· exact H.celRowA (n := 0) (m := 0) rfl (Nat.le_refl _) (Nat.zero_le _)); (· exact HR.out _ _ (fun _ h => List.mem_cons_of_mem _ h) H); (· exact h3); (· exact rowGL_ones L); (· exact h1); (· exact h2); (clear H; intro v2 _ _ H); (simp only [Act.put, List.setIfInBounds_toArray, List.set_cons_zero, List.set_cons_succ])))
    go_ret
    refine ⟨_, rfl, ?_⟩
    simpa using H
theorem clipG_some (a : Addr) (n c : Nat) (hn : n ≤ c) (hc : c ≤ maxLen) : Ans 30 #[.slice (some a) n c] (.slice (some a) n n) := by
  intro w
  obtain ⟨b, o, pth⟩ := a
  go_enter Try.func30, Try.ntmps30
  go_wp2
  go_ret
  exact ⟨rfl, (by repeat (first | exact Ext.refl _ | refine Ext.alloc ?_ _ | refine Ext.ext ?_ _ | refine Ext.drew ?_))⟩
theorem clipG (a : Option Addr) (n c : Nat) (hn : n ≤ c) (hm : c ≤ maxLen) (h0 : a = none → n = 0 ∧ c = 0) : Ans 30 #[.slice a n c] (.slice a n n) := by
  cases a with
  | none => obtain ⟨rfl, rfl⟩ := h0 rfl; exact clipG_nil
  | some a => exact clipG_some a n c hn hm
theorem take_no (p : Nat) (id n to num waits k0 g0 t0 c0 n0 : Int) (s0 : Value) (kind frm lto term index mark commit : Int) (yes : Bool) (entries data : Value) (cid cnum : Int) (steps : Value) (err rerr rat : Int) (got : Value)
    (hn : decide (0 < n) = true) (hid : 0 ≤ id ∧ id ≤ 8) (hf : 0 ≤ frm ∧ frm ≤ 255) (hno : ¬ LetOk id n num kind frm lto cid cnum) (H : Heap W (Cli p id n to num waits k0 g0 t0 c0 n0 s0 true :: l) w) :
    Calls Try.prog 9 #[.pointer (some ⟨p, 0, none⟩), .agg (letg kind frm lto term index mark commit yes entries data cid cnum steps err rerr rat got)] w fun e w' =>
      e = .returned (.tuple #[.agg (rep 0 0 (.slice none 0 0)), .bool false, .slice none 0 0]) ∧ Heap W (Cli p id n to num waits k0 g0 t0 c0 n0 s0 true :: l) w' := by
  by_cases h2 : kind = 7
  · have e2 : (kind != 7) = false := by simp [h2]
    by_cases h3 : lto = 100 + id
    · have e3 : (lto != 100 + id) = false := by simp [h3]
      by_cases h4 : cid = id
      · have e4 : (cid != id) = false := by simp [h4]
        by_cases h5 : cnum = num
        · have e5 : (cnum != num) = false := by simp [h5]
          by_cases h6 : frm < 1
          · exact take_low p id n to num waits k0 g0 t0 c0 n0 s0 true kind frm lto term index mark commit yes entries data cid cnum steps err rerr rat got hn hid hf rfl e2 e3 e4 e5 (decide_eq_true h6) H
          · exact take_high p id n to num waits k0 g0 t0 c0 n0 s0 true kind frm lto term index mark commit yes entries data cid cnum steps err rerr rat got hn hid hf rfl e2 e3 e4 e5 (decide_eq_false h6) (decide_eq_true (by
              apply Classical.byContradiction
              intro h7
              exact hno ⟨h2, h3, h4, h5, by omega, by omega⟩)) H
        · exact take_num p id n to num waits k0 g0 t0 c0 n0 s0 true kind frm lto term index mark commit yes entries data cid cnum steps err rerr rat got hn hid hf rfl e2 e3 e4 (by simp [h5]) H
      · exact take_cid p id n to num waits k0 g0 t0 c0 n0 s0 true kind frm lto term index mark commit yes entries data cid cnum steps err rerr rat got hn hid hf rfl e2 e3 (by simp [h4]) H
    · exact take_lto p id n to num waits k0 g0 t0 c0 n0 s0 true kind frm lto term index mark commit yes entries data cid cnum steps err rerr rat got hn hid hf rfl e2 (by simp [h3]) H
  · exact take_kind p id n to num waits k0 g0 t0 c0 n0 s0 true kind frm lto term index mark commit yes entries data cid cnum steps err rerr rat got hn hid hf rfl (by simp [h2]) H
theorem rtake_no (p : Nat) (id n to num waits : Int) (s : Value) (kind frm lto term index mark commit : Int) (yes : Bool) (entries data : Value) (cid cnum : Int) (steps : Value) (err rerr rat : Int) (got : Value)
    (hid : 0 ≤ id ∧ id ≤ 8) (hf : 0 ≤ frm ∧ frm ≤ 255) (hno : ¬ LetOk id n num kind frm lto cid cnum) (H : Heap W (RCl p id n to num true s waits :: l) w) :
    Calls Try.prog 22 #[.pointer (some ⟨p, 0, none⟩), .agg (rlet kind frm lto term index mark commit yes entries data cid cnum steps err rerr rat got)] w fun e w' =>
      e = .returned (.tuple #[.agg (rep 0 0 (.slice none 0 0)), .bool false, .slice none 0 0]) ∧ Heap W (RCl p id n to num true s waits :: l) w' := by
  by_cases h2 : kind = 7
  · have e2 : (kind != 7) = false := by simp [h2]
    by_cases h3 : lto = 100 + id
    · have e3 : (lto != 100 + id) = false := by simp [h3]
      by_cases h4 : cid = id
      · have e4 : (cid != id) = false := by simp [h4]
        by_cases h5 : cnum = num
        · have e5 : (cnum != num) = false := by simp [h5]
          by_cases h6 : frm < 1
          · exact rtake_low p id n to num waits s true kind frm lto term index mark commit yes entries data cid cnum steps err rerr rat got hid hf rfl e2 e3 e4 e5 (decide_eq_true h6) H
          · exact rtake_high p id n to num waits s true kind frm lto term index mark commit yes entries data cid cnum steps err rerr rat got hid hf rfl e2 e3 e4 e5 (decide_eq_false h6) (decide_eq_true (by
              apply Classical.byContradiction
              intro h7
              exact hno ⟨h2, h3, h4, h5, by omega, by omega⟩)) H
        · exact rtake_num p id n to num waits s true kind frm lto term index mark commit yes entries data cid cnum steps err rerr rat got hid hf rfl e2 e3 e4 (by simp [h5]) H
      · exact rtake_cid p id n to num waits s true kind frm lto term index mark commit yes entries data cid cnum steps err rerr rat got hid hf rfl e2 e3 (by simp [h4]) H
    · exact rtake_lto p id n to num waits s true kind frm lto term index mark commit yes entries data cid cnum steps err rerr rat got hid hf rfl e2 (by simp [h3]) H
  · exact rtake_kind p id n to num waits s true kind frm lto term index mark commit yes entries data cid cnum steps err rerr rat got hid hf rfl (by simp [h2]) H
/-- An answer that tells neither that it is done nor who leads. -/
theorem take_idle (p : Nat) (id n to num waits k0 g0 t0 c0 n0 : Int) (s0 : Value) (kind frm lto term index mark commit : Int) (yes : Bool) (entries data : Value) (cid cnum : Int) (steps : Value) (err rerr rat : Int) (got : Value)
    (hn : decide (0 < n) = true) (hn7 : n ≤ 7) (hid : 0 ≤ id ∧ id ≤ 8) (hok : LetOk id n num kind frm lto cid cnum) (h0 : err ≠ 0) (h1 : ¬ (err = 16 ∧ 1 ≤ index ∧ index ≤ n ∧ index ≠ frm)) (H : Heap W (Cli p id n to num waits k0 g0 t0 c0 n0 s0 true :: l) w) :
    Calls Try.prog 9 #[.pointer (some ⟨p, 0, none⟩), .agg (letg kind frm lto term index mark commit yes entries data cid cnum steps err rerr rat got)] w fun e w' =>
      e = .returned (.tuple #[.agg (rep 0 0 (.slice none 0 0)), .bool false, .slice none 0 0]) ∧ Heap W (Cli p id n to num waits k0 g0 t0 c0 n0 s0 true :: l) w' := by
  obtain ⟨rfl, rfl, rfl, rfl, hf1, hf2⟩ := hok
  have e6 : decide (frm < 1) = false := decide_eq_false (by omega)
  have e7 : decide (n < frm) = false := decide_eq_false (by omega)
  have e8 : (err == 0) = false := by simp [h0]
  have hf : 0 ≤ frm ∧ frm ≤ 255 := ⟨by omega, by omega⟩
  by_cases h9 : err = 16
  · have e9 : (err == 16) = true := by simp [h9]
    by_cases h10 : 1 ≤ index
    · have e10 : decide (1 ≤ index) = true := decide_eq_true h10
      by_cases h11 : index ≤ n
      · have e11 : decide (index ≤ n) = true := decide_eq_true h11
        have e12 : (index != frm) = false := by
          have : index = frm := Classical.byContradiction fun h => h1 ⟨h9, h10, h11, h⟩
          simp [this]
        exact take_self p cid n to cnum waits k0 g0 t0 c0 n0 s0 frm term index mark commit yes entries data steps err rerr rat got hn hn7 hid hf e6 e7 e8 e9 e10 e11 e12 H
      · exact take_far p cid n to cnum waits k0 g0 t0 c0 n0 s0 frm term index mark commit yes entries data steps err rerr rat got hn hn7 hid hf e6 e7 e8 e9 e10 (decide_eq_false h11) H
    · exact take_zed p cid n to cnum waits k0 g0 t0 c0 n0 s0 frm term index mark commit yes entries data steps err rerr rat got hn hn7 hid hf e6 e7 e8 e9 (decide_eq_false h10) H
  · exact take_other p cid n to cnum waits k0 g0 t0 c0 n0 s0 frm term index mark commit yes entries data steps err rerr rat got hn hn7 hid hf e6 e7 e8 (by simp [h9]) H
theorem rtake_idle (p : Nat) (id n to num waits : Int) (s : Value) (kind frm lto term index mark commit : Int) (yes : Bool) (entries data : Value) (cid cnum : Int) (steps : Value) (err rerr rat : Int) (got : Value)
    (hid : 0 ≤ id ∧ id ≤ 8) (hn : 1 ≤ n ∧ n ≤ 7) (hok : LetOk id n num kind frm lto cid cnum) (h0 : err ≠ 0) (h1 : ¬ (err = 16 ∧ 1 ≤ index ∧ index ≤ n ∧ index ≠ frm)) (H : Heap W (RCl p id n to num true s waits :: l) w) :
    Calls Try.prog 22 #[.pointer (some ⟨p, 0, none⟩), .agg (rlet kind frm lto term index mark commit yes entries data cid cnum steps err rerr rat got)] w fun e w' =>
      e = .returned (.tuple #[.agg (rep 0 0 (.slice none 0 0)), .bool false, .slice none 0 0]) ∧ Heap W (RCl p id n to num true s waits :: l) w' := by
  obtain ⟨rfl, rfl, rfl, rfl, hf1, hf2⟩ := hok
  have e6 : decide (frm < 1) = false := decide_eq_false (by omega)
  have e7 : decide (n < frm) = false := decide_eq_false (by omega)
  have e8 : (err == 0) = false := by simp [h0]
  have hf : 0 ≤ frm ∧ frm ≤ 255 := ⟨by omega, by omega⟩
  by_cases h9 : err = 16
  · have e9 : (err == 16) = true := by simp [h9]
    by_cases h10 : 1 ≤ index
    · have e10 : decide (1 ≤ index) = true := decide_eq_true h10
      by_cases h11 : index ≤ n
      · have e11 : decide (index ≤ n) = true := decide_eq_true h11
        have e12 : (index != frm) = false := by
          have : index = frm := Classical.byContradiction fun h => h1 ⟨h9, h10, h11, h⟩
          simp [this]
        exact rtake_self p cid n to cnum waits s frm term index mark commit yes entries data steps err rerr rat got hid hf hn e6 e7 e8 e9 e10 e11 e12 H
      · exact rtake_far p cid n to cnum waits s frm term index mark commit yes entries data steps err rerr rat got hid hf hn e6 e7 e8 e9 e10 (decide_eq_false h11) H
    · exact rtake_zero p cid n to cnum waits s frm term index mark commit yes entries data steps err rerr rat got hid hf hn e6 e7 e8 e9 (decide_eq_false h10) H
  · exact rtake_other p cid n to cnum waits s frm term index mark commit yes entries data steps err rerr rat got hid hf hn e6 e7 e8 (by simp [h9]) H
theorem take_full (p : Nat) (id n to num waits k0 g0 t0 c0 n0 : Int) (s0 : Value) (frm term index mark commit : Int) (yes : Bool) (entries data : Value) (steps : Value) (rerr rat : Int) (ga : Option Addr) (gn gc : Nat) (L : List RowG) (hl : L.length = gn) (hg : gn ≤ 1000000)
    (R : ∀ l' w', (∀ x ∈ l, x ∈ l') → Heap W l' w' → Rd w' ga (rowGL L))
    (hn : decide (0 < n) = true) (hid : 0 ≤ id ∧ id ≤ 8) (hf : 0 ≤ frm ∧ frm ≤ 255) (e6 : decide (frm < 1) = false) (e7 : decide (n < frm) = false) (H : Heap W (Cli p id n to num waits k0 g0 t0 c0 n0 s0 true :: l) w) :
    Calls Try.prog 9 #[.pointer (some ⟨p, 0, none⟩), .agg (letg 7 frm (100 + id) term index mark commit yes entries data id num steps 0 rerr rat (.slice ga gn gc))] w fun e w' =>
      ∃ a' c', e = .returned (.tuple #[.agg (rep rerr rat (.slice a' gn gn)), .bool true, .slice none 0 0]) ∧ Heap W (Cli p id n to num waits 0 0 0 0 0 (.slice none 0 0) false :: RowT 90 2 (.slice a' gn c') gn (rowGL L) :: l) w' := by
  have hw : IntKind.u8.wrap (100 + id) = 100 + id := IntWalk.u8_in _ (by omega)
  have hw1 : 0 ≤ 100 + id := by omega
  have hw2 : 100 + id ≤ 255 := by omega
  have f0 : 0 ≤ frm := by omega
  have f1 : frm ≤ 255 := by omega
  have HR := Lib.hid (And.intro hl R)
  have hmf : ∀ (fn : Fn) (first cap : Array Value) (w : World), (Instr.makeFunc fn first cap).run Try.prog w = .ok (.func fn first cap) w := fun _ _ _ _ => rfl
  clear hid hf hl R
  unfold Cli at *
  go_enter_defers Try.func9, Try.ntmps9
  go_wp2_with (first
    | go_skip
    | ((with_reducible show wpList _ _ _ (_ :: _) _ _); (with_reducible apply wpl_boxRH); (· rfl); (· rfl); (· exact H); (clear H; intro px _ H); (simp only [Act.put, List.setIfInBounds_toArray, List.set_cons_zero, List.set_cons_succ]))
    | ((with_reducible show wpList _ _ _ (_ :: _) _ _); (with_reducible apply wpl_boxPH); (· rfl); (· rfl); (· exact H); (clear H; intro py _ H); (simp only [Act.put, List.setIfInBounds_toArray, List.set_cons_zero, List.set_cons_succ]))
    | ((with_reducible show wpList _ _ _ (_ :: _) _ _); (with_reducible apply wpl_allocRH row_rep); (· rfl); (· exact H); (clear H; intro pz _ H); (simp only [Act.put, List.setIfInBounds_toArray, List.set_cons_zero, List.set_cons_succ])))
  change Heap _ (_ :: _ :: Cel py (one _) _ :: _) _ at H
  refine wp_region_H H (by kernel_rfl) (by kernel_rfl) ?_
  repeat (first | go_big_quiet_skip | ((with_reducible apply wpQ_loadCH); (· first | exact cell_b8 | exact cell_u64 | exact cell_i64 | exact cell_kind | exact cell_pcli); (· rfl); (· rfl); (· (repeat (first | (with_reducible exact List.mem_cons_self) | with_reducible apply List.mem_cons_of_mem))); (· (with_reducible first | exact cli_g0 .. | exact cli_g1 .. | exact cli_g2 .. | exact cli_g3 .. | exact cli_g4 .. | exact cli_g5 .. | exact cli_g6 .. | exact cli_g7 .. | exact cli_g8 .. | exact cli_g9 .. | exact cli_g10 .. | exact cli_g11 .. | exact cli_g12 .. | exact cli_g13 .. | exact cli_g14 .. | exact cli_g15 .. | exact cli_g16 .. | exact cli_g17 .. | exact cli_g18 .. | exact cli_g19 .. | exact cli_g20 .. | exact cli_g21 .. | exact cli_g22 .. | exact letg_g0 .. | exact letg_g1 .. | exact letg_g2 .. | exact letg_g3 .. | exact letg_g4 .. | exact letg_g5 .. | exact letg_g6 .. | exact letg_g7 .. | exact letg_g8 .. | exact letg_g9 .. | exact letg_g10 .. | exact letg_g11 .. | exact letg_g12 .. | exact letg_g13 .. | exact letg_g14 .. | exact letg_g15 .. | exact letg_g16 .. | exact one_g0 ..)); (simp only [Act.put, List.setIfInBounds_toArray, List.set_cons_zero, List.set_cons_succ])) | go_big_quiet_step (exact (open_H (List.mem_cons_of_mem _ (List.mem_cons_of_mem _ (List.mem_cons_of_mem _ List.mem_cons_self))) hn).quiet))
  refine wpQuiet_nil ?_
  clear H
  intro _ H
  go_wp2_with (first
    | go_skip
    | ((with_reducible show wpList _ _ _ (_ :: _) _ _); (with_reducible apply wpl_loadCH); (· first | exact cell_errno | exact cell_gots); (· rfl); (· rfl); (· exact H); (· (repeat (first | (with_reducible exact List.mem_cons_self) | with_reducible apply List.mem_cons_of_mem))); (· (with_reducible first | exact letg_g0 .. | exact letg_g1 .. | exact letg_g2 .. | exact letg_g3 .. | exact letg_g4 .. | exact letg_g5 .. | exact letg_g6 .. | exact letg_g7 .. | exact letg_g8 .. | exact letg_g9 .. | exact letg_g10 .. | exact letg_g11 .. | exact letg_g12 .. | exact letg_g13 .. | exact letg_g14 .. | exact letg_g15 .. | exact letg_g16 .. | exact rep_g0 .. | exact rep_g1 .. | exact rep_g2 ..)); (simp only [Act.put, List.setIfInBounds_toArray, List.set_cons_zero, List.set_cons_succ]))
    | ((with_reducible show wpList _ _ _ (_ :: _) _ _); (with_reducible apply wpl_loadRH row_rep); (· rfl); (· rfl); (· exact H); (· (repeat (first | (with_reducible exact List.mem_cons_self) | with_reducible apply List.mem_cons_of_mem))); (· (simp only [rep_sz, letg_sz, Nat.reduceAdd, Nat.reduceLeDiff, Nat.le_refl]; done)); (· with_reducible first | exact rep_all .. | exact letg_rep ..); (simp only [Act.put, List.setIfInBounds_toArray, List.set_cons_zero, List.set_cons_succ]))
    | ((with_reducible show wpList _ _ _ (_ :: _) _ _); (with_reducible apply wpl_storeRH row_rep); (· rfl); (· rfl); (· rfl); (· with_reducible exact rep_cells ..); (· exact H); (· (repeat (first | (with_reducible exact List.mem_cons_self) | with_reducible apply List.mem_cons_of_mem))); (· (simp only [rep_sz, Nat.reduceAdd, Nat.reduceLeDiff, Nat.le_refl]; done)); (· with_reducible exact rep_splice ..); (· (repeat (first | (with_reducible exact Repl.here) | with_reducible apply Repl.there))); (clear H; intro _ H); (simp only [Act.put, List.setIfInBounds_toArray, List.set_cons_zero, List.set_cons_succ])))
  refine (cloneG_H ga gn gc L HR.out.1 hg (fun l' w' hh h => HR.out.2 l' w' (fun x hx => hh x (List.mem_cons_of_mem _ (List.mem_cons_of_mem _ (List.mem_cons_of_mem _ (List.mem_cons_of_mem _ hx))))) h) H).mono ?_
  clear H
  rintro e w3 ⟨v3, rfl, H⟩
  obtain ⟨a3, c3, rfl, hc3, hm3⟩ := RowT.form0 (H.ok _ List.mem_cons_self)
  have hnil := RowT.nilG (H.ok _ List.mem_cons_self)
  have CG := clipG a3 gn c3 hc3 hm3 (fun h => by subst h; exact hnil _ _ rfl)
  clear hnil
  go_wp2_with (first
    | go_skip
    | ((with_reducible refine Ans.callH (by assumption) H ?_); clear H; intro _ H)
    | ((with_reducible show wpList _ _ _ (_ :: _) _ _); (with_reducible apply wpl_loadCH); (· first | exact cell_errno | exact cell_gots); (· rfl); (· rfl); (· exact H); (· (repeat (first | (with_reducible exact List.mem_cons_self) | with_reducible apply List.mem_cons_of_mem))); (· (with_reducible first | exact letg_g0 .. | exact letg_g1 .. | exact letg_g2 .. | exact letg_g3 .. | exact letg_g4 .. | exact letg_g5 .. | exact letg_g6 .. | exact letg_g7 .. | exact letg_g8 .. | exact letg_g9 .. | exact letg_g10 .. | exact letg_g11 .. | exact letg_g12 .. | exact letg_g13 .. | exact letg_g14 .. | exact letg_g15 .. | exact letg_g16 .. | exact rep_g0 .. | exact rep_g1 .. | exact rep_g2 ..)); (simp only [Act.put, List.setIfInBounds_toArray, List.set_cons_zero, List.set_cons_succ]))
    | (first | ((with_reducible show wpList _ _ _ (_ :: _) _ _); (with_reducible apply wpl_storeIH); (· exact cell_gots); (· rfl); (· rfl); (· rfl); (· exact H); (· (repeat (first | (with_reducible exact List.mem_cons_self) | with_reducible apply List.mem_cons_of_mem))); (· (simp only [rep_sz, Nat.reduceLT]; done)); (· (with_reducible first | exact rep_s0 .. | exact rep_s1 .. | exact rep_s2 ..)); (· (repeat (first | (with_reducible exact Repl.here) | with_reducible apply Repl.there))); (clear H; intro _ H); (simp only [Act.put, List.setIfInBounds_toArray, List.set_cons_zero, List.set_cons_succ])) | ((with_reducible show wpList _ _ _ (_ :: _) _ _); (with_reducible apply wpl_storeBH); (· exact cell_gots); (· rfl); (· rfl); (· rfl); (· exact H); (· (repeat (first | (with_reducible exact List.mem_cons_self) | with_reducible apply List.mem_cons_of_mem))); (· (simp only [rep_sz, Nat.reduceLT]; done)); (· (with_reducible first | exact rep_s0 .. | exact rep_s1 .. | exact rep_s2 ..)); (· (repeat (first | (with_reducible exact Repl.here) | with_reducible apply Repl.there))); (clear H; intro _ H); (simp only [Act.put, List.setIfInBounds_toArray, List.set_cons_zero, List.set_cons_succ])) | ((with_reducible show wpList _ _ _ (_ :: _) _ _); (with_reducible apply wpl_storeSH); (· exact cell_gots); (· rfl); (· rfl); (· rfl); (· exact H); (· (repeat (first | (with_reducible exact List.mem_cons_self) | with_reducible apply List.mem_cons_of_mem))); (· (simp only [rep_sz, Nat.reduceLT]; done)); (· (with_reducible first | exact rep_s0 .. | exact rep_s1 .. | exact rep_s2 ..)); (· (repeat (first | (with_reducible exact Repl.here) | with_reducible apply Repl.there))); (clear H; intro _ H); (simp only [Act.put, List.setIfInBounds_toArray, List.set_cons_zero, List.set_cons_succ])) | ((with_reducible show wpList _ _ _ (_ :: _) _ _); (with_reducible apply wpl_storePH); (· exact cell_gots); (· rfl); (· rfl); (· rfl); (· exact H); (· (repeat (first | (with_reducible exact List.mem_cons_self) | with_reducible apply List.mem_cons_of_mem))); (· (simp only [rep_sz, Nat.reduceLT]; done)); (· (with_reducible first | exact rep_s0 .. | exact rep_s1 .. | exact rep_s2 ..)); (· (repeat (first | (with_reducible exact Repl.here) | with_reducible apply Repl.there))); (clear H; intro _ H); (simp only [Act.put, List.setIfInBounds_toArray, List.set_cons_zero, List.set_cons_succ])))
    | ((with_reducible show wpList _ _ _ (_ :: _) _ _); (with_reducible apply wpl_loadRH row_rep); (· rfl); (· rfl); (· exact H); (· (repeat (first | (with_reducible exact List.mem_cons_self) | with_reducible apply List.mem_cons_of_mem))); (· (simp only [rep_sz, letg_sz, Nat.reduceAdd, Nat.reduceLeDiff, Nat.le_refl]; done)); (· with_reducible first | exact rep_all .. | exact letg_rep ..); (simp only [Act.put, List.setIfInBounds_toArray, List.set_cons_zero, List.set_cons_succ]))
    | ((with_reducible show wpList _ _ _ (_ :: _) _ _); (with_reducible apply wpl_storeRH row_rep); (· rfl); (· rfl); (· rfl); (· with_reducible exact rep_cells ..); (· exact H); (· (repeat (first | (with_reducible exact List.mem_cons_self) | with_reducible apply List.mem_cons_of_mem))); (· (simp only [rep_sz, Nat.reduceAdd, Nat.reduceLeDiff, Nat.le_refl]; done)); (· with_reducible exact rep_splice ..); (· (repeat (first | (with_reducible exact Repl.here) | with_reducible apply Repl.there))); (clear H; intro _ H); (simp only [Act.put, List.setIfInBounds_toArray, List.set_cons_zero, List.set_cons_succ])))
  refine leaves_cons (f := 29) (args := #[.pointer (some ⟨py, 0, none⟩)]) (by simp) (by simp [go_sem]) ?_
  have C := close_H p py id n to num waits k0 g0 t0 c0 n0 s0 true .returning (by (repeat (first | (with_reducible exact List.mem_cons_self) | with_reducible apply List.mem_cons_of_mem))) H (by (repeat (first | (with_reducible exact List.mem_cons_self) | with_reducible apply List.mem_cons_of_mem))) (by (repeat (first | (with_reducible exact Repl.here) | with_reducible apply Repl.there)))
  clear H
  refine C.mono ?_
  clear C
  rintro e u' w'' ⟨rfl, rfl, H⟩
  exact ⟨_, results_row3H row_rep rfl rfl H (List.mem_cons_of_mem _ List.mem_cons_self) rfl rfl rfl, a3, c3, rfl, ((((H.drop (.there .here)).drop (.there .here)).drop (.there .here))).perm (.swap _ _ _)⟩
/-- Its answer: done. -/
theorem take_done_ok (p : Nat) (id n to num waits k0 g0 t0 c0 n0 : Int) (s0 : Value) (kind frm lto term index mark commit : Int) (yes : Bool) (entries data : Value) (cid cnum : Int) (steps : Value) (rerr rat : Int) (ga : Option Addr) (gn gc : Nat) (L : List RowG) (hl : L.length = gn) (hg : gn ≤ 1000000)
    (R : ∀ l' w', (∀ x ∈ l, x ∈ l') → Heap W l' w' → Rd w' ga (rowGL L))
    (hn : decide (0 < n) = true) (hn7 : n ≤ 7) (hid : 0 ≤ id ∧ id ≤ 8) (hok : LetOk id n num kind frm lto cid cnum) (H : Heap W (Cli p id n to num waits k0 g0 t0 c0 n0 s0 true :: l) w) :
    Calls Try.prog 9 #[.pointer (some ⟨p, 0, none⟩), .agg (letg kind frm lto term index mark commit yes entries data cid cnum steps 0 rerr rat (.slice ga gn gc))] w fun e w' =>
      ∃ a' c', e = .returned (.tuple #[.agg (rep rerr rat (.slice a' gn gn)), .bool true, .slice none 0 0]) ∧ Heap W (Cli p id n to num waits 0 0 0 0 0 (.slice none 0 0) false :: RowT 90 2 (.slice a' gn c') gn (rowGL L) :: l) w' := by
  obtain ⟨rfl, rfl, rfl, rfl, hf1, hf2⟩ := hok
  exact take_full p cid n to cnum waits k0 g0 t0 c0 n0 s0 frm term index mark commit yes entries data steps rerr rat ga gn gc L hl hg R hn hid ⟨by omega, by omega⟩ (decide_eq_false (by omega)) (decide_eq_false (by omega)) H
theorem rtake_done_ok (p : Nat) (id n to num waits : Int) (s : Value) (kind frm lto term index mark commit : Int) (yes : Bool) (entries data : Value) (cid cnum : Int) (steps : Value) (rerr rat : Int) (ga : Option Addr) (gn gc : Nat)
    (hn7 : n ≤ 7) (hid : 0 ≤ id ∧ id ≤ 8) (hok : LetOk id n num kind frm lto cid cnum) (H : Heap W (RCl p id n to num true s waits :: l) w) :
    Calls Try.prog 22 #[.pointer (some ⟨p, 0, none⟩), .agg (rlet kind frm lto term index mark commit yes entries data cid cnum steps 0 rerr rat (.slice ga gn gc))] w fun e w' =>
      e = .returned (.tuple #[.agg (rep rerr rat (.slice ga gn gc)), .bool true, .slice none 0 0]) ∧ Heap W (RCl p id n to num false s waits :: l) w' := by
  obtain ⟨rfl, rfl, rfl, rfl, hf1, hf2⟩ := hok
  exact rtake_done p cid n to cnum waits s frm term index mark commit yes entries data steps rerr rat ga gn gc hid ⟨by omega, by omega⟩ (decide_eq_false (by omega)) (decide_eq_false (by omega)) H
/-- Its answer: another one leads. -/
theorem take_lead_ok (p g m c : Nat) (id n to num waits k0 g0 t0 c0 n0 : Int) (cs : List Value) (h0 : 0 < m) (hm : m ≤ 8) (hl : cs.length = m * 10) (h1 : OneCells cs) (kind frm lto term index mark commit : Int) (yes : Bool) (entries data : Value) (cid cnum : Int) (steps : Value) (rerr rat : Int) (got : Value)
    (hn : decide (0 < n) = true) (hn7 : n ≤ 7) (hid : 0 ≤ id ∧ id ≤ 8) (hok : LetOk id n num kind frm lto cid cnum) (hi : 1 ≤ index ∧ index ≤ n ∧ index ≠ frm) (H : Heap W (Cli p id n to num waits k0 g0 t0 c0 n0 (.slice (some ⟨g, 0, none⟩) m c) true :: StepsT g m c cs :: l) w) :
    Calls Try.prog 9 #[.pointer (some ⟨p, 0, none⟩), .agg (letg kind frm lto term index mark commit yes entries data cid cnum steps 16 rerr rat got)] w fun e w' => ∃ q g' c',
      e = .returned (.tuple #[.agg (rep 0 0 (.slice none 0 0)), .bool false, .slice (some ⟨q, 0, none⟩) 1 1]) ∧
      Heap W (Cel q (lett k0 g0 index c0 n0 (.slice (some ⟨g', 0, none⟩) m m)) 36 :: StepsT g' m c' cs :: Cli p id n index num 0 k0 g0 index c0 n0 (.slice (some ⟨g, 0, none⟩) m c) true :: StepsT g m c cs :: l) w' := by
  obtain ⟨rfl, rfl, rfl, rfl, hf1, hf2⟩ := hok
  exact take_leader p g m c cid n to cnum waits k0 g0 t0 c0 n0 cs h0 hm hl h1 frm term index mark commit yes entries data steps rerr rat got hn hn7 hid ⟨by omega, by omega⟩ (decide_eq_false (by omega)) (decide_eq_false (by omega)) (decide_eq_true hi.1) (decide_eq_true hi.2.1) (by have := hi.2.2; simpa using this) H
theorem rtake_lead_ok (p : Nat) (id n to num waits : Int) (a : Option Addr) (m c : Nat) (kind frm lto term index mark commit : Int) (yes : Bool) (entries data : Value) (cid cnum : Int) (steps : Value) (rerr rat : Int) (got : Value)
    (hid : 0 ≤ id ∧ id ≤ 8) (hn : 1 ≤ n ∧ n ≤ 7) (hok : LetOk id n num kind frm lto cid cnum) (hi : 1 ≤ index ∧ index ≤ n ∧ index ≠ frm) (H : Heap W (RCl p id n to num true (.slice a m c) waits :: l) w) :
    Calls Try.prog 22 #[.pointer (some ⟨p, 0, none⟩), .agg (rlet kind frm lto term index mark commit yes entries data cid cnum steps 16 rerr rat got)] w fun e w' =>
      ∃ q, e = .returned (.tuple #[.agg (rep 0 0 (.slice none 0 0)), .bool false, .slice (some ⟨q, 0, none⟩) 1 1]) ∧ Heap W (Cel q (rlet 6 (100 + id) index 0 0 0 0 false (.slice none 0 0) (.slice none 0 0) id num (.slice a m c) 0 0 0 (.slice none 0 0)) 76 :: RCl p id n index num true (.slice a m c) 0 :: l) w' := by
  obtain ⟨rfl, rfl, rfl, rfl, hf1, hf2⟩ := hok
  exact rtake_leader p cid n to cnum waits a m c frm term index mark commit yes entries data steps rerr rat got hid ⟨by omega, by omega⟩ hn (decide_eq_false (by omega)) (decide_eq_false (by omega)) (decide_eq_true hi.1) (decide_eq_true hi.2.1) (by have := hi.2.2; simpa using this) H
end
end Go.Proofs.Ytjipelhcgglhhaa
