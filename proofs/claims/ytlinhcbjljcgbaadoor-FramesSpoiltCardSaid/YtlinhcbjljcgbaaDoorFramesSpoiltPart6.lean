/- FramesSpoilt: part 6 of its proof: FrGet, FrGet2, FrPut. -/
import Derived.Test.YtlinhcbjljcgbaaDoorFramesSpoiltPart5
/- frames.Get: the first frame of bytes. -/
namespace Go.Proofs.YtlinhcbjljcgbaaDoor
open Go.RowKit
attribute [local go_sem] Oper.semAt_some
set_option linter.unusedSimpArgs false
set_option linter.unusedVariables false
theorem Heap.celRow {W w : World} {l : List Thing} {g e size n m : Nat} {c : Array Value} (H : Heap W (Cel g c e :: l) w) (hc : c.size = m * size) (hn : n ≤ m) (hm : m ≤ maxLen) : Heap W (RowT e size (.slice (some ⟨g, 0, none⟩) n m) n (c.toList.take (n * size)) :: l) w := by
  have h2 : n * size ≤ m * size := Nat.mul_le_mul_right _ hn
  exact H.head (World.grownBy.refl _ _) ⟨by simp; omega, .inr ⟨g, m, c, rfl, Nat.zero_le _, H.blk List.mem_cons_self, hn, hm, hc, rfl⟩⟩ (.inl rfl)
theorem wpl_append00 {ops : Array Oper} {rest : List Oper} {o : Oper} {a : Act} {w : World} {Q : Exit → Act → World → Prop} {t e size bytes : Nat} {z : Value} (T : SlTy Tryd.prog t e size bytes z) (hgd : o.guard = none) {s x : Operand}
    (ho : o.op = .call { callee := .builtin .append, args := #[s, x], argTypes := #[t, t] }) {q : Nat} {b : Addr} {c : Nat} (hs : a.eval s = .slice (some ⟨q, 0, none⟩) 0 0) (hx : a.eval x = .slice (some b) 0 c)
    (h : wpList Tryd.prog ops Q rest (a.put o.dst (.slice (some ⟨q, 0, none⟩) 0 0)) w) : wpList Tryd.prog ops Q (o :: rest) a w := by
  obtain ⟨i, hi, hz, hsi, hbi⟩ := T.inf
  have hr : (Builtin.append_ #[t, t] o.type #[.slice (some ⟨q, 0, none⟩) 0 0, .slice (some b) 0 c]).run Tryd.prog w = .ok (.slice (some ⟨q, 0, none⟩) 0 0) w := by
    simp [Builtin.append_, run_underlying T.und, sizeOf, typeInfo, hi, Builtin.lenOf, Builtin.firstCells, loadCells, loadCellsFrom, storeCells]
  refine wpList_plain hgd fun K hK => ?_
  unfold Oper.wp execOp
  simp only [ho, resolve, invoke, builtin, Sem.run_bind, Sem.run_pure, Result.andThen_ok, List.map_toArray, List.map_cons, List.map_nil, hs, hx, hr]
  exact hK _ _ h
theorem rdCut {w : World} {a : Option Addr} {zs : Bs} (h : Rd w a (zs.map B8)) (cap lo hi : Nat) (hh : hi ≤ cap) : Rd w (cutA a cap lo 1) (((zs.drop lo).take (hi - lo)).map B8) := by
  have := h.cutA cap lo hi 1 hh
  rw [List.map_take, List.map_drop]
  simpa using this
def anyLow (zs : Bs) : Bool := zs.any fun c => decide (c.toNat < 128)
def lowAt : Bs → Nat
  | [] => 0
  | c :: zs => if c.toNat < 128 then 0 else lowAt zs + 1
theorem lowAt_le : ∀ zs : Bs, lowAt zs ≤ zs.length
  | [] => Nat.le_refl _
  | c :: zs => by have := lowAt_le zs; unfold lowAt; split <;> simp <;> omega
theorem lowAt_hi : ∀ (zs : Bs) (k : Nat) (h : k < zs.length), k < lowAt zs → ¬ zs[k].toNat < 128
  | [], _, h, _ => by simp at h
  | c :: zs, 0, _, h => by
    unfold lowAt at h
    split at h
    · omega
    · rename_i hc
      simpa using hc
  | c :: zs, k + 1, h, h2 => by
    unfold lowAt at h2
    split at h2
    · omega
    · exact lowAt_hi zs k (by simpa using h) (by omega)
theorem lowAt_at : ∀ (zs : Bs) (h : lowAt zs < zs.length), zs[lowAt zs].toNat < 128
  | [], h => by simp at h
  | c :: zs, h => by
    by_cases e : c.toNat < 128
    · have : lowAt (c :: zs) = 0 := by unfold lowAt; rw [if_pos e]
      simpa [this] using e
    · have h1 : lowAt (c :: zs) = lowAt zs + 1 := by rw [lowAt, if_neg e]
      have h2 : lowAt zs < zs.length := by rw [h1] at h; simpa using h
      have := lowAt_at zs h2
      simpa [h1] using this
theorem lowAt_any (zs : Bs) : decide (lowAt zs < zs.length) = anyLow zs := by
  unfold anyLow
  induction zs with
  | nil => rfl
  | cons c zs ih =>
    rw [List.any_cons, ← ih]
    by_cases e : c.toNat < 128
    · have : lowAt (c :: zs) = 0 := by unfold lowAt; rw [if_pos e]
      rw [this]; simp [e]
    · have h1 : lowAt (c :: zs) = lowAt zs + 1 := by rw [lowAt, if_neg e]
      rw [h1]; simp [e]
theorem anyLow_no (zs : Bs) : anyLow zs = false ↔ ∀ c ∈ zs, 128 ≤ c.toNat := by
  unfold anyLow
  rw [List.any_eq_false]
  simp
def idxV (zs : Bs) (n : Nat) : Int := if lowAt zs < n then (lowAt zs : Int) else -1
/-- What size answers. -/
def szV (zs : Bs) : Value := if (tk zs).e ≠ 0 then .tuple #[.int .i64 0, .int .i64 0, .int .i64 (tk zs).e] else if 8192 < (tk zs).n then .tuple #[.int .i64 0, .int .i64 0, .int .i64 4] else .tuple #[.int .i64 ((tk zs).n : Int), .int .i64 ((tk zs).h : Int), .int .i64 0]
section
variable {W w : World} {l : List Thing}
set_option maxRecDepth 100000
set_option maxHeartbeats 2000000
theorem takeP_H (a : Option Addr) (n c : Nat) (zs : Bs) (hn : zs.length = n) (hl : n ≤ 1000000) (R : RdB W l a zs) : AnsH W l 49 #[.slice a n c] (.tuple #[.int .u64 ((tk zs).n : Int), .int .i64 ((tk zs).h : Int)]) := by
  intro w H
  have C := take_H a n c zs hn hl R
  go_enter Tryd.func49, Tryd.ntmps49
  go_wp2_with (first | go_skip | ((with_reducible refine AnsH.call (by assumption) H ?_); clear H; intro _ H))
  go_ret2
  exact ⟨rfl, H⟩
theorem low_H (m : Nat) (hm : m < 256) : Ans 51 #[.int .u8 (m : Int)] (.bool (decide (m < 128))) := by
  intro w
  go_enter Tryd.func51, Tryd.ntmps51
  go_wp2_with (go_skip)
  go_ret
  refine ⟨?_, Ext.refl _⟩
  congr 2
  by_cases e : m < 128
  · simp [e]; omega
  · simp [e]; omega
theorem indexB_H (a : Option Addr) (n c : Nat) (zs : Bs) (hn : zs.length = n) (hl : n ≤ 1000000) (R : RdB W l a zs) : AnsH W l 55 #[.slice a n c, .func (.func 51) #[] #[]] (.int .i64 (idxV zs n)) := by
  intro w H
  have HN := Lib.hid hn
  have HR := Lib.hid R
  have hle := lowAt_le zs
  clear hn R
  go_enter Tryd.func55, Tryd.ntmps55
  go_wp2_with (go_skip)
  have H0 := H
  clear H
  go_loopw [8] (fun i wr => ∃ k : Nat, k ≤ lowAt zs ∧ k ≤ n ∧ i = .int .i64 k ∧ Heap W l wr) (fun i _ => n - (intOf i).toNat)
  case atStart => exact ⟨0, Nat.zero_le _, Nat.zero_le _, rfl, H0⟩
  case round =>
    obtain ⟨k, hk, hkn, rfl, H'⟩ := hrel
    clear H0
    have H := H'
    clear H'
    by_cases hlt : k < n
    · have hkz : k < zs.length := by rw [HN.out]; exact hlt
      have hkm : k < (zs.map B8).length := by rw [List.length_map]; exact hkz
      obtain ⟨g, o, rfl, _⟩ := (HR.out wr H).lt (by omega)
      have hc0 : wr.cell? ⟨g, o + k, none⟩ = some (.int .u8 ((zs[k].toNat : Nat) : Int)) := by
        rw [(HR.out wr H).get hkm, List.getElem_map]
        rfl
      have hm := zs[k].isLt
      have C := low_H zs[k].toNat hm
      by_cases he : k = lowAt zs
      · have hd : zs[k].toNat < 128 := by subst he; exact lowAt_at zs hkz
        rw [decide_eq_true hd] at C
        generalize zs[k].toNat = m at *
        have HE := Lib.hid (And.intro he hlt)
        clear he hd hkz hkm
        go_wp2_with (first
          | go_skip
          | ((with_reducible show wpList _ _ _ (_ :: _) _ _); (with_reducible apply wpl_loadCell cell_byte); (· rfl); (· rfl); (· exact hc0); (simp only [Act.put, List.setIfInBounds_toArray, List.set_cons_zero, List.set_cons_succ]))
          | ((with_reducible refine Ans.callH (by assumption) H ?_); clear H; intro _ H))
        go_ret
        refine ⟨?_, H⟩
        unfold idxV
        rw [← HE.out.1, if_pos HE.out.2]
        rfl
      · have hd : ¬ zs[k].toNat < 128 := lowAt_hi zs k hkz (by omega)
        rw [decide_eq_false hd] at C
        generalize zs[k].toNat = m at *
        have HE := Lib.hid he
        clear he hd hkz hkm
        go_wp2_with (first
          | go_skip
          | ((with_reducible show wpList _ _ _ (_ :: _) _ _); (with_reducible apply wpl_loadCell cell_byte); (· rfl); (· rfl); (· exact hc0); (simp only [Act.put, List.setIfInBounds_toArray, List.set_cons_zero, List.set_cons_succ]))
          | ((with_reducible refine Ans.callH (by assumption) H ?_); clear H; intro _ H))
        go_roundw
        case rel => exact ⟨k + 1, by have := HE.out; omega, by omega, by go_num, H⟩
        case measure => simp [intOf]; omega
    · obtain rfl : k = n := by omega
      have HK := Lib.hid hk
      go_wp2_with (go_skip)
      go_ret
      refine ⟨?_, H⟩
      unfold idxV
      rw [if_neg (by have := HK.out; omega)]
      rfl
theorem containsB_H (a : Option Addr) (n c : Nat) (zs : Bs) (hn : zs.length = n) (hl : n ≤ 1000000) (R : RdB W l a zs) : AnsH W l 50 #[.slice a n c, .func (.func 51) #[] #[]] (.bool (anyLow zs)) := by
  intro w H
  have C := indexB_H a n c zs hn hl R
  have e : decide (idxV zs n ≥ 0) = anyLow zs := by
    rw [← lowAt_any, hn]
    unfold idxV
    by_cases h : lowAt zs < n
    · rw [if_pos h, decide_eq_true h]; simp
    · rw [if_neg h, decide_eq_false h]; rfl
  have e2 : decide (0 ≤ idxV zs n) = anyLow zs := e
  generalize idxV zs n = v at *
  go_enter Tryd.func50, Tryd.ntmps50
  go_wp2_with (first | go_skip | ((with_reducible refine AnsH.call (by assumption) H ?_); clear H; intro _ H))
  go_ret
  exact ⟨by rw [← e]; rfl, H⟩
theorem size_H (a : Option Addr) (n c : Nat) (zs : Bs) (hn : zs.length = n) (hl : n ≤ 1000000) (R : RdB W l a zs) : AnsH W l 43 #[.slice a n c] (szV zs) := by
  intro w H
  have C1 := takeP_H a n c zs hn hl R
  have C2 := containsB_H a n c zs hn hl R
  have hlt := tk_lt zs
  have hs := tk_short zs
  rw [hn] at hs
  unfold szV
  rcases tk_e zs with ⟨h1, h2, h3, h4⟩ | ⟨h1, h2, h3⟩
  · rw [if_neg (by omega)]
    generalize (tk zs).n = N at *
    generalize (tk zs).h = K at *
    have f1 : ((K : Int) == 0) = false := by simp; omega
    by_cases hN : 8192 < N
    · rw [if_pos hN]
      have f2 : decide ((N : Int) > 8192) = true := by simp; omega
      have f3 : decide (8192 < (N : Int)) = true := by simp; omega
      clear hs C2
      go_enter Tryd.func43, Tryd.ntmps43
      go_wp2_with (first | go_skip | ((with_reducible refine AnsH.call (by assumption) H ?_); clear H; intro _ H))
      go_ret3
      exact ⟨rfl, H⟩
    · rw [if_neg hN]
      have f2 : decide ((N : Int) > 8192) = false := by simp; omega
      have f3 : decide (8192 < (N : Int)) = false := by simp; omega
      clear hs C2
      go_enter Tryd.func43, Tryd.ntmps43
      go_wp2_with (first | go_skip | ((with_reducible refine AnsH.call (by assumption) H ?_); clear H; intro _ H))
      go_ret3
      exact ⟨rfl, H⟩
  · rw [if_pos (by omega)]
    rw [h2, h3] at C1
    by_cases hn10 : n < 10
    · have f2 : decide ((n : Int) < 10) = true := by simp; omega
      cases hA : anyLow zs
      · rw [hA] at C2
        rw [hs.2 ⟨hn10, (anyLow_no zs).1 hA⟩]
        clear hs h1 h2 h3 hA
        go_enter Tryd.func43, Tryd.ntmps43
        go_wp2_with (first | go_skip | ((with_reducible refine AnsH.call (by assumption) H ?_); clear H; intro _ H))
        go_ret3
        exact ⟨rfl, H⟩
      · rw [hA] at C2
        have h5 : ¬ (tk zs).e = 5 := fun e => by
          have := (anyLow_no zs).2 (hs.1 e).2
          rw [hA] at this; cases this
        rw [h1.resolve_right h5]
        clear hs h1 h2 h3 hA h5
        go_enter Tryd.func43, Tryd.ntmps43
        go_wp2_with (first | go_skip | ((with_reducible refine AnsH.call (by assumption) H ?_); clear H; intro _ H))
        go_ret3
        exact ⟨rfl, H⟩
    · have f2 : decide ((n : Int) < 10) = false := by simp; omega
      have h5 : ¬ (tk zs).e = 5 := fun e => hn10 (hs.1 e).1
      rw [h1.resolve_right h5]
      clear hs h1 h2 h3 h5 C2
      go_enter Tryd.func43, Tryd.ntmps43
      go_wp2_with (first | go_skip | ((with_reducible refine AnsH.call (by assumption) H ?_); clear H; intro _ H))
      go_ret3
      exact ⟨rfl, H⟩
theorem cloneB_H (ea : Option Addr) (en ec0 : Nat) (F : Bs) (hl : F.length = en) (hn : en ≤ 1000000) (R : RdB W l ea F) (H : Heap W l w) :
    Calls Tryd.prog 44 #[.slice ea en ec0] w fun e w' => ∃ a c, e = .returned (.slice a en c) ∧ en ≤ c ∧ c ≤ maxLen ∧ Heap W (OwnB (.slice a en c) en F :: l) w' := by
  have HL := Lib.hid hl
  have HR := Lib.hid R
  clear hl R
  cases ea with
  | none =>
    have hz : en = 0 := by
      apply Classical.byContradiction
      intro hne
      obtain ⟨b, o, he, _⟩ := HR.out w H 0 (by rw [List.length_map, HL.out]; omega)
      cases he
    subst hz
    have hF : F = [] := List.eq_nil_of_length_eq_zero HL.out
    have hnil : ∀ V, (binOp .eql 22 (.slice none 0 ec0) (.slice none 0 0)).run Tryd.prog V = .ok (.bool true) V := fun V => Lib.run_eql_slice_nil V _ _ none 0 ec0 0 0 Tryd.underlying22
    go_enter Tryd.func44, Tryd.ntmps44
    go_wp2_with (go_skip)
    go_ret
    subst hF
    exact ⟨none, 0, rfl, Nat.le_refl _, by unfold maxLen; omega, (H.nilRow 5 1).slide⟩
  | some a0 =>
    obtain ⟨b, o, sp⟩ := a0
    have hsp : F = [] ∨ sp = none := by
      rcases Nat.eq_zero_or_pos F.length with h | h
      · exact .inl (List.eq_nil_of_length_eq_zero h)
      · obtain ⟨b', o', he, _⟩ := HR.out w H 0 (by rw [List.length_map]; omega)
        cases he
        exact .inr rfl
    have hnil : ∀ V, (binOp .eql 22 (.slice (some ⟨b, o, sp⟩) en ec0) (.slice none 0 0)).run Tryd.prog V = .ok (.bool false) V := fun V => Lib.run_eql_slice_nil V _ _ (some ⟨b, o, sp⟩) en ec0 0 0 Tryd.underlying22
    rcases Nat.eq_zero_or_pos en with h0 | h0
    · subst h0
      have hF : F = [] := List.eq_nil_of_length_eq_zero HL.out
      go_enter Tryd.func44, Tryd.ntmps44
      go_wp2_with (first
        | go_skip
        | ((with_reducible show wpList _ _ _ (_ :: _) _ _); (with_reducible apply wpl_bs0); (· rfl); (· exact slB); (· exact H); (clear H; intro pq _ H); (simp only [Act.put, List.setIfInBounds_toArray, List.set_cons_zero, List.set_cons_succ]))
        | ((with_reducible show wpList _ _ _ (_ :: _) _ _); (with_reducible apply wpl_append00 slB); (· rfl); (· rfl); (· rfl); (· rfl); (simp only [Act.put, List.setIfInBounds_toArray, List.set_cons_zero, List.set_cons_succ])))
      go_ret
      subst hF
      have := (H.celRow (n := 0) (m := 0) (size := 1) rfl (Nat.le_refl _) (Nat.zero_le _)).slide
      exact ⟨_, 0, rfl, Nat.le_refl _, by unfold maxLen; omega, this⟩
    · obtain rfl : sp = none := by
        rcases hsp with h | h
        · subst h; have := HL.out; simp at this; omega
        · exact h
      have h1 : 0 + en ≤ maxLen := by unfold maxLen; omega
      have h2 : (0 + en) * 1 ≤ 140737488355328 := by omega
      have h3 : (F.map B8).length = en * 1 := by rw [List.length_map, HL.out, Nat.mul_one]
      go_enter Tryd.func44, Tryd.ntmps44
      go_wp2_with (first
        | go_skip
        | ((with_reducible show wpList _ _ _ (_ :: _) _ _); (with_reducible apply wpl_bs0); (· rfl); (· exact slB); (· exact H); (clear H; intro pq _ H); (simp only [Act.put, List.setIfInBounds_toArray, List.set_cons_zero, List.set_cons_succ]))
        | ((with_reducible show wpList _ _ _ (_ :: _) _ _); (with_reducible apply wpl_appendA slB); (· rfl); (· rfl); (· rfl); (· rfl); (· exact H.celRow (n := 0) (m := 0) rfl (Nat.le_refl _) (Nat.zero_le _)); (· exact HR.out _ H.tail); (· exact h3); (· exact oneCell_B8 F); (· exact h1); (· exact h2); (clear H; intro v2 _ _ H); (simp only [Act.put, List.setIfInBounds_toArray, List.set_cons_zero, List.set_cons_succ])))
      go_ret
      obtain ⟨a2, c2, rfl, hc2, hm2⟩ := RowT.form0 (H.ok _ List.mem_cons_self)
      rw [Nat.zero_add] at H hc2
      have H2 := H.slide
      exact ⟨a2, c2, by show Ending.returned (.slice a2 (0 + en) c2) = _; rw [Nat.zero_add], hc2, hm2, by simpa using H2⟩
end
end Go.Proofs.YtlinhcbjljcgbaaDoor

/- frames.Get: its answer is getOf; frames.Put, ref18.Put: a body's frame behind bytes. -/
namespace Go.Proofs.YtlinhcbjljcgbaaDoor
open Go.RowKit
attribute [local go_sem] Oper.semAt_some
set_option linter.unusedSimpArgs false
set_option linter.unusedVariables false
def GetPost (W : World) (l : List Thing) (x : Fr) (e : Ending) (w' : World) : Prop := ∃ v, e = .returned (.tuple #[v, .int .i64 (x.all : Int), .int .i64 x.e]) ∧ Heap W (OwnB v x.body.length x.body :: l) w'
section
variable {W w : World} {l : List Thing}
theorem GetPost.no {e : Int} (H : Heap W l w) : GetPost W l ⟨[], 0, e⟩ (.returned (.tuple #[.slice none 0 0, .int .i64 0, .int .i64 e])) w := ⟨_, rfl, (H.nilRow 5 1).slide⟩
set_option maxRecDepth 100000
set_option maxHeartbeats 800000
theorem get_H (a : Option Addr) (n c : Nat) (zs : Bs) (hn : zs.length = n) (hl : n ≤ 100000) (hc : n ≤ c) (hm : c ≤ maxLen) (T : TabAt W) (R : RdB W l a zs) (H : Heap W l w) : Calls Tryd.prog 26 #[.slice a n c] w (GetPost W l (getOf zs)) := by
  have C := size_H a n c zs hn (by omega) R
  unfold szV at C
  unfold getOf
  rcases tk_e zs with ⟨h1, h2, h3, h4⟩ | ⟨h1, h2, h3⟩
  · rw [if_neg (by omega)] at C
    rw [if_neg (by omega)]
    generalize (tk zs).n = N at *
    generalize (tk zs).h = K at *
    by_cases hN : 8192 < N
    · rw [if_pos hN] at C
      rw [if_pos hN]
      go_enter Tryd.func26, Tryd.ntmps26
      go_wp2_with (first | go_skip | ((with_reducible refine AnsH.call (by assumption) H ?_); clear H; intro _ H))
      go_ret3
      exact GetPost.no H
    · rw [if_neg hN] at C
      rw [if_neg hN]
      obtain ⟨A, hA⟩ : ∃ A, A = K + N + 4 := ⟨_, rfl⟩
      obtain ⟨B, hB⟩ : ∃ B, B = K + N := ⟨_, rfl⟩
      have hA1 : (K : Int) + N + 4 = (A : Int) := by omega
      have hB1 : (K : Int) + N = (B : Int) := by omega
      have hA2 : (B : Int) + 4 = (A : Int) := by omega
      have hA3 : A ≤ 8206 := by omega
      have hB3 : B ≤ 8202 := by omega
      have HAB := Lib.hid (And.intro hA hB)
      rw [← hA]
      by_cases hlen : zs.length < A
      · rw [if_pos hlen]
        rw [hn] at hlen
        have f1 : decide ((A : Int) > n) = true := by simp; omega
        have f2 : decide ((n : Int) < A) = true := by simp; omega
        have f3 : decide (n < A) = true := by simpa using hlen
        clear hA hB hA1
        go_enter Tryd.func26, Tryd.ntmps26
        go_wp2_with (first | go_skip | ((with_reducible refine AnsH.call (by assumption) H ?_); clear H; intro _ H))
        go_ret3
        exact GetPost.no H
      · rw [if_neg hlen]
        rw [hn] at hlen
        have f1 : decide ((A : Int) > n) = false := by simp; omega
        have f2 : decide ((n : Int) < A) = false := by simp; omega
        have f3 : decide (n < A) = false := by simpa using hlen
        have D := sends_H (W := W) (l := l) a A c (zs.take A) (by rw [List.length_take]; omega) (by omega) (by omega) hm T (fun w' H' => by rw [List.map_take]; exact (R w' H').take _)
        cases he : endsOf (zs.take A)
        · rw [if_pos rfl]
          rw [he] at D
          clear he
          have hAc : A ≤ c := by omega
          clear hA hB hA1
          go_enter Tryd.func26, Tryd.ntmps26
          go_wp2_with (first
            | go_skip
            | ((with_reducible refine AnsH.call (by assumption) H ?_); clear H; intro _ H)
            | ((with_reducible show wpList _ _ _ (_ :: _) _ _); (with_reducible apply wpl_cutTo slB); (· rfl); (· rfl); (· rfl); (· exact hAc); (simp only [Act.put, List.setIfInBounds_toArray, List.set_cons_zero, List.set_cons_succ])))
          go_ret3
          exact GetPost.no H
        · rw [if_neg (by simp)]
          rw [he] at D
          clear he
          have hAc : A ≤ c := by omega
          have hKB : K ≤ B := by omega
          have hBc : B ≤ c := by omega
          have hBK : B - K = N := by omega
          have CL := fun (V : World) (H : Heap W l V) => cloneB_H (W := W) (l := l) (w := V) (cutA a c K 1) N (c - K) ((zs.drop K).take N) (by rw [List.length_take, List.length_drop]; omega) (by omega) (fun w' H' => by
            have := rdCut (R w' H') c K B hBc
            rwa [hBK] at this) H
          have HBK := Lib.hid (And.intro hBK (And.intro hKB (And.intro hBc hAc)))
          clear hA hB hA1 hBK hKB hBc hAc
          go_enter Tryd.func26, Tryd.ntmps26
          go_wp2_with (first
            | go_skip
            | ((with_reducible refine AnsH.call (by assumption) H ?_); clear H; intro _ H)
            | ((with_reducible show wpList _ _ _ (_ :: _) _ _); (with_reducible apply wpl_cutTo slB); (· rfl); (· rfl); (· rfl); (· exact HBK.out.2.2.2); (simp only [Act.put, List.setIfInBounds_toArray, List.set_cons_zero, List.set_cons_succ]))
            | ((with_reducible show wpList _ _ _ (_ :: _) _ _); (with_reducible apply wpl_cutBoth slB); (· rfl); (· rfl); (· rfl); (· rfl); (· exact HBK.out.2.1); (· exact HBK.out.2.2.1); (· rfl); (· exact HBK.out.1); (· rfl); (simp only [Act.put, List.setIfInBounds_toArray, List.set_cons_zero, List.set_cons_succ])))
          refine (CL _ H).mono ?_
          clear H CL
          rintro e w1 ⟨a1, c1, rfl, hc1, hm1, H⟩
          go_wp2_with (go_skip)
          refine (clipB_H a1 N c1 hc1 hm1 _ H).mono ?_
          clear H
          rintro e w2 ⟨rfl, H⟩
          go_wp2_with (go_skip)
          go_ret3
          have hbl : ((zs.drop K).take N).length = N := by rw [List.length_take, List.length_drop]; omega
          refine ⟨_, rfl, ?_⟩
          show Heap W (OwnB _ ((zs.drop K).take N).length ((zs.drop K).take N) :: l) w2
          rw [hbl]
          exact H.clipOwn
  · rw [if_pos (by omega)] at C
    rw [if_pos (by omega)]
    have f1 : ((tk zs).e != 0) = true := by simp; omega
    generalize (tk zs).e = E at *
    go_enter Tryd.func26, Tryd.ntmps26
    go_wp2_with (first | go_skip | ((with_reducible refine AnsH.call (by assumption) H ?_); clear H; intro _ H))
    go_ret3
    exact GetPost.no H
end
end Go.Proofs.YtlinhcbjljcgbaaDoor

/- frames.Put, ref18.Put: a body's frame behind bytes. -/
namespace Go.Proofs.YtlinhcbjljcgbaaDoor
open Go.RowKit
attribute [local go_sem] Oper.semAt_some
set_option linter.unusedSimpArgs false
set_option linter.unusedVariables false
theorem bs_lists : Tryd.prog.underlying 40 = some (.slice 22) ∧ (Tryd.prog.info? 22).map (fun i => (i.size, i.zero)) = some (1, some (.slice none 0 0)) := ⟨Tryd.underlying40, by kernel_rfl⟩
theorem sl_ones (a b : Option Addr) (n m c d : Nat) : ∀ v ∈ [Value.slice a n c, Value.slice b m d], v.cells = #[v] := fun v hv => by
  simp at hv
  rcases hv with rfl | rfl <;> rfl
theorem OwnT.form1 {w : World} {e size n : Nat} {v : Value} {xs : List Value} (h : (OwnT e size v n xs).ok w) : ∃ a c, v = .slice a n c := by
  obtain ⟨_, ⟨hv, hn⟩ | ⟨g, off, cap, cur, hv, _⟩⟩ := h
  · exact ⟨none, 0, by rw [hv, hn]⟩
  · exact ⟨_, _, hv⟩
/-- What Put answers. -/
def PutPost (W : World) (l : List Thing) (bs body : Bs) (N : Nat) (e : Ending) (w' : World) : Prop :=
  ∃ a c, e = .returned (.tuple #[.slice a N c, .int .i64 0]) ∧ Heap W (OwnB (.slice a N c) N (bs ++ frameOf body) :: l) w'
abbrev RdE (W : World) (l : List Thing) (a : Option Addr) (zs : Bs) : Prop := ∀ l' w', (∀ x ∈ l, x ∈ l') → Heap W l' w' → Rd w' a (zs.map B8)
section
variable {W w : World} {l : List Thing}
set_option maxRecDepth 100000
set_option maxHeartbeats 800000
theorem put_no (a b : Option Addr) (n m ca cb : Nat) (hbig : 8192 < m) (hl2 : m ≤ 9223372036854775807) (H : Heap W l w) :
    Calls Tryd.prog 24 #[.slice a n ca, .slice b m cb] w fun e w' => e = .returned (.tuple #[.slice none 0 0, .int .i64 3]) ∧ Heap W l w' := by
  have f1 : decide ((m : Int) > 8192) = true := by simp; omega
  have f2 : decide (8192 < (m : Int)) = true := by simp; omega
  go_enter Tryd.func24, Tryd.ntmps24
  go_wp2_with (go_skip)
  go_ret2
  exact ⟨rfl, H⟩
theorem rput_no (a b : Option Addr) (n m ca cb : Nat) (hbig : 8192 < m) (hl2 : m ≤ 9223372036854775807) (H : Heap W l w) :
    Calls Tryd.prog 25 #[.slice a n ca, .slice b m cb] w fun e w' => e = .returned (.tuple #[.slice none 0 0, .int .i64 3]) ∧ Heap W l w' := by
  have f1 : decide ((m : Int) > 8192) = true := by simp; omega
  have f2 : decide (8192 < (m : Int)) = true := by simp; omega
  go_enter Tryd.func25, Tryd.ntmps25
  go_wp2_with (go_skip)
  go_ret2
  exact ⟨rfl, H⟩
theorem put_H (a b : Option Addr) (n m ca cb : Nat) (bs body : Bs) (hbig : m ≤ 8192) (hn : bs.length = n) (hm : body.length = m) (hl : n ≤ 100000) (T : TabAt W) (RA : RdE W l a bs) (RB : RdE W l b body) (H : Heap W l w) :
    Calls Tryd.prog 24 #[.slice a n ca, .slice b m cb] w (PutPost W l bs body (n + (frameOf body).length)) := by
  have f1 : decide ((m : Int) > 8192) = false := by simp; omega
  have f2 : decide (8192 < (m : Int)) = false := by simp; omega
  have N := fun (V : World) (H : Heap W l V) => num_H (W := W) (l := l) (w := V) m (by omega) H
  have hd := num2_len m
  have hfl := frameOf_len body
  rw [hm] at hfl
  obtain ⟨h, hh⟩ : ∃ h, (num2 m).length = h := ⟨_, rfl⟩
  rw [hh] at hfl
  have hh2 : h ≤ 2 := by rw [← hh, hd]; split <;> omega
  have HB := Lib.hid (And.intro hn (And.intro hm (And.intro hh hfl)))
  have HRA := Lib.hid RA
  have HRB := Lib.hid RB
  clear RA RB hn hm hd hfl
  rw [hh] at N
  clear hh
  go_enter Tryd.func24, Tryd.ntmps24
  go_wp2_with (go_skip)
  refine (N _ H).mono ?_
  clear N H
  rintro e w1 ⟨a1, c1, rfl, H⟩
  go_wp2_with (go_skip)
  replace H := H.alloc #[.slice a1 h h, .slice b m cb] 22
  refine (concatB_H _ a1 b h m h cb (num2 m) body HB.out.2.2.1 HB.out.2.1 (by omega) List.mem_cons_self (fun w' H' => H'.rowRd (List.mem_cons_of_mem _ List.mem_cons_self)) (fun w' H' => HRB.out _ w' (fun x hx => List.mem_cons_of_mem _ (List.mem_cons_of_mem _ hx)) H') H).mono ?_
  clear H
  rintro e w2 ⟨v2, rfl, H⟩
  obtain ⟨a2, c2, rfl, hc2, hm2⟩ := RowT.form0 (H.ok _ List.mem_cons_self)
  replace H := H.drop (.there .here)
  go_wp2_with (go_skip)
  refine (sput_H a2 (h + m) c2 (num2 m ++ body) (by rw [List.length_append, HB.out.2.2.1, HB.out.2.1]) (by omega) T (fun w' H' => H'.rowRd List.mem_cons_self) H).mono ?_
  clear H
  rintro e w3 ⟨v3, rfl, H⟩
  rw [show (num2 m ++ body) ++ four (sumOf (num2 m ++ body)) = frameOf body by unfold frameOf; rw [HB.out.2.1], show h + m + 4 = (frameOf body).length from HB.out.2.2.2.symm] at H
  obtain ⟨a3, c3, rfl⟩ := OwnT.form1 (H.ok _ List.mem_cons_self)
  obtain ⟨fl, hfl⟩ : ∃ fl, (frameOf body).length = fl := ⟨_, rfl⟩
  have hfb : fl ≤ 8200 := by have := HB.out.2.2.2; omega
  have HFL := Lib.hid hfl
  rw [hfl] at H
  rw [hfl]
  clear hfl
  go_wp2_with (go_skip)
  replace H := H.alloc #[.slice a n ca, .slice a3 fl c3] 22
  refine (concatB_H _ a a3 n fl ca c3 bs (frameOf body) HB.out.1 HFL.out (by omega) List.mem_cons_self (fun w' H' => HRA.out _ w' (fun x hx => by (repeat (first | (with_reducible exact hx) | with_reducible apply List.mem_cons_of_mem))) H') (fun w' H' => H'.ownRd (List.mem_cons_of_mem _ List.mem_cons_self)) H).mono ?_
  clear H
  rintro e w4 ⟨v4, rfl, H⟩
  obtain ⟨a4, c4, rfl, hc4, hm4⟩ := RowT.form0 (H.ok _ List.mem_cons_self)
  go_wp2_with (go_skip)
  refine (clipB_H a4 (n + fl) c4 hc4 hm4 _ H).mono ?_
  clear H
  rintro e w5 ⟨rfl, H⟩
  go_wp2_with (go_skip)
  go_ret2
  rw [HFL.out]
  exact ⟨a4, n + fl, rfl, (H.drop (.there .here) |>.drop (.there .here) |>.drop (.there .here) |>.drop (.there .here) |>.slide.clipOwn)⟩
theorem rput18_H (a b : Option Addr) (n m ca cb : Nat) (bs body : Bs) (hbig : m ≤ 8192) (hn : bs.length = n) (hm : body.length = m) (hl : n ≤ 100000) (RA : RdE W l a bs) (RB : RdE W l b body) (H : Heap W l w) :
    Calls Tryd.prog 25 #[.slice a n ca, .slice b m cb] w (PutPost W l bs body (n + (frameOf body).length)) := by
  have f1 : decide ((m : Int) > 8192) = false := by simp; omega
  have f2 : decide (8192 < (m : Int)) = false := by simp; omega
  have N := fun (V : World) (H : Heap W l V) => rnum_H (W := W) (l := l) (w := V) m (by omega) H
  have hd := num2_len m
  have hfl := frameOf_len body
  rw [hm] at hfl
  obtain ⟨h, hh⟩ : ∃ h, (num2 m).length = h := ⟨_, rfl⟩
  rw [hh] at hfl
  have hh2 : h ≤ 2 := by rw [← hh, hd]; split <;> omega
  have HB := Lib.hid (And.intro hn (And.intro hm (And.intro hh hfl)))
  have HRA := Lib.hid RA
  have HRB := Lib.hid RB
  have hlm : (body.map B8).length = m * 1 := by rw [List.length_map, hm, Nat.mul_one]
  have hln : (bs.map B8).length = n * 1 := by rw [List.length_map, hn, Nat.mul_one]
  have g1 : h + m ≤ maxLen := by unfold maxLen; omega
  have g2 : (h + m) * 1 ≤ 140737488355328 := by omega
  have g3 : 0 + n ≤ maxLen := by unfold maxLen; omega
  have g4 : (0 + n) * 1 ≤ 140737488355328 := by omega
  clear RA RB hn hm hd hfl
  rw [hh] at N
  clear hh
  go_enter Tryd.func25, Tryd.ntmps25
  go_wp2_with (go_skip)
  refine (N _ H).mono ?_
  clear N H
  rintro e w1 ⟨a1, c1, rfl, H⟩
  go_wp2_with (first
    | ((with_reducible show wpList _ _ _ (_ :: _) _ _); (with_reducible apply wpl_appendA slB); (· rfl); (· rfl); (· rfl); (· rfl); (· exact H); (· exact HRB.out _ _ (fun x hx => List.mem_cons_of_mem _ hx) H); (· exact hlm); (· exact oneCell_B8 _); (· exact g1); (· exact g2); (clear H; intro v1 _ _ H; obtain ⟨a2, c2, rfl, hc2, hm2⟩ := RowT.form0 (H.ok _ List.mem_cons_self)); (simp only [Act.put, List.setIfInBounds_toArray, List.set_cons_zero, List.set_cons_succ]))
    | ((with_reducible show wpList _ _ _ (_ :: _) _ _); (with_reducible apply wpl_appendA slB); (· rfl); (· rfl); (· rfl); (· rfl); (· exact H.nilRow 5 1); (· exact HRA.out _ _ (fun x hx => List.mem_cons_of_mem _ hx) H); (· exact hln); (· exact oneCell_B8 _); (· exact g3); (· exact g4); (clear H; intro v3 _ _ H; obtain ⟨a3, c3, rfl, hc3, hm3⟩ := RowT.form0 (H.ok _ List.mem_cons_self)); (simp only [Act.put, List.setIfInBounds_toArray, List.set_cons_zero, List.set_cons_succ]))
    | go_skip)
  rw [← List.map_append] at H
  refine (rput_H a2 (h + m) c2 (num2 m ++ body) (by rw [List.length_append, HB.out.2.2.1, HB.out.2.1]) (by omega) (fun w' H' => H'.rowRd (List.mem_cons_of_mem _ List.mem_cons_self)) H).mono ?_
  clear H
  rintro e w3 ⟨v4, rfl, H⟩
  rw [show (num2 m ++ body) ++ four (sumOf (num2 m ++ body)) = frameOf body by unfold frameOf; rw [HB.out.2.1], show h + m + 4 = (frameOf body).length from HB.out.2.2.2.symm] at H
  obtain ⟨a4, c4, rfl⟩ := OwnT.form1 (H.ok _ List.mem_cons_self)
  obtain ⟨fl, hfl⟩ : ∃ fl, (frameOf body).length = fl := ⟨_, rfl⟩
  have hfb : fl ≤ 8200 := by have := HB.out.2.2.2; omega
  have HFL := Lib.hid hfl
  rw [hfl] at H
  rw [hfl]
  have hlf : ((frameOf body).map B8).length = fl * 1 := by rw [List.length_map, hfl, Nat.mul_one]
  have g5 : 0 + n + fl ≤ maxLen := by unfold maxLen; omega
  have g6 : (0 + n + fl) * 1 ≤ 140737488355328 := by omega
  clear hfl
  replace H := H.pull (.there .here)
  simp only [Nat.zero_add, List.nil_append] at H g5 g6
  go_wp2_with (first
    | ((with_reducible show wpList _ _ _ (_ :: _) _ _); (with_reducible apply wpl_appendA slB); (· rfl); (· rfl); (· rfl); (· rfl); (· exact H); (· exact H.ownRd (List.mem_cons_of_mem _ List.mem_cons_self)); (· exact hlf); (· exact oneCell_B8 _); (· exact g5); (· exact g6); (clear H; intro v5 _ _ H; obtain ⟨a5, c5, rfl, hc5, hm5⟩ := RowT.form0 (H.ok _ List.mem_cons_self)); (simp only [Act.put, List.setIfInBounds_toArray, List.set_cons_zero, List.set_cons_succ]))
    | go_skip)
  go_ret2
  rw [HFL.out]
  replace H := H.drop (.there .here) |>.drop (.there .here) |>.slide
  rw [← List.map_append] at H
  exact ⟨a5, c5, rfl, H⟩
end
end Go.Proofs.YtlinhcbjljcgbaaDoor
