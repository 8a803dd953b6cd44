/- FlowsMost: part 7 of its proof: Bfs, Hops, Ways, Short, Reach. -/
import Derived.Test.YtglehneaphigdaaFlowsMostPart6
import Derived.Deep.LoopGhost
/- Distances by breadth: plain laws, with no program in sight. -/
namespace Go.Proofs.Ytglehneaphigdaa
set_option linter.unusedVariables false
/-- A value of one more place. -/
def updN {α : Type} (d : Nat → α) (p : Nat) (v : α) : Nat → α := fun q => if q = p then v else d q
/-- How many of the parties have no distance. -/
def und (d : Nat → Nat) : Nat := (List.range' 1 16).countP fun p => d p == 17
theorem countP_upd (d : Nat → Nat) (p v : Nat) (hv : v ≠ 17) (hd : d p = 17) : ∀ (l : List Nat), l.Nodup → l.countP (fun q => updN d p v q == 17) + (if p ∈ l then 1 else 0) = l.countP (fun q => d q == 17)
  | [], _ => by simp
  | x :: l, h => by
    have ih := countP_upd d p v hv hd l (List.nodup_cons.1 h).2
    have hx := (List.nodup_cons.1 h).1
    by_cases e : x = p
    · subst e
      have h1 : (updN d x v x == 17) = false := by simp [updN, hv]
      have h2 : (d x == 17) = true := by simp [hd]
      simp only [List.countP_cons, h1, h2]
      rw [if_neg hx] at ih
      simp
      omega
    · have e2 : updN d p v x = d x := by simp [updN, e]
      have hm : (p ∈ x :: l) ↔ p ∈ l := by
        rw [List.mem_cons]
        exact ⟨fun h => h.resolve_left (fun h => e h.symm), .inr⟩
      simp only [List.countP_cons, e2, hm]
      omega
theorem und_upd {d : Nat → Nat} {p v : Nat} (hv : v ≠ 17) (hd : d p = 17) (h1 : 1 ≤ p) (h2 : p ≤ 16) : und (updN d p v) + 1 = und d := by
  have := countP_upd d p v hv hd (List.range' 1 16) (List.nodup_range' ..)
  rw [if_pos (by rw [List.mem_range']; exact ⟨p - 1, by omega, by omega⟩)] at this
  exact this
theorem und_le (d : Nat → Nat) : und d ≤ 16 := by
  have := List.countP_le_length (p := fun p => d p == 17) (l := List.range' 1 16)
  simpa [und] using this
/-- The state ahead of a round: who has a distance, and who waits. -/
structure Bfs (A : Nat → Nat → Bool) (t : Nat) (d : Nat → Nat) (Q : List Nat) : Prop where
  top : d t = 0
  le : ∀ p, d p ≤ 17
  ins : ∀ p, d p < 17 → 1 ≤ p ∧ p ≤ 16
  qd : ∀ q ∈ Q, d q < 17
  near : ∀ q ∈ Q, ∀ p, d p < 17 → d p ≤ d q + 1
  sort : Q.Pairwise fun x y => d x ≤ d y
  closed : ∀ q, d q < 17 → q ∉ Q → ∀ p, A p q = true → d p ≤ d q + 1
  par : ∀ p, d p < 17 → p ≠ t → ∃ q, A p q = true ∧ d q + 1 = d p
  cnt : ∀ p, d p < 17 → d p + und d ≤ 15
/-- The state in the midst of a round: a is gone through, up to k. -/
structure BfsIn (A : Nat → Nat → Bool) (t : Nat) (d : Nat → Nat) (Q : List Nat) (a k : Nat) : Prop where
  top : d t = 0
  le : ∀ p, d p ≤ 17
  ins : ∀ p, d p < 17 → 1 ≤ p ∧ p ≤ 16
  qd : ∀ q ∈ Q, d q < 17
  near : ∀ q ∈ Q, ∀ p, d p < 17 → d p ≤ d q + 1
  sort : Q.Pairwise fun x y => d x ≤ d y
  ad : d a < 17
  nearA : ∀ p, d p < 17 → d p ≤ d a + 1
  sortA : ∀ q ∈ Q, d a ≤ d q
  closed : ∀ q, d q < 17 → q ∉ Q → q ≠ a → ∀ p, A p q = true → d p ≤ d q + 1
  part : ∀ p, p < k → A p a = true → d p ≤ d a + 1
  par : ∀ p, d p < 17 → p ≠ t → ∃ q, A p q = true ∧ d q + 1 = d p
  cnt : ∀ p, d p < 17 → d p + und d ≤ 15
section
variable {A : Nat → Nat → Bool} {t a k : Nat} {d : Nat → Nat} {Q : List Nat}
/-- No distance. -/
def farN : Nat → Nat := fun _ => 17
theorem farN_at (p : Nat) : farN p = 17 := rfl
theorem Bfs.start (h1 : 1 ≤ t) (h2 : t ≤ 16) : Bfs A t (updN farN t 0) [t] := by
  have hd : ∀ p, updN farN t 0 p < 17 → p = t := fun p hp => by
    unfold updN at hp
    split at hp
    · assumption
    · rw [farN_at] at hp; omega
  have hu : und (updN farN t 0) ≤ 15 := by
    have := und_upd (d := farN) (p := t) (v := 0) (by omega) rfl h1 h2
    have := und_le farN
    omega
  have ht : updN farN t 0 t = 0 := by simp [updN]
  have hle : ∀ p, updN farN t 0 p ≤ 17 := fun p => by
    unfold updN
    split
    · omega
    · rw [farN_at]; omega
  refine ⟨ht, hle, fun p hp => (by rw [hd p hp]; exact ⟨h1, h2⟩), fun q hq => (by simp at hq; subst hq; rw [ht]; omega), fun q hq p hp => (by rw [hd p hp, ht]; omega), List.pairwise_singleton _ _, fun q hq hn => ?_, fun p hp hn => absurd (hd p hp) hn, fun p hp => (by rw [hd p hp, ht]; omega)⟩
  rw [hd q hq] at hn
  simp at hn
theorem Bfs.pop (h : Bfs A t d (a :: Q)) (h0 : A 0 a = false) : BfsIn A t d Q a 1 :=
  ⟨h.top, h.le, h.ins, fun q hq => h.qd q (List.mem_cons_of_mem _ hq), fun q hq => h.near q (List.mem_cons_of_mem _ hq), (List.pairwise_cons.1 h.sort).2, h.qd a (List.mem_cons_self ..), h.near a (List.mem_cons_self ..), (List.pairwise_cons.1 h.sort).1,
    fun q hq hn hne => h.closed q hq (by simp [hne, hn]), fun p hp hA => (by
      obtain rfl : p = 0 := by omega
      rw [h0] at hA; cases hA), h.par, h.cnt⟩
theorem BfsIn.no (h : BfsIn A t d Q a k) (hk : ¬ (d k = 17 ∧ A k a = true)) : BfsIn A t d Q a (k + 1) :=
  ⟨h.top, h.le, h.ins, h.qd, h.near, h.sort, h.ad, h.nearA, h.sortA, h.closed, fun p hp hA => (by
      by_cases e : p = k
      · subst e
        have : d p ≠ 17 := fun e => hk ⟨e, hA⟩
        have := h.le p
        exact h.nearA p (by omega)
      · exact h.part p (by omega) hA), h.par, h.cnt⟩
theorem BfsIn.yes (h : BfsIn A t d Q a k) (hd : d k = 17) (hA : A k a = true) (h1 : 1 ≤ k) (h2 : k ≤ 16) : BfsIn A t (updN d k (d a + 1)) (Q ++ [k]) a (k + 1) ∧ und (updN d k (d a + 1)) + 1 = und d := by
  have hka : a ≠ k := fun e => by have := h.ad; rw [e] at this; omega
  have hca := h.cnt a h.ad
  have hu : und (updN d k (d a + 1)) + 1 = und d := und_upd (by omega) hd h1 h2
  have old : ∀ p, p ≠ k → updN d k (d a + 1) p = d p := fun p hp => by simp [updN, hp]
  have new : updN d k (d a + 1) k = d a + 1 := by simp [updN]
  have hqk : ∀ q ∈ Q, q ≠ k := fun q hq e => by have := h.qd q hq; rw [e] at this; omega
  have htk : t ≠ k := fun e => by have := h.top; rw [e] at this; omega
  refine ⟨⟨by rw [old t htk]; exact h.top, fun p => ?_, fun p hp => ?_, fun q hq => ?_, fun q hq p hp => ?_, ?_, by rw [old a hka]; exact h.ad, fun p hp => ?_, fun q hq => ?_, fun q hq hn hne p hAp => ?_, fun p hp hAp => ?_, fun p hp hne => ?_, fun p hp => ?_⟩, hu⟩
  · by_cases e : p = k
    · subst e; rw [new]; omega
    · rw [old p e]; exact h.le p
  · by_cases e : p = k
    · subst e; exact ⟨h1, h2⟩
    · rw [old p e] at hp; exact h.ins p hp
  · rcases List.mem_append.1 hq with hq | hq
    · rw [old q (hqk q hq)]; exact h.qd q hq
    · obtain rfl : q = k := by simpa using hq
      rw [new]; omega
  · have hp' : updN d k (d a + 1) p ≤ d a + 1 := by
      by_cases e : p = k
      · subst e; rw [new]; omega
      · rw [old p e] at hp ⊢; exact h.nearA p hp
    rcases List.mem_append.1 hq with hq | hq
    · rw [old q (hqk q hq)]
      have := h.sortA q hq
      omega
    · obtain rfl : q = k := by simpa using hq
      rw [new]; omega
  · rw [List.pairwise_append]
    refine ⟨?_, List.pairwise_singleton _ _, fun x hx y hy => ?_⟩
    · refine h.sort.imp_of_mem fun hx hy hxy => ?_
      rw [old _ (hqk _ hx), old _ (hqk _ hy)]; exact hxy
    · obtain rfl : y = k := by simpa using hy
      rw [old x (hqk x hx), new]
      exact h.nearA x (h.qd x hx)
  · rw [old a hka]
    by_cases e : p = k
    · subst e; rw [new]; omega
    · rw [old p e] at hp ⊢; exact h.nearA p hp
  · rw [old a hka]
    rcases List.mem_append.1 hq with hq | hq
    · rw [old q (hqk q hq)]; exact h.sortA q hq
    · obtain rfl : q = k := by simpa using hq
      rw [new]; omega
  · have hqk' : q ≠ k := fun e => hn (by simp [e])
    rw [old q hqk'] at hq ⊢
    have := h.closed q hq (fun hm => hn (by simp [hm])) hne p hAp
    by_cases e : p = k
    · subst e; rw [hd] at this; omega
    · rw [old p e]; exact this
  · rw [old a hka]
    by_cases e : p = k
    · subst e; rw [new]; omega
    · rw [old p e]; exact h.part p (by omega) hAp
  · by_cases e : p = k
    · subst e
      exact ⟨a, hA, by rw [old a hka, new]⟩
    · rw [old p e] at hp
      obtain ⟨q, hq, he⟩ := h.par p hp hne
      have hqk' : q ≠ k := fun e2 => by rw [e2, hd] at he; have := h.le p; omega
      exact ⟨q, hq, by rw [old q hqk', old p e]; exact he⟩
  · by_cases e : p = k
    · subst e; rw [new]; omega
    · rw [old p e] at hp ⊢
      have := h.cnt p hp
      omega
theorem BfsIn.done (h : BfsIn A t d Q a 17) (hA : ∀ p q, A p q = true → p ≤ 16) : Bfs A t d Q :=
  ⟨h.top, h.le, h.ins, h.qd, h.near, h.sort, fun q hq hn p hAp => (by
    by_cases e : q = a
    · subst e; exact h.part p (by have := hA p q hAp; omega) hAp
    · exact h.closed q hq hn e p hAp), h.par, h.cnt⟩
/-- Distances to t: each is reached over a neighbour one nearer; no neighbour is two nearer. -/
structure IsDist (A : Nat → Nat → Bool) (t : Nat) (d : Nat → Nat) : Prop where
  top : d t = 0
  le : ∀ p, d p ≤ 17
  ins : ∀ p, d p < 17 → 1 ≤ p ∧ p ≤ 16 ∧ d p ≤ 15
  step : ∀ p q, A p q = true → d p ≤ d q + 1
  par : ∀ p, d p < 17 → p ≠ t → ∃ q, A p q = true ∧ d q + 1 = d p
theorem Bfs.dist (h : Bfs A t d []) : IsDist A t d :=
  ⟨h.top, h.le, fun p hp => ⟨(h.ins p hp).1, (h.ins p hp).2, by have := h.cnt p hp; omega⟩, fun p q hA => (by
    by_cases hq : d q < 17
    · exact h.closed q hq (by simp) p hA
    · have := h.le p; omega), h.par⟩
/-- There is one such table alone. -/
theorem IsDist.eq {d e : Nat → Nat} (h : IsDist A t d) (g : IsDist A t e) : ∀ p, d p = e p := by
  have one : ∀ {d e : Nat → Nat}, IsDist A t d → IsDist A t e → ∀ n p, e p = n → n < 17 → d p ≤ n := by
    intro d e h g n
    induction n with
    | zero =>
      intro p hp _
      by_cases e1 : p = t
      · subst e1; rw [h.top]; omega
      · obtain ⟨q, _, hq⟩ := g.par p (by omega) e1
        omega
    | succ n ih =>
      intro p hp hn
      by_cases e1 : p = t
      · subst e1; rw [h.top]; omega
      · obtain ⟨q, hA, hq⟩ := g.par p (by omega) e1
        have := ih q (by omega) (by omega)
        have := h.step p q hA
        omega
  intro p
  have h1 := h.le p
  have h2 := g.le p
  by_cases hd : d p < 17
  · have a1 := one g h (d p) p rfl hd
    by_cases he : e p < 17
    · have := one h g (e p) p rfl he; omega
    · omega
  · by_cases he : e p < 17
    · have := one h g (e p) p rfl he; omega
    · omega
end
end Go.Proofs.Ytglehneaphigdaa

/- paths.hops: distances by breadth. -/
namespace Go.Proofs.Ytglehneaphigdaa
open Go.RowKit
set_option linter.unusedSimpArgs false
set_option linter.unusedVariables false
theorem cell_int : CellTy 3 := ⟨⟨_, Try.underlying3, rfl⟩, by kernel_rfl⟩
theorem slP : SlTy Try.prog 67 33 1 1 (.int .u8 0) := slTy_mk Try.underlying67 (by kernel_rfl) rfl (by decide)
theorem bs_party : Try.prog.underlying 67 = some (.slice 33) ∧ (Try.prog.info? 33).map (fun i => (i.size, i.zero)) = some (1, some (.int .u8 0)) := ⟨Try.underlying67, by kernel_rfl⟩
theorem row_17i : RowTy 74 17 (row17 fun _ => 0) := ⟨⟨_, Try.underlying74, rfl⟩, by kernel_rfl, by kernel_rfl⟩
theorem row17_get (r : Nat → Int) {i : Nat} (h : i < 17) : (row17 r)[i]? = some (.int .i64 (r i)) := tab_get _ h
theorem row17_set (r : Nat → Int) {i : Nat} (h : i < 17) (v : Int) : (row17 r).setIfInBounds i (.int .i64 v) = row17 (updN r i v) := by
  unfold row17
  rw [tab_set _ _ h]
  apply tab_congr
  intro j hj
  unfold updN
  split <;> rfl
theorem row17_ext {r s : Nat → Int} (h : ∀ i, i < 17 → r i = s i) : row17 r = row17 s := by
  unfold row17
  exact tab_congr fun i hi => by rw [h i hi]
/-- The distances' cells. -/
def dist17 (d : Nat → Nat) : Array Value := row17 fun i => (d i : Int)
theorem dist17_sz (d : Nat → Nat) : (dist17 d).size = 17 := row17_sz _
theorem dist17_get (d : Nat → Nat) {i : Nat} (h : i < 17) : (dist17 d)[i]? = some (.int .i64 (d i : Int)) := row17_get _ h
theorem dist17_upd (d : Nat → Nat) (k v : Nat) : row17 (updN (fun i => (d i : Int)) k (v : Int)) = dist17 (updN d k v) := by
  unfold dist17
  apply row17_ext
  intro i _
  unfold updN
  split <;> rfl
theorem dist17_set (d : Nat → Nat) {k : Nat} (h : k < 17) (a : Nat) : (dist17 d).setIfInBounds k (.int .i64 ((d a : Int) + 1)) = dist17 (updN d k (d a + 1)) := by
  unfold dist17
  rw [row17_set _ h, show ((d a : Int) + 1) = ((d a + 1 : Nat) : Int) by omega]
  exact dist17_upd _ _ _
theorem dist17_all (d : Nat → Nat) : (dist17 d).extract 0 (0 + 17) = dist17 d := row17_all _
def pv (p : Nat) : Value := .int .u8 (p : Int)
theorem pv_ones (p : Nat) : ∀ v ∈ [Value.int .u8 (p : Int)], v.cells = #[v] := by intro v hv; simp at hv; subst hv; rfl
theorem pv_one (p : Nat) : OneCells [Value.int .u8 (p : Int)] := by intro v hv; simp at hv; subst hv; rfl
/-- May something go from p to q? -/
def edge (c : Caps) (p q : Nat) : Bool := decide (0 < capOf c p q)
theorem edge_le {c : Caps} {p q : Nat} (h : edge c p q = true) : (1 ≤ p ∧ p ≤ 16) ∧ 1 ≤ q ∧ q ≤ 16 := by
  unfold edge capOf at h
  by_cases hm : mayP p ∧ mayP q
  · exact ⟨mayP_true hm.1, mayP_true hm.2⟩
  · rw [if_neg hm] at h; simp at h
theorem dist17_cells (d : Nat → Nat) : Cells 17 (dist17 d) := row17_cells _
theorem dist17_splice (r : Nat → Int) (d : Nat → Nat) : splice (row17 r) 0 (dist17 d) = dist17 d := splice_all (by rw [row17_sz, dist17_sz])
/-- What a graph's value (nil too) has, whatever else there is. -/
def CapsOf (W : World) (l : List Thing) (gv : Value) (c : Caps) : Prop := ∀ (l' : List Thing) (a b : Nat), (∀ x ∈ l, x ∈ l') → a ≤ 255 → b ≤ 255 → AnsH W l' 21 #[gv, .int .u8 (a : Int), .int .u8 (b : Int)] (.int .i64 (capOf c a b))
theorem CapsOf.gr {W : World} {l : List Thing} {p : Nat} {c : Caps} (h : Gr p c ∈ l) : CapsOf W l (.pointer (some ⟨p, 0, none⟩)) c := fun _ a b hs ha hb => cap_H a b ha hb (hs _ h)
theorem CapsOf.nil {W : World} {l : List Thing} : CapsOf W l (.pointer none) (fun _ _ => 0) := fun l' a b _ ha hb => by
  have e : capOf (fun _ _ => 0) a b = 0 := by unfold capOf; split <;> rfl
  rw [e]
  exact (cap_nil a b ha hb).toH
theorem CapsOf.wide {W : World} {l l' : List Thing} {gv : Value} {c : Caps} (h : CapsOf W l gv c) (hs : ∀ x ∈ l, x ∈ l') : CapsOf W l' gv c := fun _ a b h2 ha hb => h _ a b (fun x hx => h2 x (hs x hx)) ha hb
theorem cap_call {W w : World} {l l' : List Thing} {gv : Value} {c : Caps} {a b : Nat} {R : Ending → World → Prop} (h : CapsOf W l gv c) (H : Heap W l' w) (ha : a ≤ 255) (hb : b ≤ 255) (hs : ∀ x ∈ l, x ∈ l') (k : ∀ w', Heap W l' w' → R (.returned (.int .i64 (capOf c a b))) w') : Calls Try.prog 21 #[gv, .int .u8 (a : Int), .int .u8 (b : Int)] w R := (h l' a b hs ha hb).call H k
theorem capOf_zero (c : Caps) (q : Nat) : capOf c 0 q = 0 := by
  unfold capOf
  rw [if_neg]
  rintro ⟨h, _⟩
  have := mayP_true h
  omega
theorem edge_yes {c : Caps} {p q : Nat} (h : 0 < capOf c p q) : edge c p q = true := by simp [edge, h]
theorem edge_no {c : Caps} {p q : Nat} (h : ¬ 0 < capOf c p q) : edge c p q = false := by simp only [edge, h]; rfl
theorem Rd.head {w : World} {g o : Nat} {v : Value} {xs : List Value} (h : Rd w (some ⟨g, o, none⟩) (v :: xs)) : w.cell? ⟨g, o, none⟩ = some v := by
  obtain ⟨b, o', he, hc⟩ := h 0 (by simp)
  cases he
  exact hc
theorem OwnT.form0 {w : World} {e size n : Nat} {v : Value} {xs : List Value} (h : (OwnT e size v n xs).ok w) : ∃ a c, v = .slice a n c := by
  obtain ⟨_, ⟨hv, hn⟩ | ⟨g, off, cap, cur, hv, _⟩⟩ := h
  · exact ⟨none, 0, by rw [hv, hn]⟩
  · exact ⟨_, _, hv⟩
/-- Amid the round of a: what stands ahead of party k. -/
structure HopsIn (W : World) (l : List Thing) (c : Caps) (t pr po a m : Nat) (v i : Value) (w2 : World) : Prop where
  out : ∃ k d Q, i = .int .u8 ((k : Nat) : Int) ∧ 1 ≤ k ∧ k ≤ 17 ∧ BfsIn (edge c) t d Q a k ∧ 2 * und d + Q.length + 1 ≤ m ∧ Heap W (OwnT 33 1 v Q.length (Q.map pv) :: Cel po (dist17 d) 74 :: Cel pr (row17 fun _ => 0) 74 :: l) w2
def HopsPost (W : World) (l : List Thing) (c : Caps) (t : Nat) (e : Ending) (w' : World) : Prop := ∃ d, IsDist (edge c) t d ∧ e = .returned (.agg (dist17 d)) ∧ Heap W l w'
section
variable {W w : World} {l : List Thing} {gv : Value} {c : Caps}
set_option maxRecDepth 100000
set_option maxHeartbeats 2000000
theorem hops_H (t : Nat) (h1 : 1 ≤ t) (h2 : t ≤ 16) (h : CapsOf W l gv c) (H : Heap W l w) : Calls Try.prog 64 #[gv, .int .u8 (t : Int)] w (HopsPost W l c t) := by
  have ht : t < 17 := by omega
  go_enter Try.func64, Try.ntmps64
  have tok1 : True := trivial
  go_wp2_with (first | go_skip | (have _t := tok1; ((with_reducible show wpList _ _ _ (_ :: _) _ _); (with_reducible apply wpl_allocRH row_17i); (· rfl); (· exact H); (clear H; intro pr _ H); (simp only [Act.put, List.setIfInBounds_toArray, List.set_cons_zero, List.set_cons_succ])); clear tok1 _t) | ((with_reducible show wpList _ _ _ (_ :: _) _ _); (with_reducible apply wpl_allocRH row_17i); (· rfl); (· exact H); (clear H; intro po _ H); (simp only [Act.put, List.setIfInBounds_toArray, List.set_cons_zero, List.set_cons_succ])))
  go_loopw [10] (fun i wr => ∃ k : Nat, k ≤ 17 ∧ i = .int .i64 k ∧ Heap W (Cel po (row17 fun i => if i < k then 17 else 0) 74 :: Cel pr (row17 fun _ => 0) 74 :: l) wr) (fun i _ => 17 - (intOf i).toNat)
  case atStart => exact ⟨0, by omega, rfl, by simpa using H⟩
  case round =>
    obtain ⟨k, hk, rfl, H'⟩ := hrel
    clear H
    have H := H'
    clear H'
    by_cases hlt : k < 17
    · go_wp2_with (first | go_skip | ((with_reducible show wpList _ _ _ (_ :: _) _ _); (with_reducible apply wpl_storeIH); (· exact cell_int); (· rfl); (· rfl); (· rfl); (· exact H); (· (repeat (first | (with_reducible exact List.mem_cons_self) | with_reducible apply List.mem_cons_of_mem))); (· (rw [row17_sz]; omega)); (· exact row17_set _ hlt _); (· (repeat (first | (with_reducible exact Repl.here) | with_reducible apply Repl.there))); (clear H; intro _ H); (simp only [Act.put, List.setIfInBounds_toArray, List.set_cons_zero, List.set_cons_succ])))
      go_roundw
      case rel =>
        refine ⟨k + 1, by omega, by go_num, ?_⟩
        have e : row17 (updN (fun i => if i < k then (17 : Int) else 0) k 17) = row17 fun i => if i < k + 1 then 17 else 0 := by
          apply row17_ext
          intro i hi
          unfold updN
          by_cases e1 : i = k
          · subst e1; simp
          · by_cases e2 : i < k
            · have e3 : i < k + 1 := by omega
              simp [e1, e2, e3]
            · have e3 : ¬ i < k + 1 := by omega
              simp [e1, e2, e3]
        rw [← e]
        exact H
      case measure => simp [intOf]; omega
    · obtain rfl : k = 17 := by omega
      rw [show row17 (fun i => if i < 17 then (17 : Int) else 0) = dist17 farN from row17_ext fun i hi => by rw [if_pos hi]; rfl] at H
      unfold dist17 at H
      go_wp2_with (first
        | go_skip
        | ((with_reducible show wpList _ _ _ (_ :: _) _ _); (with_reducible apply wpl_storeIH); (· exact cell_int); (· rfl); (· rfl); (· rfl); (· exact H); (· (repeat (first | (with_reducible exact List.mem_cons_self) | with_reducible apply List.mem_cons_of_mem))); (· (rw [row17_sz]; omega)); (· exact row17_set _ ht _); (· (repeat (first | (with_reducible exact Repl.here) | with_reducible apply Repl.there))); (clear H; intro _ H); (simp only [Act.put, List.setIfInBounds_toArray, List.set_cons_zero, List.set_cons_succ]))
        | ((with_reducible show wpList _ _ _ (_ :: _) _ _); (with_reducible apply wpl_bsOnes _ [.int .u8 (t : Int)]); (· rfl); (· rfl); (· rfl); (· decide); (· decide); (· exact pv_ones t); (· exact bs_party); (· rfl); (· exact H); (clear H; intro pq _ H); (simp only [Act.put, List.setIfInBounds_toArray, List.set_cons_zero, List.set_cons_succ])))
      have H0 := H.celOwn (n := 1) (size := 1) rfl (by unfold maxLen; omega)
      clear H
      rw [show (updN (fun i => ((farN i : Nat) : Int)) t 0) = (updN (fun i => ((farN i : Nat) : Int)) t ((0 : Nat) : Int)) from rfl, dist17_upd] at H0
      have hst := Bfs.start (A := edge c) h1 h2
      go_loopg [7] 33 (fun m v wr => ∃ d Q, Bfs (edge c) t d Q ∧ 2 * und d + Q.length ≤ m ∧ m ≤ 33 ∧ Heap W (OwnT 33 1 v Q.length (Q.map pv) :: Cel po (dist17 d) 74 :: Cel pr (row17 fun _ => 0) 74 :: l) wr)
      case atStart => exact ⟨_, [t], hst, by have := und_le (updN farN t 0); simp; omega, by omega, H0⟩
      case round =>
        obtain ⟨d, Q, hB, hm, hm33, H'⟩ := hrel
        clear H0 hst
        have H := H'
        clear H'
        cases Q with
        | nil =>
          have hlen : ∃ a c, u7 = .slice a 0 c := OwnT.form0 (H.ok _ List.mem_cons_self)
          obtain ⟨ao, cp, rfl⟩ := hlen
          replace H := H.tail
          go_wp2_with (first
            | go_skip
            | ((with_reducible show wpList _ _ _ (_ :: _) _ _); (with_reducible apply wpl_loadRH row_17i); (· rfl); (· rfl); (· exact H); (· (repeat (first | (with_reducible exact List.mem_cons_self) | with_reducible apply List.mem_cons_of_mem))); (· (simp only [dist17_sz, Nat.reduceAdd, Nat.reduceLeDiff, Nat.le_refl]; done)); (· with_reducible exact dist17_all ..); (simp only [Act.put, List.setIfInBounds_toArray, List.set_cons_zero, List.set_cons_succ]))
            | ((with_reducible show wpList _ _ _ (_ :: _) _ _); (with_reducible apply wpl_storeRH row_17i); (· rfl); (· rfl); (· rfl); (· with_reducible exact dist17_cells ..); (· exact H); (· (repeat (first | (with_reducible exact List.mem_cons_self) | with_reducible apply List.mem_cons_of_mem))); (· (simp only [row17_sz, Nat.reduceAdd, Nat.reduceLeDiff, Nat.le_refl]; done)); (· with_reducible exact dist17_splice ..); (· (repeat (first | (with_reducible exact Repl.here) | with_reducible apply Repl.there))); (clear H; intro _ H); (simp only [Act.put, List.setIfInBounds_toArray, List.set_cons_zero, List.set_cons_succ])))
          exact ret_row1H row_17i rfl rfl rfl H (by (repeat (first | (with_reducible exact List.mem_cons_self) | with_reducible apply List.mem_cons_of_mem))) (dist17_sz _) ⟨d, hB.dist, rfl, H.tail.tail⟩
        | cons a Q' =>
          have hlenQ : (a :: Q').length = Q'.length + 1 := rfl
          obtain ⟨g, o, cp, rfl, hnc, hcm⟩ := OwnT.form (H.ok _ List.mem_cons_self) (by simp)
          have ha17 : d a < 17 := hB.qd a List.mem_cons_self
          have hap := hB.ins a ha17
          have hc0 : wr.cell? ⟨g, o, none⟩ = some (.int .u8 (a : Int)) := (H.ownRd List.mem_cons_self).head
          have hap17 : a < 17 := by omega
          have hn1' : 1 ≤ (a :: Q').length := by simp
          go_wp2_with (first
            | go_skip
            | ((with_reducible show wpList _ _ _ (_ :: _) _ _); (with_reducible apply wpl_loadCell cell_party); (· rfl); (· rfl); (· exact hc0); (simp only [Act.put, List.setIfInBounds_toArray, List.set_cons_zero, List.set_cons_succ]))
            | ((with_reducible show wpList _ _ _ (_ :: _) _ _); (with_reducible apply wpl_cut1 slP); (· rfl); (· rfl); (· exact hn1'); (simp only [Act.put, List.setIfInBounds_toArray, List.set_cons_zero, List.set_cons_succ])))
          have hpop := hB.pop (show edge c 0 a = false from edge_no (by rw [capOf_zero]; omega))
          have H0 := H.ownTail hn1'
          clear H
          have H0' : Heap W (OwnT 33 1 (.slice (cutA (some ⟨g, o, none⟩) cp 1 1) ((a :: Q').length - 1) (cp - 1)) Q'.length (Q'.map pv) :: Cel po (dist17 d) 74 :: Cel pr (row17 fun _ => 0) 74 :: l) wr := H0
          clear H0
          have hm' : 2 * und d + Q'.length + 1 ≤ gk := by rw [hlenQ] at hm; omega
          clear hm hB
          go_loopw [7, 9] (HopsIn W l c t pr po a gk) (fun _ i _ => 17 - (intOf i).toNat)
          case atStart => exact ⟨⟨1, d, Q', rfl, by omega, by omega, hpop, hm', H0'⟩⟩
          case round =>
            obtain ⟨k, d2, Q2, rfl, hk1, hk17, hI, hm2, H'⟩ := hrel.out
            clear H0' hpop hm' hc0
            have H := H'
            clear H'
            by_cases hlt : k < 17
            · have hka : k ≤ 255 := by omega
              have haa : a ≤ 255 := by omega
              have hd17 := hI.le k
              have hda := hI.ad
              have hQn : Q2.length + 1 ≤ maxLen := by unfold maxLen; omega
              have hQb : (Q2.length + 1) * 1 ≤ 140737488355328 := by omega
              by_cases hd : d2 k = 17
              · have f1 : ((d2 k : Int) == 17) = true := by rw [hd]; rfl
                have f2 : decide ((d2 k : Int) = 17) = true := by rw [hd]; rfl
                by_cases hA : 0 < capOf c k a
                · have HI := Lib.hid (hI.yes hd (edge_yes hA) hk1 (by omega))
                  clear hI
                  go_wp2_with (first
                    | go_skip
                    | ((with_reducible show wpList _ _ _ (_ :: _) _ _); (with_reducible apply wpl_loadCH); (· exact cell_int); (· rfl); (· rfl); (· exact H); (· (repeat (first | (with_reducible exact List.mem_cons_self) | with_reducible apply List.mem_cons_of_mem))); (· (first | exact dist17_get _ hlt | exact dist17_get _ hap17)); (simp only [Act.put, List.setIfInBounds_toArray, List.set_cons_zero, List.set_cons_succ]))
                    | ((with_reducible apply cap_call h H); (· exact hka); (· exact haa); (· exact fun x hx => List.mem_cons_of_mem _ (List.mem_cons_of_mem _ (List.mem_cons_of_mem _ hx))); (clear H; intro _ H))
                    | ((with_reducible show wpList _ _ _ (_ :: _) _ _); (with_reducible apply wpl_storeIH); (· exact cell_int); (· rfl); (· rfl); (· rfl); (· exact H); (· (repeat (first | (with_reducible exact List.mem_cons_self) | with_reducible apply List.mem_cons_of_mem))); (· (rw [dist17_sz]; omega)); (· exact dist17_set _ hlt _); (· (repeat (first | (with_reducible exact Repl.here) | with_reducible apply Repl.there))); (clear H; intro _ H); (simp only [Act.put, List.setIfInBounds_toArray, List.set_cons_zero, List.set_cons_succ]))
                    | ((with_reducible show wpList _ _ _ (_ :: _) _ _); (with_reducible apply wpl_bsOnes _ [.int .u8 (k : Int)]); (· rfl); (· rfl); (· rfl); (· decide); (· decide); (· exact pv_ones k); (· exact bs_party); (· rfl); (· exact H); (clear H; intro pk _ H); (simp only [Act.put, List.setIfInBounds_toArray, List.set_cons_zero, List.set_cons_succ]))
                    | ((with_reducible show wpList _ _ _ (_ :: _) _ _); (with_reducible apply wpl_appendO slP); (· rfl); (· rfl); (· rfl); (· rfl); (· exact H.perm (.swap _ _ _)); (· exact H.celRd List.mem_cons_self); (· rfl); (· exact pv_one k); (· exact hQn); (· exact hQb); (clear H; intro v2 _ H); (simp only [Act.put, List.setIfInBounds_toArray, List.set_cons_zero, List.set_cons_succ])))
                  go_roundw
                  case rel =>
                    refine ⟨⟨k + 1, _, Q2 ++ [k], by go_num, by omega, by omega, HI.out.1, by have := HI.out.2; simp only [List.length_append, List.length_singleton]; omega, ?_⟩⟩
                    have H2 := H.drop (.there .here)
                    rw [List.length_append, List.map_append]
                    exact H2
                  case measure => simp [intOf]; omega
                · have HI := Lib.hid (hI.no (by rw [edge_no hA]; simp))
                  clear hI
                  go_wp2_with (first
                    | go_skip
                    | ((with_reducible show wpList _ _ _ (_ :: _) _ _); (with_reducible apply wpl_loadCH); (· exact cell_int); (· rfl); (· rfl); (· exact H); (· (repeat (first | (with_reducible exact List.mem_cons_self) | with_reducible apply List.mem_cons_of_mem))); (· (first | exact dist17_get _ hlt | exact dist17_get _ hap17)); (simp only [Act.put, List.setIfInBounds_toArray, List.set_cons_zero, List.set_cons_succ]))
                    | ((with_reducible apply cap_call h H); (· exact hka); (· exact haa); (· exact fun x hx => List.mem_cons_of_mem _ (List.mem_cons_of_mem _ (List.mem_cons_of_mem _ hx))); (clear H; intro _ H)))
                  refine ⟨?_, ?measure⟩
                  · (repeat apply Exists.intro)
                    refine ⟨?rel, rfl⟩
                    case rel => exact ⟨⟨k + 1, d2, Q2, by go_num, by omega, by omega, HI.out, hm2, H⟩⟩
                  case measure => simp [intOf]; omega
              · have HI := Lib.hid (hI.no (fun h => hd h.1))
                clear hI
                have f0 : ¬ (d2 k : Int) = 17 := by omega
                have f1 : ((d2 k : Int) == 17) = false := by simp [f0]
                have f2 : decide ((d2 k : Int) = 17) = false := by simp [f0]
                go_wp2_with (first
                    | go_skip
                    | ((with_reducible show wpList _ _ _ (_ :: _) _ _); (with_reducible apply wpl_loadCH); (· exact cell_int); (· rfl); (· rfl); (· exact H); (· (repeat (first | (with_reducible exact List.mem_cons_self) | with_reducible apply List.mem_cons_of_mem))); (· (first | exact dist17_get _ hlt | exact dist17_get _ hap17)); (simp only [Act.put, List.setIfInBounds_toArray, List.set_cons_zero, List.set_cons_succ]))
                    | ((with_reducible apply cap_call h H); (· exact hka); (· exact haa); (· exact fun x hx => List.mem_cons_of_mem _ (List.mem_cons_of_mem _ (List.mem_cons_of_mem _ hx))); (clear H; intro _ H)))
                go_roundw
                case rel => exact ⟨⟨k + 1, d2, Q2, by go_num, by omega, by omega, HI.out, hm2, H⟩⟩
                case measure => simp [intOf]; omega
            · obtain rfl : k = 17 := by omega
              have HI := Lib.hid (hI.done (fun p q h => (edge_le h).1.2))
              clear hI
              go_wp2_with (go_skip)
              go_roundg (gk - 1)
              case measure => omega
              case rel => exact ⟨d2, Q2, HI.out, by omega, by omega, H⟩
end
end Go.Proofs.Ytglehneaphigdaa

/- Shortest ways: plain laws, with no program in sight. -/
namespace Go.Proofs.Ytglehneaphigdaa
set_option linter.unusedVariables false
/-- Is p a step on from a, one nearer? -/
def GoodP (A : Nat → Nat → Bool) (d : Nat → Nat) (a p : Nat) : Prop := d p + 1 = d a ∧ A a p = true
/-- The least such party. -/
structure IsNext (A : Nat → Nat → Bool) (d : Nat → Nat) (a p : Nat) : Prop where
  ge : 1 ≤ p
  le : p ≤ 16
  good : GoodP A d a p
  least : ∀ q, 1 ≤ q → q < p → ¬ GoodP A d a q
theorem IsNext.eq {A : Nat → Nat → Bool} {d : Nat → Nat} {a p q : Nat} (h : IsNext A d a p) (g : IsNext A d a q) : p = q := by
  rcases Nat.lt_trichotomy p q with e | e | e
  · exact absurd h.good (g.least p h.ge e)
  · exact e
  · exact absurd g.good (h.least q g.ge e)
/-- Each is the one ahead of it's next one. -/
def Steps (A : Nat → Nat → Bool) (d : Nat → Nat) (L : List Nat) : Prop := ∀ i x y, L[i]? = some x → L[i + 1]? = some y → IsNext A d x y
theorem Steps.one (A : Nat → Nat → Bool) (d : Nat → Nat) (a : Nat) : Steps A d [a] := by
  intro i x y h1 h2
  simp at h2
theorem Steps.snoc {A : Nat → Nat → Bool} {d : Nat → Nat} {L : List Nat} {a k : Nat} (h : Steps A d L) (hl : L[L.length - 1]? = some a) (hk : IsNext A d a k) : Steps A d (L ++ [k]) := by
  intro i x y h1 h2
  by_cases hi : i + 1 < L.length
  · rw [List.getElem?_append_left (by omega)] at h1 h2
    exact h i x y h1 h2
  · have hlen : 0 < L.length := by
      rcases L with _ | ⟨b, L⟩
      · simp at hl
      · simp
    by_cases hj : i + 1 = L.length
    · rw [List.getElem?_append_left (by omega)] at h1
      rw [hj, List.getElem?_append_right (by omega)] at h2
      simp at h2
      rw [show L.length - 1 = i by omega, h1] at hl
      cases hl
      subst h2
      exact hk
    · rw [List.getElem?_eq_none (by simp; omega)] at h2
      cases h2
/-- A shortest way, in distances d to t. -/
structure Way (A : Nat → Nat → Bool) (d : Nat → Nat) (f t : Nat) (L : List Nat) : Prop where
  head : L[0]? = some f
  last : L[L.length - 1]? = some t
  len : L.length = d f + 1
  steps : Steps A d L
/-- What a way's beginning is. -/
structure WayTo (A : Nat → Nat → Bool) (d : Nat → Nat) (f a : Nat) (L : List Nat) : Prop where
  head : L[0]? = some f
  last : L[L.length - 1]? = some a
  len : L.length + d a = d f + 1
  steps : Steps A d L
theorem WayTo.start (A : Nat → Nat → Bool) (d : Nat → Nat) (f : Nat) : WayTo A d f f [f] := ⟨rfl, rfl, by simp; omega, Steps.one A d f⟩
theorem WayTo.snoc {A : Nat → Nat → Bool} {d : Nat → Nat} {f a k : Nat} {L : List Nat} (h : WayTo A d f a L) (hk : IsNext A d a k) : WayTo A d f k (L ++ [k]) := by
  have hlen : 0 < L.length := by
    rcases L with _ | ⟨b, L⟩
    · have := h.head; simp at this
    · simp
  refine ⟨?_, ?_, ?_, h.steps.snoc h.last hk⟩
  · rw [List.getElem?_append_left (by omega)]; exact h.head
  · simp
  · have := hk.good.1
    have := h.len
    simp
    omega
theorem WayTo.done {A : Nat → Nat → Bool} {d : Nat → Nat} {f t : Nat} {L : List Nat} (h : WayTo A d f t L) (ht : d t = 0) : Way A d f t L := ⟨h.head, h.last, by have := h.len; omega, h.steps⟩
/-- Two ways are one. -/
theorem Way.eq {A : Nat → Nat → Bool} {d : Nat → Nat} {f t : Nat} {L M : List Nat} (h : Way A d f t L) (g : Way A d f t M) : L = M := by
  have hl : L.length = M.length := by rw [h.len, g.len]
  have key : ∀ i, i < L.length → L[i]? = M[i]? := by
    intro i
    induction i with
    | zero => intro _; rw [h.head, g.head]
    | succ i ih =>
      intro hi
      have e := ih (by omega)
      have h1 : ∃ x, L[i]? = some x := ⟨L[i], List.getElem?_eq_getElem (by omega)⟩
      have h2 : ∃ x, L[i + 1]? = some x := ⟨L[i + 1], List.getElem?_eq_getElem hi⟩
      have h3 : ∃ x, M[i + 1]? = some x := ⟨M[i + 1], List.getElem?_eq_getElem (by omega)⟩
      obtain ⟨x, hx⟩ := h1
      obtain ⟨y, hy⟩ := h2
      obtain ⟨z, hz⟩ := h3
      rw [hy, hz, (h.steps i x y hx hy).eq (g.steps i x z (by rw [← e]; exact hx) hz)]
  apply List.ext_getElem?
  intro i
  by_cases hi : i < L.length
  · exact key i hi
  · rw [List.getElem?_eq_none (by omega), List.getElem?_eq_none (by omega)]
/-- A next one there is, while the end is not reached. -/
theorem IsDist.next {A : Nat → Nat → Bool} {t a : Nat} {d : Nat → Nat} (h : IsDist A t d) (ha : d a < 17) (hne : a ≠ t) : ¬ ∀ q, 1 ≤ q → q < 17 → ¬ GoodP A d a q := by
  intro hn
  obtain ⟨q, hA, hq⟩ := h.par a ha hne
  have := h.ins q (by omega)
  exact hn q this.1 (by omega) ⟨hq, hA⟩
theorem IsDist.zero {A : Nat → Nat → Bool} {t a : Nat} {d : Nat → Nat} (h : IsDist A t d) (ha : d a = 0) : a = t := by
  apply Classical.byContradiction
  intro hne
  obtain ⟨q, hA, hq⟩ := h.par a (by omega) hne
  omega
end Go.Proofs.Ytglehneaphigdaa

/- paths.Short: the shortest way. -/
namespace Go.Proofs.Ytglehneaphigdaa
open Go.RowKit
set_option linter.unusedSimpArgs false
set_option linter.unusedVariables false
abbrev partyZ : Value := .int .u8 0
theorem made_len (m : Nat) (v : Value) : ((madeCells partyZ.cells (m * 1)).setIfInBounds 0 v).size = m := by rw [Array.size_setIfInBounds, size_madeCells, Nat.mul_one]
theorem made_head {m : Nat} (h : 1 ≤ m) (v : Value) : ((madeCells partyZ.cells (m * 1)).setIfInBounds 0 v).toList.take (1 * 1) = [v] := by
  have hs := made_len m v
  have h0 : ((madeCells partyZ.cells (m * 1)).setIfInBounds 0 v).toList[0]? = some v := by
    rw [Array.getElem?_toList, Array.getElem?_setIfInBounds_self_of_lt]
    rw [size_madeCells]; omega
  cases hl : ((madeCells partyZ.cells (m * 1)).setIfInBounds 0 v).toList with
  | nil => rw [hl] at h0; simp at h0
  | cons x xs => rw [hl] at h0; simp at h0; simp [h0]
/-- The chapter's shortest way. -/
def IsShort (c : Caps) (f t : Nat) (L : List Nat) : Prop :=
  (L = [] ∧ (mayP f = false ∨ mayP t = false ∨ f = t ∨ ∃ d, IsDist (edge c) t d ∧ d f = 17)) ∨ (mayP f = true ∧ mayP t = true ∧ f ≠ t ∧ ∃ d, IsDist (edge c) t d ∧ d f < 17 ∧ Way (edge c) d f t L)
def ShortPost (W : World) (l : List Thing) (c : Caps) (f t : Nat) (e : Ending) (w' : World) : Prop := ∃ v L, e = .returned v ∧ IsShort c f t L ∧ Heap W (OwnT 33 1 v L.length (L.map pv) :: l) w'
/-- Of the way what is found. -/
structure ShortOut (W : World) (l : List Thing) (c : Caps) (f t pd : Nat) (d : Nat → Nat) (m : Nat) (v i : Value) (w2 : World) : Prop where
  out : ∃ a L, i = .int .u8 ((a : Nat) : Int) ∧ d a < 17 ∧ d a ≤ m ∧ WayTo (edge c) d f a L ∧ Heap W (OwnT 33 1 v L.length (L.map pv) :: Cel pd (dist17 d) 74 :: l) w2
/-- Who is not the next one. -/
structure ShortIn (W : World) (l' : List Thing) (c : Caps) (a : Nat) (d : Nat → Nat) (i j : Value) (w2 : World) : Prop where
  out : ∃ k : Nat, i = .int .u8 ((a : Nat) : Int) ∧ j = .int .u8 (k : Int) ∧ 1 ≤ k ∧ k ≤ 17 ∧ (∀ q, 1 ≤ q → q < k → ¬ GoodP (edge c) d a q) ∧ Heap W l' w2
section
variable {W w : World} {l : List Thing} {gv : Value} {c : Caps}
set_option maxRecDepth 100000
set_option maxHeartbeats 2000000
theorem may6 (a : Nat) (h : a ≤ 255) : Ans 57 #[.int .u8 (a : Int)] (.bool (mayP a)) := by
  intro w
  unfold mayP
  by_cases h1 : 1 ≤ a
  · by_cases h2 : a ≤ 16
    all_goals
      go_enter Try.func57, Try.ntmps57
      go_wp2_with fail
      go_ret
      exact ⟨by simp [h1, h2]; omega, (by repeat (first | exact Ext.refl _ | refine Ext.alloc ?_ _ | refine Ext.ext ?_ _ | refine Ext.drew ?_))⟩
  · go_enter Try.func57, Try.ntmps57
    go_wp2_with fail
    go_ret
    exact ⟨by simp [h1], (by repeat (first | exact Ext.refl _ | refine Ext.alloc ?_ _ | refine Ext.ext ?_ _ | refine Ext.drew ?_))⟩
theorem short_not (f t : Nat) (hf : f ≤ 255) (ht : t ≤ 255) (hn : mayP f = false ∨ mayP t = false ∨ f = t) : AnsH W l 40 #[gv, .int .u8 (f : Int), .int .u8 (t : Int)] (.slice none 0 0) := by
  intro w H
  have Mf := may6 f hf
  have Mt := may6 t ht
  by_cases h1 : mayP f = true
  · rw [h1] at Mf
    by_cases h2 : mayP t = true
    · rw [h2] at Mt
      obtain rfl : f = t := by
        rcases hn with h | h | h
        · rw [h1] at h; cases h
        · rw [h2] at h; cases h
        · exact h
      clear h1 h2 hn
      go_enter Try.func40, Try.ntmps40
      go_wp2_with (first | go_skip | ((with_reducible refine Ans.callH (by assumption) H ?_); clear H; intro _ H))
      go_ret
      exact ⟨rfl, H⟩
    · have h2 : mayP t = false := by simpa using h2
      rw [h2] at Mt
      clear h1 h2 hn
      go_enter Try.func40, Try.ntmps40
      go_wp2_with (first | go_skip | ((with_reducible refine Ans.callH (by assumption) H ?_); clear H; intro _ H))
      go_ret
      exact ⟨rfl, H⟩
  · have h1 : mayP f = false := by simpa using h1
    rw [h1] at Mf
    clear h1 hn
    go_enter Try.func40, Try.ntmps40
    go_wp2_with (first | go_skip | ((with_reducible refine Ans.callH (by assumption) H ?_); clear H; intro _ H))
    go_ret
    exact ⟨rfl, H⟩
theorem short_H (f t : Nat) (hf : f ≤ 255) (ht : t ≤ 255) (h : CapsOf W l gv c) (H : Heap W l w) : Calls Try.prog 40 #[gv, .int .u8 (f : Int), .int .u8 (t : Int)] w (ShortPost W l c f t) := by
  by_cases hn : mayP f = false ∨ mayP t = false ∨ f = t
  · refine (short_not f t hf ht hn w H).mono ?_
    rintro e w1 ⟨rfl, H⟩
    refine ⟨_, [], rfl, .inl ⟨rfl, ?_⟩, (H.nilRow _ _).slide⟩
    rcases hn with h | h | h
    · exact .inl h
    · exact .inr (.inl h)
    · exact .inr (.inr (.inl h))
  · have hmf : mayP f = true := by
      cases e : mayP f
      · exact absurd (.inl e) hn
      · rfl
    have hmt : mayP t = true := by
      cases e : mayP t
      · exact absurd (.inr (.inl e)) hn
      · rfl
    have hne : f ≠ t := fun e => hn (.inr (.inr e))
    have Mf := may6 f hf
    have Mt := may6 t ht
    rw [hmf] at Mf
    rw [hmt] at Mt
    have hf17 := mayP_true hmf
    have ht17 := mayP_true hmt
    have hfl : f < 17 := by omega
    have E := Lib.hid (show mayP f = true ∧ mayP t = true from ⟨hmf, hmt⟩)
    have hne2 : ((f : Int) == (t : Int)) = false := by simp; omega
    have hne3 : decide ((f : Int) = (t : Int)) = false := by simp; omega
    clear hn hmf hmt
    by_cases hr : ∀ d, IsDist (edge c) t d → d f = 17
    · have hr2 : ∀ d, IsDist (edge c) t d → d f = 17 ∧ ((d f : Int) == 17) = true ∧ decide ((d f : Int) = 17) = true := fun d hd => by rw [hr d hd]; exact ⟨rfl, rfl, rfl⟩
      clear hr
      go_enter Try.func40, Try.ntmps40
      go_wp2_with (first
        | go_skip
        | ((with_reducible refine Ans.callH (by assumption) H ?_); clear H; intro _ H)
        | ((with_reducible refine (hops_H t ht17.1 ht17.2 h H).mono ?_); clear H; rintro _ _ ⟨d, hdist, rfl, H⟩; (obtain ⟨r1, r2, r3⟩ := hr2 d hdist); clear hr2)
        | ((with_reducible show wpList _ _ _ (_ :: _) _ _); (with_reducible apply wpl_allocRH row_17i); (· rfl); (· exact H); (clear H; intro pd _ H); (simp only [Act.put, List.setIfInBounds_toArray, List.set_cons_zero, List.set_cons_succ]))
        | ((with_reducible show wpList _ _ _ (_ :: _) _ _); (with_reducible apply wpl_storeRH row_17i); (· rfl); (· rfl); (· rfl); (· with_reducible exact dist17_cells ..); (· exact H); (· (repeat (first | (with_reducible exact List.mem_cons_self) | with_reducible apply List.mem_cons_of_mem))); (· (simp only [row17_sz, Nat.reduceAdd, Nat.reduceLeDiff, Nat.le_refl]; done)); (· with_reducible exact dist17_splice ..); (· (repeat (first | (with_reducible exact Repl.here) | with_reducible apply Repl.there))); (clear H; intro _ H); (simp only [Act.put, List.setIfInBounds_toArray, List.set_cons_zero, List.set_cons_succ]))
        | ((with_reducible show wpList _ _ _ (_ :: _) _ _); (with_reducible apply wpl_loadCH); (· exact cell_int); (· rfl); (· rfl); (· exact H); (· (repeat (first | (with_reducible exact List.mem_cons_self) | with_reducible apply List.mem_cons_of_mem))); (· exact dist17_get _ hfl); (simp only [Act.put, List.setIfInBounds_toArray, List.set_cons_zero, List.set_cons_succ])))
      go_ret
      exact ⟨_, [], rfl, .inl ⟨rfl, .inr (.inr (.inr ⟨d, hdist, r1⟩))⟩, (H.tail.nilRow _ _).slide⟩
    · have hr2 : ∀ d, IsDist (edge c) t d → d f < 17 ∧ ((d f : Int) == 17) = false ∧ decide ((d f : Int) = 17) = false := fun d hd => by
        have h1 : d f ≠ 17 := fun e => hr fun d' hd' => by rw [hd'.eq hd f]; exact e
        have h2 := hd.le f
        refine ⟨by omega, ?_, ?_⟩ <;> simp <;> omega
      clear hr
      go_enter Try.func40, Try.ntmps40
      go_wp2_with (first
        | go_skip
        | ((with_reducible refine Ans.callH (by assumption) H ?_); clear H; intro _ H)
        | ((with_reducible refine (hops_H t ht17.1 ht17.2 h H).mono ?_); clear H; rintro _ _ ⟨d, hdist, rfl, H⟩; (obtain ⟨r1, r2, r3⟩ := hr2 d hdist); clear hr2)
        | ((with_reducible show wpList _ _ _ (_ :: _) _ _); (with_reducible apply wpl_allocRH row_17i); (· rfl); (· exact H); (clear H; intro pd _ H); (simp only [Act.put, List.setIfInBounds_toArray, List.set_cons_zero, List.set_cons_succ]))
        | ((with_reducible show wpList _ _ _ (_ :: _) _ _); (with_reducible apply wpl_storeRH row_17i); (· rfl); (· rfl); (· rfl); (· with_reducible exact dist17_cells ..); (· exact H); (· (repeat (first | (with_reducible exact List.mem_cons_self) | with_reducible apply List.mem_cons_of_mem))); (· (simp only [row17_sz, Nat.reduceAdd, Nat.reduceLeDiff, Nat.le_refl]; done)); (· with_reducible exact dist17_splice ..); (· (repeat (first | (with_reducible exact Repl.here) | with_reducible apply Repl.there))); (clear H; intro _ H); (simp only [Act.put, List.setIfInBounds_toArray, List.set_cons_zero, List.set_cons_succ]))
        | ((with_reducible show wpList _ _ _ (_ :: _) _ _); (with_reducible apply wpl_loadCH); (· exact cell_int); (· rfl); (· rfl); (· exact H); (· (repeat (first | (with_reducible exact List.mem_cons_self) | with_reducible apply List.mem_cons_of_mem))); (· exact dist17_get _ hfl); (simp only [Act.put, List.setIfInBounds_toArray, List.set_cons_zero, List.set_cons_succ]))
        | ((with_reducible show wpList _ _ _ (_ :: _) _ _); (with_reducible apply wpl_makeC slP (n := 1) (m := d f + 1)); (· rfl); (· rfl); (· rfl); (· rfl); (· omega); (· omega); (· omega); (· exact H); (clear H; intro pm _ H); (simp only [Act.put, List.setIfInBounds_toArray, List.set_cons_zero, List.set_cons_succ]))
        | ((with_reducible show wpList _ _ _ (_ :: _) _ _); (with_reducible apply wpl_storeIH); (· exact cell_party); (· rfl); (· rfl); (· rfl); (· exact H); (· (repeat (first | (with_reducible exact List.mem_cons_self) | with_reducible apply List.mem_cons_of_mem))); (· (rw [size_madeCells]; omega)); (· rfl); (· (repeat (first | (with_reducible exact Repl.here) | with_reducible apply Repl.there))); (clear H; intro _ H); (simp only [Act.put, List.setIfInBounds_toArray, List.set_cons_zero, List.set_cons_succ])))
      have H0 := H.celOwnP (size := 1) (n := 1) (m := d f + 1) (by rw [made_len]; omega) (by omega) (by unfold maxLen; omega)
      clear H
      rw [made_head (by omega)] at H0
      go_loopg [8, 9] (d f) (fun m v i w2 => ShortOut W l c f t pd d m v i w2)
      case atStart => exact ⟨f, [f], rfl, r1, Nat.le_refl _, WayTo.start .., H0⟩
      case round =>
        obtain ⟨a, L, rfl, had, ham, hway, H'⟩ := hrel.out
        clear H0 hrel
        have H := H'
        clear H'
        have hain := hdist.ins a had
        have hLl := Lib.hid hway.len
        by_cases hat : a = t
        · subst hat
          go_wp2_with (go_skip)
          go_ret
          exact ⟨_, L, rfl, .inr ⟨E.out.1, E.out.2, hne, d, hdist, r1, hway.done hdist.top⟩, H.drop (.there .here)⟩
        · have e1 : ((a : Int) == (t : Int)) = false := by simp; omega
          have e2 : decide ((a : Int) = (t : Int)) = false := by simp; omega
          have e3 : ((a : Int) != (t : Int)) = true := by simp; omega
          have hnx := hdist.next had hat
          go_wp2_with (go_skip)
          have H0 := H
          clear H
          go_loopw [9, 10] (fun i j w2 => ShortIn W (OwnT 33 1 u8 L.length (L.map pv) :: Cel pd (dist17 d) 74 :: l) c a d i j w2) (fun _ j _ => 17 - (intOf j).toNat)
          case atStart => exact ⟨1, rfl, rfl, by omega, by omega, (fun q h1 h2 => by omega), H0⟩
          case round =>
            obtain ⟨k, rfl, rfl, hk1, hk17, hno, H'⟩ := hrel.out
            clear H0 hrel
            have H := H'
            clear H'
            by_cases hlt : k < 17
            · have hka : k ≤ 255 := by omega
              have haa : a ≤ 255 := by omega
              have ha17 : a < 17 := by omega
              have hdk := hdist.le k
              have hz : d a ≠ 0 := fun e => hat (hdist.zero e)
              have hw1 : wrap64 ((d a : Int) - 1) = (d a : Int) - 1 := IntWalk.wrap64_in _ ⟨by omega, by omega⟩
              have hcap := h (OwnT 33 1 u8 L.length (L.map pv) :: Cel pd (dist17 d) 74 :: l) a k (fun x hx => List.mem_cons_of_mem _ (List.mem_cons_of_mem _ hx)) haa hka
              by_cases hg : d k + 1 = d a
              · have g1 : ((d k : Int) == (d a : Int) - 1) = true := by simp; omega
                have g2 : decide ((d k : Int) = (d a : Int) - 1) = true := by simp; omega
                by_cases hA : 0 < capOf c a k
                · have c1 : decide (capOf c a k > 0) = true := by simpa using hA
                  have HN := Lib.hid (⟨hk1, by omega, ⟨hg, edge_yes hA⟩, hno⟩ : IsNext (edge c) d a k)
                  have hLb : L.length + 1 ≤ maxLen := by have := hLl.out; unfold maxLen; omega
                  have hLb2 : (L.length + 1) * 1 ≤ 140737488355328 := by have := hLl.out; omega
                  have HG := Lib.hid hg
                  clear hno hnx hg
                  go_wp2_with (go_skip)
                  refine wp_region_H H (by kernel_rfl) (by kernel_rfl) ?_
                  repeat (first | go_big_quiet_skip | ((with_reducible apply wpQ_loadCH); (· exact cell_int); (· rfl); (· rfl); (· (repeat (first | (with_reducible exact List.mem_cons_self) | with_reducible apply List.mem_cons_of_mem))); (· (first | exact dist17_get _ hlt | exact dist17_get _ ha17)); (simp only [Act.put, List.setIfInBounds_toArray, List.set_cons_zero, List.set_cons_succ])) | go_big_quiet_step (exact hcap.quiet))
                  refine wpQuiet_nil ?_
                  clear H
                  intro _ H
                  go_wp2_with (first
                    | go_skip
                    | ((with_reducible show wpList _ _ _ (_ :: _) _ _); (with_reducible apply wpl_bsOnes _ [.int .u8 (k : Int)]); (· rfl); (· rfl); (· rfl); (· decide); (· decide); (· exact pv_ones k); (· exact bs_party); (· rfl); (· exact H); (clear H; intro pk _ H); (simp only [Act.put, List.setIfInBounds_toArray, List.set_cons_zero, List.set_cons_succ]))
                    | ((with_reducible show wpList _ _ _ (_ :: _) _ _); (with_reducible apply wpl_appendO slP); (· rfl); (· rfl); (· rfl); (· rfl); (· exact H.perm (.swap _ _ _)); (· exact H.celRd List.mem_cons_self); (· rfl); (· exact pv_one k); (· exact hLb); (· exact hLb2); (clear H; intro v2 _ H); (simp only [Act.put, List.setIfInBounds_toArray, List.set_cons_zero, List.set_cons_succ])))
                  go_roundg (d k)
                  case measure => have := HG.out; omega
                  case rel =>
                    refine ⟨k, L ++ [k], rfl, by have := HG.out; omega, Nat.le_refl _, hway.snoc HN.out, ?_⟩
                    rw [List.length_append, List.map_append]
                    exact H.drop (.there .here)
                · have c1 : decide (capOf c a k > 0) = false := by simpa using hA
                  have HN := Lib.hid (show ∀ q, 1 ≤ q → q < k + 1 → ¬ GoodP (edge c) d a q from fun q h1 h2 => by
                    by_cases e : q = k
                    · subst e; intro hG; have h2 := hG.2; rw [edge_no hA] at h2; cases h2
                    · exact hno q h1 (by omega))
                  clear hno hnx hg
                  go_wp2_with (go_skip)
                  refine wp_region_H H (by kernel_rfl) (by kernel_rfl) ?_
                  repeat (first | go_big_quiet_skip | ((with_reducible apply wpQ_loadCH); (· exact cell_int); (· rfl); (· rfl); (· (repeat (first | (with_reducible exact List.mem_cons_self) | with_reducible apply List.mem_cons_of_mem))); (· (first | exact dist17_get _ hlt | exact dist17_get _ ha17)); (simp only [Act.put, List.setIfInBounds_toArray, List.set_cons_zero, List.set_cons_succ])) | go_big_quiet_step (exact hcap.quiet))
                  refine wpQuiet_nil ?_
                  clear H
                  intro _ H
                  go_wp2_with (go_skip)
                  refine ⟨?_, ?measure⟩
                  · exact ⟨⟨k + 1, rfl, by go_num, by omega, by omega, HN.out, H⟩⟩
                  case measure => simp [intOf]; omega
              · have g1 : ((d k : Int) == (d a : Int) - 1) = false := by simp; omega
                have g2 : decide ((d k : Int) = (d a : Int) - 1) = false := by simp; omega
                have HN := Lib.hid (show ∀ q, 1 ≤ q → q < k + 1 → ¬ GoodP (edge c) d a q from fun q h1 h2 => by
                  by_cases e : q = k
                  · subst e; intro hG; exact hg hG.1
                  · exact hno q h1 (by omega))
                clear hno hnx hg
                go_wp2_with (go_skip)
                refine wp_region_H H (by kernel_rfl) (by kernel_rfl) ?_
                repeat (first | go_big_quiet_skip | ((with_reducible apply wpQ_loadCH); (· exact cell_int); (· rfl); (· rfl); (· (repeat (first | (with_reducible exact List.mem_cons_self) | with_reducible apply List.mem_cons_of_mem))); (· (first | exact dist17_get _ hlt | exact dist17_get _ ha17)); (simp only [Act.put, List.setIfInBounds_toArray, List.set_cons_zero, List.set_cons_succ])) | go_big_quiet_step (exact hcap.quiet))
                refine wpQuiet_nil ?_
                clear H
                intro _ H
                go_wp2_with (go_skip)
                refine ⟨?_, ?measure⟩
                · exact ⟨⟨k + 1, rfl, by go_num, by omega, by omega, HN.out, H⟩⟩
                case measure => simp [intOf]; omega
            · exact absurd (fun q h1 h2 => hno q h1 (by omega)) hnx
end
end Go.Proofs.Ytglehneaphigdaa

/- Who is reached, over a list of edges: plain laws. -/
namespace Go.Proofs.Ytglehneaphigdaa
set_option linter.unusedVariables false
/-- Who is reached over so many edges at most. -/
def reachF (F : List Flw) (f : Nat) : Nat → Nat → Bool
  | 0, p => p == f
  | n + 1, p => reachF F f n p || F.any fun x => reachF F f n x.f && (x.t == p)
theorem reachF_succ {F : List Flw} {f n p : Nat} : reachF F f (n + 1) p = true ↔ reachF F f n p = true ∨ ∃ x ∈ F, reachF F f n x.f = true ∧ x.t = p := by
  rw [reachF, Bool.or_eq_true, List.any_eq_true]
  simp
theorem reachF_mono {F : List Flw} {f p : Nat} : ∀ {n m : Nat}, n ≤ m → reachF F f n p = true → reachF F f m p = true
  | n, 0, h, hr => by obtain rfl : n = 0 := by omega
                      exact hr
  | n, m + 1, h, hr => by
    by_cases e : n = m + 1
    · subst e; exact hr
    · exact reachF_succ.2 (.inl (reachF_mono (by omega) hr))
theorem edge_mem {c : Caps} {a b : Nat} (ha : a < 17) (hb : b < 17) : (∃ x ∈ edgesOf c, x.f = a ∧ x.t = b) ↔ 0 < c a b := by
  have h := matE_any c a b 17
  rw [Bool.eq_iff_iff, List.any_eq_true] at h
  simp only [decide_eq_true_eq] at h
  constructor
  · intro hx; exact (h.1 hx).2.2
  · intro hp; exact h.2 ⟨ha, hb, hp⟩
theorem GoodC.edge {c : Caps} (h : GoodC c) {a b : Nat} : Proofs.Ytglehneaphigdaa.edge c a b = true ↔ 0 < c a b := by
  unfold Proofs.Ytglehneaphigdaa.edge
  rw [h.capOf]
  simp
theorem mem_edge {c : Caps} (h : GoodC c) {x : Flw} (hx : x ∈ edgesOf c) : edge c x.f x.t = true := by
  have := matE_mem 17 hx
  exact h.edge.2 (by omega)
theorem reach_le {c : Caps} (hc : GoodC c) {t : Nat} {d : Nat → Nat} (hd : IsDist (edge c) t d) (f : Nat) : ∀ n q, reachF (edgesOf c) f n q = true → d f ≤ n + d q
  | 0, q, h => by
    have : q = f := by simpa [reachF] using h
    subst this; omega
  | n + 1, q, h => by
    rcases reachF_succ.1 h with h | ⟨x, hx, hr, rfl⟩
    · have := reach_le hc hd f n q h; omega
    · have h1 := reach_le hc hd f n x.f hr
      have h2 := hd.step x.f x.t (mem_edge hc hx)
      omega
theorem reach_cons {c : Caps} (hc : GoodC c) {p q : Nat} (h : edge c p q = true) : ∀ n r, reachF (edgesOf c) q n r = true → reachF (edgesOf c) p (n + 1) r = true
  | 0, r, hr => by
    have : r = q := by simpa [reachF] using hr
    subst this
    have hp := hc.edge.1 h
    have hm := hc.may p r hp
    have h1 := mayP_true hm.1
    have h2 := mayP_true hm.2
    obtain ⟨x, hx, e1, e2⟩ := (edge_mem (c := c) (a := p) (b := r) (by omega) (by omega)).2 hp
    exact reachF_succ.2 (.inr ⟨x, hx, by simp [reachF, e1], e2⟩)
  | n + 1, r, hr => by
    rcases reachF_succ.1 hr with h1 | ⟨x, hx, h2, h3⟩
    · exact reachF_succ.2 (.inl (reach_cons hc h n r h1))
    · exact reachF_succ.2 (.inr ⟨x, hx, reach_cons hc h n x.f h2, h3⟩)
theorem reach_ge {c : Caps} (hc : GoodC c) {t : Nat} {d : Nat → Nat} (hd : IsDist (edge c) t d) : ∀ k f, d f = k → k < 17 → reachF (edgesOf c) f k t = true
  | 0, f, h, _ => by rw [hd.zero h]; simp [reachF]
  | k + 1, f, h, hk => by
    have hne : f ≠ t := fun e => by subst e; have := hd.top; omega
    obtain ⟨q, hA, hq⟩ := hd.par f (by omega) hne
    exact reach_cons hc hA k t (reach_ge hc hd k q (by omega) (by omega))
theorem reach_iff {c : Caps} (hc : GoodC c) {t : Nat} {d : Nat → Nat} (hd : IsDist (edge c) t d) {f n : Nat} (hn : n < 17) : reachF (edgesOf c) f n t = decide (d f ≤ n) := by
  rw [Bool.eq_iff_iff, decide_eq_true_eq]
  constructor
  · intro h
    have := reach_le hc hd f n t h
    have := hd.top
    omega
  · intro h
    exact reachF_mono h (reach_ge hc hd (d f) f rfl (by omega))
theorem IsShort.eq {c : Caps} {f t : Nat} {L M : List Nat} (h : IsShort c f t L) (g : IsShort c f t M) : L = M := by
  rcases h with ⟨rfl, h⟩ | ⟨h1, h2, h3, d, hd, h17, hw⟩
  · rcases g with ⟨rfl, _⟩ | ⟨g1, g2, g3, e, he, g17, _⟩
    · rfl
    · rcases h with h | h | h | ⟨d, hd, h⟩
      · rw [g1] at h; cases h
      · rw [g2] at h; cases h
      · exact absurd h g3
      · rw [hd.eq he f] at h; omega
  · rcases g with ⟨rfl, g⟩ | ⟨_, _, _, e, he, g17, gw⟩
    · rcases g with h | h | h | ⟨e, he, h⟩
      · rw [h1] at h; cases h
      · rw [h2] at h; cases h
      · exact absurd h h3
      · rw [he.eq hd f] at h; omega
    · obtain rfl : d = e := funext (hd.eq he)
      exact hw.eq gw
theorem IsShort.le {c : Caps} {f t : Nat} {L : List Nat} (h : IsShort c f t L) : L.length ≤ 16 ∧ ∀ x ∈ L, x ≤ 16 := by
  rcases h with ⟨rfl, _⟩ | ⟨h1, h2, h3, d, hd, h17, hw⟩
  · exact ⟨by simp, fun x hx => by cases hx⟩
  · have hi := hd.ins f h17
    refine ⟨by have := hw.len; omega, fun x hx => ?_⟩
    obtain ⟨i, hi2⟩ := List.mem_iff_getElem?.1 hx
    have key : ∀ i x, L[i]? = some x → d x + i = d f := by
      intro i
      induction i with
      | zero => intro x hx; rw [hw.head] at hx; cases hx; rfl
      | succ i ih =>
        intro x hx
        have hi : i + 1 < L.length := by
          apply Classical.byContradiction
          intro hn
          rw [List.getElem?_eq_none (by omega)] at hx
          cases hx
        have hy : L[i]? = some L[i] := List.getElem?_eq_getElem (by omega)
        have h1 := ih _ hy
        have h2 := (hw.steps i _ x hy hx).good.1
        omega
    have := key i x hi2
    have := hd.ins x (by omega)
    omega
end Go.Proofs.Ytglehneaphigdaa
