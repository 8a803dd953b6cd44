/- GraphsPlay: part 8 of its proof: Bfs, Hops, Once, Party. -/
import Derived.Test.YtglehneaphigdaaGraphsPlayPart7
import Derived.Deep.LoopGhost
/- Distances by breadth: plain laws, with no program in sight. -/
namespace Go.Proofs.Ytglehneaphigdaa
set_option linter.unusedVariables false
/-- A value of one more place. -/
def updN {α : Type} (d : Nat → α) (p : Nat) (v : α) : Nat → α := fun q => if q = p then v else d q
/-- How many of the parties have no distance. -/
def und (d : Nat → Nat) : Nat := (List.range' 1 16).countP fun p => d p == 17
theorem countP_upd (d : Nat → Nat) (p v : Nat) (hv : v ≠ 17) (hd : d p = 17) : ∀ (l : List Nat), l.Nodup → l.countP (fun q => updN d p v q == 17) + (if p ∈ l then 1 else 0) = l.countP (fun q => d q == 17)
  | [], _ => by simp
  | x :: l, h => by
    have ih := countP_upd d p v hv hd l (List.nodup_cons.1 h).2
    have hx := (List.nodup_cons.1 h).1
    by_cases e : x = p
    · subst e
      have h1 : (updN d x v x == 17) = false := by simp [updN, hv]
      have h2 : (d x == 17) = true := by simp [hd]
      simp only [List.countP_cons, h1, h2]
      rw [if_neg hx] at ih
      simp
      omega
    · have e2 : updN d p v x = d x := by simp [updN, e]
      have hm : (p ∈ x :: l) ↔ p ∈ l := by
        rw [List.mem_cons]
        exact ⟨fun h => h.resolve_left (fun h => e h.symm), .inr⟩
      simp only [List.countP_cons, e2, hm]
      omega
theorem und_upd {d : Nat → Nat} {p v : Nat} (hv : v ≠ 17) (hd : d p = 17) (h1 : 1 ≤ p) (h2 : p ≤ 16) : und (updN d p v) + 1 = und d := by
  have := countP_upd d p v hv hd (List.range' 1 16) (List.nodup_range' ..)
  rw [if_pos (by rw [List.mem_range']; exact ⟨p - 1, by omega, by omega⟩)] at this
  exact this
theorem und_le (d : Nat → Nat) : und d ≤ 16 := by
  have := List.countP_le_length (p := fun p => d p == 17) (l := List.range' 1 16)
  simpa [und] using this
/-- The state ahead of a round: who has a distance, and who waits. -/
structure Bfs (A : Nat → Nat → Bool) (t : Nat) (d : Nat → Nat) (Q : List Nat) : Prop where
  top : d t = 0
  le : ∀ p, d p ≤ 17
  ins : ∀ p, d p < 17 → 1 ≤ p ∧ p ≤ 16
  qd : ∀ q ∈ Q, d q < 17
  near : ∀ q ∈ Q, ∀ p, d p < 17 → d p ≤ d q + 1
  sort : Q.Pairwise fun x y => d x ≤ d y
  closed : ∀ q, d q < 17 → q ∉ Q → ∀ p, A p q = true → d p ≤ d q + 1
  par : ∀ p, d p < 17 → p ≠ t → ∃ q, A p q = true ∧ d q + 1 = d p
  cnt : ∀ p, d p < 17 → d p + und d ≤ 15
/-- The state in the midst of a round: a is gone through, up to k. -/
structure BfsIn (A : Nat → Nat → Bool) (t : Nat) (d : Nat → Nat) (Q : List Nat) (a k : Nat) : Prop where
  top : d t = 0
  le : ∀ p, d p ≤ 17
  ins : ∀ p, d p < 17 → 1 ≤ p ∧ p ≤ 16
  qd : ∀ q ∈ Q, d q < 17
  near : ∀ q ∈ Q, ∀ p, d p < 17 → d p ≤ d q + 1
  sort : Q.Pairwise fun x y => d x ≤ d y
  ad : d a < 17
  nearA : ∀ p, d p < 17 → d p ≤ d a + 1
  sortA : ∀ q ∈ Q, d a ≤ d q
  closed : ∀ q, d q < 17 → q ∉ Q → q ≠ a → ∀ p, A p q = true → d p ≤ d q + 1
  part : ∀ p, p < k → A p a = true → d p ≤ d a + 1
  par : ∀ p, d p < 17 → p ≠ t → ∃ q, A p q = true ∧ d q + 1 = d p
  cnt : ∀ p, d p < 17 → d p + und d ≤ 15
section
variable {A : Nat → Nat → Bool} {t a k : Nat} {d : Nat → Nat} {Q : List Nat}
/-- No distance. -/
def farN : Nat → Nat := fun _ => 17
theorem farN_at (p : Nat) : farN p = 17 := rfl
theorem Bfs.start (h1 : 1 ≤ t) (h2 : t ≤ 16) : Bfs A t (updN farN t 0) [t] := by
  have hd : ∀ p, updN farN t 0 p < 17 → p = t := fun p hp => by
    unfold updN at hp
    split at hp
    · assumption
    · rw [farN_at] at hp; omega
  have hu : und (updN farN t 0) ≤ 15 := by
    have := und_upd (d := farN) (p := t) (v := 0) (by omega) rfl h1 h2
    have := und_le farN
    omega
  have ht : updN farN t 0 t = 0 := by simp [updN]
  have hle : ∀ p, updN farN t 0 p ≤ 17 := fun p => by
    unfold updN
    split
    · omega
    · rw [farN_at]; omega
  refine ⟨ht, hle, fun p hp => (by rw [hd p hp]; exact ⟨h1, h2⟩), fun q hq => (by simp at hq; subst hq; rw [ht]; omega), fun q hq p hp => (by rw [hd p hp, ht]; omega), List.pairwise_singleton _ _, fun q hq hn => ?_, fun p hp hn => absurd (hd p hp) hn, fun p hp => (by rw [hd p hp, ht]; omega)⟩
  rw [hd q hq] at hn
  simp at hn
theorem Bfs.pop (h : Bfs A t d (a :: Q)) (h0 : A 0 a = false) : BfsIn A t d Q a 1 :=
  ⟨h.top, h.le, h.ins, fun q hq => h.qd q (List.mem_cons_of_mem _ hq), fun q hq => h.near q (List.mem_cons_of_mem _ hq), (List.pairwise_cons.1 h.sort).2, h.qd a (List.mem_cons_self ..), h.near a (List.mem_cons_self ..), (List.pairwise_cons.1 h.sort).1,
    fun q hq hn hne => h.closed q hq (by simp [hne, hn]), fun p hp hA => (by
      obtain rfl : p = 0 := by omega
      rw [h0] at hA; cases hA), h.par, h.cnt⟩
theorem BfsIn.no (h : BfsIn A t d Q a k) (hk : ¬ (d k = 17 ∧ A k a = true)) : BfsIn A t d Q a (k + 1) :=
  ⟨h.top, h.le, h.ins, h.qd, h.near, h.sort, h.ad, h.nearA, h.sortA, h.closed, fun p hp hA => (by
      by_cases e : p = k
      · subst e
        have : d p ≠ 17 := fun e => hk ⟨e, hA⟩
        have := h.le p
        exact h.nearA p (by omega)
      · exact h.part p (by omega) hA), h.par, h.cnt⟩
theorem BfsIn.yes (h : BfsIn A t d Q a k) (hd : d k = 17) (hA : A k a = true) (h1 : 1 ≤ k) (h2 : k ≤ 16) : BfsIn A t (updN d k (d a + 1)) (Q ++ [k]) a (k + 1) ∧ und (updN d k (d a + 1)) + 1 = und d := by
  have hka : a ≠ k := fun e => by have := h.ad; rw [e] at this; omega
  have hca := h.cnt a h.ad
  have hu : und (updN d k (d a + 1)) + 1 = und d := und_upd (by omega) hd h1 h2
  have old : ∀ p, p ≠ k → updN d k (d a + 1) p = d p := fun p hp => by simp [updN, hp]
  have new : updN d k (d a + 1) k = d a + 1 := by simp [updN]
  have hqk : ∀ q ∈ Q, q ≠ k := fun q hq e => by have := h.qd q hq; rw [e] at this; omega
  have htk : t ≠ k := fun e => by have := h.top; rw [e] at this; omega
  refine ⟨⟨by rw [old t htk]; exact h.top, fun p => ?_, fun p hp => ?_, fun q hq => ?_, fun q hq p hp => ?_, ?_, by rw [old a hka]; exact h.ad, fun p hp => ?_, fun q hq => ?_, fun q hq hn hne p hAp => ?_, fun p hp hAp => ?_, fun p hp hne => ?_, fun p hp => ?_⟩, hu⟩
  · by_cases e : p = k
    · subst e; rw [new]; omega
    · rw [old p e]; exact h.le p
  · by_cases e : p = k
    · subst e; exact ⟨h1, h2⟩
    · rw [old p e] at hp; exact h.ins p hp
  · rcases List.mem_append.1 hq with hq | hq
    · rw [old q (hqk q hq)]; exact h.qd q hq
    · obtain rfl : q = k := by simpa using hq
      rw [new]; omega
  · have hp' : updN d k (d a + 1) p ≤ d a + 1 := by
      by_cases e : p = k
      · subst e; rw [new]; omega
      · rw [old p e] at hp ⊢; exact h.nearA p hp
    rcases List.mem_append.1 hq with hq | hq
    · rw [old q (hqk q hq)]
      have := h.sortA q hq
      omega
    · obtain rfl : q = k := by simpa using hq
      rw [new]; omega
  · rw [List.pairwise_append]
    refine ⟨?_, List.pairwise_singleton _ _, fun x hx y hy => ?_⟩
    · refine h.sort.imp_of_mem fun hx hy hxy => ?_
      rw [old _ (hqk _ hx), old _ (hqk _ hy)]; exact hxy
    · obtain rfl : y = k := by simpa using hy
      rw [old x (hqk x hx), new]
      exact h.nearA x (h.qd x hx)
  · rw [old a hka]
    by_cases e : p = k
    · subst e; rw [new]; omega
    · rw [old p e] at hp ⊢; exact h.nearA p hp
  · rw [old a hka]
    rcases List.mem_append.1 hq with hq | hq
    · rw [old q (hqk q hq)]; exact h.sortA q hq
    · obtain rfl : q = k := by simpa using hq
      rw [new]; omega
  · have hqk' : q ≠ k := fun e => hn (by simp [e])
    rw [old q hqk'] at hq ⊢
    have := h.closed q hq (fun hm => hn (by simp [hm])) hne p hAp
    by_cases e : p = k
    · subst e; rw [hd] at this; omega
    · rw [old p e]; exact this
  · rw [old a hka]
    by_cases e : p = k
    · subst e; rw [new]; omega
    · rw [old p e]; exact h.part p (by omega) hAp
  · by_cases e : p = k
    · subst e
      exact ⟨a, hA, by rw [old a hka, new]⟩
    · rw [old p e] at hp
      obtain ⟨q, hq, he⟩ := h.par p hp hne
      have hqk' : q ≠ k := fun e2 => by rw [e2, hd] at he; have := h.le p; omega
      exact ⟨q, hq, by rw [old q hqk', old p e]; exact he⟩
  · by_cases e : p = k
    · subst e; rw [new]; omega
    · rw [old p e] at hp ⊢
      have := h.cnt p hp
      omega
theorem BfsIn.done (h : BfsIn A t d Q a 17) (hA : ∀ p q, A p q = true → p ≤ 16) : Bfs A t d Q :=
  ⟨h.top, h.le, h.ins, h.qd, h.near, h.sort, fun q hq hn p hAp => (by
    by_cases e : q = a
    · subst e; exact h.part p (by have := hA p q hAp; omega) hAp
    · exact h.closed q hq hn e p hAp), h.par, h.cnt⟩
/-- Distances to t: each is reached over a neighbour one nearer; no neighbour is two nearer. -/
structure IsDist (A : Nat → Nat → Bool) (t : Nat) (d : Nat → Nat) : Prop where
  top : d t = 0
  le : ∀ p, d p ≤ 17
  ins : ∀ p, d p < 17 → 1 ≤ p ∧ p ≤ 16 ∧ d p ≤ 15
  step : ∀ p q, A p q = true → d p ≤ d q + 1
  par : ∀ p, d p < 17 → p ≠ t → ∃ q, A p q = true ∧ d q + 1 = d p
theorem Bfs.dist (h : Bfs A t d []) : IsDist A t d :=
  ⟨h.top, h.le, fun p hp => ⟨(h.ins p hp).1, (h.ins p hp).2, by have := h.cnt p hp; omega⟩, fun p q hA => (by
    by_cases hq : d q < 17
    · exact h.closed q hq (by simp) p hA
    · have := h.le p; omega), h.par⟩
/-- There is one such table alone. -/
theorem IsDist.eq {d e : Nat → Nat} (h : IsDist A t d) (g : IsDist A t e) : ∀ p, d p = e p := by
  have one : ∀ {d e : Nat → Nat}, IsDist A t d → IsDist A t e → ∀ n p, e p = n → n < 17 → d p ≤ n := by
    intro d e h g n
    induction n with
    | zero =>
      intro p hp _
      by_cases e1 : p = t
      · subst e1; rw [h.top]; omega
      · obtain ⟨q, _, hq⟩ := g.par p (by omega) e1
        omega
    | succ n ih =>
      intro p hp hn
      by_cases e1 : p = t
      · subst e1; rw [h.top]; omega
      · obtain ⟨q, hA, hq⟩ := g.par p (by omega) e1
        have := ih q (by omega) (by omega)
        have := h.step p q hA
        omega
  intro p
  have h1 := h.le p
  have h2 := g.le p
  by_cases hd : d p < 17
  · have a1 := one g h (d p) p rfl hd
    by_cases he : e p < 17
    · have := one h g (e p) p rfl he; omega
    · omega
  · by_cases he : e p < 17
    · have := one h g (e p) p rfl he; omega
    · omega
end
end Go.Proofs.Ytglehneaphigdaa

/- paths.hops: distances by breadth. -/
namespace Go.Proofs.Ytglehneaphigdaa
open Go.RowKit
set_option linter.unusedSimpArgs false
set_option linter.unusedVariables false
theorem cell_int : CellTy 3 := ⟨⟨_, Try.underlying3, rfl⟩, by kernel_rfl⟩
theorem slP : SlTy Try.prog 67 33 1 1 (.int .u8 0) := slTy_mk Try.underlying67 (by kernel_rfl) rfl (by decide)
theorem bs_party : Try.prog.underlying 67 = some (.slice 33) ∧ (Try.prog.info? 33).map (fun i => (i.size, i.zero)) = some (1, some (.int .u8 0)) := ⟨Try.underlying67, by kernel_rfl⟩
theorem row_17i : RowTy 74 17 (row17 fun _ => 0) := ⟨⟨_, Try.underlying74, rfl⟩, by kernel_rfl, by kernel_rfl⟩
theorem row17_get (r : Nat → Int) {i : Nat} (h : i < 17) : (row17 r)[i]? = some (.int .i64 (r i)) := tab_get _ h
theorem row17_set (r : Nat → Int) {i : Nat} (h : i < 17) (v : Int) : (row17 r).setIfInBounds i (.int .i64 v) = row17 (updN r i v) := by
  unfold row17
  rw [tab_set _ _ h]
  apply tab_congr
  intro j hj
  unfold updN
  split <;> rfl
theorem row17_ext {r s : Nat → Int} (h : ∀ i, i < 17 → r i = s i) : row17 r = row17 s := by
  unfold row17
  exact tab_congr fun i hi => by rw [h i hi]
/-- The distances' cells. -/
def dist17 (d : Nat → Nat) : Array Value := row17 fun i => (d i : Int)
theorem dist17_sz (d : Nat → Nat) : (dist17 d).size = 17 := row17_sz _
theorem dist17_get (d : Nat → Nat) {i : Nat} (h : i < 17) : (dist17 d)[i]? = some (.int .i64 (d i : Int)) := row17_get _ h
theorem dist17_upd (d : Nat → Nat) (k v : Nat) : row17 (updN (fun i => (d i : Int)) k (v : Int)) = dist17 (updN d k v) := by
  unfold dist17
  apply row17_ext
  intro i _
  unfold updN
  split <;> rfl
theorem dist17_set (d : Nat → Nat) {k : Nat} (h : k < 17) (a : Nat) : (dist17 d).setIfInBounds k (.int .i64 ((d a : Int) + 1)) = dist17 (updN d k (d a + 1)) := by
  unfold dist17
  rw [row17_set _ h, show ((d a : Int) + 1) = ((d a + 1 : Nat) : Int) by omega]
  exact dist17_upd _ _ _
theorem dist17_all (d : Nat → Nat) : (dist17 d).extract 0 (0 + 17) = dist17 d := row17_all _
def pv (p : Nat) : Value := .int .u8 (p : Int)
theorem pv_ones (p : Nat) : ∀ v ∈ [Value.int .u8 (p : Int)], v.cells = #[v] := by intro v hv; simp at hv; subst hv; rfl
theorem pv_one (p : Nat) : OneCells [Value.int .u8 (p : Int)] := by intro v hv; simp at hv; subst hv; rfl
/-- May something go from p to q? -/
def edge (c : Caps) (p q : Nat) : Bool := decide (0 < capOf c p q)
theorem edge_le {c : Caps} {p q : Nat} (h : edge c p q = true) : (1 ≤ p ∧ p ≤ 16) ∧ 1 ≤ q ∧ q ≤ 16 := by
  unfold edge capOf at h
  by_cases hm : mayP p ∧ mayP q
  · exact ⟨mayP_true hm.1, mayP_true hm.2⟩
  · rw [if_neg hm] at h; simp at h
theorem dist17_cells (d : Nat → Nat) : Cells 17 (dist17 d) := row17_cells _
theorem dist17_splice (r : Nat → Int) (d : Nat → Nat) : splice (row17 r) 0 (dist17 d) = dist17 d := splice_all (by rw [row17_sz, dist17_sz])
/-- What a graph's value (nil too) has, whatever else there is. -/
def CapsOf (W : World) (l : List Thing) (gv : Value) (c : Caps) : Prop := ∀ (l' : List Thing) (a b : Nat), (∀ x ∈ l, x ∈ l') → a ≤ 255 → b ≤ 255 → AnsH W l' 21 #[gv, .int .u8 (a : Int), .int .u8 (b : Int)] (.int .i64 (capOf c a b))
theorem CapsOf.gr {W : World} {l : List Thing} {p : Nat} {c : Caps} (h : Gr p c ∈ l) : CapsOf W l (.pointer (some ⟨p, 0, none⟩)) c := fun _ a b hs ha hb => cap_H a b ha hb (hs _ h)
theorem CapsOf.nil {W : World} {l : List Thing} : CapsOf W l (.pointer none) (fun _ _ => 0) := fun l' a b _ ha hb => by
  have e : capOf (fun _ _ => 0) a b = 0 := by unfold capOf; split <;> rfl
  rw [e]
  exact (cap_nil a b ha hb).toH
theorem CapsOf.wide {W : World} {l l' : List Thing} {gv : Value} {c : Caps} (h : CapsOf W l gv c) (hs : ∀ x ∈ l, x ∈ l') : CapsOf W l' gv c := fun _ a b h2 ha hb => h _ a b (fun x hx => h2 x (hs x hx)) ha hb
theorem cap_call {W w : World} {l l' : List Thing} {gv : Value} {c : Caps} {a b : Nat} {R : Ending → World → Prop} (h : CapsOf W l gv c) (H : Heap W l' w) (ha : a ≤ 255) (hb : b ≤ 255) (hs : ∀ x ∈ l, x ∈ l') (k : ∀ w', Heap W l' w' → R (.returned (.int .i64 (capOf c a b))) w') : Calls Try.prog 21 #[gv, .int .u8 (a : Int), .int .u8 (b : Int)] w R := (h l' a b hs ha hb).call H k
theorem capOf_zero (c : Caps) (q : Nat) : capOf c 0 q = 0 := by
  unfold capOf
  rw [if_neg]
  rintro ⟨h, _⟩
  have := mayP_true h
  omega
theorem edge_yes {c : Caps} {p q : Nat} (h : 0 < capOf c p q) : edge c p q = true := by simp [edge, h]
theorem edge_no {c : Caps} {p q : Nat} (h : ¬ 0 < capOf c p q) : edge c p q = false := by simp only [edge, h]; rfl
theorem Rd.head {w : World} {g o : Nat} {v : Value} {xs : List Value} (h : Rd w (some ⟨g, o, none⟩) (v :: xs)) : w.cell? ⟨g, o, none⟩ = some v := by
  obtain ⟨b, o', he, hc⟩ := h 0 (by simp)
  cases he
  exact hc
theorem OwnT.form0 {w : World} {e size n : Nat} {v : Value} {xs : List Value} (h : (OwnT e size v n xs).ok w) : ∃ a c, v = .slice a n c := by
  obtain ⟨_, ⟨hv, hn⟩ | ⟨g, off, cap, cur, hv, _⟩⟩ := h
  · exact ⟨none, 0, by rw [hv, hn]⟩
  · exact ⟨_, _, hv⟩
/-- Amid the round of a: what stands ahead of party k. -/
structure HopsIn (W : World) (l : List Thing) (c : Caps) (t pr po a m : Nat) (v i : Value) (w2 : World) : Prop where
  out : ∃ k d Q, i = .int .u8 ((k : Nat) : Int) ∧ 1 ≤ k ∧ k ≤ 17 ∧ BfsIn (edge c) t d Q a k ∧ 2 * und d + Q.length + 1 ≤ m ∧ Heap W (OwnT 33 1 v Q.length (Q.map pv) :: Cel po (dist17 d) 74 :: Cel pr (row17 fun _ => 0) 74 :: l) w2
def HopsPost (W : World) (l : List Thing) (c : Caps) (t : Nat) (e : Ending) (w' : World) : Prop := ∃ d, IsDist (edge c) t d ∧ e = .returned (.agg (dist17 d)) ∧ Heap W l w'
section
variable {W w : World} {l : List Thing} {gv : Value} {c : Caps}
set_option maxRecDepth 100000
set_option maxHeartbeats 2000000
theorem hops_H (t : Nat) (h1 : 1 ≤ t) (h2 : t ≤ 16) (h : CapsOf W l gv c) (H : Heap W l w) : Calls Try.prog 64 #[gv, .int .u8 (t : Int)] w (HopsPost W l c t) := by
  have ht : t < 17 := by omega
  go_enter Try.func64, Try.ntmps64
  have tok1 : True := trivial
  go_wp2_with (first | go_skip | (have _t := tok1; ((with_reducible show wpList _ _ _ (_ :: _) _ _); (with_reducible apply wpl_allocRH row_17i); (· rfl); (· exact H); (clear H; intro pr _ H); (simp only [Act.put, List.setIfInBounds_toArray, List.set_cons_zero, List.set_cons_succ])); clear tok1 _t) | ((with_reducible show wpList _ _ _ (_ :: _) _ _); (with_reducible apply wpl_allocRH row_17i); (· rfl); (· exact H); (clear H; intro po _ H); (simp only [Act.put, List.setIfInBounds_toArray, List.set_cons_zero, List.set_cons_succ])))
  go_loopw [10] (fun i wr => ∃ k : Nat, k ≤ 17 ∧ i = .int .i64 k ∧ Heap W (Cel po (row17 fun i => if i < k then 17 else 0) 74 :: Cel pr (row17 fun _ => 0) 74 :: l) wr) (fun i _ => 17 - (intOf i).toNat)
  case atStart => exact ⟨0, by omega, rfl, by simpa using H⟩
  case round =>
    obtain ⟨k, hk, rfl, H'⟩ := hrel
    clear H
    have H := H'
    clear H'
    by_cases hlt : k < 17
    · go_wp2_with (first | go_skip | ((with_reducible show wpList _ _ _ (_ :: _) _ _); (with_reducible apply wpl_storeIH); (· exact cell_int); (· rfl); (· rfl); (· rfl); (· exact H); (· (repeat (first | (with_reducible exact List.mem_cons_self) | with_reducible apply List.mem_cons_of_mem))); (· (rw [row17_sz]; omega)); (· exact row17_set _ hlt _); (· (repeat (first | (with_reducible exact Repl.here) | with_reducible apply Repl.there))); (clear H; intro _ H); (simp only [Act.put, List.setIfInBounds_toArray, List.set_cons_zero, List.set_cons_succ])))
      go_roundw
      case rel =>
        refine ⟨k + 1, by omega, by go_num, ?_⟩
        have e : row17 (updN (fun i => if i < k then (17 : Int) else 0) k 17) = row17 fun i => if i < k + 1 then 17 else 0 := by
          apply row17_ext
          intro i hi
          unfold updN
          by_cases e1 : i = k
          · subst e1; simp
          · by_cases e2 : i < k
            · have e3 : i < k + 1 := by omega
              simp [e1, e2, e3]
            · have e3 : ¬ i < k + 1 := by omega
              simp [e1, e2, e3]
        rw [← e]
        exact H
      case measure => simp [intOf]; omega
    · obtain rfl : k = 17 := by omega
      rw [show row17 (fun i => if i < 17 then (17 : Int) else 0) = dist17 farN from row17_ext fun i hi => by rw [if_pos hi]; rfl] at H
      unfold dist17 at H
      go_wp2_with (first
        | go_skip
        | ((with_reducible show wpList _ _ _ (_ :: _) _ _); (with_reducible apply wpl_storeIH); (· exact cell_int); (· rfl); (· rfl); (· rfl); (· exact H); (· (repeat (first | (with_reducible exact List.mem_cons_self) | with_reducible apply List.mem_cons_of_mem))); (· (rw [row17_sz]; omega)); (· exact row17_set _ ht _); (· (repeat (first | (with_reducible exact Repl.here) | with_reducible apply Repl.there))); (clear H; intro _ H); (simp only [Act.put, List.setIfInBounds_toArray, List.set_cons_zero, List.set_cons_succ]))
        | ((with_reducible show wpList _ _ _ (_ :: _) _ _); (with_reducible apply wpl_bsOnes _ [.int .u8 (t : Int)]); (· rfl); (· rfl); (· rfl); (· decide); (· decide); (· exact pv_ones t); (· exact bs_party); (· rfl); (· exact H); (clear H; intro pq _ H); (simp only [Act.put, List.setIfInBounds_toArray, List.set_cons_zero, List.set_cons_succ])))
      have H0 := H.celOwn (n := 1) (size := 1) rfl (by unfold maxLen; omega)
      clear H
      rw [show (updN (fun i => ((farN i : Nat) : Int)) t 0) = (updN (fun i => ((farN i : Nat) : Int)) t ((0 : Nat) : Int)) from rfl, dist17_upd] at H0
      have hst := Bfs.start (A := edge c) h1 h2
      go_loopg [7] 33 (fun m v wr => ∃ d Q, Bfs (edge c) t d Q ∧ 2 * und d + Q.length ≤ m ∧ m ≤ 33 ∧ Heap W (OwnT 33 1 v Q.length (Q.map pv) :: Cel po (dist17 d) 74 :: Cel pr (row17 fun _ => 0) 74 :: l) wr)
      case atStart => exact ⟨_, [t], hst, by have := und_le (updN farN t 0); simp; omega, by omega, H0⟩
      case round =>
        obtain ⟨d, Q, hB, hm, hm33, H'⟩ := hrel
        clear H0 hst
        have H := H'
        clear H'
        cases Q with
        | nil =>
          have hlen : ∃ a c, u7 = .slice a 0 c := OwnT.form0 (H.ok _ List.mem_cons_self)
          obtain ⟨ao, cp, rfl⟩ := hlen
          replace H := H.tail
          go_wp2_with (first
            | go_skip
            | ((with_reducible show wpList _ _ _ (_ :: _) _ _); (with_reducible apply wpl_loadRH row_17i); (· rfl); (· rfl); (· exact H); (· (repeat (first | (with_reducible exact List.mem_cons_self) | with_reducible apply List.mem_cons_of_mem))); (· (simp only [dist17_sz, Nat.reduceAdd, Nat.reduceLeDiff, Nat.le_refl]; done)); (· with_reducible exact dist17_all ..); (simp only [Act.put, List.setIfInBounds_toArray, List.set_cons_zero, List.set_cons_succ]))
            | ((with_reducible show wpList _ _ _ (_ :: _) _ _); (with_reducible apply wpl_storeRH row_17i); (· rfl); (· rfl); (· rfl); (· with_reducible exact dist17_cells ..); (· exact H); (· (repeat (first | (with_reducible exact List.mem_cons_self) | with_reducible apply List.mem_cons_of_mem))); (· (simp only [row17_sz, Nat.reduceAdd, Nat.reduceLeDiff, Nat.le_refl]; done)); (· with_reducible exact dist17_splice ..); (· (repeat (first | (with_reducible exact Repl.here) | with_reducible apply Repl.there))); (clear H; intro _ H); (simp only [Act.put, List.setIfInBounds_toArray, List.set_cons_zero, List.set_cons_succ])))
          exact ret_row1H row_17i rfl rfl rfl H (by (repeat (first | (with_reducible exact List.mem_cons_self) | with_reducible apply List.mem_cons_of_mem))) (dist17_sz _) ⟨d, hB.dist, rfl, H.tail.tail⟩
        | cons a Q' =>
          have hlenQ : (a :: Q').length = Q'.length + 1 := rfl
          obtain ⟨g, o, cp, rfl, hnc, hcm⟩ := OwnT.form (H.ok _ List.mem_cons_self) (by simp)
          have ha17 : d a < 17 := hB.qd a List.mem_cons_self
          have hap := hB.ins a ha17
          have hc0 : wr.cell? ⟨g, o, none⟩ = some (.int .u8 (a : Int)) := (H.ownRd List.mem_cons_self).head
          have hap17 : a < 17 := by omega
          have hn1' : 1 ≤ (a :: Q').length := by simp
          go_wp2_with (first
            | go_skip
            | ((with_reducible show wpList _ _ _ (_ :: _) _ _); (with_reducible apply wpl_loadCell cell_party); (· rfl); (· rfl); (· exact hc0); (simp only [Act.put, List.setIfInBounds_toArray, List.set_cons_zero, List.set_cons_succ]))
            | ((with_reducible show wpList _ _ _ (_ :: _) _ _); (with_reducible apply wpl_cut1 slP); (· rfl); (· rfl); (· exact hn1'); (simp only [Act.put, List.setIfInBounds_toArray, List.set_cons_zero, List.set_cons_succ])))
          have hpop := hB.pop (show edge c 0 a = false from edge_no (by rw [capOf_zero]; omega))
          have H0 := H.ownTail hn1'
          clear H
          have H0' : Heap W (OwnT 33 1 (.slice (cutA (some ⟨g, o, none⟩) cp 1 1) ((a :: Q').length - 1) (cp - 1)) Q'.length (Q'.map pv) :: Cel po (dist17 d) 74 :: Cel pr (row17 fun _ => 0) 74 :: l) wr := H0
          clear H0
          have hm' : 2 * und d + Q'.length + 1 ≤ gk := by rw [hlenQ] at hm; omega
          clear hm hB
          go_loopw [7, 9] (HopsIn W l c t pr po a gk) (fun _ i _ => 17 - (intOf i).toNat)
          case atStart => exact ⟨⟨1, d, Q', rfl, by omega, by omega, hpop, hm', H0'⟩⟩
          case round =>
            obtain ⟨k, d2, Q2, rfl, hk1, hk17, hI, hm2, H'⟩ := hrel.out
            clear H0' hpop hm' hc0
            have H := H'
            clear H'
            by_cases hlt : k < 17
            · have hka : k ≤ 255 := by omega
              have haa : a ≤ 255 := by omega
              have hd17 := hI.le k
              have hda := hI.ad
              have hQn : Q2.length + 1 ≤ maxLen := by unfold maxLen; omega
              have hQb : (Q2.length + 1) * 1 ≤ 140737488355328 := by omega
              by_cases hd : d2 k = 17
              · have f1 : ((d2 k : Int) == 17) = true := by rw [hd]; rfl
                have f2 : decide ((d2 k : Int) = 17) = true := by rw [hd]; rfl
                by_cases hA : 0 < capOf c k a
                · have HI := Lib.hid (hI.yes hd (edge_yes hA) hk1 (by omega))
                  clear hI
                  go_wp2_with (first
                    | go_skip
                    | ((with_reducible show wpList _ _ _ (_ :: _) _ _); (with_reducible apply wpl_loadCH); (· exact cell_int); (· rfl); (· rfl); (· exact H); (· (repeat (first | (with_reducible exact List.mem_cons_self) | with_reducible apply List.mem_cons_of_mem))); (· (first | exact dist17_get _ hlt | exact dist17_get _ hap17)); (simp only [Act.put, List.setIfInBounds_toArray, List.set_cons_zero, List.set_cons_succ]))
                    | ((with_reducible apply cap_call h H); (· exact hka); (· exact haa); (· exact fun x hx => List.mem_cons_of_mem _ (List.mem_cons_of_mem _ (List.mem_cons_of_mem _ hx))); (clear H; intro _ H))
                    | ((with_reducible show wpList _ _ _ (_ :: _) _ _); (with_reducible apply wpl_storeIH); (· exact cell_int); (· rfl); (· rfl); (· rfl); (· exact H); (· (repeat (first | (with_reducible exact List.mem_cons_self) | with_reducible apply List.mem_cons_of_mem))); (· (rw [dist17_sz]; omega)); (· exact dist17_set _ hlt _); (· (repeat (first | (with_reducible exact Repl.here) | with_reducible apply Repl.there))); (clear H; intro _ H); (simp only [Act.put, List.setIfInBounds_toArray, List.set_cons_zero, List.set_cons_succ]))
                    | ((with_reducible show wpList _ _ _ (_ :: _) _ _); (with_reducible apply wpl_bsOnes _ [.int .u8 (k : Int)]); (· rfl); (· rfl); (· rfl); (· decide); (· decide); (· exact pv_ones k); (· exact bs_party); (· rfl); (· exact H); (clear H; intro pk _ H); (simp only [Act.put, List.setIfInBounds_toArray, List.set_cons_zero, List.set_cons_succ]))
                    | ((with_reducible show wpList _ _ _ (_ :: _) _ _); (with_reducible apply wpl_appendO slP); (· rfl); (· rfl); (· rfl); (· rfl); (· exact H.perm (.swap _ _ _)); (· exact H.celRd List.mem_cons_self); (· rfl); (· exact pv_one k); (· exact hQn); (· exact hQb); (clear H; intro v2 _ H); (simp only [Act.put, List.setIfInBounds_toArray, List.set_cons_zero, List.set_cons_succ])))
                  go_roundw
                  case rel =>
                    refine ⟨⟨k + 1, _, Q2 ++ [k], by go_num, by omega, by omega, HI.out.1, by have := HI.out.2; simp only [List.length_append, List.length_singleton]; omega, ?_⟩⟩
                    have H2 := H.drop (.there .here)
                    rw [List.length_append, List.map_append]
                    exact H2
                  case measure => simp [intOf]; omega
                · have HI := Lib.hid (hI.no (by rw [edge_no hA]; simp))
                  clear hI
                  go_wp2_with (first
                    | go_skip
                    | ((with_reducible show wpList _ _ _ (_ :: _) _ _); (with_reducible apply wpl_loadCH); (· exact cell_int); (· rfl); (· rfl); (· exact H); (· (repeat (first | (with_reducible exact List.mem_cons_self) | with_reducible apply List.mem_cons_of_mem))); (· (first | exact dist17_get _ hlt | exact dist17_get _ hap17)); (simp only [Act.put, List.setIfInBounds_toArray, List.set_cons_zero, List.set_cons_succ]))
                    | ((with_reducible apply cap_call h H); (· exact hka); (· exact haa); (· exact fun x hx => List.mem_cons_of_mem _ (List.mem_cons_of_mem _ (List.mem_cons_of_mem _ hx))); (clear H; intro _ H)))
                  refine ⟨?_, ?measure⟩
                  · (repeat apply Exists.intro)
                    refine ⟨?rel, rfl⟩
                    case rel => exact ⟨⟨k + 1, d2, Q2, by go_num, by omega, by omega, HI.out, hm2, H⟩⟩
                  case measure => simp [intOf]; omega
              · have HI := Lib.hid (hI.no (fun h => hd h.1))
                clear hI
                have f0 : ¬ (d2 k : Int) = 17 := by omega
                have f1 : ((d2 k : Int) == 17) = false := by simp [f0]
                have f2 : decide ((d2 k : Int) = 17) = false := by simp [f0]
                go_wp2_with (first
                    | go_skip
                    | ((with_reducible show wpList _ _ _ (_ :: _) _ _); (with_reducible apply wpl_loadCH); (· exact cell_int); (· rfl); (· rfl); (· exact H); (· (repeat (first | (with_reducible exact List.mem_cons_self) | with_reducible apply List.mem_cons_of_mem))); (· (first | exact dist17_get _ hlt | exact dist17_get _ hap17)); (simp only [Act.put, List.setIfInBounds_toArray, List.set_cons_zero, List.set_cons_succ]))
                    | ((with_reducible apply cap_call h H); (· exact hka); (· exact haa); (· exact fun x hx => List.mem_cons_of_mem _ (List.mem_cons_of_mem _ (List.mem_cons_of_mem _ hx))); (clear H; intro _ H)))
                go_roundw
                case rel => exact ⟨⟨k + 1, d2, Q2, by go_num, by omega, by omega, HI.out, hm2, H⟩⟩
                case measure => simp [intOf]; omega
            · obtain rfl : k = 17 := by omega
              have HI := Lib.hid (hI.done (fun p q h => (edge_le h).1.2))
              clear hI
              go_wp2_with (go_skip)
              go_roundg (gk - 1)
              case measure => omega
              case rel => exact ⟨d2, Q2, HI.out, by omega, by omega, H⟩
end
end Go.Proofs.Ytglehneaphigdaa

/- paths.search: once through all edges. -/
namespace Go.Proofs.Ytglehneaphigdaa
open Go.RowKit
set_option linter.unusedSimpArgs false
set_option linter.unusedVariables false
/-- An edge with a cost. -/
structure Edg where
  f : Nat
  t : Nat
  c : Int
def edgV (x : Edg) : List Value := [.int .u8 (x.f : Int), .int .u8 (x.t : Int), .int .i8 x.c]
def edgL (F : List Edg) : List Value := F.flatMap edgV
theorem edgL_len (F : List Edg) : (edgL F).length = F.length * 3 := by
  induction F with
  | nil => rfl
  | cons x F ih => simp only [edgL, List.flatMap_cons, List.length_append] at *; rw [ih]; simp [edgV, Nat.add_mul]; omega
theorem edgL_at (F : List Edg) (i : Nat) (h : i < F.length) : ((edgL F).drop (i * 3)).take 3 = edgV F[i] := by
  induction F generalizing i with
  | nil => simp at h
  | cons x F ih =>
    rcases i with _ | i
    · simp [edgL, edgV]
    · have : (i + 1) * 3 = 3 + i * 3 := by omega
      rw [this, ← List.drop_drop]
      simp only [List.length_cons] at h
      have := ih i (by omega)
      simpa [edgL, edgV] using this
theorem edgL_app (F G : List Edg) : edgL (F ++ G) = edgL F ++ edgL G := by simp [edgL]
/-- Such as can be. -/
def EdgOk (x : Edg) : Prop := x.f ≤ 255 ∧ x.t ≤ 255 ∧ -128 ≤ x.c ∧ x.c ≤ 127
def edg (f : Int) (t : Int) (c : Int) : Array Value := #[.int .u8 f, .int .u8 t, .int .i8 c]
section
variable (f : Int) (t : Int) (c : Int)
theorem edg_sz : (edg f t c).size = 3 := rfl
theorem edg_g0 : (edg f t c)[0]? = some (.int .u8 f) := rfl
theorem edg_s0 (v : Int) : (edg f t c).setIfInBounds 0 (.int .u8 v) = edg v t c := rfl
theorem edg_g1 : (edg f t c)[1]? = some (.int .u8 t) := rfl
theorem edg_s1 (v : Int) : (edg f t c).setIfInBounds 1 (.int .u8 v) = edg f v c := rfl
theorem edg_g2 : (edg f t c)[2]? = some (.int .i8 c) := rfl
theorem edg_s2 (v : Int) : (edg f t c).setIfInBounds 2 (.int .i8 v) = edg f t v := rfl
end
theorem edg_all (f t c : Int) : (edg f t c).extract 0 (0 + 3) = edg f t c := by simp [edg]
theorem edg_cells (f t c : Int) : Cells 3 (edg f t c) := ⟨rfl, by simp [edg, Value.oneCell']⟩
theorem edg_splice (a b d f t c : Int) : splice (edg a b d) 0 (edg f t c) = edg f t c := splice_all rfl
theorem row_edg : RowTy 64 3 (edg 0 0 0) := ⟨⟨_, Try.underlying64, rfl⟩, by kernel_rfl, by kernel_rfl⟩
theorem cell_i8 : CellTy 62 := ⟨⟨_, Try.underlying62, rfl⟩, by kernel_rfl⟩
/-- A search's cells: distances, and who is ahead. -/
def sr (D : Nat → Int) (P : Nat → Nat) : Array Value := tab 34 fun i => if i < 17 then .int .i64 (D i) else .int .u8 (P (i - 17) : Int)
theorem sr_sz (D : Nat → Int) (P : Nat → Nat) : (sr D P).size = 34 := tab_size ..
theorem sr_getD (D : Nat → Int) (P : Nat → Nat) {i : Nat} (h : i < 17) : (sr D P)[i]? = some (.int .i64 (D i)) := by
  unfold sr
  rw [tab_get _ (by omega), if_pos h]
theorem sr_getP (D : Nat → Int) (P : Nat → Nat) {i : Nat} (h : i < 17) : (sr D P)[17 + i]? = some (.int .u8 (P i : Int)) := by
  unfold sr
  rw [tab_get _ (by omega), if_neg (by omega), Nat.add_sub_cancel_left]
theorem sr_setD (D : Nat → Int) (P : Nat → Nat) {i : Nat} (h : i < 17) (v : Int) : (sr D P).setIfInBounds i (.int .i64 v) = sr (updN D i v) P := by
  unfold sr
  rw [tab_set _ _ (by omega)]
  apply tab_congr
  intro j hj
  unfold updN
  by_cases e : j = i
  · subst e; rw [if_pos rfl, if_pos h, if_pos rfl]
  · rw [if_neg e]
    by_cases e2 : j < 17
    · rw [if_pos e2, if_pos e2, if_neg e]
    · rw [if_neg e2, if_neg e2]
theorem sr_setP (D : Nat → Int) (P : Nat → Nat) {i : Nat} (h : i < 17) (v : Nat) : (sr D P).setIfInBounds (17 + i) (.int .u8 (v : Int)) = sr D (updN P i v) := by
  unfold sr
  rw [tab_set _ _ (by omega)]
  apply tab_congr
  intro j hj
  unfold updN
  by_cases e : j = 17 + i
  · subst e; rw [if_pos rfl, if_neg (by omega), if_pos (by omega)]
  · rw [if_neg e]
    by_cases e2 : j < 17
    · rw [if_pos e2, if_pos e2]
    · rw [if_neg e2, if_neg e2, if_neg (by omega)]
/-- What is known amid a search. -/
structure Srch where
  D : Nat → Int
  P : Nat → Nat
  last : Nat
def relax (s : Srch) (e : Edg) : Srch := if s.D e.f + e.c < s.D e.t then ⟨updN s.D e.t (s.D e.f + e.c), updN s.P e.t e.f, e.t⟩ else s
def onceS (F : List Edg) (s : Srch) : Srch := F.foldl relax ⟨s.D, s.P, 0⟩
theorem relax_yes {s : Srch} {e : Edg} (h : s.D e.f + e.c < s.D e.t) : relax s e = ⟨updN s.D e.t (s.D e.f + e.c), updN s.P e.t e.f, e.t⟩ := if_pos h
theorem relax_no {s : Srch} {e : Edg} (h : ¬ s.D e.f + e.c < s.D e.t) : relax s e = s := if_neg h
/-- Distances within a bound. -/
def Bnd (B : Nat) (s : Srch) : Prop := ∀ i, -(B : Int) ≤ s.D i ∧ s.D i ≤ 0
theorem Bnd.relax {B : Nat} {s : Srch} {e : Edg} (h : Bnd B s) (hc : -128 ≤ e.c) : Bnd (B + 128) (relax s e) := by
  intro i
  unfold Proofs.Ytglehneaphigdaa.relax
  have hi := h i
  have hf := h e.f
  have ht := h e.t
  split
  · simp only [updN]
    split
    · omega
    · omega
  · omega
def OnceLoop (W : World) (l : List Thing) (p : Nat) (F : List Edg) (s0 : Srch) (B en : Nat) (v i : Value) (wr : World) : Prop :=
  ∃ (k : Nat) (s : Srch), k ≤ en ∧ i = .int .i64 k ∧ v = .int .u8 (s.last : Int) ∧ onceS F s0 = (F.drop k).foldl relax s ∧ Bnd (B + 128 * k) s ∧ Heap W (Cel p (sr s.D s.P) 108 :: l) wr
section
variable {W w : World} {l : List Thing}
set_option maxRecDepth 100000
set_option maxHeartbeats 4000000
theorem once_H (p : Nat) (ea : Option Addr) (en ec : Nat) (F : List Edg) (hl : F.length = en) (hF : ∀ x ∈ F, x.f < 17 ∧ x.t < 17 ∧ -128 ≤ x.c ∧ x.c ≤ 127) (R : ∀ w', Heap W l w' → Rd w' ea (edgL F)) (s0 : Srch) (B : Nat) (hB : Bnd B s0) (hBn : B + 128 * en ≤ 1000000000000)
    (H : Heap W (Cel p (sr s0.D s0.P) 108 :: l) w) :
    Calls Try.prog 58 #[.pointer (some ⟨p, 0, none⟩), .slice ea en ec] w fun e w' => e = .returned (.int .u8 ((onceS F s0).last : Int)) ∧ Heap W (Cel p (sr (onceS F s0).D (onceS F s0).P) 108 :: l) w' := by
  have HL := Lib.hid hl
  have HF := Lib.hid hF
  have HR := Lib.hid R
  have HB := Lib.hid hB
  clear hl hF R hB
  go_enter Try.func58, Try.ntmps58
  go_wp2_with (go_skip)
  have H0 := H
  clear H
  go_loopw [5, 11] (fun v i wr => OnceLoop W l p F s0 B en v i wr) (fun _ i _ => en - (intOf i).toNat)
  case atStart => exact ⟨0, ⟨s0.D, s0.P, 0⟩, Nat.zero_le _, rfl, rfl, rfl, HB.out, H0⟩
  case round =>
    obtain ⟨k, s, hk, rfl, rfl, hG, hb, H'⟩ := hrel
    clear H0
    have H := H'
    clear H'
    by_cases hlt : k < en
    · have hkF : k < F.length := by rw [HL.out]; exact hlt
      have hok := HF.out F[k] (List.getElem_mem hkF)
      have hat := edgL_at F k hkF
      have hlen : k * 3 + 3 ≤ (edgL F).length := by rw [edgL_len]; omega
      rw [List.drop_eq_getElem_cons hkF, List.foldl_cons] at hG
      generalize F[k] = x at *
      have hb2 := hb.relax (e := x) hok.2.2.1
      obtain ⟨a, b, n⟩ := x
      obtain ⟨h1, h2, h3, h4⟩ := hok
      simp only at h1 h2 h3 h4
      have hrow : (((edgL F).drop (k * 3)).take 3).toArray = edg a b n := by rw [hat]; rfl
      obtain ⟨eb, eo, rfl, _⟩ := (HR.out _ H.tail).lt (by omega)
      have HG := Lib.hid hG
      have HB2 := Lib.hid hb2
      have hba := hb a
      have hbb := hb b
      clear hG hat hkF hb hb2
      have hw1 : wrap64 n = n := IntWalk.wrap64_in _ ⟨by omega, by omega⟩
      have hw2 : wrap64 (s.D a + n) = s.D a + n := IntWalk.wrap64_in _ ⟨by omega, by omega⟩
      go_wp2_with (first
        | go_skip
        | ((with_reducible show wpList _ _ _ (_ :: _) _ _); (with_reducible apply wpl_loadRdR row_edg); (· rfl); (· rfl); (· exact HR.out _ H.tail); (· rfl); (· exact hlen); (· decide); (· exact hrow); (simp only [Act.put, List.setIfInBounds_toArray, List.set_cons_zero, List.set_cons_succ]))
        | ((with_reducible show wpList _ _ _ (_ :: _) _ _); (with_reducible apply wpl_allocRH row_edg); (· rfl); (· exact H); (clear H; intro px _ H); (simp only [Act.put, List.setIfInBounds_toArray, List.set_cons_zero, List.set_cons_succ]))
        | ((with_reducible show wpList _ _ _ (_ :: _) _ _); (with_reducible apply wpl_storeRH row_edg); (· rfl); (· rfl); (· rfl); (· with_reducible exact edg_cells ..); (· exact H); (· (repeat (first | (with_reducible exact List.mem_cons_self) | with_reducible apply List.mem_cons_of_mem))); (· (simp only [edg_sz, Nat.reduceAdd, Nat.reduceLeDiff, Nat.le_refl]; done)); (· with_reducible exact edg_splice ..); (· (repeat (first | (with_reducible exact Repl.here) | with_reducible apply Repl.there))); (clear H; intro _ H); (simp only [Act.put, List.setIfInBounds_toArray, List.set_cons_zero, List.set_cons_succ])))
      refine wp_region_H H (by kernel_rfl) (by kernel_rfl) ?_
      repeat (first | go_big_quiet_skip | ((with_reducible apply wpQ_loadCH); (· first | exact cell_party | exact cell_i8); (· rfl); (· rfl); (· (repeat (first | (with_reducible exact List.mem_cons_self) | with_reducible apply List.mem_cons_of_mem))); (· (with_reducible first | exact edg_g0 .. | exact edg_g1 .. | exact edg_g2 ..)); (simp only [Act.put, List.setIfInBounds_toArray, List.set_cons_zero, List.set_cons_succ])) | ((with_reducible apply wpQ_loadCH); (· exact cell_int); (· rfl); (· rfl); (· (repeat (first | (with_reducible exact List.mem_cons_self) | with_reducible apply List.mem_cons_of_mem))); (· first | exact sr_getD _ _ h1 | exact sr_getD _ _ h2); (simp only [Act.put, List.setIfInBounds_toArray, List.set_cons_zero, List.set_cons_succ])) | go_big_quiet_step (fail))
      refine wpQuiet_nil ?_
      clear H
      intro _ H
      go_wp2_with (go_skip)
      refine wp_region_H H (by kernel_rfl) (by kernel_rfl) ?_
      repeat (first | go_big_quiet_skip | ((with_reducible apply wpQ_loadCH); (· first | exact cell_party | exact cell_i8); (· rfl); (· rfl); (· (repeat (first | (with_reducible exact List.mem_cons_self) | with_reducible apply List.mem_cons_of_mem))); (· (with_reducible first | exact edg_g0 .. | exact edg_g1 .. | exact edg_g2 ..)); (simp only [Act.put, List.setIfInBounds_toArray, List.set_cons_zero, List.set_cons_succ])) | ((with_reducible apply wpQ_loadCH); (· exact cell_int); (· rfl); (· rfl); (· (repeat (first | (with_reducible exact List.mem_cons_self) | with_reducible apply List.mem_cons_of_mem))); (· first | exact sr_getD _ _ h1 | exact sr_getD _ _ h2); (simp only [Act.put, List.setIfInBounds_toArray, List.set_cons_zero, List.set_cons_succ])) | go_big_quiet_step (fail))
      refine wpQuiet_nil ?_
      clear H
      intro _ H
      by_cases hc : s.D a + n < s.D b
      · have HC := Lib.hid (relax_yes (s := s) (e := ⟨a, b, n⟩) hc)
        go_wp2_with (go_skip)
        replace H := H.perm (.swap _ _ _)
        refine wp_region_O [14, 18] [0, 1, 2, 3, 4, 5, 6, 7, 8, 9, 10, 11, 12, 13, 15, 16, 14, 17, 18, 19] (fun l0 => ∃ pre, l0 = pre ++ (Cel px (edg a b n) 64 :: l)) H ⟨[_], rfl⟩ (by kernel_rfl) (by kernel_rfl) ?_
        iterate 16 (apply wpO_step; (· rfl); (· rfl); (· rfl); (· exact Nat.le_of_ble_eq_true rfl); (· rintro l0 ⟨pre, rfl⟩ w0 H0; (first | go_big_quiet_skip | ((with_reducible apply wpQ_loadCH); (· first | exact cell_party | exact cell_i8); (· rfl); (· rfl); (· ((refine List.mem_append_right _ ?_); (repeat (first | (with_reducible exact List.mem_cons_self) | with_reducible apply List.mem_cons_of_mem)))); (· (with_reducible first | exact edg_g0 .. | exact edg_g1 .. | exact edg_g2 ..)); (simp only [Act.put, List.setIfInBounds_toArray, List.set_cons_zero, List.set_cons_succ])) | go_big_quiet_step (fail)); (refine wpQuiet_nil ?_); (simp only [Array.getD_eq_getD_getElem?, List.getElem?_toArray, List.getElem?_cons_succ, List.getElem?_cons_zero, Option.getD_some]; rfl)); (simp only [Act.put, List.setIfInBounds_toArray, List.set_cons_zero, List.set_cons_succ]))
        ((with_reducible apply wpO_storeI); (· exact cell_int); (· rfl); (· rfl); (· rfl); (· rfl); (· rfl); (· (repeat (first | (with_reducible exact List.mem_cons_self) | with_reducible apply List.mem_cons_of_mem))); (· (rw [sr_sz]; omega)); (· exact sr_setD _ _ h2 _); (· (repeat (first | (with_reducible exact Repl.here) | with_reducible apply Repl.there))); (· exact ⟨[_], rfl⟩); (simp only [Act.put, List.setIfInBounds_toArray, List.set_cons_zero, List.set_cons_succ]))
        (apply wpO_step; (· rfl); (· rfl); (· rfl); (· exact Nat.le_of_ble_eq_true rfl); (· rintro l0 ⟨pre, rfl⟩ w0 H0; (first | go_big_quiet_skip | fail | go_big_quiet_step (fail)); (refine wpQuiet_nil ?_); (simp only [Array.getD_eq_getD_getElem?, List.getElem?_toArray, List.getElem?_cons_succ, List.getElem?_cons_zero, Option.getD_some]; rfl)); (simp only [Act.put, List.setIfInBounds_toArray, List.set_cons_zero, List.set_cons_succ]))
        ((with_reducible apply wpO_storeI); (· exact cell_party); (· rfl); (· rfl); (· rfl); (· rfl); (· rfl); (· (repeat (first | (with_reducible exact List.mem_cons_self) | with_reducible apply List.mem_cons_of_mem))); (· (rw [sr_sz]; omega)); (· exact sr_setP _ _ h2 _); (· (repeat (first | (with_reducible exact Repl.here) | with_reducible apply Repl.there))); (· exact ⟨[_], rfl⟩); (simp only [Act.put, List.setIfInBounds_toArray, List.set_cons_zero, List.set_cons_succ]))
        (apply wpO_step; (· rfl); (· rfl); (· rfl); (· exact Nat.le_of_ble_eq_true rfl); (· rintro l0 ⟨pre, rfl⟩ w0 H0; (first | go_big_quiet_skip | fail | go_big_quiet_step (fail)); (refine wpQuiet_nil ?_); (simp only [Array.getD_eq_getD_getElem?, List.getElem?_toArray, List.getElem?_cons_succ, List.getElem?_cons_zero, Option.getD_some]; rfl)); (simp only [Act.put, List.setIfInBounds_toArray, List.set_cons_zero, List.set_cons_succ]))
        (refine wpO_nil ?_; clear H; intro _ H)
        go_wp2_with (go_skip)
        refine ⟨⟨k + 1, _, by omega, by go_num, ?_, HG.out, ?_, ?_⟩, ?measure⟩
        · rw [HC.out]
        · have := HB2.out
          rw [show B + 128 * (k + 1) = B + 128 * k + 128 by omega]
          exact this
        · rw [HC.out]
          exact H.drop (.there .here)
        case measure => simp [intOf]; omega
      · have HC := Lib.hid (relax_no (s := s) (e := ⟨a, b, n⟩) hc)
        go_wp2_with (go_skip)
        refine ⟨⟨k + 1, _, by omega, by go_num, ?_, HG.out, ?_, ?_⟩, ?measure2⟩
        · rw [HC.out]
        · have := HB2.out
          rw [show B + 128 * (k + 1) = B + 128 * k + 128 by omega]
          exact this
        · rw [HC.out]
          exact H.tail
        case measure2 => simp [intOf]; omega
    · obtain rfl : k = en := by omega
      rw [List.drop_of_length_le (by rw [HL.out]; omega)] at hG
      have HG := Lib.hid hG
      clear hG
      go_wp2_with (go_skip)
      go_ret
      rw [HG.out]
      exact ⟨rfl, H⟩
end
end Go.Proofs.Ytglehneaphigdaa

/- slices' functions of parties: Index, Min. -/
namespace Go.Proofs.Ytglehneaphigdaa
open Go.RowKit
set_option linter.unusedSimpArgs false
set_option linter.unusedVariables false
theorem rd_party {w : World} {g o k x : Nat} {L : List Nat} (R : Rd w (some ⟨g, o, none⟩) (L.map pv)) (h : L[k]? = some x) : w.cell? ⟨g, o + k, none⟩ = some (.int .u8 (x : Int)) := by
  obtain ⟨hk, hx⟩ := List.getElem?_eq_some_iff.1 h
  obtain ⟨b, o', he, hc⟩ := R k (by simpa using hk)
  cases he
  rw [hc]
  simp [pv, hx]
theorem idxOf_le_at {x : Nat} : ∀ {L : List Nat} {k : Nat} (h : k < L.length), L[k] = x → L.idxOf x ≤ k
  | [], _, h, _ => by simp at h
  | y :: L, 0, h, e => by simp at e; subst e; simp
  | y :: L, k + 1, h, e => by
    rw [List.idxOf_cons]
    have := idxOf_le_at (L := L) (k := k) (by simpa using h) (by simpa using e)
    cases y == x <;> simp <;> omega
def minT (L : List Nat) (k : Nat) : Nat := (L.take k).foldl min (L.headD 0)
def minL (L : List Nat) : Nat := L.foldl min (L.headD 0)
theorem minT_succ {L : List Nat} {k x : Nat} (h : L[k]? = some x) : minT L (k + 1) = min (minT L k) x := by
  unfold minT
  rw [List.take_add_one, h]
  simp
theorem minT_all (L : List Nat) {k : Nat} (h : L.length ≤ k) : minT L k = minL L := by
  unfold minT minL
  rw [List.take_of_length_le h]
theorem minT_one {L : List Nat} {x : Nat} (h : L[0]? = some x) : minT L 1 = x := by
  cases L with
  | nil => simp at h
  | cons y L => simp at h; subst h; simp [minT]
theorem minT_le (L : List Nat) (hL : ∀ x ∈ L, x ≤ 255) : ∀ k, minT L k ≤ 255 ∨ L = [] := by
  intro k
  cases L with
  | nil => exact .inr rfl
  | cons y L =>
    left
    have : ∀ (M : List Nat) (a : Nat), a ≤ 255 → M.foldl min a ≤ 255 := by
      intro M
      induction M with
      | nil => intro a h; exact h
      | cons z M ih => intro a h; exact ih _ (Nat.le_trans (Nat.min_le_left _ _) h)
    exact this _ _ (hL y List.mem_cons_self)
section
variable {W w : World} {l : List Thing}
set_option maxRecDepth 100000
set_option maxHeartbeats 2000000
theorem index_H (g o n c : Nat) (L : List Nat) (x : Nat) (hl : L.length = n) (hn : n ≤ 9223372036854775807) (hL : ∀ y ∈ L, y ≤ 255) (hx : x ∈ L) (R : ∀ w', Heap W l w' → Rd w' (some ⟨g, o, none⟩) (L.map pv)) :
    AnsH W l 60 #[.slice (some ⟨g, o, none⟩) n c, .int .u8 (x : Int)] (.int .i64 (L.idxOf x : Int)) := by
  intro w H
  have hi : L.idxOf x < n := by rw [← hl]; exact List.idxOf_lt_length_of_mem hx
  have HR := Lib.hid R
  have HL := Lib.hid hl
  have HLs := Lib.hid hL
  have HX := Lib.hid hx
  clear R hl hL hx
  go_enter Try.func60, Try.ntmps60
  go_wp2_with (go_skip)
  have H0 := H
  clear H
  go_loopw [8] (fun i wr => ∃ k : Nat, k ≤ L.idxOf x ∧ i = .int .i64 k ∧ Heap W l wr) (fun i _ => n - (intOf i).toNat)
  case atStart => exact ⟨0, Nat.zero_le _, rfl, H0⟩
  case round =>
    obtain ⟨k, hk, rfl, H'⟩ := hrel
    clear H0
    have H := H'
    clear H'
    have hkn : k < n := by omega
    have hkL : k < L.length := by rw [HL.out]; exact hkn
    have hg : L[k]? = some L[k] := List.getElem?_eq_getElem hkL
    have hy := HLs.out L[k] (List.getElem_mem hkL)
    by_cases he : k = L.idxOf x
    · have hgx : L[k]? = some x := by
        rw [hg]
        have h1 : L.idxOf x < L.length := by rw [← he]; exact hkL
        have h2 := List.getElem_idxOf h1
        congr 1
        rw [← h2]
        congr 1
      have HE := Lib.hid he
      clear he hg hy
      go_wp2_with (first
        | go_skip
        | ((with_reducible show wpList _ _ _ (_ :: _) _ _); (with_reducible apply wpl_loadCell cell_party); (· rfl); (· rfl); (· exact rd_party (HR.out _ H) hgx); (simp only [Act.put, List.setIfInBounds_toArray, List.set_cons_zero, List.set_cons_succ])))
      go_ret
      rw [HE.out]
      exact ⟨rfl, H⟩
    · have hne : L[k] ≠ x := fun e => by
        have h1 := idxOf_le_at hkL e
        omega
      generalize L[k] = y at *
      have e1 : ((x : Int) == (y : Int)) = false := by simp; omega
      have e2 : decide ((x : Int) = (y : Int)) = false := by simp; omega
      have HE := Lib.hid he
      clear he
      go_wp2_with (first
        | go_skip
        | ((with_reducible show wpList _ _ _ (_ :: _) _ _); (with_reducible apply wpl_loadCell cell_party); (· rfl); (· rfl); (· exact rd_party (HR.out _ H) hg); (simp only [Act.put, List.setIfInBounds_toArray, List.set_cons_zero, List.set_cons_succ])))
      go_roundw
      case rel => exact ⟨k + 1, by have := HE.out; omega, by go_num, H⟩
      case measure => simp [intOf]; omega
theorem min_H (g o n c : Nat) (L : List Nat) (hl : L.length = n) (h1 : 1 ≤ n) (hn : n ≤ 9223372036854775807) (hL : ∀ y ∈ L, y ≤ 255) (R : ∀ w', Heap W l w' → Rd w' (some ⟨g, o, none⟩) (L.map pv)) :
    AnsH W l 61 #[.slice (some ⟨g, o, none⟩) n c] (.int .u8 (minL L : Int)) := by
  intro w H
  have HR := Lib.hid R
  have HL := Lib.hid hl
  have HLs := Lib.hid hL
  have h0 : 0 < L.length := by omega
  have hg0 : L[0]? = some L[0] := List.getElem?_eq_getElem h0
  have HM := Lib.hid (minT_one hg0)
  have hx0 := hL _ (List.getElem_mem h0)
  generalize L[0] = x0 at *
  clear R hl hL h0
  go_enter Try.func61, Try.ntmps61
  go_wp2_with (first
    | go_skip
    | ((with_reducible show wpList _ _ _ (_ :: _) _ _); (with_reducible apply wpl_loadCell cell_party); (· rfl); (· rfl); (· exact rd_party (HR.out _ H) hg0); (simp only [Act.put, List.setIfInBounds_toArray, List.set_cons_zero, List.set_cons_succ])))
  have H0 := H
  clear H
  go_loopw [3, 4] (fun v i wr => ∃ k : Nat, 1 ≤ k ∧ k ≤ n ∧ i = .int .i64 k ∧ v = .int .u8 (minT L k : Int) ∧ Heap W l wr) (fun _ i _ => n - (intOf i).toNat)
  case atStart => exact ⟨1, Nat.le_refl _, h1, rfl, by rw [HM.out], H0⟩
  case round =>
    obtain ⟨k, hk1, hkn, rfl, rfl, H'⟩ := hrel
    clear H0
    have H := H'
    clear H'
    by_cases hlt : k < n
    · have hkL : k < L.length := by rw [HL.out]; exact hlt
      have hg : L[k]? = some L[k] := List.getElem?_eq_getElem hkL
      have hy := HLs.out L[k] (List.getElem_mem hkL)
      have HS := Lib.hid (minT_succ hg)
      generalize L[k] = y at *
      go_wp2_with (first
        | go_skip
        | ((with_reducible show wpList _ _ _ (_ :: _) _ _); (with_reducible apply wpl_loadCell cell_party); (· rfl); (· rfl); (· exact rd_party (HR.out _ H) hg); (simp only [Act.put, List.setIfInBounds_toArray, List.set_cons_zero, List.set_cons_succ])))
      refine ⟨⟨k + 1, by omega, by omega, by go_num, ?_, H⟩, ?measure⟩
      · rw [HS.out]
        by_cases hc : y < minT L k
        · rw [if_pos hc, Nat.min_eq_right (by omega)]
        · rw [if_neg hc, Nat.min_eq_left (by omega)]
      case measure => simp [intOf]; omega
    · obtain rfl : k = n := by omega
      have HA := Lib.hid (minT_all L (k := k) (by rw [HL.out]; omega))
      go_wp2_with (go_skip)
      go_ret
      rw [HA.out]
      exact ⟨rfl, H⟩
end
end Go.Proofs.Ytglehneaphigdaa
