/- A ledger's map: its lines as pairs; what a look, a put, a delete make of it. -/
import Derived.Test.YtacglcpjbepfnaaMap
import Derived.Test.YtacglcpjbepfnaaLedger
namespace Go.Proofs.Ytacglcpjbepfnaa
open Go.RowKit
abbrev ends (cr : Int) (db : Int) (cu : Int) : Array Value := #[.int .u8 cr, .int .u8 db, .int .u8 cu]
section
variable (cr : Int) (db : Int) (cu : Int)
theorem ends_sz : (ends cr db cu).size = 3 := rfl
theorem ends_g0 : (ends cr db cu)[0]? = some (.int .u8 cr) := rfl
theorem ends_s0 (v : Int) : (ends cr db cu).setIfInBounds 0 (.int .u8 v) = ends v db cu := rfl
theorem ends_g1 : (ends cr db cu)[1]? = some (.int .u8 db) := rfl
theorem ends_s1 (v : Int) : (ends cr db cu).setIfInBounds 1 (.int .u8 v) = ends cr v cu := rfl
theorem ends_g2 : (ends cr db cu)[2]? = some (.int .u8 cu) := rfl
theorem ends_s2 (v : Int) : (ends cr db cu).setIfInBounds 2 (.int .u8 v) = ends cr db v := rfl
end
abbrev owe (lim : Int) (deb : Int) : Array Value := #[.int .i64 lim, .int .i64 deb]
section
variable (lim : Int) (deb : Int)
theorem owe_sz : (owe lim deb).size = 2 := rfl
theorem owe_g0 : (owe lim deb)[0]? = some (.int .i64 lim) := rfl
theorem owe_s0 (v : Int) : (owe lim deb).setIfInBounds 0 (.int .i64 v) = owe v deb := rfl
theorem owe_g1 : (owe lim deb)[1]? = some (.int .i64 deb) := rfl
theorem owe_s1 (v : Int) : (owe lim deb).setIfInBounds 1 (.int .i64 v) = owe lim v := rfl
end
abbrev keyL (cr db cu : Int) : Value := .agg (ends cr db cu)
abbrev valL (lim deb : Int) : Value := .agg (owe lim deb)
def kvL (x : Lin) : Value × Value := (keyL x.cr x.db x.cu, valL x.lim x.deb)
def prs (L : List Lin) : List (Value × Value) := L.map kvL
theorem prs_len (L : List Lin) : (prs L).length = L.length := by simp [prs]
theorem keyL_inj {a b c a' b' c' : Int} : keyL a b c = keyL a' b' c' ↔ a = a' ∧ b = b' ∧ c = c' := by simp [keyL]
section
variable {S : Lgr} {x : Lin} {cr db cu : Int}
theorem look_line (G : S.Good) (cr db cu : Int) : Look (prs S.L) (keyL cr db cu) (valL 0 0) (isLine S.L cr db cu) (valL (limOf S.L cr db cu) (debOf S.L cr db cu)) := by
  rcases G.split cr db cu with ⟨x, hx, e1, e2, e3, _, h2, h3, h4⟩ | ⟨hn, _, h2, h3, h4⟩
  · rw [h2, h3, h4]
    exact .inl ⟨rfl, List.mem_map.2 ⟨x, hx, by rw [kvL, e1, e2, e3]⟩⟩
  · rw [h2, h3, h4]
    refine .inr ⟨rfl, rfl, fun e he hk => ?_⟩
    obtain ⟨x, hx, rfl⟩ := List.mem_map.1 he
    have := hn x hx
    rw [Lin.at_not] at this
    exact this (keyL_inj.1 hk)
def Small (x : Lin) : Prop := (0 ≤ x.cr ∧ x.cr < 256) ∧ (0 ≤ x.db ∧ x.db < 256)
theorem Lgr.Good.smalls (G : S.Good) : ∀ x ∈ S.L, Small x := fun x hx => by
  have := G.small hx
  unfold Small; omega
theorem sorted_nodup {L : List Lin} (h : L.Pairwise (fun x y => x.rank < y.rank)) : L.Nodup := h.imp (fun h e => by rw [e] at h; omega)
def restL (L : List Lin) (x : Lin) : List Lin := L.filter (fun y => decide (y.rank ≠ x.rank))
theorem restL_mem {L : List Lin} {z : Lin} : z ∈ restL L x ↔ z ∈ L ∧ z.rank ≠ x.rank := by simp [restL]
theorem without {L : List Lin} (ho : L.Pairwise (fun x y => x.rank < y.rank)) (hs : ∀ y ∈ L, Small y) (hx : Small x) :
    (∀ e ∈ prs (restL L x), e.1 ≠ keyL x.cr x.db x.cu) ∧ ((prs L).Perm (prs (restL L x)) ∨ ∃ v0, (prs L).Perm ((keyL x.cr x.db x.cu, v0) :: prs (restL L x))) := by
  refine ⟨fun e he hk => ?_, ?_⟩
  · obtain ⟨y, hy, rfl⟩ := List.mem_map.1 he
    obtain ⟨h1, h2, h3⟩ := keyL_inj.1 hk
    refine (restL_mem.1 hy).2 ?_
    unfold Lin.rank
    rw [h1, h2, h3]
  · by_cases h : ∃ y ∈ L, y.rank = x.rank
    · obtain ⟨y, hy, hr⟩ := h
      have hsy := hs y hy
      unfold Small at hsy hx
      obtain ⟨e1, e2, e3⟩ := rank_inj hsy.1 hsy.2 hx.1 hx.2 hr
      refine .inr ⟨valL y.lim y.deb, ?_⟩
      have hp : L.Perm (y :: restL L x) := by
        refine (List.perm_ext_iff_of_nodup (sorted_nodup ho) (List.nodup_cons.2 ⟨fun h => (restL_mem.1 h).2 hr, (sorted_nodup ho).filter _⟩)).2 fun z => ?_
        rw [List.mem_cons, restL_mem]
        constructor
        · intro hz
          by_cases e : z.rank = x.rank
          · exact .inl (pw_inj ho hz hy (e.trans hr.symm))
          · exact .inr ⟨hz, e⟩
        · rintro (rfl | h)
          · exact hy
          · exact h.1
      have := hp.map kvL
      rw [List.map_cons] at this
      rw [show kvL y = (keyL x.cr x.db x.cu, valL y.lim y.deb) by rw [kvL, e1, e2, e3]] at this
      exact this
    · refine .inl ?_
      have : restL L x = L := List.filter_eq_self.2 fun y hy => by
        simp only [decide_eq_true_eq]
        exact fun e => h ⟨y, hy, e⟩
      rw [this]
theorem setL_perm {L : List Lin} (ho : L.Pairwise (fun x y => x.rank < y.rank)) (h : x.lim ≠ 0) : (setL L x).Perm (x :: restL L x) := by
  refine (List.perm_ext_iff_of_nodup (sorted_nodup (setL_sorted ho x)) (List.nodup_cons.2 ⟨fun h => (restL_mem.1 h).2 rfl, (sorted_nodup ho).filter _⟩)).2 fun z => ?_
  rw [setL_mem, List.mem_cons, restL_mem]
  constructor
  · rintro (h' | ⟨_, rfl⟩)
    · exact .inr h'
    · exact .inl rfl
  · rintro (rfl | h')
    · exact .inr ⟨h, rfl⟩
    · exact .inl h'
theorem setL_perm0 {L : List Lin} (ho : L.Pairwise (fun x y => x.rank < y.rank)) (h : x.lim = 0) : (setL L x).Perm (restL L x) := by
  refine (List.perm_ext_iff_of_nodup (sorted_nodup (setL_sorted ho x)) ((sorted_nodup ho).filter _)).2 fun z => ?_
  show _ ↔ z ∈ restL L x
  rw [setL_mem, restL_mem]
  constructor
  · rintro (h' | ⟨h', _⟩)
    · exact h'
    · exact absurd h h'
  · exact .inl
theorem put_set {L : List Lin} (ho : L.Pairwise (fun x y => x.rank < y.rank)) (hs : ∀ y ∈ L, Small y) (hx : Small x) (h : x.lim ≠ 0) : PutM (prs L) (keyL x.cr x.db x.cu) (valL x.lim x.deb) (prs (setL L x)) :=
  ⟨prs (restL L x), (without ho hs hx).1, (without ho hs hx).2, (setL_perm ho h).map kvL⟩
theorem del_set {L : List Lin} (ho : L.Pairwise (fun x y => x.rank < y.rank)) (hs : ∀ y ∈ L, Small y) (hx : Small x) (h : x.lim = 0) : DelM (prs L) (keyL x.cr x.db x.cu) (prs (setL L x)) :=
  ⟨prs (restL L x), (without ho hs hx).1, (without ho hs hx).2, (setL_perm0 ho h).map kvL⟩
theorem addL_sorted {L : List Lin} (ho : L.Pairwise (fun x y => x.rank < y.rank)) (n : Int) : (addL L cr db cu n).Pairwise (fun x y => x.rank < y.rank) := by
  have : ((addL L cr db cu n).map (·.rank)).Pairwise (· < ·) := by rw [addL_ranks, List.pairwise_map]; exact ho
  rwa [List.pairwise_map] at this
/-- More of a debt: a line set anew. -/
theorem Lgr.Good.add_set (G : S.Good) (hl : isLine S.L cr db cu = true) (n : Int) : addL S.L cr db cu n = setL S.L ⟨cr, db, cu, limOf S.L cr db cu, debOf S.L cr db cu + n⟩ := by
  obtain ⟨x, hx, ha⟩ := isLine_iff.1 hl
  obtain ⟨rfl, rfl, rfl⟩ := Lin.at_iff.1 ha
  obtain ⟨_, h2, h3, _⟩ := G.vals hx
  rw [h2, h3]
  have hlim : x.lim ≠ 0 := by have := (G.ok x hx).lim; omega
  refine sorted_ext (addL_sorted G.ord n) (setL_sorted G.ord _) fun z => ?_
  rw [setL_mem]
  unfold addL
  rw [List.mem_map]
  constructor
  · rintro ⟨y, hy, rfl⟩
    by_cases hya : y.at x.cr x.db x.cu = true
    · rw [if_pos hya]
      have e := Lin.at_iff.1 hya
      have : y = x := G.uniq hy hx (by unfold Lin.rank; rw [e.1, e.2.1, e.2.2])
      subst this
      exact .inr ⟨hlim, rfl⟩
    · rw [if_neg hya]
      refine .inl ⟨hy, fun e => hya ?_⟩
      have : y = x := G.uniq hy hx e
      subst this
      exact ha
  · rintro (⟨hz, hr⟩ | ⟨_, rfl⟩)
    · refine ⟨z, hz, ?_⟩
      rw [if_neg]
      intro hza
      have e := Lin.at_iff.1 hza
      exact hr (by unfold Lin.rank; rw [e.1, e.2.1, e.2.2])
    · exact ⟨x, hx, by rw [if_pos ha]⟩
end
end Go.Proofs.Ytacglcpjbepfnaa
