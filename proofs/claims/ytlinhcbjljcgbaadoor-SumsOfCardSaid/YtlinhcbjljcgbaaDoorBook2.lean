/- A book: Bytes lays one page more. -/
import Derived.Test.YtlinhcbjljcgbaaDoorBook
import Derived.Deep.RegionHeld3
namespace Go.Proofs.YtlinhcbjljcgbaaDoor
open Go.RowKit
attribute [local go_sem high] bits8_xor

theorem slP : SlTy Tryd.prog 30 63 1 16 .nilIface := slTy_mk Tryd.underlying30 (by kernel_rfl) rfl (by decide)

/-- The book at block kb has these pages; they lie in the row pv. -/
structure BookAt (w : World) (base kb : Nat) (pv : Value) (vs : List Value) : Prop where
  blk : w.heap[kb]? = some (.cells #[pv] 32 (0, 0))
  row : w.ownsRow base 63 1 pv vs.length vs
  ge : base ≤ kb
  apart : pv.ownBlock ≠ some kb
theorem BookAt.lt {w : World} {base kb : Nat} {pv : Value} {vs : List Value} (h : BookAt w base kb pv vs) : kb < w.heap.size := (Array.getElem?_eq_some_iff.1 h.blk).1
theorem BookAt.kept {w w' : World} {base kb : Nat} {pv : Value} {vs : List Value} (h : BookAt w base kb pv vs) (hk : ∀ k, k < w.heap.size → (k = kb ∨ pv.ownBlock = some k) → w'.heap[k]? = w.heap[k]?) : BookAt w' base kb pv vs := by
  refine ⟨by rw [hk kb h.lt (.inl rfl)]; exact h.blk, ?_, h.ge, h.apart⟩
  refine ⟨h.row.1, ?_⟩
  rcases h.row.2 with hn | ⟨g, cap, cur, e, hb, hg, r⟩
  · exact .inl hn
  · exact .inr ⟨g, cap, cur, e, hb, by rw [hk g (Array.getElem?_eq_some_iff.1 hg).1 (.inr (by rw [e]; rfl))]; exact hg, r⟩
theorem BookAt.below {w w' : World} {base kb : Nat} {pv : Value} {vs : List Value} (h : BookAt w base kb pv vs) (hb : Below w.heap.size w w') : BookAt w' base kb pv vs := h.kept fun k hk _ => hb.block k hk
theorem BookAt.cell {w : World} {base kb : Nat} {pv : Value} {vs : List Value} (h : BookAt w base kb pv vs) : w.cell? ⟨kb, 0, none⟩ = some pv := by
  simp only [World.cell?, h.blk]; simp
theorem BookAt.form {w : World} {base kb : Nat} {pv : Value} {vs : List Value} (h : BookAt w base kb pv vs) : ∃ a c, pv = .slice a vs.length c ∧ Rd w a vs ∧ vs.length ≤ c ∧ c ≤ maxLen := by
  obtain ⟨a, c, e, hr, h1, h2, _⟩ := (Own.ofRow h.row).rd
  exact ⟨a, c, e, hr, h1, h2⟩
theorem BookAt.frozen {w : World} {base kb : Nat} {pv : Value} {vs : List Value} (h : BookAt w base kb pv vs) : w.frozen? ⟨kb, 0, none⟩ = false := frozen_at h.blk

theorem number_any (kb : Nat) (a : Option Addr) (n c : Nat) (w : World) (hc : w.cell? ⟨kb, 0, none⟩ = some (.slice a n c)) (hn : n ≤ 1000000) :
    Calls Tryd.prog 40 #[.pointer (some ⟨kb, 0, none⟩)] w fun e w' => e = .returned (.int .i64 ((n : Int) + 1)) ∧ w = w' := by
  go_enter Tryd.func40, Tryd.ntmps40
  go_wp2
  go_ret
  exact ⟨rfl, rfl⟩

/-- A page of bytes, the k-th. -/
def pageB (a : Option Addr) (n c : Nat) (k : Nat) : Value := .iface 61 (.agg #[.slice a n c, .int .u8 ((k : Int) + 1), .int .u8 (bits .xor .u8 ((k : Int) + 1) 128)])

/-- What a call that lays a page leaves. -/
structure Laid (w w' : World) (kb : Nat) (r : Option Nat) : Prop where
  os : w'.os = w.os
  tape : w'.tape = w.tape
  output : w'.output = w.output
  size : w.heap.size ≤ w'.heap.size
  block : ∀ k, k < w.heap.size → k ≠ kb → r ≠ some k → w'.heap[k]? = w.heap[k]?
theorem Laid.below {w w' : World} {kb B : Nat} {r : Option Nat} (h : Laid w w' kb r) (hB : B ≤ kb) (hr : ∀ k, r = some k → B ≤ k) (hs : B ≤ w.heap.size) : Below B w w' :=
  ⟨h.os, h.tape, h.output, h.size, fun k hk => h.block k (by omega) (by omega) (fun e => by have := hr k e; omega)⟩

set_option maxHeartbeats 1000000 in
theorem bytes_any (base kb : Nat) (pv : Value) (vs : List Value) (a : Option Addr) (n c : Nat) (w : World) (hbk : BookAt w base kb pv vs) (hv : vs.length < 200) (hbs : base ≤ w.heap.size) :
    Calls Tryd.prog 21 #[.pointer (some ⟨kb, 0, none⟩), .slice a n c] w fun e w' => e = .returned (.tuple #[]) ∧
      ∃ pv', BookAt w' base kb pv' (vs ++ [pageB a n c vs.length]) ∧ (pv'.ownBlock = pv.ownBlock ∨ ∀ k, pv'.ownBlock = some k → w.heap.size ≤ k) ∧ Laid w w' kb pv.ownBlock := by
  obtain ⟨pa, pc, rfl, hprd, hpc, hpm⟩ := hbk.form
  have hcell := hbk.cell
  have hfz := hbk.frozen
  have hlt := hbk.lt
  have HBK := Lib.hid hbk
  have HP := Lib.hid hprd
  clear hbk hprd
  go_enter Tryd.func21, Tryd.ntmps21
  go_wp2_with fail
  refine (number_any kb pa vs.length pc w hcell (by omega)).mono ?_
  rintro e w' ⟨rfl, rfl⟩
  have hap : (Value.slice pa vs.length pc).ownBlock ≠ some kb := HBK.out.apart
  have HA := Lib.hid hap
  clear hap
  go_wp2_with (at_builtin; refine wpl_appendB rfl (.tmp 11) (.tmp 20) _ rfl slP base (.slice pa vs.length pc) vs.length vs rfl (HBK.out.row.alloc _) w.heap.size 0 1 1 [pageB a n c vs.length] rfl rfl (Rd.lit w #[pageB a n c vs.length] _ _) (by intro u hu; rw [List.mem_singleton.1 hu]; rfl) (by unfold maxLen; omega) (by omega) (by simp; omega) ?_; intro v1 w1 hown1 hg1 hb1; obtain ⟨a1, c1, rfl, _, _, _, _⟩ := (Own.ofRow hown1).rd; have hk1 : w1.heap[kb]? = some (.cells #[.slice pa vs.length pc] 32 (0, 0)) := by { rw [hg1.block kb (by simp; omega) (fun e => HA.out e.symm), Below.heap_alloc _ _ _ hlt]; exact HBK.out.blk }; have hck := cell_at (i := 0) hk1 (by simp); have hcf := frozen_at (i := 0) hk1)
  go_end0
  have hne : (Value.slice a1 (vs.length + 1) c1).ownBlock ≠ some kb := by
    rcases hb1 with h | h
    · rw [h]; exact HA.out
    · rw [h]; simp; omega
  have hlen : (vs ++ [pageB a n c vs.length]).length = vs.length + 1 := by simp
  refine ⟨rfl, .slice a1 (vs.length + 1) c1, ⟨heap_setCell_same w1 kb 0 _ _ _ hk1, ?_, HBK.out.ge, hne⟩, ?_, ?_, ?_, ?_, ?_, ?_⟩
  · rw [hlen]
    exact hown1.kept (grownBy_set w1 kb 0 _) (.inr hne)
  · rcases hb1 with h | h
    · exact .inl h
    · refine .inr fun k hk => ?_
      rw [h] at hk
      simp at hk
      omega
  · exact hg1.os
  · exact hg1.tape
  · exact hg1.output
  · have := hg1.size; simp [World.setCell] at this ⊢; omega
  · intro k hk hkb hr
    rw [Below.heap_setCell _ _ _ _ (by simpa using hkb), hg1.block k (by simp; omega) (fun e => hr e.symm), Below.heap_alloc _ _ _ hk]
end Go.Proofs.YtlinhcbjljcgbaaDoor
