/- A row of a book (bytes): what write, writeBehind and stands do. -/
import Derived.Test.YtlinhcbjljcgbaaDoorSlices
import Derived.Deep.QuietTactic
import Derived.BigQuiet
import Derived.WalkSmall
namespace Go.Proofs.YtlinhcbjljcgbaaDoor
open Go.RowKit

/-- cur', as cur, but for the places from lo up to hi, which hold v. -/
structure Filled (cur cur' : Array Value) (lo hi : Nat) (v : Value) : Prop where
  size : cur'.size = cur.size
  at_ : ∀ i, cur'[i]? = if lo ≤ i ∧ i < hi then some v else cur[i]?
theorem Filled.refl (cur : Array Value) (lo : Nat) (v : Value) : Filled cur cur lo lo v := ⟨rfl, fun i => by rw [if_neg (by omega)]⟩
theorem Filled.step {cur cur' : Array Value} {lo hi : Nat} {v : Value} (h : Filled cur cur' lo hi v) (hl : lo ≤ hi) (hs : hi < cur.size) : Filled cur (cur'.setIfInBounds hi v) lo (hi + 1) v := by
  refine ⟨by simpa using h.size, fun i => ?_⟩
  rw [Array.getElem?_setIfInBounds, h.at_ i, h.size]
  by_cases e : hi = i
  · subst e
    rw [if_pos rfl, if_pos hs, if_pos ⟨hl, by omega⟩]
  · rw [if_neg e]
    by_cases h2 : lo ≤ i ∧ i < hi
    · rw [if_pos h2, if_pos ⟨h2.1, by omega⟩]
    · rw [if_neg h2, if_neg (by omega)]
theorem cell_at {w : World} {g i : Nat} {cur : Array Value} {e : TypeId} {fz : Nat × Nat} (h : w.heap[g]? = some (.cells cur e fz)) (hi : i < cur.size) : w.cell? ⟨g, i, none⟩ = some cur[i] := by
  simp only [World.cell?, h]; simp [hi]
theorem frozen_at {w : World} {g i : Nat} {cur : Array Value} {e : TypeId} (h : w.heap[g]? = some (.cells cur e (0, 0))) : w.frozen? ⟨g, i, none⟩ = false := frozen_of_row w g i cur e h
theorem grownBy_trans {a b c : World} {r : Option Nat} (h1 : a.grownBy b r) (h2 : b.grownBy c r) : a.grownBy c r :=
  ⟨h2.os.trans h1.os, h2.tape.trans h1.tape, h2.output.trans h1.output, Nat.le_trans h1.size h2.size, fun k hk hr => (h2.block k (Nat.lt_of_lt_of_le hk h1.size) hr).trans (h1.block k hk hr)⟩
theorem grownBy_set (w : World) (g i : Nat) (u : Value) : w.grownBy (w.setCell ⟨g, i, none⟩ u) (some g) :=
  ⟨rfl, rfl, rfl, by simp [World.setCell], fun k _ hk => Below.heap_setCell _ _ _ _ (fun e => hk (by simp [e]))⟩
theorem grownBy_drew (w : World) (r : Option Nat) : w.grownBy w.drew r := ⟨rfl, rfl, rfl, Nat.le_refl _, fun _ _ _ => rfl⟩
theorem grownBy_below {w w' : World} {r : Option Nat} (h : Below w.heap.size w w') : w.grownBy w' r := ⟨h.os, h.tape, h.output, h.size, fun k hk _ => h.block k hk⟩
theorem grownBy_toBelow {w w' : World} {r : Option Nat} {B : Nat} (h : w.grownBy w' r) (hB : B ≤ w.heap.size) (hr : ∀ k, r = some k → B ≤ k) : Below B w w' :=
  (Below.refl _ _).grown h hB hr

/-- The row's own box. -/
def BoxAt (w : World) (k : Nat) (g off n c : Nat) (m b : Int) : Prop := w.heap[k]? = some (.cells #[.slice (some ⟨g, off, none⟩) n c, .int .u8 m, .int .u8 b] 61 (0, 0))

set_option maxHeartbeats 1000000 in
theorem write_any (g off n c : Nat) (m b : Int) (cur : Array Value) (w : World) (hg : w.heap[g]? = some (.cells cur 5 (0, 0))) (hs : off + c ≤ cur.size) (hn : n ≤ c) (hm : c ≤ maxLen) :
    Calls Tryd.prog 73 #[.agg #[.slice (some ⟨g, off, none⟩) n c, .int .u8 m, .int .u8 b]] w fun e w' => e = .returned (.tuple #[]) ∧
      ∃ cur', w'.heap[g]? = some (.cells cur' 5 (0, 0)) ∧ Filled cur cur' off (off + n) (.int .u8 m) ∧ w.grownBy w' (some g) := by
  unfold maxLen at hm
  have hgl : g < w.heap.size := (Array.getElem?_eq_some_iff.1 hg).1
  have HG := Lib.hid hg; clear hg
  go_enter Tryd.func73, Tryd.ntmps73
  go_wp2
  go_loopw [2] (fun i wr => ∃ k : Nat, k ≤ n ∧ i = .int .i64 k ∧ ∃ cur', wr.heap[g]? = some (.cells cur' 5 (0, 0)) ∧ Filled cur cur' off (off + k) (.int .u8 m) ∧
      w.grownBy wr (some g) ∧ BoxAt wr w.heap.size g off n c m b) (fun i _ => n - (intOf i).toNat)
  case atStart => exact ⟨0, Nat.zero_le _, rfl, cur, by rw [Below.heap_alloc _ _ _ hgl]; exact HG.out, Filled.refl _ _ _, World.grownBy_alloc _ _ _, heap_alloc_new w _⟩
  case round =>
    obtain ⟨k, hk, rfl, cur', hgr, hf, hgw, hbox⟩ := hrel
    have c0 := cell_at (i := 0) hbox (by simp)
    have c1 := cell_at (i := 1) hbox (by simp)
    simp at c0 c1
    have HBX := Lib.hid hbox
    have HGW := Lib.hid hgw
    clear hbox hgw
    by_cases hlt : k < n
    · have hsz := hf.size
      obtain ⟨u, hcell⟩ : ∃ u, wr.cell? ⟨g, off + k, none⟩ = some u := ⟨_, cell_at (i := off + k) hgr (by omega)⟩
      have hfz := frozen_at (i := off + k) hgr
      have HGR := Lib.hid hgr
      have HF := Lib.hid hf
      have HSZ := Lib.hid hsz
      have hks : off + k < cur.size := by omega
      clear hgr hf hsz
      go_wp2
      go_roundw
      case rel =>
        refine ⟨k + 1, by omega, by go_num, _, heap_setCell_same wr g (off + k) cur' _ _ HGR.out, ?_, grownBy_trans HGW.out (grownBy_set _ _ _ _), ?_⟩
        · exact HF.out.step (by omega) hks
        · unfold BoxAt; rw [Below.heap_setCell _ _ _ _ (by simp; omega)]; exact HBX.out
      case measure => simp [intOf]; omega
    · obtain rfl : k = n := by omega
      go_wp2
      go_end0
      exact ⟨rfl, cur', hgr, hf, HGW.out⟩

set_option maxHeartbeats 1000000 in
theorem writeBehind_any (g off n c : Nat) (m b : Int) (cur : Array Value) (w : World) (hg : w.heap[g]? = some (.cells cur 5 (0, 0))) (hs : off + c ≤ cur.size) (hn : n ≤ c) (hm : c ≤ maxLen) :
    Calls Tryd.prog 74 #[.agg #[.slice (some ⟨g, off, none⟩) n c, .int .u8 m, .int .u8 b]] w fun e w' => e = .returned (.tuple #[]) ∧
      ∃ cur', w'.heap[g]? = some (.cells cur' 5 (0, 0)) ∧ Filled cur cur' (off + n) (off + c) (.int .u8 b) ∧ w.grownBy w' (some g) := by
  have hsl := fun wx => run_cutTo slB (some ⟨g, off, none⟩) n c c .i64 (Nat.le_refl _) wx
  unfold maxLen at hm
  have hgl : g < w.heap.size := (Array.getElem?_eq_some_iff.1 hg).1
  have HG := Lib.hid hg; clear hg
  go_enter Tryd.func74, Tryd.ntmps74
  go_wp2
  go_loopw [3] (fun i wr => ∃ k : Nat, n ≤ k ∧ k ≤ c ∧ i = .int .i64 k ∧ ∃ cur', wr.heap[g]? = some (.cells cur' 5 (0, 0)) ∧ Filled cur cur' (off + n) (off + k) (.int .u8 b) ∧
      w.grownBy wr (some g) ∧ BoxAt wr w.heap.size g off n c m b) (fun i _ => c - (intOf i).toNat)
  case atStart => exact ⟨n, Nat.le_refl _, hn, rfl, cur, by rw [Below.heap_alloc _ _ _ hgl]; exact HG.out, Filled.refl _ _ _, World.grownBy_alloc _ _ _, heap_alloc_new w _⟩
  case round =>
    obtain ⟨k, hnk, hk, rfl, cur', hgr, hf, hgw, hbox⟩ := hrel
    have c2 := cell_at (i := 2) hbox (by simp)
    simp at c2
    have HBX := Lib.hid hbox
    have HGW := Lib.hid hgw
    clear hbox hgw hsl
    by_cases hlt : k < c
    · have hsz := hf.size
      obtain ⟨u, hcell⟩ : ∃ u, wr.cell? ⟨g, off + k, none⟩ = some u := ⟨_, cell_at (i := off + k) hgr (by omega)⟩
      have hfz := frozen_at (i := off + k) hgr
      have HGR := Lib.hid hgr
      have HF := Lib.hid hf
      have HSZ := Lib.hid hsz
      have hks : off + k < cur.size := by omega
      clear hgr hf hsz
      go_wp2
      go_roundw
      case rel =>
        refine ⟨k + 1, by omega, by omega, by go_num, _, heap_setCell_same wr g (off + k) cur' _ _ HGR.out, ?_, grownBy_trans HGW.out (grownBy_set _ _ _ _), ?_⟩
        · exact HF.out.step (by omega) hks
        · unfold BoxAt; rw [Below.heap_setCell _ _ _ _ (by simp; omega)]; exact HBX.out
      case measure => simp [intOf]; omega
    · obtain rfl : k = c := by omega
      go_wp2
      go_end0
      exact ⟨rfl, cur', hgr, hf, HGW.out⟩

set_option maxRecDepth 100000 in
set_option maxHeartbeats 1000000 in
theorem stands_any (g off n c : Nat) (m b : Int) (cur : Array Value) (w : World) (hg : w.heap[g]? = some (.cells cur 5 (0, 0))) (hs : off + c ≤ cur.size) (hn : n ≤ c) (hm : c ≤ maxLen)
    (h1 : ∀ i, i < n → cur[off + i]? = some (.int .u8 m)) (h2 : ∀ i, n ≤ i → i < c → cur[off + i]? = some (.int .u8 b)) :
    Calls Tryd.prog 72 #[.agg #[.slice (some ⟨g, off, none⟩) n c, .int .u8 m, .int .u8 b]] w fun e w' => e = .returned (.bool true) ∧ Below w.heap.size w w' := by
  have hsl := fun wx => run_cutTo slB (some ⟨g, off, none⟩) n c c .i64 (Nat.le_refl _) wx
  unfold maxLen at hm
  have hgl : g < w.heap.size := (Array.getElem?_eq_some_iff.1 hg).1
  have HG := Lib.hid hg; clear hg
  have H1 := Lib.hid h1; clear h1
  have H2 := Lib.hid h2; clear h2
  go_enter Tryd.func72, Tryd.ntmps72
  go_wp2
  go_loopw [4] (fun i wr => ∃ k : Nat, k ≤ c ∧ i = .int .i64 k ∧ Below w.heap.size w wr ∧ BoxAt wr w.heap.size g off n c m b) (fun i _ => c - (intOf i).toNat)
  case atStart => exact ⟨0, Nat.zero_le _, rfl, (Below.refl _ _).alloc (Nat.le_refl _) _, heap_alloc_new w _⟩
  case round =>
    obtain ⟨k, hk, rfl, hbl, hbox⟩ := hrel
    have c0 := cell_at (i := 0) hbox (by simp)
    have c1 := cell_at (i := 1) hbox (by simp)
    have c2 := cell_at (i := 2) hbox (by simp)
    simp at c0 c1 c2
    have HBX := Lib.hid hbox
    have HBL := Lib.hid hbl
    clear hbox hbl hsl
    by_cases hlt : k < c
    · have hgr : wr.heap[g]? = some (.cells cur 5 (0, 0)) := by rw [HBL.out.block g hgl]; exact HG.out
      by_cases hkn : k < n
      · have hcell : wr.cell? ⟨g, off + k, none⟩ = some (.int .u8 m) := by
          simp only [World.cell?, hgr]; simpa using H1.out k hkn
        have hd1 : decide ((k : Int) < n) = true := by simp; omega
        have hd3 : decide (n ≤ k) = false := by simp; omega
        have hd4 : decide (k < n) = true := by simp; omega
        have hmm : (m != m) = false := by simp
        clear hgr
        go_wp2_with fail
        go_quiet (fail)
        go_wp2
        go_roundw
        case rel => exact ⟨k + 1, by omega, by go_num, below_drewN HBL.out _, HBX.out⟩
        case measure => simp [intOf]; omega
      · have hcell : wr.cell? ⟨g, off + k, none⟩ = some (.int .u8 b) := by
          simp only [World.cell?, hgr]; simpa using H2.out k (by omega) hlt
        have hd1 : decide ((k : Int) < n) = false := by simp; omega
        have hd3 : decide (n ≤ k) = true := by simp; omega
        have hd4 : decide (k < n) = false := by simp; omega
        have hmm : (b != b) = false := by simp
        clear hgr
        go_wp2_with fail
        go_quiet (fail)
        go_wp2
        go_roundw
        case rel => exact ⟨k + 1, by omega, by go_num, below_drewN HBL.out _, HBX.out⟩
        case measure => simp [intOf]; omega
    · obtain rfl : k = c := by omega
      go_wp2
      go_ret
      exact ⟨rfl, HBL.out⟩
end Go.Proofs.YtlinhcbjljcgbaaDoor
