/- What slices.Equal at []byte and sums.Ends answer. -/
import Derived.Test.YtlinhcbjljcgbaaDoorPut
import Derived.WalkSmall
import Derived.Deep.RegionHeld3
namespace Go.Proofs.YtlinhcbjljcgbaaDoor
open Go.RowKit

set_option maxHeartbeats 1000000 in
theorem equal_any (a1 a2 : Option Addr) (n1 n2 c1 c2 : Nat) (xs ys : List (BitVec 8)) (w : World) (h1 : n1 = xs.length) (h2 : n2 = ys.length) (hl : n1 ≤ maxLen)
    (hx : Rd w a1 (xs.map B8)) (hy : Rd w a2 (ys.map B8)) :
    Calls Tryd.prog 38 #[.slice a1 n1 c1, .slice a2 n2 c2] w fun e w' => e = .returned (.bool (decide (xs = ys))) ∧ Below w.heap.size w w' := by
  subst h1 h2
  unfold maxLen at hl
  have HX := Lib.hid hx; clear hx
  have HY := Lib.hid hy; clear hy
  by_cases hlen : xs.length = ys.length
  · have hb : ((xs.length : Int) != ys.length) = false := by simp [hlen]
    go_enter Tryd.func38, Tryd.ntmps38
    have HL := Lib.hid hlen; clear hlen
    go_wp2
    go_loopw [13] (fun i wr => ∃ k : Nat, k ≤ xs.length ∧ i = .int .i64 k ∧ xs.take k = ys.take k ∧ Below w.heap.size w wr) (fun i _ => xs.length - (intOf i).toNat)
    case atStart => exact ⟨0, Nat.zero_le _, rfl, rfl, Below.refl _ _⟩
    case round =>
      obtain ⟨k, hk, rfl, htk, hbl⟩ := hrel
      by_cases hlt : k < xs.length
      · have hlt2 : k < ys.length := by have := HL.out; omega
        obtain ⟨b, o, rfl, hcell⟩ := (HX.out.below hbl) k (by simpa using hlt)
        obtain ⟨b2, o2, rfl, hcell2⟩ := (HY.out.below hbl) k (by simpa using hlt2)
        simp only [List.getElem_map, B8] at hcell hcell2
        have HTK := Lib.hid htk; clear htk
        have HB := Lib.hid hbl; clear hbl
        by_cases hek : xs[k] = ys[k]
        · have hd : (I8 xs[k] != I8 ys[k]) = false := by simp [hek]
          have HEK := Lib.hid hek; clear hek
          go_wp2_with fail
          go_quiet (fail)
          go_wp2
          go_roundw
          case rel => exact ⟨k + 1, by omega, by go_num, take_snoc_eq hlt hlt2 HTK.out HEK.out, below_drewN HB.out _⟩
          case measure => simp [intOf]; omega
        · have hd : (I8 xs[k] != I8 ys[k]) = true := by simp [I8_inj, hek]
          have HEK := Lib.hid hek; clear hek
          go_wp2_with fail
          go_quiet (fail)
          go_wp2
          go_ret
          exact ⟨by rw [decide_eq_false (take_ne hlt hlt2 HEK.out)]; rfl, below_drewN HB.out _⟩
      · obtain rfl : k = xs.length := by omega
        have he : xs = ys := by rw [List.take_length, HL.out, List.take_length] at htk; exact htk
        have HE := Lib.hid he; clear he htk
        go_wp2
        go_ret
        exact ⟨by rw [decide_eq_true HE.out]; rfl, hbl⟩
  · have hb : ((xs.length : Int) != ys.length) = true := by simp; omega
    have hne : xs ≠ ys := by rintro rfl; exact hlen rfl
    have HN := Lib.hid hne; clear hne
    clear hlen
    go_enter Tryd.func38, Tryd.ntmps38
    go_wp2
    go_ret
    exact ⟨by rw [decide_eq_false HN.out]; rfl, Below.refl _ _⟩

theorem Rd.dropMap {w : World} {a : Option Addr} {zs : List Value} (h : Rd w a zs) (k : Nat) : Rd w (a.map (fun x => x.add k)) (zs.drop k) := by
  intro i hi
  have hi' : k + i < zs.length := by simp at hi; omega
  obtain ⟨b, o, rfl, hc⟩ := h (k + i) hi'
  exact ⟨b, o + k, by simp [addr_add], by rw [Nat.add_assoc, hc]; simp⟩

set_option maxHeartbeats 1000000 in
theorem ends_any (a : Option Addr) (n cap : Nat) (zs : List (BitVec 8)) (w : World) (hn : n = zs.length) (hl : n ≤ 100000) (hcap : n ≤ cap) (hcm : cap ≤ maxLen)
    (hc : Rd w a (zs.map B8)) (ht : TabAt w) :
    Calls Tryd.prog 18 #[.slice a n cap] w fun e w' => e = .returned (.bool (endsOf zs)) ∧ Below w.heap.size w w' := by
  unfold maxLen at hcm
  have HC := Lib.hid hc; clear hc
  have HT := Lib.hid ht; clear ht
  have HN := Lib.hid hn; clear hn
  by_cases h4 : n < 4
  · have hd : decide ((n : Int) < 4) = true := by simp; omega
    have he : endsOf zs = false := decide_eq_false (fun h => by have := h.1; have := HN.out; omega)
    rw [he]
    go_enter Tryd.func18, Tryd.ntmps18
    go_wp2
    go_ret
    exact ⟨rfl, Below.refl _ _⟩
  · have hd : decide ((n : Int) < 4) = false := by simp; omega
    have hcd : ¬ cap = n - 4 := by omega
    have hi1 : (4 : Int) ≤ n := by omega
    have hi2 : (n : Int) - 4 ≤ n := by omega
    have hi3 : (n : Int) - 4 ≤ cap := by omega
    have HK := Lib.hid (show ((n : Int) - 4).toNat = n - 4 by omega)
    have h0 : Rd w a ((zs.take (n - 4)).map B8) := by rw [List.map_take]; exact HC.out.take _
    have h1 : Rd w (a.map (fun x => x.add (n - 4))) ((zs.drop (n - 4)).map B8) := by rw [List.map_drop]; exact HC.out.dropMap _
    have H0 := Lib.hid h0
    have H1 := Lib.hid h1
    clear h0 h1
    have he : endsOf zs = decide (zs.drop (n - 4) = four (sumOf (zs.take (n - 4)))) := by
      have := HN.out
      subst this
      unfold endsOf
      simp [Nat.le_of_not_lt h4]
    rw [he]
    clear he
    go_enter Tryd.func18, Tryd.ntmps18
    go_wp2_with fail
    go_region_held3 (fun _ => True) (exact trivial) (first
      | (go_at_call 13; refine (of_any _ _ _ (zs.take (n - 4)) _ (by have := HN.out; simp; omega) (by unfold maxLen; omega) (by exact H0.out.drew) (by exact HT.out)).mono ?_; rintro e w' ⟨rfl, rfl⟩)
      | (go_at_call 36; refine (four_any _ _).mono ?_; rintro e w' ⟨rfl, rfl⟩)
      | (go_at_call 38; refine (equal_any _ _ _ _ _ _ (zs.drop (n - 4)) (four (sumOf (zs.take (n - 4)))) _ (by have := HN.out; simp; omega) (by simp [four]) (by unfold maxLen; omega) (by first | exact H1.out.drew.alloc _ | (rw [HK.out]; exact H1.out.drew.alloc _)) (by exact Rd.lit _ _ _ _)).mono ?_; rintro e w' ⟨rfl, hb⟩))
    go_wp2
    go_ret
    exact ⟨rfl, ((Below.refl _ _).alloc (Nat.le_refl _) _).drew.trans (hb.mono (by simp))⟩
end Go.Proofs.YtlinhcbjljcgbaaDoor
