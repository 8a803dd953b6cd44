/- Lists of numbers that are the same; copies with room behind; whether a copy was left as it was. -/
import Derived.Test.YtfbipghjhngncaaRows
import Derived.Test.YtfbipghjhngncaaSum
import Derived.Lib.AppendZeros
import Derived.Deep.QuietTactic
import Derived.BigQuiet
import Derived.WalkSmall
import Derived.Laws.MakeOwn
namespace Go.Proofs.Ytfbipghjhngncaa
open Go.RowKit
set_option linter.unusedVariables false

theorem slTy_mk {P : Program} {t e size bytes : Nat} {z : Value} (h1 : P.underlying t = some (.slice e)) (h2 : (P.info? e).map (fun i => (i.zero, i.size, i.bytes)) = some (some z, size, bytes))
    (h3 : z.cells.size = size) (h4 : 0 < size) : SlTy P t e size bytes z := by
  obtain ⟨j, hj, he⟩ := Option.map_eq_some_iff.1 h2
  simp only [Prod.mk.injEq] at he
  exact ⟨h1, ⟨j, hj, he.1, he.2.1, he.2.2⟩, h3, h4⟩
theorem slI : SlTy Try.prog 28 2 1 8 (.int .i64 0) := slTy_mk Try.underlying28 (by kernel_rfl) rfl (by decide)
set_option maxHeartbeats 1000000 in
theorem same_any (a1 a2 : Option Addr) (n1 n2 c1 c2 : Nat) (xs ys : List Int) (w : World) (h1 : n1 = xs.length) (h2 : n2 = ys.length) (hl : n1 ≤ maxLen)
    (hx : Rd w a1 (I64s xs)) (hy : Rd w a2 (I64s ys)) :
    Calls Try.prog 53 #[.slice a1 n1 c1, .slice a2 n2 c2] w fun e w' => e = .returned (.bool (decide (xs = ys))) ∧ Below w.heap.size w w' := by
  subst h1 h2
  unfold maxLen at hl
  have HX := Lib.hid hx; clear hx
  have HY := Lib.hid hy; clear hy
  by_cases hlen : xs.length = ys.length
  · have hb : ((xs.length : Int) != ys.length) = false := by simp [hlen]
    go_enter Try.func53, Try.ntmps53
    have HL := Lib.hid hlen; clear hlen
    go_wp2
    go_loopw [5] (fun i wr => ∃ k : Nat, k ≤ xs.length ∧ i = .int .i64 k ∧ xs.take k = ys.take k ∧ Below w.heap.size w wr) (fun i _ => xs.length - (intOf i).toNat)
    case atStart => exact ⟨0, Nat.zero_le _, rfl, rfl, Below.refl _ _⟩
    case round =>
      obtain ⟨k, hk, rfl, htk, hbl⟩ := hrel
      by_cases hlt : k < xs.length
      · have hlt2 : k < ys.length := by have := HL.out; omega
        obtain ⟨b, o, rfl, hcell⟩ := (HX.out.below hbl) k (by simpa [I64s] using hlt)
        obtain ⟨b2, o2, rfl, hcell2⟩ := (HY.out.below hbl) k (by simpa [I64s] using hlt2)
        simp only [I64s, List.getElem_map] at hcell hcell2
        have HTK := Lib.hid htk; clear htk
        have HB := Lib.hid hbl; clear hbl
        by_cases hek : xs[k] = ys[k]
        · have hd : (xs[k] != ys[k]) = false := by simp [hek]
          have HEK := Lib.hid hek; clear hek
          go_wp2_with fail
          go_quiet (fail)
          go_wp2
          go_roundw
          case rel => exact ⟨k + 1, by omega, by go_num, take_snoc_eq hlt hlt2 HTK.out HEK.out, below_drewN HB.out _⟩
          case measure => simp [intOf]; omega
        · have hd : (xs[k] != ys[k]) = true := by simp [hek]
          have HEK := Lib.hid hek; clear hek
          go_wp2_with fail
          go_quiet (fail)
          go_wp2
          go_ret
          exact ⟨by rw [decide_eq_false (take_ne hlt hlt2 HEK.out)]; rfl, below_drewN HB.out _⟩
      · obtain rfl : k = xs.length := by omega
        have he : xs = ys := by rw [List.take_length, HL.out, List.take_length] at htk; exact htk
        have HE := Lib.hid he; clear he htk
        go_wp2
        go_ret
        exact ⟨by rw [decide_eq_true HE.out]; rfl, hbl⟩
  · have hb : ((xs.length : Int) != ys.length) = true := by simp; omega
    have hne : xs ≠ ys := by rintro rfl; exact hlen rfl
    have HN := Lib.hid hne; clear hne
    clear hlen
    go_enter Try.func53, Try.ntmps53
    go_wp2
    go_ret
    exact ⟨by rw [decide_eq_false HN.out]; rfl, Below.refl _ _⟩

/-- What a twin is: a block of its own with the list, and the mark twice behind it. -/
def TwinAt (w : World) (g : Nat) (vs : List Value) (m : Value) : Prop := w.heap[g]? = some (.cells (vs ++ [m, m]).toArray 2 (0, 0))
theorem TwinAt.rd {w : World} {g : Nat} {vs : List Value} {m : Value} (h : TwinAt w g vs m) : Rd w (some ⟨g, 0, none⟩) vs :=
  Rd.ofBlock h vs (fun i hi => by simp [List.getElem?_append_left hi])
theorem TwinAt.below {w w' : World} {g : Nat} {vs : List Value} {m : Value} (h : TwinAt w g vs m) (hb : Below w.heap.size w w') : TwinAt w' g vs m := by
  unfold TwinAt
  rw [hb.block g (Array.getElem?_eq_some_iff.1 h).1]; exact h
theorem TwinAt.lt {w : World} {g : Nat} {vs : List Value} {m : Value} (h : TwinAt w g vs m) : g < w.heap.size := (Array.getElem?_eq_some_iff.1 h).1

set_option maxHeartbeats 1000000 in
theorem twin_any (a : Option Addr) (n c : Nat) (vs : List Value) (m : Int) (w : World) (hn : n = vs.length) (hl : n ≤ 1000000) (hx : Rd w a vs) (h1 : ∀ u ∈ vs, u.oneCell' = true) :
    Calls Try.prog 22 #[.slice a n c, .int .i64 m] w fun e w' => ∃ g, e = .returned (.slice (some ⟨g, 0, none⟩) n (n + 2)) ∧ w.heap.size ≤ g ∧ TwinAt w' g vs (.int .i64 m) ∧ Below w.heap.size w w' := by
  have HX := Lib.hid hx; clear hx
  have HN := Lib.hid hn; clear hn
  have H1 := Lib.hid h1; clear h1
  go_enter Try.func22, Try.ntmps22
  go_wp2_with (first
    | (at_make; refine wpl_make0 w rfl _ _ _ rfl slI w.heap.size .i64 .i64 _ (n + 2) rfl rfl (by omega) (by omega) (by unfold maxLen; omega) (Nat.le_refl _) ?_; intro w1 hown1 hg1)
    | (at_builtin; refine wpl_fits rfl (.tmp 10) (.tmp 11) _ rfl slI w.heap.size w.heap.size 0 (n + 2) [] rfl hown1 a n c vs rfl (by have := HN.out; omega) (HX.out.below ((Below.refl _ _).grown hg1 (Nat.le_refl _) (by simp))) H1.out (by omega) ?_; intro w2 hown2 hg2)
    | (at_builtin; refine wpl_fits rfl (.tmp 13) (.tmp 16) _ rfl slI w.heap.size w.heap.size (0 + n) (n + 2) ([] ++ vs) (by simp [go_sem]) (hown2.alloc _) (some ⟨w2.heap.size, 0, none⟩) 2 2 [.int .i64 m, .int .i64 m] rfl rfl (Rd.lit w2 #[.int .i64 m, .int .i64 m] _ _) (by simp [Value.oneCell']) (by omega) ?_; intro w3 hown3 hg3))
  go_ret
  have hb1 : Below w.heap.size w w1 := (Below.refl _ _).grown hg1 (Nat.le_refl _) (by simp)
  have hb2 : Below w.heap.size w w2 := hb1.grown hg2 hb1.size (by rintro k ⟨rfl⟩; exact Nat.le_refl _)
  have hb3 : Below w.heap.size w w3 := (hb2.alloc hb2.size _).grown hg3 (by have := hb2.size; simp; omega) (by rintro k ⟨rfl⟩; exact Nat.le_refl _)
  refine ⟨w.heap.size, rfl, Nat.le_refl _, ?_, hb3⟩
  rcases hown3.2 with ⟨h, _⟩ | ⟨g, cap, cur, hv, _, hg, _, _, hsz, htk⟩
  · simp at h
  · simp only [Value.slice.injEq, Option.some.injEq, Addr.mk.injEq, and_true] at hv
    obtain ⟨rfl, hn2, rfl⟩ := hv
    unfold TwinAt
    rw [hg]
    have e : cur.toList = vs ++ [.int .i64 m, .int .i64 m] := by
      rw [← List.take_of_length_le (l := cur.toList) (i := (0 + n + 2) * 1) (by simp [hsz])]
      simpa using htk
    rw [← e]

theorem run_cutTail {P : Program} {t e size bytes : Nat} {z : Value} (T : SlTy P t e size bytes z) (g len n k : Nat) (hk : 0 < k) (k1 k2 : IntKind) (w : World) :
    (Instr.slice t (.slice (some ⟨g, 0, none⟩) len (n + k)) (some (.int k1 (n : Int))) (some (.int k2 ((n : Int) + (k : Int)))) none).run P w = .ok (.slice (some ⟨g, n * size, none⟩) k k) w := by
  have := run_cut T (some ⟨g, 0, none⟩) len (n + k) n (n + k) k1 k2 (by omega) (Nat.le_refl _) w
  rw [Int.natCast_add] at this
  rw [this]
  have e1 : cutA (some ⟨g, 0, none⟩) (n + k) n size = some ⟨g, n * size, none⟩ := by
    unfold cutA; rw [if_neg (by omega)]; simp [addr_add]
  rw [e1, Nat.add_sub_cancel_left]

set_option maxHeartbeats 1000000 in
theorem left_any (g n c2 : Nat) (a2 : Option Addr) (n2 : Nat) (xs ys : List Int) (m : Int) (w : World) (hn : n = xs.length) (hl : n ≤ 1000000) (h2 : n2 = ys.length) (ht : TwinAt w g (I64s xs) (.int .i64 m)) (hy : Rd w a2 (I64s ys)) :
    Calls Try.prog 25 #[.slice (some ⟨g, 0, none⟩) n (n + 2), .slice a2 n2 c2, .int .i64 m] w fun e w' => e = .returned (.bool (decide (xs = ys))) ∧ Below w.heap.size w w' := by
  have HC := Lib.hid (same_any (some ⟨g, 0, none⟩) a2 n n2 (n + 2) c2 xs ys w hn h2 (by unfold maxLen; omega) ht.rd hy)
  have HT := Lib.hid ht
  have HN := Lib.hid hn
  clear ht hy hn h2
  by_cases he : xs = ys
  · rw [decide_eq_true he]
    rw [decide_eq_true he] at HC
    clear he
    have hsl := fun wx => run_cutTail slI g n n 2 (by decide) .i64 .i64 wx
    simp only [Nat.mul_one] at hsl
    go_enter Try.func25, Try.ntmps25
    go_wp2_with fail
    refine HC.out.mono ?_
    rintro e w1 ⟨rfl, hb⟩
    have h1 := (HT.out.below hb)
    have c0 : w1.cell? ⟨g, n, none⟩ = some (.int .i64 m) := by
      unfold TwinAt at h1
      simp only [World.cell?, h1, HN.out]
      simp [I64s]
    have c1 : w1.cell? ⟨g, n + 1, none⟩ = some (.int .i64 m) := by
      unfold TwinAt at h1
      simp only [World.cell?, h1, HN.out]
      simp [I64s]
    have HB := Lib.hid hb
    clear hb h1
    go_wp2_with fail
    go_ret
    exact ⟨rfl, HB.out⟩
  · rw [decide_eq_false he]
    rw [decide_eq_false he] at HC
    clear he
    go_enter Try.func25, Try.ntmps25
    go_wp2_with fail
    refine HC.out.mono ?_
    rintro e w1 ⟨rfl, hb⟩
    go_wp2_with fail
    go_ret
    exact ⟨rfl, hb⟩

end Go.Proofs.Ytfbipghjhngncaa
