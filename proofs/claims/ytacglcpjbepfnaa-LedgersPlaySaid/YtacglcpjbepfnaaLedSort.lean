/- The lines of a ledger in order. -/
import Derived.Test.YtacglcpjbepfnaaLedMap
import Derived.Test.YtacglcpjbepfnaaLed2
import Derived.Test.YtacglcpjbepfnaaHeapOwn
import Derived.Shelf.SlSortCmp.WholeK
namespace Go.Proofs.Ytacglcpjbepfnaa
open Go.RowKit Go.Sort
instance : Inhabited Lin := ⟨⟨0, 0, 0, 0, 0⟩⟩
def linV (x : Lin) : List Value := [.int .u8 x.cr, .int .u8 x.db, .int .u8 x.cu, .int .i64 x.lim, .int .i64 x.deb]
def linL (L : List Lin) : List Value := L.flatMap linV
theorem linL_len (L : List Lin) : (linL L).length = L.length * 5 := by
  induction L with
  | nil => rfl
  | cons x F ih => simp only [linL, List.flatMap_cons, List.length_append] at *; rw [ih]; simp [linV, Nat.add_mul]; omega
theorem linL_app (F G : List Lin) : linL (F ++ G) = linL F ++ linL G := by simp [linL]
theorem linL_at : ∀ (L : List Lin) (k : Nat) (h : k < L.length), ((linL L).drop (k * 5)).take 5 = linV L[k]
  | [], k, h => by simp at h
  | x :: L, 0, _ => by simp [linL, linV]
  | x :: L, k + 1, h => by
    have := linL_at L k (by simpa using h)
    rw [List.getElem_cons_succ, ← this]
    rw [show linL (x :: L) = linV x ++ linL L by simp [linL]]
    rw [show (k + 1) * 5 = (linV x).length + k * 5 by simp [linV]; omega, List.drop_length_add_append]
theorem linL_row (L : List Lin) (k : Nat) (h : k < L.length) : (((linL L).drop (k * 5)).take 5).toArray = line L[k].cr L[k].db L[k].cu L[k].lim L[k].deb := by
  rw [linL_at L k h]; rfl
theorem linL_ones (L : List Lin) : OneCells (linL L) := fun u hu => by
  unfold linL at hu
  rw [List.mem_flatMap] at hu
  obtain ⟨x, _, hx⟩ := hu
  simp only [linV, List.mem_cons, List.not_mem_nil, or_false] at hx
  rcases hx with rfl | rfl | rfl | rfl | rfl <;> rfl
theorem flatK_lin (d : Array Lin) : flatK linV 5 d = (linL d.toList).toArray := by
  refine Go.Sort.ext_get! (by simp [linL_len]) fun t ht => ?_
  have ht' : t < d.size * 5 := by simpa using ht
  rw [get_flatK _ _ _ _ ht']
  have hq : t / 5 < d.toList.length := by simp; omega
  have h1 := linL_at d.toList (t / 5) hq
  have hr : t % 5 < 5 := Nat.mod_lt _ (by omega)
  have h2 : (linL d.toList)[t]? = (linV d.toList[t / 5])[t % 5]? := by
    rw [← h1, List.getElem?_take, if_pos hr, List.getElem?_drop]
    congr 1; omega
  have h3 : d[t / 5]! = d.toList[t / 5] := by
    rw [getElem!_pos d (t / 5) (by simpa using hq)]; simp
  rw [h3]
  have h4 : ((linL d.toList).toArray)[t]! = ((linL d.toList)[t]?).getD default := by simp [Array.getElem!_eq_getD, Array.getD_eq_getD_getElem?]
  rw [h4, h2]
  simp [List.getElem!_eq_getElem?_getD]
def or3 (a b c : Int) : Int := if a ≠ 0 then a else if b ≠ 0 then b else c
def cfL (x y : Lin) : Int := or3 (Lib.compareInt x.cu y.cu) (Lib.compareInt x.cr y.cr) (Lib.compareInt x.db y.db)
theorem lt_cfL (x y : Lin) : ltOf cfL x y = decide (x.cu < y.cu ∨ x.cu = y.cu ∧ (x.cr < y.cr ∨ x.cr = y.cr ∧ x.db < y.db)) := by
  have key : ∀ a b : Int, (a < b ∧ Lib.compareInt a b = -1) ∨ (a = b ∧ Lib.compareInt a b = 0) ∨ (b < a ∧ Lib.compareInt a b = 1) := fun a b => by
    unfold Lib.compareInt
    rcases Int.lt_trichotomy a b with h | h | h
    · exact .inl ⟨h, by simp [h]⟩
    · exact .inr (.inl ⟨h, by simp [h]⟩)
    · refine .inr (.inr ⟨h, ?_⟩)
      rw [if_neg (by omega)]
      simp [h]
  unfold ltOf cfL or3
  congr 1
  rcases key x.cu y.cu with ⟨h, e⟩ | ⟨h, e⟩ | ⟨h, e⟩ <;> rw [e]
  · simp [h]
  · rcases key x.cr y.cr with ⟨h2, e2⟩ | ⟨h2, e2⟩ | ⟨h2, e2⟩ <;> rw [e2]
    · simp [h, h2]
    · rcases key x.db y.db with ⟨h3, e3⟩ | ⟨h3, e3⟩ | ⟨h3, e3⟩ <;> rw [e3]
      · simp [h, h2, h3]
      · simp [h, h2, h3]
      · simp [h, h2]; omega
    · simp [h]; omega
  · simp; omega
theorem swoL : SWO (ltOf cfL) where
  irrefl x := by rw [lt_cfL]; simp
  trans x y z h1 h2 := by rw [lt_cfL] at *; simp only [decide_eq_true_eq] at *; omega
  ntrans x y z h1 h2 := by rw [lt_cfL] at *; simp only [decide_eq_false_iff_not] at *; omega
theorem lt_rank {x y : Lin} (hx : Small x) (hy : Small y) : ltOf cfL x y = decide (x.rank < y.rank) := by
  rw [lt_cfL]
  unfold Small at hx hy
  unfold Lin.rank
  congr 1
  refine propext ⟨?_, ?_⟩ <;> intro h <;> omega
theorem sorted_lines {S : Lgr} {d d' : Array Lin} (G : S.Good) (hd : d.toList.Perm S.L) (hp : PermIn 0 d.size d d') (hs : SortedIn (ltOf cfL) 0 d.size d') : d'.toList = S.L := by
  obtain ⟨hsz, _, hperm⟩ := hp
  have e1 : d'.extract 0 d.size = d' := by rw [← hsz]; simp
  have e2 : d.extract 0 d.size = d := by simp
  rw [e1, e2] at hperm
  have hP : d'.toList.Perm S.L := hperm.trans hd
  have hnd : d'.toList.Nodup := hP.nodup_iff.2 (sorted_nodup G.ord)
  refine sorted_ext ?_ G.ord (fun z => hP.mem_iff)
  rw [List.pairwise_iff_getElem]
  intro i j hi hj hij
  have hi' : i < d'.size := by simpa using hi
  have hj' : j < d'.size := by simpa using hj
  have h := hs i j (Nat.zero_le _) hij (by omega)
  rw [getElem!_pos d' i hi', getElem!_pos d' j hj'] at h
  have mi : d'[i] ∈ S.L := hP.mem_iff.1 (by simp)
  have mj : d'[j] ∈ S.L := hP.mem_iff.1 (by simp)
  rw [lt_rank (G.smalls _ mj) (G.smalls _ mi)] at h
  simp only [decide_eq_false_iff_not] at h
  simp only [Array.getElem_toList]
  rcases Int.lt_or_le d'[i].rank d'[j].rank with h' | h'
  · exact h'
  · exfalso
    have e : d'[i] = d'[j] := G.uniq mi mj (by omega)
    have hne := List.pairwise_iff_getElem.1 hnd i j hi hj hij
    exact hne (by simpa using e)
end Go.Proofs.Ytacglcpjbepfnaa
