/- FramesSpoilt: part 12 of its proof: LawFramesSpoilt, Open, Shape, Open18, LawFramesSpoilt2, Tab. -/
import Derived.Test.YtlinhcbjljcgbaaDoorFramesSpoiltPart11
import Derived.ProofKit
import Derived.OpenShut
import Derived.ChangeOld
import Derived.Test.YtlinhcbjljcgbaaDoorProg
import Derived.Lib.SmallJoins
import Derived.Test.YtlinhcbjljcgbaaDoorRows
import Derived.LaidMore
import Derived.Lib.LaidTab
import Derived.Stop.Joined
/- FramesSpoilt: its walk. -/
namespace Go.Proofs.YtlinhcbjljcgbaaDoor
open Go.RowKit
attribute [local go_sem] Oper.semAt_some
set_option linter.unusedSimpArgs false
set_option linter.unusedVariables false
section
variable {ops : Array Oper} {Q : Exit → Act → World → Prop} {rest : List Oper} {a : Act} {w W : World} {l l' : List Thing}
theorem wpl_storeOwnI {T e : TypeId} {dst : Option Tmp} {ty : TypeId} {pos : String} {after : Array Edge} {guard : Option (Nat × Bool)} {x y : Operand} {g ad off n c size j : Nat} {kd : IntKind} {z : Int} {xs : List Value} (CT : CellTy T) (hw : Region.wanted ⟨dst, .store T x y, ty, pos, after, guard⟩ (yielded ops a.tmps) = true) (hx : a.eval x = .pointer (some ⟨g, ad, none⟩)) (hy : a.eval y = .int kd z)
    (H : Heap W l w) (m : OwnT e size (.slice (some ⟨g, off, none⟩) n c) n xs ∈ l) (hk : ad = off + j) (hj : j < xs.length) (r : Repl l (OwnT e size (.slice (some ⟨g, off, none⟩) n c) n xs) (OwnT e size (.slice (some ⟨g, off, none⟩) n c) n (xs.set j (.int kd z))) l')
    (h : ∀ w', Heap W l' w' → wpList Tryd.prog ops Q rest (a.put dst undef) w') : wpList Tryd.prog ops Q (⟨dst, .store T x y, ty, pos, after, guard⟩ :: rest) a w :=
  wpl_storeOwnC CT hw hx hy ⟨rfl, rfl⟩ H m hk hj r h
end
theorem bit_trueS {b : BitVec 32} {i : Nat} (h : b.getLsbD i = true) : (I32 ((b >>> i) &&& 1#32) == 1) = true := by
  have e : (b >>> i) &&& 1#32 = 1#32 := by
    apply BitVec.eq_of_getLsbD_eq; intro j hj
    rcases j with _ | j
    · simp [h]
    · simp
  rw [e]; decide +kernel
theorem bit_falseS {b : BitVec 32} {i : Nat} (h : b.getLsbD i = false) : (I32 ((b >>> i) &&& 1#32) == 1) = false := by
  have e : (b >>> i) &&& 1#32 = 0#32 := by
    apply BitVec.eq_of_getLsbD_eq; intro j hj
    rcases j with _ | j
    · simp [h]
    · simp
  rw [e]; decide +kernel
attribute [local go_sem high] bits32_and1 bits8_xor I32_shr I8_bit
theorem cell_u16 : CellTy 44 := ⟨⟨_, Tryd.underlying44, rfl⟩, by kernel_rfl⟩
def two16 (a : Int) (b : Int) : Array Value := #[.int .u16 a, .int .u16 b]
section
variable (a : Int) (b : Int)
theorem two16_sz : (two16 a b).size = 2 := rfl
theorem two16_g0 : (two16 a b)[0]? = some (.int .u16 a) := rfl
theorem two16_s0 (v : Int) : (two16 a b).setIfInBounds 0 (.int .u16 v) = two16 v b := rfl
theorem two16_g1 : (two16 a b)[1]? = some (.int .u16 b) := rfl
theorem two16_s1 (v : Int) : (two16 a b).setIfInBounds 1 (.int .u16 v) = two16 a v := rfl
end
theorem row_two16 : RowTy 50 2 (two16 0 0) := ⟨⟨_, Tryd.underlying50, rfl⟩, by kernel_rfl, by kernel_rfl⟩
structure FsL (W : World) (l : List Thing) (g o N c : Nat) (zs : Bs) (bits : BitVec 32) (f : Nat) (i : Value) (wr : World) : Prop where
  out : ∃ k : Nat, i = .int .i64 (k : Int) ∧ k ≤ 32 ∧ Heap W (OwnB (.slice (some ⟨g, o, none⟩) N c) N (flips zs bits f k) :: l) wr
section
variable {W w : World} {l : List Thing}
set_option maxRecDepth 100000
set_option maxHeartbeats 2000000
theorem fsp_odd (a : Option Addr) (n c : Nat) (x z0 z1 : Int) (L : List (Value × Bs)) (hI : InL W a n c L) (ho : greatF (L.map (·.2)) 0 = true ∨ n = 0 ∨ x = 0) (T : TabAt W) (H : Heap W l w) : Calls Tryd.prog 9 #[.slice a n c, .int .u32 x, .agg (two16 z0 z1)] w fun e w' => e = .returned (.bool true) ∧ Heap W l w' := by
  have LV := fun (l : List Thing) (V : World) (H : Heap W l V) => lives18_H (W := W) (l := l) (w := V) T H
  have GR := fun (l : List Thing) => great_H (W := W) (l := l) a n c L hI
  by_cases hg : greatF (L.map (·.2)) 0 = true
  · rw [hg] at GR
    go_enter Tryd.func9, Tryd.ntmps9
    go_wp2_with (first | go_skip | ((with_reducible show wpList _ _ _ (_ :: _) _ _); (with_reducible apply wpl_boxRH); (· rfl); (· rfl); (· exact H); (clear H; intro pz _ H); (simp only [Act.put, List.setIfInBounds_toArray, List.set_cons_zero, List.set_cons_succ])) | ((with_reducible refine AnsH.call (GR _) H ?_); clear H; intro _ H) | ((with_reducible refine (LV _ _ H).mono ?_); clear H; rintro _ _ ⟨rfl, H⟩))
    go_ret
    exact ⟨rfl, H.tail⟩
  · have hg2 : greatF (L.map (·.2)) 0 = false := by simpa using hg
    rw [hg2] at GR
    by_cases hn : n = 0
    · have e1 : ((n : Int) == 0) = true := by simp; omega
      clear hn ho
      go_enter Tryd.func9, Tryd.ntmps9
      go_wp2_with (first | go_skip | ((with_reducible show wpList _ _ _ (_ :: _) _ _); (with_reducible apply wpl_boxRH); (· rfl); (· rfl); (· exact H); (clear H; intro pz _ H); (simp only [Act.put, List.setIfInBounds_toArray, List.set_cons_zero, List.set_cons_succ])) | ((with_reducible refine AnsH.call (GR _) H ?_); clear H; intro _ H) | ((with_reducible refine (LV _ _ H).mono ?_); clear H; rintro _ _ ⟨rfl, H⟩))
      go_ret
      exact ⟨rfl, H.tail⟩
    · have e1 : ((n : Int) == 0) = false := by simp; omega
      have hx : x = 0 := (ho.resolve_left hg).resolve_left hn
      have e2 : (x == 0) = true := by simp [hx]
      clear hn ho hx
      go_enter Tryd.func9, Tryd.ntmps9
      go_wp2_with (first | go_skip | ((with_reducible show wpList _ _ _ (_ :: _) _ _); (with_reducible apply wpl_boxRH); (· rfl); (· rfl); (· exact H); (clear H; intro pz _ H); (simp only [Act.put, List.setIfInBounds_toArray, List.set_cons_zero, List.set_cons_succ])) | ((with_reducible refine AnsH.call (GR _) H ?_); clear H; intro _ H) | ((with_reducible refine (LV _ _ H).mono ?_); clear H; rintro _ _ ⟨rfl, H⟩))
      go_ret
      exact ⟨rfl, H.tail⟩
theorem fsp_H (a : Option Addr) (n c z0 z1 : Nat) (h0 : z0 ≤ 65535) (h1 : z1 ≤ 65535) (bits : BitVec 32) (hb : bits ≠ 0#32) (L : List (Value × Bs)) (hI : InL W a n c L) (hn0 : 0 < n) (hg : greatF (L.map (·.2)) 0 = false) (T : TabAt W) (H : Heap W l w) : Calls Tryd.prog 9 #[.slice a n c, .int .u32 (I32 bits), .agg (two16 (z0 : Int) (z1 : Int))] w fun e w' => e = .returned (.bool true) ∧ Heap W l w' := by
  have LV := fun (l : List Thing) (V : World) (H : Heap W l V) => lives18_H (W := W) (l := l) (w := V) T H
  have GR := fun (l : List Thing) => great_H (W := W) (l := l) a n c L hI
  have PU := fun (x : Thing) (V : World) (H : Heap W (x :: l) V) => puts_H (W := W) (l := x :: l) (w := V) a n c L hI hg T H
  rw [hg] at GR
  have hok := greatF_ok _ _ hg
  have hfl := frs_len (L.map (·.2))
  have hml : (L.map (·.2)).length = n := by rw [List.length_map, hI.len]
  obtain ⟨N, hN⟩ : ∃ N, (frs (L.map (·.2))).length = N := ⟨_, rfl⟩
  have hNb : N ≤ 20000 := by omega
  have hnb : n ≤ 2000 := by rw [hml] at hfl; omega
  unfold PutsPost at PU
  rw [hN, hml] at PU
  have HI := Lib.hid (And.intro hI hml)
  have HA := Lib.hid hok.1
  have HN := Lib.hid hN
  have HBITS := Lib.hid hb
  have e1 : ((n : Int) == 0) = false := by simp; omega
  have e2 : (I32 bits == 0) = false := by
    simp only [beq_eq_false_iff_ne, ne_eq]
    intro e
    have h9 : I32 bits = I32 0#32 := e
    exact hb (I32_inj.1 h9)
  clear hI hg hok hfl hml hN hb
  go_enter Tryd.func9, Tryd.ntmps9
  go_wp2_with (first | go_skip | ((with_reducible show wpList _ _ _ (_ :: _) _ _); (with_reducible apply wpl_boxRH); (· rfl); (· rfl); (· exact H); (clear H; intro pz _ H); (simp only [Act.put, List.setIfInBounds_toArray, List.set_cons_zero, List.set_cons_succ])) | ((with_reducible refine AnsH.call (GR _) H ?_); clear H; intro _ H))
  refine (PU _ _ H).mono ?_
  clear PU H GR
  rintro e w1 ⟨ab, cb, ae, ce, rfl, H⟩
  obtain ⟨k, hk⟩ : ∃ k, z0 % n = k := ⟨_, rfl⟩
  have hkn : k < n := by rw [← hk]; exact Nat.mod_lt _ hn0
  have hkI : (z0 : Int) % (n : Int) = (k : Int) := by rw [← hk]; push_cast; rfl
  clear hk
  go_wp2_with (first
    | go_skip
    | ((with_reducible show wpList _ _ _ (_ :: _) _ _); (with_reducible apply wpl_loadCH); (· exact cell_u16); (· rfl); (· rfl); (· exact H); (· (repeat (first | (with_reducible exact List.mem_cons_self) | with_reducible apply List.mem_cons_of_mem))); (· (with_reducible first | exact two16_g0 .. | exact two16_g1 ..)); (simp only [Act.put, List.setIfInBounds_toArray, List.set_cons_zero, List.set_cons_succ])))
  rw [hkI]
  have hk1 : k < (L.map (·.2)).length := by rw [HI.out.2]; exact hkn
  have hft := frs_take (L.map (·.2)) hk1
  obtain ⟨xk, hxk⟩ : ∃ xk, (L.map (fun x : Value × Bs => x.2))[k]'hk1 = xk := ⟨_, rfl⟩
  have hx8 := HA.out ((L.map (fun x : Value × Bs => x.2))[k]'hk1) (List.getElem_mem hk1)
  rw [hxk] at hx8 hft
  have hE := congrArg List.length hft
  rw [List.length_append, frameOf_len] at hE
  have hhl := num2_len xk.length
  obtain ⟨E, hEE⟩ : ∃ E, (frs ((L.map (·.2)).take (k + 1))).length = E := ⟨_, rfl⟩
  obtain ⟨m, hm⟩ : ∃ m, xk.length = m := ⟨_, rfl⟩
  obtain ⟨hh, hhh⟩ : ∃ hh, (num2 m).length = hh := ⟨_, rfl⟩
  obtain ⟨P0, hP0⟩ : ∃ P0, (frs ((L.map (·.2)).take k)).length = P0 := ⟨_, rfl⟩
  rw [hm] at hx8 hE hhl
  rw [hEE] at hE
  rw [hhh, hP0] at hE
  rw [hhh] at hhl
  have hh2 : 1 ≤ hh ∧ hh ≤ 2 := by rw [hhl]; split <;> omega
  have HFACT := Lib.hid (And.intro hm (And.intro hhh (And.intro hP0 (And.intro hEE hE))))
  have HXK := Lib.hid hxk
  have hroom := OwnT.room (H.ok (OwnB (.slice ab N cb) N (frs (L.map (·.2)))) (by (repeat (first | (with_reducible exact List.mem_cons_self) | with_reducible apply List.mem_cons_of_mem))))
  have HZ := Lib.hid hroom
  have hmono : E ≤ N := by
    have := frs_mono (L.map (·.2)) (j := k + 1) (k := n) (by omega)
    rw [show (L.map (·.2)).take n = L.map (·.2) from List.take_of_length_le (by rw [HI.out.2]; exact Nat.le_refl _), HN.out, hEE] at this
    exact this
  obtain ⟨ge, oe, rfl, _⟩ := (H.rowRd (a := ae) (n := n) (c := ce) (xs := endsV (L.map (·.2)) n) (by (repeat (first | (with_reducible exact List.mem_cons_self) | with_reducible apply List.mem_cons_of_mem)))).lt (by rw [endsV_len]; omega)
  obtain ⟨gb, ob, rfl, _⟩ := (H.ownRd (a := ab) (n := N) (c := cb) (xs := (frs (L.map (·.2))).map B8) (by (repeat (first | (with_reducible exact List.mem_cons_self) | with_reducible apply List.mem_cons_of_mem)))).lt (by rw [List.length_map, HN.out]; omega)
  have KE := Lib.hid (show ∀ w', Heap W (RowT 3 1 (.slice (some ⟨ge, oe, none⟩) n ce) n (endsV (L.map (·.2)) n) :: OwnB (.slice (some ⟨gb, ob, none⟩) N cb) N (frs (L.map (·.2))) :: Cel pz (two16 (z0 : Int) (z1 : Int)) 50 :: l) w' → w'.cell? ⟨ge, oe + k, none⟩ = some (.int .i64 (E : Int)) from fun w' h => by
    have RE := h.rowRd (a := some ⟨ge, oe, none⟩) (n := n) (c := ce) (xs := endsV (L.map (·.2)) n) (by (repeat (first | (with_reducible exact List.mem_cons_self) | with_reducible apply List.mem_cons_of_mem)))
    have h1 := RE.get (i := k) (by rw [endsV_len]; exact hkn)
    have h2 := endsV_at (L.map (·.2)) hkn
    rw [List.getElem?_eq_getElem (by rw [endsV_len]; exact hkn), hEE] at h2
    rw [h1]; exact h2)
  obtain ⟨gi, oi, ai, ci, hai, hc0, hx1, hx2, hrd⟩ := HI.out.1.cell H hkn
  subst hai
  have KL := Lib.hid (show ∀ w', Heap W (RowT 3 1 (.slice (some ⟨ge, oe, none⟩) n ce) n (endsV (L.map (·.2)) n) :: OwnB (.slice (some ⟨gb, ob, none⟩) N cb) N (frs (L.map (·.2))) :: Cel pz (two16 (z0 : Int) (z1 : Int)) 50 :: l) w' → w'.cell? ⟨gi, oi + k, none⟩ = some (.slice ai m ci) from fun w' h => by
    have h7 := (h.rd HI.out.1.rd).get (i := k) (by rw [List.length_map, HI.out.1.len]; exact hkn)
    have h5 := (H.rd HI.out.1.rd).get (i := k) (by rw [List.length_map, HI.out.1.len]; exact hkn)
    rw [h5] at hc0
    rw [h7, hc0]
    have h8 := HXK.out
    rw [List.getElem_map] at h8
    rw [h8, hm])
  clear hc0 hx1 hx2 hrd hft hhl hroom hEE hm hhh hP0 hxk
  obtain ⟨fr, hfr⟩ : ∃ fr, P0 + hh = fr := ⟨_, rfl⟩
  have hfrI : (E : Int) - 4 - (m : Int) = (fr : Int) := by omega
  have hEf : (E : Int) - (fr : Int) = (m : Int) + 4 := by omega
  have HFR := Lib.hid hfr
  clear hfr hE
  refine wp_region_H H (by kernel_rfl) (by kernel_rfl) ?_
  repeat (first | go_big_quiet_skip | ((with_reducible apply wpQ_loadCell); (· first | exact cell_int | exact cell_sl); (· rfl); (· rfl); (· first | exact KE.out | exact KL.out); (simp only [Act.put, List.setIfInBounds_toArray, List.set_cons_zero, List.set_cons_succ])) | go_big_quiet_step (fail))
  refine wpQuiet_nil ?_
  clear H
  intro _ H
  try rw [hfrI]
  have f1 : decide ((fr : Int) < 0) = false := by simp
  have f2 : decide ((E : Int) > (N : Int)) = false := by simp; omega
  have f3 : decide ((N : Int) < (E : Int)) = false := by simp; omega
  have hcE := KE.out _ H
  go_wp2_with (first
    | go_skip
    | ((with_reducible show wpList _ _ _ (_ :: _) _ _); (with_reducible apply wpl_loadCell cell_int); (· rfl); (· rfl); (· exact hcE); (simp only [Act.put, List.setIfInBounds_toArray, List.set_cons_zero, List.set_cons_succ])))
  obtain ⟨f, hf, hf8, hf32⟩ : ∃ f : Nat, 8 * (fr : Int) + (z1 : Int) % (8 * ((m : Int) + 4) - 31) = (f : Int) ∧ 8 * fr ≤ f ∧ f + 32 ≤ 8 * E := by
    have h1 := Int.emod_nonneg (z1 : Int) (b := 8 * ((m : Int) + 4) - 31) (by omega)
    have h2 := Int.emod_lt_of_pos (z1 : Int) (b := 8 * ((m : Int) + 4) - 31) (by omega)
    exact ⟨(8 * (fr : Int) + (z1 : Int) % (8 * ((m : Int) + 4) - 31)).toNat, by omega, by omega, by omega⟩
  have hq1 := Int.emod_lt_of_pos (z1 : Int) (b := 8 * ((m : Int) + 4) - 31) (by omega)
  have hq2 := Int.emod_nonneg (z1 : Int) (b := 8 * ((m : Int) + 4) - 31) (by omega)
  have hw0 : wrap64 (8 * (fr : Int)) = 8 * (fr : Int) := by unfold wrap64; omega
  have hwr : wrap64 (8 * (fr : Int) + (z1 : Int) % (8 * ((m : Int) + 4) - 31)) = (f : Int) := by rw [hf]; unfold wrap64; omega
  have HF2 := Lib.hid hf
  clear hf hq2
  refine wp_region_H H (by kernel_rfl) (by kernel_rfl) ?_
  repeat (first | go_big_quiet_skip | (first | ((with_reducible apply wpQ_loadCell); (· exact cell_int); (· rfl); (· rfl); (· exact KE.out); (simp only [Act.put, List.setIfInBounds_toArray, List.set_cons_zero, List.set_cons_succ])) | ((with_reducible apply wpQ_loadCH); (· exact cell_u16); (· rfl); (· rfl); (· (repeat (first | (with_reducible exact List.mem_cons_self) | with_reducible apply List.mem_cons_of_mem))); (· (with_reducible first | exact two16_g0 .. | exact two16_g1 ..)); (simp only [Act.put, List.setIfInBounds_toArray, List.set_cons_zero, List.set_cons_succ]))) | go_big_quiet_step (fail))
  refine wpQuiet_nil ?_
  clear H
  intro _ H
  try rw [hwr]
  clear hwr hw0 hq1 hcE hEf
  have hk1 : k < (L.map (·.2)).length := by rw [HI.out.2]; exact hkn
  have HSP := Lib.hid (readOf_spoilt HA.out hk1 HBITS.out (f := f) (by
    have e5 := HXK.out
    rw [e5, HFACT.out.1, HFACT.out.2.1, HFACT.out.2.2.1]
    have := HFR.out
    omega) (by rw [HFACT.out.2.2.2.1]; omega))
  clear hk1
  have HEN := Lib.hid (And.intro hmono hf32)
  go_wp2_with (go_skip)
  go_loopw [12] (FsL W (RowT 3 1 (.slice (some ⟨ge, oe, none⟩) n ce) n (endsV (L.map (·.2)) n) :: Cel pz (two16 (z0 : Int) (z1 : Int)) 50 :: l) gb ob N cb (frs (L.map (·.2))) bits f) (fun i _ => 32 - (intOf i).toNat)
  case atStart => exact ⟨⟨0, rfl, by omega, H.pull (.there .here)⟩⟩
  case round =>
    obtain ⟨k2, rfl, hk2, H'⟩ := hrel.out
    clear H hrel
    have H := H'
    clear H'
    by_cases hlt : k2 < 32
    · cases hbit : bits.getLsbD k2 with
      | false =>
        have hbt := bit_falseS hbit
        have HB := Lib.hid hbit
        clear hbit
        go_wp2_with (go_skip)
        go_roundw
        case rel => exact ⟨⟨k2 + 1, by go_num, by omega, by unfold flips; rw [if_neg (by simp [HB.out])]; exact H⟩⟩
        case measure => simp [intOf]; omega
      | true =>
        have hbt := bit_trueS hbit
        have HB := Lib.hid hbit
        clear hbit
        obtain ⟨j, s, hj, hs, hjs⟩ : ∃ j s : Nat, (f + k2) / 8 = j ∧ (f + k2) % 8 = s ∧ s < 8 := ⟨_, _, rfl, rfl, by omega⟩
        have hq : ((f : Int) + k2) / 8 = j := by omega
        have hr : ((f : Int) + k2) % 8 = s := by omega
        have hjm : j < N := by omega
        have hFl : (flips (frs (L.map (·.2))) bits f k2).length = N := by rw [flips_length]; exact HN.out
        have e : (flips (frs (L.map (·.2))) bits f (k2 + 1)) = flipAt (flips (frs (L.map (·.2))) bits f k2) (f + k2) := by
          conv => lhs; unfold flips
          rw [if_pos HB.out]
        have HE9 := Lib.hid e
        clear e
        generalize hF : flips (frs (L.map (·.2))) bits f k2 = F at *
        obtain ⟨B, hB⟩ : ∃ B, F.getD j 0 = B := ⟨_, rfl⟩
        have KB := Lib.hid (show ∀ w', Heap W (OwnB (.slice (some ⟨gb, ob, none⟩) N cb) N F :: RowT 3 1 (.slice (some ⟨ge, oe, none⟩) n ce) n (endsV (L.map (·.2)) n) :: Cel pz (two16 (z0 : Int) (z1 : Int)) 50 :: l) w' → w'.cell? ⟨gb, ob + j, none⟩ = some (.int .u8 (I8 B)) from fun w' h => by
          have h1 := (h.ownRd (a := some ⟨gb, ob, none⟩) (n := N) (c := cb) (xs := F.map B8) List.mem_cons_self).get (i := j) (by rw [List.length_map, hFl]; exact hjm)
          rw [h1, List.getElem_map, ← hB, List.getD_eq_getElem?_getD, List.getElem?_eq_getElem (by rw [hFl]; exact hjm)]
          rfl)
        have hset : (F.map B8).set j (.int .u8 (I8 (B ^^^ 1#8 <<< s))) = (flips (frs (L.map (·.2))) bits f (k2 + 1)).map B8 := by
          rw [HE9.out]
          unfold flipAt
          rw [List.map_set, hj, hs, hB]; rfl
        have HSET := Lib.hid hset
        have HFLL := Lib.hid (show j < (F.map B8).length by rw [List.length_map, hFl]; exact hjm)
        clear hF hB hj hs hset hFl
        go_wp2_with (go_skip)
        refine wp_region_H_tail 19 H (by kernel_rfl) (by kernel_rfl) ?_
        simp only [List.take_succ_cons, List.take_zero, List.drop_succ_cons, List.drop_zero]
        repeat (first | go_big_quiet_skip | ((with_reducible apply wpQ_loadCell); (· exact cell_byte); (· rfl); (· rfl); (· exact KB.out); (simp only [Act.put, List.setIfInBounds_toArray, List.set_cons_zero, List.set_cons_succ])) | go_big_quiet_step (fail))
        refine wpQuiet_nil ?_
        clear H
        intro _ H
        go_wp2_with (first
          | go_skip
          | ((with_reducible show wpList _ _ _ (_ :: _) _ _); (with_reducible apply wpl_storeOwnI); (· exact cell_byte); (· rfl); (· rfl); (· rfl); (· exact H); (· (repeat (first | (with_reducible exact List.mem_cons_self) | with_reducible apply List.mem_cons_of_mem))); (· rfl); (· exact HFLL.out); (· (repeat (first | (with_reducible exact Repl.here) | with_reducible apply Repl.there))); (clear H; intro _ H); (simp only [Act.put, List.setIfInBounds_toArray, List.set_cons_zero, List.set_cons_succ])))
        refine ⟨?_, ?_⟩
        · exact ⟨⟨k2 + 1, by go_num, by omega, by rw [HSET.out] at H; exact H⟩⟩
        · simp [intOf]; omega
    · obtain rfl : k2 = 32 := by omega
      go_wp2_with (go_skip)
      obtain ⟨FF, hFF⟩ : ∃ FF, flips (frs (L.map (·.2))) bits f 32 = FF := ⟨_, rfl⟩
      have HFN := Lib.hid (show FF.length = N by rw [← hFF, flips_length]; exact HN.out)
      rw [hFF] at H HSP
      clear hFF
      refine (fread_H (some ⟨gb, ob, none⟩) N cb FF (HFN.out) (by omega) HZ.out.1 HZ.out.2 T (fun l' w' hs H' => H'.ownRd (hs _ List.mem_cons_self)) H).mono ?_
      clear H
      rintro e w4 ⟨G, kG, a6, c6, rfl, hrG, hSG, H⟩
      obtain ⟨hG, rfl⟩ := HSP.out.eq hrG
      have hGl : G.length = k := by
        have := congrArg List.length hG
        rw [List.length_map, List.length_take, HI.out.2] at this
        omega
      rw [hGl]
      have e5 : ((k : Int) == (k : Int)) = true := by simp
      have e6 : (((frs ((L.map (·.2)).take k)).length : Int) == ((frs ((L.map (·.2)).take k)).length : Int)) = true := by simp
      have HLS := Lib.hid (show List.Sublist l (LoT (.slice a6 G.length c6) G :: (G.map bT ++ (OwnB (.slice (some ⟨gb, ob, none⟩) N cb) N FF :: RowT 3 1 (.slice (some ⟨ge, oe, none⟩) n ce) n (endsV (L.map (·.2)) n) :: Cel pz (two16 (z0 : Int) (z1 : Int)) 50 :: l))) from List.Sublist.cons _ ((List.Sublist.cons _ (List.Sublist.cons _ (List.Sublist.cons _ (List.Sublist.refl _)))).trans (List.sublist_append_right _ _)))
      rw [hGl] at HLS
      rw [hGl] at H
      clear hrG hSG hG
      by_cases hk0 : k = 0
      · have g1 : decide ((k : Int) > 0) = false := by simp; omega
        have g2 : decide (0 < (k : Int)) = false := by simp; omega
        have g3 : decide (0 < k) = false := by simp; omega
        have g4 : (((frs ((L.map (·.2)).take k)).length : Int) == 0) = true := by
          rw [hk0, List.take_zero]
          rfl
        have g5 : (frs ((L.map (·.2)).take k)).length = 0 := by rw [hk0, List.take_zero]; rfl
        clear hk0 e6
        rw [g5]
        go_wp2_with (first | go_skip | ((with_reducible refine (LV _ _ H).mono ?_); clear H; rintro _ _ ⟨rfl, H⟩))
        go_ret
        exact ⟨rfl, H.sub HLS.out⟩
      · have g1 : decide ((k : Int) > 0) = true := by simp; omega
        have g2 : decide (0 < (k : Int)) = true := by simp; omega
        have g3 : decide (0 < k) = true := by simp; omega
        obtain ⟨k', hk'⟩ : ∃ k', k' + 1 = k := ⟨k - 1, by omega⟩
        have g4 : (k : Int) - 1 = (k' : Int) := by omega
        have hcP : w4.cell? ⟨ge, oe + k', none⟩ = some (.int .i64 ((frs ((L.map (·.2)).take k)).length : Int)) := by
          have RE := H.rowRd (a := some ⟨ge, oe, none⟩) (n := n) (c := ce) (xs := endsV (L.map (·.2)) n) (List.mem_cons_of_mem _ (List.mem_append_right _ (List.mem_cons_of_mem _ List.mem_cons_self)))
          have h1 := RE.get (i := k') (by rw [endsV_len]; omega)
          have h2 := endsV_at (L.map (·.2)) (i := k') (k := n) (by omega)
          rw [List.getElem?_eq_getElem (by rw [endsV_len]; omega), hk'] at h2
          rw [h1]; exact h2
        have hkl : k' < n := by omega
        generalize (frs ((L.map (·.2)).take k)).length = last at *
        clear hk0 hk'
        go_wp2_with (first | go_skip | ((with_reducible show wpList _ _ _ (_ :: _) _ _); (with_reducible apply wpl_loadCell cell_int); (· rfl); (· rfl); (· exact hcP); (simp only [Act.put, List.setIfInBounds_toArray, List.set_cons_zero, List.set_cons_succ])) | ((with_reducible refine (LV _ _ H).mono ?_); clear H; rintro _ _ ⟨rfl, H⟩))
        go_ret
        exact ⟨rfl, H.sub HLS.out⟩
end
end Go.Proofs.YtlinhcbjljcgbaaDoor

/- How an argument's reading gives what a walk asks of it. -/
namespace Go.Proofs.YtlinhcbjljcgbaaDoor
open Go.ChangeShapes Go.WideShapes Go.ChangeAt Go.RowKit

theorem ints_bytes : ∀ (zs : List Int), (∀ n ∈ zs, (Lit.int .u8 n).wf = true) → ∃ bs : List (BitVec 8), zs = bs.map I8
  | [], _ => ⟨[], rfl⟩
  | z :: zs, h => by
    obtain ⟨bs, rfl⟩ := ints_bytes zs (fun n hn => h n (List.mem_cons_of_mem _ hn))
    have hz := h z (List.mem_cons_self ..)
    have hb := bounds_u8 hz
    obtain ⟨b, rfl⟩ := exists_I8 z (by omega) (by omega)
    exact ⟨b :: bs, rfl⟩

theorem Rd.ofCells {w : World} {x : Addr} {xs : List Value} (h : ∀ i, (hi : i < xs.length) → w.cell? (x.add i) = some xs[i]) : Rd w (some x) xs := by
  obtain ⟨b, o, sp⟩ := x
  intro i hi
  have h0 := h 0 (by omega)
  have hsp : sp = none := by
    rcases sp with _ | s
    · rfl
    · simp only [Addr.add, if_true, World.cell?] at h0
      split at h0 <;> simp at h0
  subst hsp
  exact ⟨b, o, rfl, by rw [← addr_add]; exact h i hi⟩

/-- A slice of bytes that came in. -/
structure IsBytes (w : World) (a : Option Addr) (n c : Nat) (zs : List (BitVec 8)) : Prop where
  len : n = zs.length
  cap : n ≤ c
  max : c ≤ maxLen
  rd : Rd w a (zs.map B8)

theorem open_bytes {H : Type} {enc : TypeId × Value → H} {P : Program} {W : World} {held : Bool} {t e : TypeId} {v : Value} {d : DataW H} {p : List MemPlace} {r : Reach} {base : Nat}
    (ht : P.underlying t = some (.slice e)) (he : P.underlying e = some (.int .u8)) (hc : P.cellsOf e = 1) (hv : Value.okWide P W r base t v)
    (h : DataW.Trod enc P W 0 (fun _ => true) held t v d p) : ∃ a n c zs, v = .slice a n c ∧ IsBytes W a n c zs := by
  obtain ⟨a, n, c, rfl⟩ := okWide_slice ht hv
  obtain ⟨fuel, hf⟩ := h
  rcases open_ints ht he hc hf with ⟨hcs, _⟩ | ⟨x, l, c', zs, hcs, _, hl, hm, hz, _, hcell, hwz⟩
  · simp [Value.cells] at hcs
    obtain ⟨rfl, rfl, rfl⟩ := hcs
    exact ⟨none, 0, 0, [], rfl, rfl, Nat.le_refl _, by unfold maxLen; omega, Rd.nil _ _⟩
  · simp [Value.cells] at hcs
    obtain ⟨rfl, rfl, rfl⟩ := hcs
    obtain ⟨bs, rfl⟩ := ints_bytes zs hwz
    rw [if_pos rfl] at hz
    refine ⟨_, n, c, bs.take n, rfl, ?_, hl, hm, Rd.ofCells fun i hi => ?_⟩
    · simp at hz ⊢; omega
    · simp at hi hz
      rw [hcell i (by simp; omega)]
      simp [List.getD_eq_getElem?_getD, B8, show i < bs.length by omega]
end Go.Proofs.YtlinhcbjljcgbaaDoor

/- Arguments of whatever type, opened: a value's cells are those of its parts, one behind the other; a slice's elements likewise, however deep. -/
namespace Go.Proofs.YtlinhcbjljcgbaaDoor
open Go.ChangeShapes Go.WideShapes Go.ChangeAt Go.RowKit
set_option linter.unusedSimpArgs false

/-- The parts of fields, one behind the other; none, if they do not lie so. -/
def flatFs (P : Program) (g : TypeId → Option (List TypeId)) : Nat → List Field → Option (List TypeId)
  | _, [] => some []
  | o, f :: fs => (g f.type).bind fun ts => if f.offset = o ∧ ts.length = P.cellsOf f.type then (flatFs P g (o + ts.length) fs).map (ts ++ ·) else none
def repFlat (ts : List TypeId) : Nat → List TypeId
  | 0 => []
  | n + 1 => ts ++ repFlat ts n
/-- The one-cell parts of a type. -/
def flat (P : Program) : Nat → TypeId → Option (List TypeId)
  | 0, _ => none
  | d + 1, t => match P.underlying t with
    | some (.int _) => some [t]
    | some .bool => some [t]
    | some (.slice _) => some [t]
    | some (.struct fs) => (flatFs P (flat P d) 0 fs.toList).bind fun ts => if ts.length = P.cellsOf t then some ts else none
    | some (.array n e) => (flat P d e).bind fun ts => if ts.length = P.cellsOf e ∧ n * ts.length = P.cellsOf t then some (repFlat ts n) else none
    | _ => none
section
variable {H : Type} {enc : TypeId × Value → H} {P : Program} {w : World} {base : Nat} {spare : Nat → Bool} {held : Bool}
/-- What a cell of such a part holds. -/
def PartOk (enc : TypeId × Value → H) (P : Program) (w : World) (base : Nat) (spare : Nat → Bool) (held : Bool) (u : TypeId) (v : Value) : Prop := ∃ m y, DataW.trod enc P w base spare held m u [v] = some y
theorem flatFs_spec {g : TypeId → Option (List TypeId)}
    (hg : ∀ (t : TypeId) (ts : List TypeId), g t = some ts → ∀ (fuel : Nat) (cs : List Value) (x : DataW H × List MemPlace), DataW.trod enc P w base spare held fuel t cs = some x → cs.length = ts.length ∧ ∀ (i : Nat) (u : TypeId), ts[i]? = some u → ∃ v, cs[i]? = some v ∧ PartOk enc P w base spare held u v) (cs : List Value) :
    ∀ (fs : List Field) (o : Nat) (ts : List TypeId), flatFs P g o fs = some ts → (∀ f ∈ fs, ∃ n y, DataW.trod enc P w base spare held n f.type ((cs.drop f.offset).take (P.cellsOf f.type)) = some y) →
      ∀ (i : Nat) (u : TypeId), ts[i]? = some u → ∃ v, cs[o + i]? = some v ∧ PartOk enc P w base spare held u v := by
  intro fs
  induction fs with
  | nil =>
    intro o ts h _ i u hu
    simp [flatFs] at h
    subst h
    simp at hu
  | cons f fs ih =>
    intro o ts h hall i u hu
    simp only [flatFs, Option.bind_eq_some_iff] at h
    obtain ⟨t1, h1, h2⟩ := h
    split at h2
    · rename_i hc
      obtain ⟨t2, h3, rfl⟩ := Option.map_eq_some_iff.1 h2
      obtain ⟨n, y, hy⟩ := hall f (List.mem_cons_self ..)
      obtain ⟨hl, hp⟩ := hg _ _ h1 _ _ _ hy
      by_cases hi : i < t1.length
      · rw [List.getElem?_append_left hi] at hu
        obtain ⟨v, hv, hk⟩ := hp i u hu
        refine ⟨v, ?_, hk⟩
        rw [hc.1, List.getElem?_take] at hv
        split at hv
        · rw [List.getElem?_drop] at hv; exact hv
        · cases hv
      · rw [List.getElem?_append_right (by omega)] at hu
        obtain ⟨v, hv, hk⟩ := ih _ _ h3 (fun f hf => hall f (List.mem_cons_of_mem _ hf)) _ _ hu
        exact ⟨v, by rw [← hv]; congr 1; omega, hk⟩
    · cases h2
theorem repFlat_len (ts : List TypeId) : ∀ n, (repFlat ts n).length = n * ts.length
  | 0 => by simp [repFlat]
  | n + 1 => by simp [repFlat, repFlat_len ts n, Nat.add_mul]; omega
theorem repFlat_spec {cs : List Value} {ts : List TypeId} {L : Nat} (hL : ts.length = L) (e : TypeId) :
    ∀ (n k : Nat), (∀ (i : Nat), i < n → ∀ (j : Nat) (u : TypeId), ts[j]? = some u → ∃ v, ((cs.drop ((k + i) * L)).take L)[j]? = some v ∧ PartOk enc P w base spare held u v) →
      ∀ (i : Nat) (u : TypeId), (repFlat ts n)[i]? = some u → ∃ v, cs[k * L + i]? = some v ∧ PartOk enc P w base spare held u v := by
  intro n
  induction n with
  | zero => intro k _ i u hu; simp [repFlat] at hu
  | succ n ih =>
    intro k hall i u hu
    simp only [repFlat] at hu
    by_cases hi : i < ts.length
    · rw [List.getElem?_append_left hi] at hu
      obtain ⟨v, hv, hk⟩ := hall 0 (by omega) i u hu
      refine ⟨v, ?_, hk⟩
      rw [List.getElem?_take] at hv
      split at hv
      · rw [List.getElem?_drop] at hv; simpa using hv
      · cases hv
    · rw [List.getElem?_append_right (by omega)] at hu
      obtain ⟨v, hv, hk⟩ := ih (k + 1) (fun i hi j u hu => by have := hall (i + 1) (by omega) j u hu; rwa [show k + (i + 1) = k + 1 + i by omega] at this) _ _ hu
      exact ⟨v, by rw [← hv]; congr 1; rw [Nat.add_mul]; omega, hk⟩
theorem flat_spec : ∀ (d : Nat) (t : TypeId) (ts : List TypeId), flat P d t = some ts → ∀ (fuel : Nat) (cs : List Value) (x : DataW H × List MemPlace), DataW.trod enc P w base spare held fuel t cs = some x →
    cs.length = ts.length ∧ ∀ (i : Nat) (u : TypeId), ts[i]? = some u → ∃ v, cs[i]? = some v ∧ PartOk enc P w base spare held u v := by
  intro d
  induction d with
  | zero => intro t ts h; simp [flat] at h
  | succ d ih =>
    intro t ts h fuel cs x hx
    have one : ∀ v, cs = [v] → ts = [t] → cs.length = ts.length ∧ ∀ (i : Nat) (u : TypeId), ts[i]? = some u → ∃ v, cs[i]? = some v ∧ PartOk enc P w base spare held u v := by
      rintro v rfl rfl
      refine ⟨rfl, fun i u hu => ?_⟩
      rcases i with _ | i
      · simp at hu; subst hu; exact ⟨v, rfl, _, _, hx⟩
      · simp at hu
    unfold flat at h
    split at h
    · rename_i k hk
      obtain ⟨n, rfl, _⟩ := DataW.trod_int hk hx
      exact one _ rfl (by simpa using h.symm)
    · rename_i hk
      obtain ⟨n, rfl, _⟩ := DataW.trod_bool hk hx
      exact one _ rfl (by simpa using h.symm)
    · rename_i e hk
      rcases DataW.trod_slice hk hx with ⟨rfl, _⟩ | ⟨a, len, cap, elems, rest, n, _, rfl, _⟩
      · exact one _ rfl (by simpa using h.symm)
      · exact one _ rfl (by simpa using h.symm)
    · rename_i fs hk
      simp only [Option.bind_eq_some_iff] at h
      obtain ⟨t1, h1, h2⟩ := h
      split at h2
      · rename_i hl
        cases h2
        obtain ⟨xs, m, _, _, hlen, hxs, hf⟩ := DataW.trod_struct hk hx
        refine ⟨by rw [hlen, hl], fun i u hu => ?_⟩
        have := flatFs_spec (fun t ts h => ih t ts h) cs fs.toList 0 ts h1 (fun f hf' => by
          obtain ⟨j, hj, rfl⟩ := List.getElem_of_mem hf'
          have hj' : j < fs.size := by simpa using hj
          have h3 := hf j fs[j] (by simp [hj'])
          have hj2 : j < xs.length := by omega
          exact ⟨m, xs[j], by simpa [hj2] using h3⟩) i u hu
        simpa using this
      · cases h2
    · rename_i n e hk
      simp only [Option.bind_eq_some_iff] at h
      obtain ⟨t1, h1, h2⟩ := h
      split at h2
      · rename_i hl
        cases h2
        obtain ⟨xs, m, _, _, hlen, hxs, hf⟩ := DataW.trod_array hk hx
        refine ⟨by rw [hlen, repFlat_len, hl.2], fun i u hu => ?_⟩
        have := repFlat_spec (cs := cs) hl.1 e n 0 (fun i hi j u hu => by
          have h3 := hf i hi
          have hi2 : i < xs.length := by omega
          have h4 : DataW.trod enc P w base spare held m e ((cs.drop (i * P.cellsOf e)).take (P.cellsOf e)) = some xs[i] := by rw [h3]; simp [hi2]
          rw [Nat.zero_add]
          exact (ih e t1 h1 _ _ _ h4).2 j u hu) i u hu
        simpa using this
      · cases h2
    · cases h

theorem add_add (a : Addr) (m k : Nat) : (a.add m).add k = a.add (m + k) := by
  unfold Addr.add
  by_cases hm : m = 0
  · subst hm; simp
  · by_cases hk : k = 0
    · subst hk; simp
    · simp [hm, hk]; omega
/-- What a one-cell part holds, d slices deep. -/
def LeafOk (P : Program) (w : World) : Nat → TypeId → Value → Prop
  | 0, _, _ => True
  | d + 1, u, v => match P.underlying u with
    | some (.int k) => ∃ n, v = .int k n ∧ (Lit.int k n).wf = true
    | some .bool => ∃ b, v = .bool b
    | some (.slice e) => ∃ a n c xs, v = .slice a n c ∧ n ≤ c ∧ c ≤ maxLen ∧ xs.length = n * P.cellsOf e ∧ Rd w a xs ∧ (a = none → n = 0 ∧ c = 0) ∧
        ∀ ts : List TypeId, flat P 9 e = some ts → ∀ (i j : Nat) (u' : TypeId), i < n → ts[j]? = some u' → ∃ v', xs[i * P.cellsOf e + j]? = some v' ∧ LeafOk P w d u' v'
    | _ => True
theorem cells_get {a : Addr} {n : Nat} {cs : List Value} (h : w.cells? 0 a n = some cs) : cs.length = n ∧ ∀ i, i < n → w.cell? (a.add i) = cs[i]? := by
  unfold World.cells? at h
  rw [if_pos (Nat.zero_le _)] at h
  refine ⟨by simpa using mapM_some_length h, fun i hi => ?_⟩
  have := mapM_some_get h i i (by simp [hi])
  exact this
theorem leaf_ok : ∀ (d : Nat) (u : TypeId) (v : Value), PartOk enc P w 0 (fun _ => true) held u v → LeafOk P w d u v := by
  intro d
  induction d with
  | zero => intros; trivial
  | succ d ih =>
    intro u v h
    obtain ⟨m, y, hy⟩ := h
    unfold LeafOk
    split
    · rename_i k hk
      obtain ⟨n, hv, _, hw⟩ := DataW.trod_int hk hy
      simp at hv
      exact ⟨n, hv, hw⟩
    · rename_i hk
      obtain ⟨b, hv, _⟩ := DataW.trod_bool hk hy
      simp at hv
      exact ⟨b, hv⟩
    · rename_i e hk
      rcases DataW.trod_slice hk hy with ⟨hv, _⟩ | ⟨a, len, cap, elems, rest, n, _, hv, _, _, hl, hm, hlen, hel, _, _⟩
      · simp at hv
        exact ⟨none, 0, 0, [], hv, Nat.le_refl _, by unfold maxLen; omega, by simp, Rd.nil _ _, fun _ => ⟨rfl, rfl⟩, fun ts hts i j u' hi => by omega⟩
      · simp at hv
        have each : ∀ i, i < len → ∃ cs y, w.cells? 0 (a.add (i * P.cellsOf e)) (P.cellsOf e) = some cs ∧ DataW.trod enc P w 0 (fun _ => true) held n e cs = some y := by
          intro i hi
          have h1 := hel i hi
          have hi2 : i < elems.length := by omega
          rw [List.getElem?_eq_getElem hi2] at h1
          obtain ⟨cs, h2, h3⟩ := Option.bind_eq_some_iff.1 h1
          exact ⟨cs, _, h2, h3⟩
        have cell : ∀ k, k < len * P.cellsOf e → ∃ x, w.cell? (a.add k) = some x := by
          intro k hk'
          have hpos : 0 < P.cellsOf e := Nat.pos_of_ne_zero fun h => by rw [h] at hk'; simp at hk'
          have hi : k / P.cellsOf e < len := by rw [Nat.div_lt_iff_lt_mul hpos]; exact hk'
          obtain ⟨cs, _, h1, _⟩ := each _ hi
          obtain ⟨hl, hg⟩ := cells_get h1
          have hm := Nat.mod_lt k hpos
          have := hg _ hm
          rw [add_add, Nat.mul_comm, Nat.div_add_mod] at this
          exact ⟨cs[k % P.cellsOf e], by rw [this]; simp [hl, hm]⟩
        have hxl : ((List.range (len * P.cellsOf e)).map fun j => (w.cell? (a.add j)).getD undef).length = len * P.cellsOf e := by simp
        have hget : ∀ k, k < len * P.cellsOf e → ((List.range (len * P.cellsOf e)).map fun j => (w.cell? (a.add j)).getD undef)[k]? = w.cell? (a.add k) := by
          intro k hk'
          obtain ⟨x, hx⟩ := cell k hk'
          simp [hk', hx]
        refine ⟨some a, len, cap, _, hv, hl, hm, hxl, Rd.ofCells fun k hk' => ?_, (fun h => by cases h), fun ts hts i j u' hi hj => ?_⟩
        · rw [hxl] at hk'
          rw [← hget k hk']
          exact List.getElem?_eq_getElem _
        · obtain ⟨cs, y', h1, h2⟩ := each i hi
          obtain ⟨hl, hg⟩ := cells_get h1
          obtain ⟨hlen2, hp⟩ := flat_spec 9 e ts hts _ _ _ h2
          obtain ⟨v', hv', hk'⟩ := hp j u' hj
          have hjl : j < P.cellsOf e := by have := (List.getElem?_eq_some_iff.1 hj).1; omega
          have hb : i * P.cellsOf e + j < len * P.cellsOf e := by
            have := Nat.mul_le_mul_right (P.cellsOf e) (show i + 1 ≤ len by omega)
            rw [Nat.add_mul] at this
            omega
          refine ⟨v', ?_, ih _ _ hk'⟩
          rw [hget _ hb, ← add_add, hg j hjl]
          exact hv'
    · trivial
/-- A value of a type whose parts lie one behind the other: its cells. -/
theorem open_flat {r : Reach} {b0 : Nat} {t : TypeId} {v : Value} {d : DataW H} {p : List MemPlace} {ts : List TypeId} (hs : (∃ fs, P.underlying t = some (.struct fs)) ∨ ∃ n e, P.underlying t = some (.array n e)) (hf : flat P 9 t = some ts)
    (hv : Value.okWide P w r b0 t v) (h : DataW.Trod enc P w 0 (fun _ => true) held t v d p) : ∃ cs : Array Value, v = .agg cs ∧ cs.size = ts.length ∧ ∀ (i : Nat) (u : TypeId), ts[i]? = some u → ∃ x, cs[i]? = some x ∧ ∀ d, LeafOk P w d u x := by
  have hcs : ∃ cs, v = .agg cs ∧ cs.size = P.cellsOf t := by
    unfold Value.okWide at hv
    rcases hs with ⟨fs, hs⟩ | ⟨n, e, hs⟩ <;> rw [hs] at hv <;> obtain ⟨cs, h1, h2, _⟩ := hv <;> exact ⟨cs, h1, h2⟩
  obtain ⟨cs, rfl, _⟩ := hcs
  obtain ⟨fuel, h1⟩ := h
  obtain ⟨hl, hp⟩ := flat_spec 9 t ts hf _ _ _ h1
  simp only [Value.cells] at hl hp
  refine ⟨cs, rfl, by simpa using hl, fun i u hu => ?_⟩
  obtain ⟨x, hx, hk⟩ := hp i u hu
  exact ⟨x, by simpa using hx, fun d => leaf_ok d u x hk⟩
/-- A slice's value, d slices deep. -/
theorem open_sl {r : Reach} {b0 : Nat} {t e : TypeId} {v : Value} {dd : DataW H} {p : List MemPlace} (hs : P.underlying t = some (.slice e)) (hv : Value.okWide P w r b0 t v) (h : DataW.Trod enc P w 0 (fun _ => true) held t v dd p) (d : Nat) : LeafOk P w d t v := by
  obtain ⟨a, n, c, rfl⟩ := okWide_slice hs hv
  obtain ⟨fuel, h1⟩ := h
  exact leaf_ok d t _ ⟨fuel, _, h1⟩
theorem leaf_int {u : TypeId} {k : IntKind} {v : Value} (hu : P.underlying u = some (.int k)) (h : ∀ d, LeafOk P w d u v) : ∃ n, v = .int k n ∧ (Lit.int k n).wf = true := by
  have h := h 1
  unfold LeafOk at h
  rw [hu] at h
  exact h
theorem leaf_bool {u : TypeId} {v : Value} (hu : P.underlying u = some .bool) (h : ∀ d, LeafOk P w d u v) : ∃ b, v = .bool b := by
  have h := h 1
  unfold LeafOk at h
  rw [hu] at h
  exact h
theorem leaf_slice {u e : TypeId} {v : Value} (hu : P.underlying u = some (.slice e)) {ts : List TypeId} (hf : flat P 9 e = some ts) (h : ∀ d, LeafOk P w d u v) :
    ∃ a n c xs, v = .slice a n c ∧ n ≤ c ∧ c ≤ maxLen ∧ xs.length = n * P.cellsOf e ∧ Rd w a xs ∧ (a = none → n = 0 ∧ c = 0) ∧ ∀ (i j : Nat) (u' : TypeId), i < n → ts[j]? = some u' → ∃ v', xs[i * P.cellsOf e + j]? = some v' ∧ ∀ d, LeafOk P w d u' v' := by
  have h1 := h 1
  unfold LeafOk at h1
  rw [hu] at h1
  obtain ⟨a, n, c, xs, rfl, hn, hc, hl, hr, h0, hp⟩ := h1
  refine ⟨a, n, c, xs, rfl, hn, hc, hl, hr, h0, fun i j u' hi hj => ?_⟩
  obtain ⟨v', hv', _⟩ := hp ts hf i j u' hi hj
  refine ⟨v', hv', fun d => ?_⟩
  have h2 := h (d + 1)
  unfold LeafOk at h2
  rw [hu] at h2
  obtain ⟨a2, n2, c2, xs2, he, _, _, hl2, hr2, _, hp2⟩ := h2
  simp only [Value.slice.injEq] at he
  obtain ⟨rfl, rfl, rfl⟩ := he
  obtain ⟨v2, hv2, hk⟩ := hp2 ts hf i j u' hi hj
  have e1 : xs2 = xs := by
    apply List.ext_getElem (by rw [hl2, hl])
    intro m h3 h4
    obtain ⟨b, o, e5, h5⟩ := hr m h4
    obtain ⟨b', o', e6, h6⟩ := hr2 m h3
    rw [e5] at e6
    simp only [Option.some.injEq, Addr.mk.injEq] at e6
    obtain ⟨rfl, rfl, _⟩ := e6
    rw [h5] at h6
    exact (Option.some.inj h6).symm
  subst e1
  rw [hv'] at hv2
  cases hv2
  exact hk
end
end Go.Proofs.YtlinhcbjljcgbaaDoor

/- Lists of bodies as an argument. -/
namespace Go.Proofs.YtlinhcbjljcgbaaDoor
open Go.ChangeShapes Go.WideShapes Go.ChangeAt Go.RowKit
set_option linter.unusedVariables false
set_option maxRecDepth 100000
theorem flat_byte : flat Tryd.prog 9 5 = some [5] := by kernel_rfl
theorem flat_bytes : flat Tryd.prog 9 22 = some [22] := by kernel_rfl
theorem leaf_byte {w : World} {v : Value} (h : ∀ d, LeafOk Tryd.prog w d 5 v) : ∃ b : BitVec 8, v = B8 b := by
  obtain ⟨n, rfl, hw⟩ := leaf_int Tryd.underlying5 h
  have := bounds_u8 hw
  obtain ⟨b, hb⟩ := exists_I8 n this.1 (by omega)
  exact ⟨b, by rw [hb]; rfl⟩
theorem bytes_of {w : World} : ∀ (n : Nat) (xs : List Value), xs.length = n → (∀ i, i < n → ∃ v, xs[i]? = some v ∧ ∀ d, LeafOk Tryd.prog w d 5 v) → ∃ zs : Bs, zs.length = n ∧ xs = zs.map B8
  | 0, xs, hl, _ => ⟨[], rfl, by simpa using hl⟩
  | n + 1, [], hl, _ => by simp at hl
  | n + 1, x :: xs, hl, h => by
    obtain ⟨v, hv, hk⟩ := h 0 (by omega)
    simp at hv
    subst hv
    obtain ⟨b, rfl⟩ := leaf_byte hk
    obtain ⟨zs, hz, rfl⟩ := bytes_of n xs (by simpa using hl) (fun i hi => by simpa using h (i + 1) (by omega))
    exact ⟨b :: zs, by simp [hz], rfl⟩
theorem leaf_bytes {w : World} {v : Value} (h : ∀ d, LeafOk Tryd.prog w d 22 v) : ∃ a c zs, v = .slice a (zs : Bs).length c ∧ zs.length ≤ c ∧ c ≤ maxLen ∧ Rd w a (zs.map B8) := by
  obtain ⟨a, n, c, xs, rfl, hn, hc, hl, hr, _, hp⟩ := leaf_slice Tryd.underlying22 flat_byte h
  rw [show Tryd.prog.cellsOf 5 = 1 by kernel_rfl] at hl hp
  obtain ⟨zs, hz, rfl⟩ := bytes_of (w := w) n xs (by simpa using hl) (fun i hi => by simpa using hp i 0 _ hi rfl)
  subst hz
  exact ⟨a, c, zs, rfl, hn, hc, hr⟩
theorem lists_of {w : World} : ∀ (n : Nat) (xs : List Value), xs.length = n → (∀ i, i < n → ∃ v, xs[i]? = some v ∧ ∀ d, LeafOk Tryd.prog w d 22 v) → ∃ L : List (Value × Bs), L.length = n ∧ xs = L.map (·.1) ∧ ∀ x ∈ L, ∃ ai ci, x.1 = .slice ai x.2.length ci ∧ x.2.length ≤ ci ∧ ci ≤ maxLen ∧ Rd w ai (x.2.map B8)
  | 0, xs, hl, _ => ⟨[], rfl, by simpa using hl, by simp⟩
  | n + 1, [], hl, _ => by simp at hl
  | n + 1, x :: xs, hl, h => by
    obtain ⟨v, hv, hk⟩ := h 0 (by omega)
    simp at hv
    subst hv
    obtain ⟨a, c, zs, rfl, h1, h2, h3⟩ := leaf_bytes hk
    obtain ⟨L, hL, rfl, hall⟩ := lists_of n xs (by simpa using hl) (fun i hi => by simpa using h (i + 1) (by omega))
    refine ⟨(.slice a zs.length c, zs) :: L, by simp [hL], rfl, fun y hy => ?_⟩
    rcases List.mem_cons.1 hy with rfl | hy
    · exact ⟨a, c, rfl, h1, h2, h3⟩
    · exact hall y hy
def ListsV (w : World) (v : Value) : Prop := ∃ a n c L, v = .slice a n c ∧ InL w a n c L
theorem open_lists {H : Type} {enc : TypeId × Value → H} {W : World} {held : Bool} {v : Value} {d : DataW H} {p : List MemPlace} {r : Reach} {b0 : Nat}
    (hval : Value.okWide Tryd.prog W r b0 40 v) (h : DataW.Trod enc Tryd.prog W 0 (fun _ => true) held 40 v d p) : ListsV W v := by
  have hk := fun d => open_sl Tryd.underlying40 hval h d
  obtain ⟨a, n, c, xs, rfl, hn, hc, hl, hr, _, hp⟩ := leaf_slice Tryd.underlying40 flat_bytes hk
  rw [show Tryd.prog.cellsOf 22 = 1 by kernel_rfl] at hl hp
  obtain ⟨L, hL, rfl, hall⟩ := lists_of (w := W) n xs (by simpa using hl) (fun i hi => by simpa using hp i 0 _ hi rfl)
  exact ⟨a, n, c, L, rfl, hL, hn, hc, hr, hall⟩
end Go.Proofs.YtlinhcbjljcgbaaDoor

/- FramesSpoilt: its arguments. -/
namespace Go.Proofs.YtlinhcbjljcgbaaDoor
open Go.ChangeShapes Go.WideShapes Go.ChangeAt Go.RowKit
set_option linter.unusedVariables false
set_option maxRecDepth 100000
theorem flat_two16 : flat Tryd.prog 9 50 = some [44, 44] := by kernel_rfl
def Two16V (w : World) (v : Value) : Prop := ∃ (f t : Nat), v = .agg (two16 (f : Int) (t : Int)) ∧ f ≤ 65535 ∧ t ≤ 65535
theorem leaf_u16 {w : World} {v : Value} (h : ∀ d, LeafOk Tryd.prog w d 44 v) : ∃ b : Nat, v = .int .u16 (b : Int) ∧ b ≤ 65535 := by
  obtain ⟨n, rfl, hw⟩ := leaf_int Tryd.underlying44 h
  have := bounds_u16 hw
  exact ⟨n.toNat, by rw [show ((n.toNat : Nat) : Int) = n by omega], by omega⟩
theorem open_two16 {H : Type} {enc : TypeId × Value → H} {W : World} {held : Bool} {v : Value} {d : DataW H} {p : List MemPlace} {r : Reach} {b0 : Nat}
    (hval : Value.okWide Tryd.prog W r b0 50 v) (h : DataW.Trod enc Tryd.prog W 0 (fun _ => true) held 50 v d p) : Two16V W v := by
  obtain ⟨cs, rfl, hn, hp⟩ := open_flat (.inr ⟨_, _, Tryd.underlying50⟩) flat_two16 hval h
  obtain ⟨x0, h0, k0⟩ := hp 0 _ rfl
  obtain ⟨x1, h1, k1⟩ := hp 1 _ rfl
  obtain ⟨a, rfl, ha⟩ := leaf_u16 k0
  obtain ⟨b, rfl, hb⟩ := leaf_u16 k1
  obtain ⟨l⟩ := cs
  refine ⟨a, b, ?_, ha, hb⟩
  match l, hn with
  | [c0, c1], _ => simp at h0 h1; subst_vars; rfl
theorem framesSpoilt_law (v : Value) (x : Int) (u : Value) (W : World) (o : ListsV W v) (b1 : 0 ≤ x) (b2 : x ≤ 4294967295) (o2 : Two16V W u) (ht : TabAt W) :
    Calls Tryd.prog 9 #[v, .int .u32 x, u] W fun e w' => e = .returned (.bool true) ∧ Below W.heap.size W w' := by
  obtain ⟨a, n, c, L, rfl, hI⟩ := o
  obtain ⟨z0, z1, rfl, h0, h1⟩ := o2
  obtain ⟨b, rfl⟩ := exists_I32 x b1 (by omega)
  have H := Heap.start W
  by_cases ho : greatF (L.map (·.2)) 0 = true ∨ n = 0 ∨ I32 b = 0
  · exact (fsp_odd a n c _ _ _ L hI ho ht H).mono fun e w' ⟨he, hh⟩ => ⟨he, hh.low⟩
  · refine (fsp_H a n c z0 z1 h0 h1 b ?_ L hI (by omega) (by cases hg : greatF (L.map (·.2)) 0 with | true => exact absurd (.inl hg) ho | false => rfl) ht H).mono fun e w' ⟨he, hh⟩ => ⟨he, hh.low⟩
    rintro rfl
    exact ho (.inr (.inr rfl))
end Go.Proofs.YtlinhcbjljcgbaaDoor

/- The table of half bytes: what the row's condition on it gives a walk, and a world that meets the condition. -/
namespace Go.Proofs.YtlinhcbjljcgbaaDoor
open Go.ChangeShapes Go.WideShapes Go.ChangeAt Go.RowKit

theorem own : ownKnob Tryd.prog.godebug = none := by kernel_rfl
theorem laidOut : laidOutB Tryd.prog = true := by kernel_rfl
theorem gTab : Tryd.prog.globalNamed "countinghouse/sums.table" = some 0 := by kernel_rfl
theorem tTab : (Tryd.prog.globals[0]?).map (·.type) = some 56 := by kernel_rfl
abbrev laidL : List (String × DataW Unit) := [("countinghouse/sums.table", Rows.laid_countinghouse_sums_table)]
theorem door_met (os : Os) (args : Array Value) : laidMetH Tryd.prog laidL ((World.doorLaid Tryd.prog 14 os).forCall (fun _ _ => 0) ⟨#[], args, []⟩).memory :=
  laidMetH_of_parts3 (fuel := 8) (laidMet_of_run' 8 (by kernel_rfl) (by kernel_rfl)) (by kernel_rfl) (by kernel_rfl)

theorem tab_of_laid {W : World} (h : laidMetH Tryd.prog laidL W) : TabAt W := by
  rw [MakeChecks.laidMetH_plain _ _ _ (by kernel_rfl)] at h
  have hT : Lib.TabIs Tryd.prog W "countinghouse/sums.table" .u32 (tabL.map I32) :=
    Lib.tabIs_of_head gTab tTab Tryd.underlying56 Tryd.underlying25 (by kernel_rfl) (by kernel_rfl) (rest := []) (by
      have e : Lib.tabData .u32 (tabL.map I32) = (Rows.laid_countinghouse_sums_table : DataW Unit) := by kernel_rfl
      rw [e]; exact h)
  intro x
  have hlt : (x &&& 15#32).toNat < 16 := by have := I32_15 x; unfold I32 at this; omega
  have hi : (I32 (x &&& 15#32)).toNat < (tabL.map I32).length := by unfold I32; simpa [tabL] using hlt
  have := hT.cell gTab _ hi
  rw [this]
  unfold tab
  congr 2
  simp only [List.getD_eq_getElem?_getD, List.getElem?_map]
  have e : (I32 (x &&& 15#32)).toNat = (x &&& 15#32).toNat := by unfold I32; omega
  rw [e, List.getElem?_eq_getElem (by simpa [tabL] using hlt)]
  rfl
end Go.Proofs.YtlinhcbjljcgbaaDoor
