/-
  pruneOf of the program. The graph is right, the vertex is in the set.
  PruneOrder and IsHereditary of the reference. For at most 2^20 rows.
  Graphs of at most six vertices that can be pruned to the end: exactly those without an obstacle. No conditions beyond that.
  least of the program, for whatever function. For at most 2^20 rows.
  InducedOn of the reference. For at most 2^20 rows.
  induced and InducedOn of the program. For at most 2^20 rows.
  IsConnected on both sides; distances are the same both ways; the part of a graph is a graph. For at most 2^20 rows.
  KeepsDistances on both sides. For at most 2^20 rows.
  FindStretched on both sides. For at most 2^20 rows.
  Graphs of at most six vertices: a set that hangs together and does not keep distances lies there exactly if there is an obstacle. No conditions beyond that.
-/
import Derived.Test.YtjikmjhpmkakoaaGreatDoorPkCardCographs17
import Derived.Test.YtjikmjhpmkakoaaGreatDoorPkCardCographs13
import Derived.Test.YtjikmjhpmkakoaaGreatDoorPkCardCographs15
import Derived.Test.YtjikmjhpmkakoaaGreatDoorPkCardCographs16
import Derived.Test.YtjikmjhpmkakoaaGreatDoorPkCardCographs04
import Derived.Test.YtjikmjhpmkakoaaGreatDoorPkCardCographs03
import Derived.Test.YtjikmjhpmkakoaaGreatDoorPkCardCographs06
import Derived.Deep.RegionHeld3
import Derived.Deep.RegionLaw
import Derived.Laws.EntriesVeiled
namespace Go.Proofs.YtjikmjhpmkakoaaGreatDoor
open Go.RowKit

theorem els_mono {Z x y : Nat} (hxy : x < y) (hy : y < cnt Z) : eln (els Z) x < eln (els Z) y := by
  have hx' : x < (els Z).length := by unfold cnt at hy; omega
  have hy' : y < (els Z).length := hy
  rw [eln_get hx', eln_get hy']
  have hs : (els Z).Pairwise (· < ·) := List.Pairwise.filter _ List.pairwise_lt_range
  exact List.pairwise_iff_getElem.1 hs x y hx' hy' hxy
theorem first_els {Z N k : Nat} {p : Nat → Bool} (hZ : Z < 2 ^ N) (hN : N ≤ 7) (hp : ∀ j, p j = true → Z.testBit j = true) (hk : k < cnt Z) (hb : ∀ t, t < k → p (eln (els Z) t) = false) (ha : p (eln (els Z) k) = true) : firstB p N = some (eln (els Z) k) := by
  refine firstB_hit (els_at hZ hN hk).1 (fun j hj => ?_) ha
  cases h : p j
  · rfl
  · obtain ⟨t, ht, e⟩ := (els_has hZ hN).1 (hp j h)
    rcases Nat.lt_trichotomy t k with q | q | q
    · have := hb t q; rw [e, h] at this; cases this
    · subst q; omega
    · have := els_mono q ht; omega
theorem first_none {Z N : Nat} {p : Nat → Bool} (hZ : Z < 2 ^ N) (hN : N ≤ 7) (hp : ∀ j, p j = true → Z.testBit j = true) (hb : ∀ t, t < cnt Z → p (eln (els Z) t) = false) : firstB p N = none := by
  refine firstB_none fun j _ => ?_
  cases h : p j
  · rfl
  · obtain ⟨t, ht, e⟩ := (els_has hZ hN).1 (hp j h)
    have := hb t ht; rw [e, h] at this; cases this
/-- Where a false twin may be. -/
def farN (rs : List Int) (S v : Nat) : Nat := nDiff (nDiff S (gn rs v &&& S)) (2 ^ v)
theorem far_bit {rs : List Int} {S v j : Nat} : (farN rs S v).testBit j = true ↔ S.testBit j = true ∧ eb rs v j = false ∧ j ≠ v := by
  unfold farN eb
  rw [nDiff_bit, nDiff_bit, Nat.testBit_and, Nat.testBit_two_pow, decide_eq_false_iff_not]
  constructor
  · rintro ⟨⟨h1, h2⟩, h3⟩
    rw [h1, Bool.and_true] at h2
    exact ⟨h1, h2, fun e => h3 e.symm⟩
  · rintro ⟨h1, h2, h3⟩
    exact ⟨⟨h1, by rw [h2]; rfl⟩, fun e => h3 e.symm⟩
theorem far_lt {rs : List Int} {S v N : Nat} (hS : S < 2 ^ N) : farN rs S v < 2 ^ N := nDiff_lt (nDiff_lt hS)
theorem tw2_far {rs : List Int} {S v j : Nat} (h : tw2 rs S v j = true) : (farN rs S v).testBit j = true := by
  unfold tw2 at h
  simp only [Bool.and_eq_true, decide_eq_true_eq, Bool.not_eq_true'] at h
  exact far_bit.2 ⟨h.1.1.2, h.1.2, h.1.1.1⟩
theorem tw2_at {rs : List Int} {S v j : Nat} (h : (farN rs S v).testBit j = true) : tw2 rs S v j = decide (gn rs j &&& S = gn rs v &&& S) := by
  obtain ⟨h1, h2, h3⟩ := far_bit.1 h
  unfold tw2
  rw [h1, h2, decide_eq_true h3]; simp
theorem tw3_own {rs : List Int} {S v j : Nat} (h : tw3 rs S v j = true) : (gn rs v &&& S).testBit j = true := by
  unfold tw3 at h
  simp only [Bool.and_eq_true] at h
  rw [Nat.testBit_and, h.1.1, Bool.and_true]; exact h.1.2
theorem tw3_at {rs : List Int} {S v j : Nat} (h : (gn rs v &&& S).testBit j = true) : tw3 rs S v j = decide ((gn rs j &&& S) ||| 2 ^ j = (gn rs v &&& S) ||| 2 ^ v) := by
  rw [Nat.testBit_and, Bool.and_eq_true] at h
  unfold tw3
  rw [h.2, show eb rs v j = true from h.1]; simp

set_option maxRecDepth 100000 in
set_option maxHeartbeats 4000000 in
theorem pruneOf_any (rs : List Int) (v S : Nat) (ro : Option Addr) (rc : Nat) (w : World) (g : VG rs) (hS : S < 2 ^ rs.length) (hv : S.testBit v = true) (hr : IntsAt w ro rs) :
    Calls Tryz.prog 48 #[.agg #[.int .i64 rs.length, .slice ro rs.length rc], .int .i64 S, .int .i64 v] w (RetP w (pruneV rs S v)) := by
  have hN7 := g.le
  have hp7 := g.pow.1
  have hvl := testBit_lt hS hv
  have hgv := g.lt128 hvl
  obtain ⟨rb, rofs, rfl, hrb, hrc⟩ := hr.graph g
  have hba : bits .and .i64 (gn rs v : Int) (S : Int) = ((gn rs v &&& S : Nat) : Int) := bits_and_nat _ _ (by omega) (by omega)
  have hnS : gn rs v &&& S < 2 ^ rs.length := Nat.lt_of_le_of_lt Nat.and_le_right hS
  have hn7 : gn rs v &&& S < 128 := by omega
  have hv6 : v ≤ 6 := by omega
  have hcv := hrc v hvl
  have Hrc := Lib.hid hrc
  clear hrc
  have hC := fun w : World => implCount_any (gn rs v &&& S) hn7 w
  have hLi := fun w : World => implListB_any (gn rs v &&& S) hn7 w
  have hfl := far_lt (rs := rs) (v := v) hS
  have hLf := fun w : World => implListB_any (farN rs S v) (by omega) w
  have hfb : bits .andNot .i64 (bits .andNot .i64 (S : Int) ((gn rs v &&& S : Nat) : Int)) (pwN v) = (farN rs S v : Int) := by
    have := nDiff_lt (b := gn rs v &&& S) hS
    rw [pwN_small v (by omega), bits_andNot_nat _ _ (by omega), bits_andNot_nat _ _ (by omega)]; rfl
  have hob : bits .or .i64 ((gn rs v &&& S : Nat) : Int) (pwN v) = (((gn rs v &&& S) ||| 2 ^ v : Nat) : Int) := by
    have := Nat.pow_le_pow_right (n := 2) (by decide) hv6
    rw [pwN_small v (by omega), bits_or_nat _ _ (by omega) (by omega)]
  have HT2 := Lib.hid (fun k (hk : k < cnt (farN rs S v)) (hb : ∀ t, t < k → tw2 rs S v (eln (els (farN rs S v)) t) = false) (ha : tw2 rs S v (eln (els (farN rs S v)) k) = true) => first_els hfl hN7 (fun j h => tw2_far h) hk hb ha)
  have HN2 := Lib.hid (fun (hb : ∀ t, t < cnt (farN rs S v) → tw2 rs S v (eln (els (farN rs S v)) t) = false) => first_none hfl hN7 (fun j h => tw2_far h) hb)
  have HA2 := Lib.hid (fun k (hk : k < cnt (farN rs S v)) => tw2_at (rs := rs) (S := S) (v := v) (els_at hfl hN7 hk).2)
  have HE2 := Lib.hid (fun k (hk : k < cnt (farN rs S v)) => (els_at hfl hN7 hk).1)
  have HT3 := Lib.hid (fun k (hk : k < cnt (gn rs v &&& S)) (hb : ∀ t, t < k → tw3 rs S v (eln (els (gn rs v &&& S)) t) = false) (ha : tw3 rs S v (eln (els (gn rs v &&& S)) k) = true) => first_els hnS hN7 (fun j h => tw3_own h) hk hb ha)
  have HN3 := Lib.hid (fun (hb : ∀ t, t < cnt (gn rs v &&& S) → tw3 rs S v (eln (els (gn rs v &&& S)) t) = false) => first_none hnS hN7 (fun j h => tw3_own h) hb)
  have HA3 := Lib.hid (fun k (hk : k < cnt (gn rs v &&& S)) => tw3_at (rs := rs) (S := S) (v := v) (els_at hnS hN7 hk).2)
  have HE3 := Lib.hid (fun k (hk : k < cnt (gn rs v &&& S)) => (els_at hnS hN7 hk).1)
  have hcz : (cnt (gn rs v &&& S) = 0) ↔ gn rs v &&& S = 0 := by
    constructor
    · intro h
      rcases Nat.eq_zero_or_pos (gn rs v &&& S) with h0 | h0
      · exact h0
      · have := (low_facts hn7 (by omega)).2.2
        unfold cnt at h; omega
    · intro h; rw [h]; decide
  have HC0 := Lib.hid hcz
  have HP0 := Lib.hid (fun h => pruneV_0 (rs := rs) (S := S) (v := v) h)
  have HP1 := Lib.hid (fun h0 h1 => pruneV_1 (rs := rs) (S := S) (v := v) h0 h1)
  have HP2 := Lib.hid (fun w h0 h1 h2 => pruneV_2 (rs := rs) (S := S) (v := v) (w := w) h0 h1 h2)
  have HP3 := Lib.hid (fun w h0 h1 h2 h3 => pruneV_3 (rs := rs) (S := S) (v := v) (w := w) h0 h1 h2 h3)
  have HP4 := Lib.hid (fun h0 h1 h2 h3 => pruneV_no (rs := rs) (S := S) (v := v) h0 h1 h2 h3)
  have hlow : eln (els (gn rs v &&& S)) 0 = low (gn rs v &&& S) := rfl
  have Hlow := Lib.hid hlow
  have hcle := cnt_le (gn rs v &&& S)
  have hcle2 := cnt_le (farN rs S v)
  have Hg := Lib.hid (fun k (hk : k < rs.length) => g.lt128 hk)
  clear hcz hlow
  go_enter Tryz.func48, Tryz.ntmps48
  go_wp2_with fail
  generalize hW : World.alloc _ _ = W1
  obtain ⟨hB, hs, k0, k1⟩ := alloc2 hW
  have b0 := k0.lt
  have c1 := k0.cell 1
  simp at c1
  have rb1 := Nat.lt_of_lt_of_le hrb hB.size
  have Hrc1 := Lib.hid (fun k (hk : k < rs.length) => (hB.cell (p := ⟨rb, rofs + k, none⟩) hrb).trans (Hrc.out k hk))
  have HFin : Hid (∀ (m : Later W1) (a b c : Int), Below w.heap.size w (((m.w.setCell ⟨w.heap.size + 1, 0, none⟩ (.int .i64 a)).setCell ⟨w.heap.size + 1, 1, none⟩ (.int .i64 b)).setCell ⟨w.heap.size + 1, 2, none⟩ (.int .i64 c))) := Lib.hid fun m a b c =>
    (((below_later hB m).setCell (by simp) _).setCell (by simp) _).setCell (by simp) _
  have z0 := k1.cell 0
  have z1 := k1.cell 1
  have z2 := k1.cell 2
  have z3 := k1.frozen 0
  have z4 := k1.frozen 1
  have z5 := k1.frozen 2
  have b1 := k1.lt
  simp at z0 z1 z2
  clear hW k0 k1 hs hrb hcv Hrc hr
  have HhB := Lib.hid hB
  clear hB
  obtain ⟨m, hm0⟩ : ∃ m : Later W1, m.w = W1 := ⟨Later.refl _, rfl⟩
  refine (fun h => hm0 ▸ h) ?_
  clear hm0
  refine (Calls.later _ (hC m.w)).mono ?_
  rintro e w' ⟨rfl, m, rfl⟩
  clear hC
  by_cases h0 : cnt (gn rs v &&& S) = 0
  · have HP := Lib.hid (HP0.out (HC0.out.1 h0))
    have d0 : (((cnt (gn rs v &&& S) : Nat) : Int) == 0) = true := by rw [h0]; rfl
    clear h0 hLi hLf
    go_wp2_with fail
    have q0 := (m.cell _ _ b1).trans z0
    have q1 := (m.cell _ _ b1).trans z1
    have q2 := (m.cell _ _ b1).trans z2
    refine bodyPost_ret (v := .tuple #[.agg #[.int .i64 v, .int .i64 0, .int .i64 (-1)], .bool true]) (by simp [results, Tryz.results48, go_sem, q0, q1, q2]) rfl ?_
    exact ⟨by rw [HP.out]; rfl, HFin.out m _ _ _⟩
  have d0 : (((cnt (gn rs v &&& S) : Nat) : Int) == 0) = false := by rw [beq_eq_false_iff_ne]; omega
  have Hn0 := Lib.hid (fun e => h0 (HC0.out.2 e))
  by_cases hc1 : cnt (gn rs v &&& S) = 1
  · have HP := Lib.hid (HP1.out Hn0.out hc1)
    have d1 : (((cnt (gn rs v &&& S) : Nat) : Int) == 1) = true := by rw [hc1]; rfl
    have hcn : 0 < (els (gn rs v &&& S)).length := by unfold cnt at hc1; omega
    have hc11 : 0 < cnt (gn rs v &&& S) := by omega
    clear h0 hc1 hLf hcle
    go_wp2_with fail
    refine (hLi m.w).mono ?_
    rintro e w3 ⟨ao, ac, rfl, hB3, hN⟩
    obtain ⟨g3, rfl, -, hg3, hc3⟩ := hN hcn
    have hc30 := hc3 0 hcn
    rw [Hlow.out] at hc30
    obtain ⟨m, rfl⟩ : ∃ m2 : Later W1, m2.w = w3 := ⟨m.on hB3, rfl⟩
    clear hB3 hc3 hLi hN hcn
    go_wp2_with fail
    have q0 := (m.cell _ _ b1).trans z0
    have q1 := (m.cell _ _ b1).trans z1
    have q2 := (m.cell _ _ b1).trans z2
    refine bodyPost_ret (v := .tuple #[.agg #[.int .i64 v, .int .i64 1, .int .i64 (low (gn rs v &&& S))], .bool true]) (by simp [results, Tryz.results48, go_sem, q0, q1, q2]) rfl ?_
    exact ⟨by rw [HP.out]; rfl, HFin.out m _ _ _⟩
  have d1 : (((cnt (gn rs v &&& S) : Nat) : Int) == 1) = false := by rw [beq_eq_false_iff_ne]; omega
  have Hc1 := Lib.hid hc1
  clear h0 hc1
  go_wp2_with fail
  refine (hLf m.w).mono ?_
  rintro e w3 ⟨fo, fc, rfl, hB3, hF⟩
  obtain ⟨m, rfl⟩ : ∃ m2 : Later W1, m2.w = w3 := ⟨m.on hB3, rfl⟩
  clear hB3 hLf
  have HRB := Lib.hid (fun (W2 : World) (hW : Below W1.heap.size W1 W2) => hW)
  have mb := m.below
  replace c1 := (m.cell _ _ b0).trans c1
  replace z0 := (m.cell _ _ b1).trans z0
  replace z1 := (m.cell _ _ b1).trans z1
  replace z2 := (m.cell _ _ b1).trans z2
  replace z3 := (m.frozen _ 0 b1).trans z3
  replace z4 := (m.frozen _ 1 b1).trans z4
  replace z5 := (m.frozen _ 2 b1).trans z5
  replace Hrc1 := Lib.hid (fun k (hk : k < rs.length) => (m.cell _ _ rb1).trans (Hrc1.out k hk))
  replace HFin : Hid (∀ (m2 : Later m.w) (a b c : Int), Below w.heap.size w (((m2.w.setCell ⟨w.heap.size + 1, 0, none⟩ (.int .i64 a)).setCell ⟨w.heap.size + 1, 1, none⟩ (.int .i64 b)).setCell ⟨w.heap.size + 1, 2, none⟩ (.int .i64 c))) := Lib.hid fun m2 => HFin.out (m.on m2.below)
  replace b0 := Nat.lt_of_lt_of_le b0 m.size
  replace b1 := Nat.lt_of_lt_of_le b1 m.size
  replace rb1 := Nat.lt_of_lt_of_le rb1 m.size
  clear mb HRB HhB
  generalize m.w = W2 at *
  clear m
  have HF := Lib.hid hF
  clear hF
  obtain ⟨m, hm0⟩ : ∃ m : Later W2, m.w = W2 := ⟨Later.refl _, rfl⟩
  refine (fun h => hm0 ▸ h) ?_
  clear hm0
  go_wp2_with fail
  go_loopw [42] (fun i wr => (∃ m : Later W2, wr = m.w) ∧ ∃ k : Nat, k ≤ cnt (farN rs S v) ∧ i = .int .i64 k ∧ ∀ t, t < k → tw2 rs S v (eln (els (farN rs S v)) t) = false) (fun i _ => cnt (farN rs S v) - (intOf i).toNat)
  case atStart => exact ⟨⟨m, rfl⟩, 0, by omega, rfl, fun t h => by omega⟩
  case round =>
    obtain ⟨⟨m, rfl⟩, k, hk, rfl, hT⟩ := hrel
    have HT := Lib.hid hT
    clear hT
    by_cases hlt : k < cnt (farN rs S v)
    · obtain ⟨fb, rfl, -, hfb, hfc⟩ := HF.out (by unfold cnt at hlt; omega)
      have hck := hfc k (by unfold cnt at hlt; exact hlt)
      have hEl := HE2.out k hlt
      have hcw := Hrc1.out _ hEl
      have hgw := Hg.out _ hEl
      have hA := HA2.out k hlt
      have hbw : bits .and .i64 (gn rs (eln (els (farN rs S v)) k) : Int) (S : Int) = ((gn rs (eln (els (farN rs S v)) k) &&& S : Nat) : Int) := bits_and_nat _ _ (by omega) (by omega)
      have hHit := Lib.hid (fun h => HT2.out k hlt HT.out h)
      have hMiss := Lib.hid (fun h => all_succ (p := fun t => tw2 rs S v (eln (els (farN rs S v)) t) = false) HT.out h)
      clear hfc
      by_cases hX : gn rs (eln (els (farN rs S v)) k) &&& S = gn rs v &&& S
      · have ht : tw2 rs S v (eln (els (farN rs S v)) k) = true := by rw [hA]; exact decide_eq_true hX
        have hP := HP2.out _ Hn0.out Hc1.out (hHit.out ht)
        rw [hX] at hbw
        clear ht hX hA hHit hMiss
        generalize eln (els (farN rs S v)) k = u at *
        have HhP := Lib.hid hP
        clear hP
        go_wp2_with fail
        have q0 := (m.cell _ _ b1).trans z0
        have q1 := (m.cell _ _ b1).trans z1
        have q2 := (m.cell _ _ b1).trans z2
        refine bodyPost_ret (v := .tuple #[.agg #[.int .i64 v, .int .i64 2, .int .i64 u], .bool true]) (by simp [results, Tryz.results48, go_sem, q0, q1, q2]) rfl ?_
        exact ⟨by rw [HhP.out]; rfl, HFin.out m _ _ _⟩
      · have hX' : (((gn rs (eln (els (farN rs S v)) k) &&& S : Nat) : Int) == ((gn rs v &&& S : Nat) : Int)) = false := by rw [beq_eq_false_iff_ne]; omega
        have ht : tw2 rs S v (eln (els (farN rs S v)) k) = false := by rw [hA]; exact decide_eq_false hX
        have hf := hMiss.out ht
        clear ht hX hA hHit hMiss
        have Hhf := Lib.hid hf
        clear hf
        generalize eln (els (farN rs S v)) k = u at *
        go_wp2_with fail
        go_roundw
        case rel => exact ⟨⟨m, rfl⟩, k + 1, by omega, by go_num, Hhf.out⟩
        case measure => simp [intOf]; omega
    · obtain rfl : k = cnt (farN rs S v) := by omega
      have hN2 := HN2.out HT.out
      have HhN2 := Lib.hid hN2
      clear hN2
      go_wp2_with fail
      refine (hLi m.w).mono ?_
      rintro e w3 ⟨oo, oc, rfl, hB3, hO⟩
      obtain ⟨m, rfl⟩ : ∃ m2 : Later W2, m2.w = w3 := ⟨m.on hB3, rfl⟩
      clear hB3 hLi
      replace c1 := (m.cell _ _ b0).trans c1
      replace z0 := (m.cell _ _ b1).trans z0
      replace z1 := (m.cell _ _ b1).trans z1
      replace z2 := (m.cell _ _ b1).trans z2
      replace z3 := (m.frozen _ 0 b1).trans z3
      replace z4 := (m.frozen _ 1 b1).trans z4
      replace z5 := (m.frozen _ 2 b1).trans z5
      replace Hrc1 := Lib.hid (fun k (hk : k < rs.length) => (m.cell _ _ rb1).trans (Hrc1.out k hk))
      replace HFin : Hid (∀ (m2 : Later m.w) (a b c : Int), Below w.heap.size w (((m2.w.setCell ⟨w.heap.size + 1, 0, none⟩ (.int .i64 a)).setCell ⟨w.heap.size + 1, 1, none⟩ (.int .i64 b)).setCell ⟨w.heap.size + 1, 2, none⟩ (.int .i64 c))) := Lib.hid fun m2 => HFin.out (m.on m2.below)
      replace b0 := Nat.lt_of_lt_of_le b0 m.size
      replace b1 := Nat.lt_of_lt_of_le b1 m.size
      replace rb1 := Nat.lt_of_lt_of_le rb1 m.size
      have HOo := Lib.hid hO
      clear hO HF HT
      generalize m.w = W3 at *
      clear m
      obtain ⟨m, hm0⟩ : ∃ m : Later W3, m.w = W3 := ⟨Later.refl _, rfl⟩
      refine (fun h => hm0 ▸ h) ?_
      clear hm0
      go_wp2_with fail
      go_loopw [62] (fun i wr => (∃ m : Later W3, wr = m.w) ∧ ∃ k : Nat, k ≤ cnt (gn rs v &&& S) ∧ i = .int .i64 k ∧ ∀ t, t < k → tw3 rs S v (eln (els (gn rs v &&& S)) t) = false) (fun i _ => cnt (gn rs v &&& S) - (intOf i).toNat)
      case atStart => exact ⟨⟨m, rfl⟩, 0, by omega, rfl, fun t h => by omega⟩
      case round =>
        obtain ⟨⟨m, rfl⟩, k, hk, rfl, hT⟩ := hrel
        have HT := Lib.hid hT
        clear hT
        by_cases hlt : k < cnt (gn rs v &&& S)
        · obtain ⟨fb, rfl, -, hfb, hfc⟩ := HOo.out (by unfold cnt at hlt; omega)
          have hck := hfc k (by unfold cnt at hlt; exact hlt)
          have hEl := HE3.out k hlt
          have hcw := Hrc1.out _ hEl
          have hgw := Hg.out _ hEl
          have hA := HA3.out k hlt
          have hbw : bits .and .i64 (gn rs (eln (els (gn rs v &&& S)) k) : Int) (S : Int) = ((gn rs (eln (els (gn rs v &&& S)) k) &&& S : Nat) : Int) := bits_and_nat _ _ (by omega) (by omega)
          have hu6 : eln (els (gn rs v &&& S)) k ≤ 6 := by omega
          have hor : bits .or .i64 ((gn rs (eln (els (gn rs v &&& S)) k) &&& S : Nat) : Int) (pwN (eln (els (gn rs v &&& S)) k)) = (((gn rs (eln (els (gn rs v &&& S)) k) &&& S) ||| 2 ^ eln (els (gn rs v &&& S)) k : Nat) : Int) := by
            have h1 := Nat.pow_le_pow_right (n := 2) (by decide) hu6
            have h2 : gn rs (eln (els (gn rs v &&& S)) k) &&& S ≤ S := Nat.and_le_right
            rw [pwN_small _ (by omega), bits_or_nat _ _ (by omega) (by omega)]
          have hHit := Lib.hid (fun h => HT3.out k hlt HT.out h)
          have hMiss := Lib.hid (fun h => all_succ (p := fun t => tw3 rs S v (eln (els (gn rs v &&& S)) t) = false) HT.out h)
          clear hfc
          by_cases hX : (gn rs (eln (els (gn rs v &&& S)) k) &&& S) ||| 2 ^ eln (els (gn rs v &&& S)) k = (gn rs v &&& S) ||| 2 ^ v
          · have ht : tw3 rs S v (eln (els (gn rs v &&& S)) k) = true := by rw [hA]; exact decide_eq_true hX
            have hP := HP3.out _ Hn0.out Hc1.out HhN2.out (hHit.out ht)
            rw [hX] at hor
            clear ht hX hA hHit hMiss
            generalize eln (els (gn rs v &&& S)) k = u at *
            generalize gn rs u &&& S = gu at *
            generalize (gn rs v &&& S) ||| 2 ^ v = OV at *
            have HhP := Lib.hid hP
            clear hP
            go_wp2_with fail
            refine wp_region_later m rfl (by kernel_rfl) (by kernel_rfl) ?_
            repeat (go_big_quiet_step (fail))
            refine wpQuiet_nil ?_
            rintro _ ⟨m, rfl⟩
            go_wp2_with fail
            have q0 := (m.cell _ _ b1).trans z0
            have q1 := (m.cell _ _ b1).trans z1
            have q2 := (m.cell _ _ b1).trans z2
            refine bodyPost_ret (v := .tuple #[.agg #[.int .i64 v, .int .i64 3, .int .i64 u], .bool true]) (by simp [results, Tryz.results48, go_sem, q0, q1, q2]) rfl ?_
            exact ⟨by rw [HhP.out]; rfl, HFin.out m _ _ _⟩
          · have ht : tw3 rs S v (eln (els (gn rs v &&& S)) k) = false := by rw [hA]; exact decide_eq_false hX
            have hf := hMiss.out ht
            clear ht hA hHit hMiss
            have Hhf := Lib.hid hf
            clear hf
            generalize eln (els (gn rs v &&& S)) k = u at *
            generalize gn rs u &&& S = gu at *
            generalize gu ||| 2 ^ u = GU at *
            generalize (gn rs v &&& S) ||| 2 ^ v = OV at *
            have hX' : ((GU : Int) == (OV : Int)) = false := by rw [beq_eq_false_iff_ne]; omega
            clear hX
            go_wp2_with fail
            refine wp_region_later m rfl (by kernel_rfl) (by kernel_rfl) ?_
            repeat (go_big_quiet_step (fail))
            refine wpQuiet_nil ?_
            rintro _ ⟨m, rfl⟩
            go_wp2_with fail
            go_roundw
            case rel => exact ⟨⟨m, rfl⟩, k + 1, by omega, by go_num, Hhf.out⟩
            case measure => simp [intOf]; omega
        · obtain rfl : k = cnt (gn rs v &&& S) := by omega
          have hP := HP4.out Hn0.out Hc1.out HhN2.out (HN3.out HT.out)
          have HhP := Lib.hid hP
          clear hP
          go_wp2_with fail
          have q0 := (m.cell _ _ b1).trans z0
          have q1 := (m.cell _ _ b1).trans z1
          have q2 := (m.cell _ _ b1).trans z2
          refine bodyPost_ret (v := .tuple #[.agg #[.int .i64 0, .int .i64 0, .int .i64 0], .bool false]) (by simp [results, Tryz.results48, go_sem, q0, q1, q2]) rfl ?_
          exact ⟨by rw [HhP.out]; rfl, HFin.out m _ _ _⟩

end Go.Proofs.YtjikmjhpmkakoaaGreatDoor

namespace Go.Proofs.YtjikmjhpmkakoaaGreatDoor
open Go.RowKit

def RetPs (w : World) (O : Option (List Prn)) (e : Ending) (w' : World) : Prop :=
  ∃ ao cap, e = .returned (.tuple #[.slice ao (O.getD []).length cap, .bool O.isSome]) ∧ Below w.heap.size w w' ∧ OwnP w' w.heap.size ao cap (O.getD [])
theorem cell_new3 {w : World} {b i : Nat} {x y z v : Value} {T : TypeId} (hb : b = w.heap.size) (h : #[x, y, z][i]? = some v) : (w.alloc (.cells #[x, y, z] T)).cell? ⟨b, i, none⟩ = some v := by
  subst hb
  obtain ⟨-, -, h3, -⟩ := box_facts (w := w) (cs := #[x, y, z]) (T := T) rfl
  rw [h3]; exact h
theorem minus_facts {S v N : Nat} (hN : N ≤ 7) (hS : S < 2 ^ N) (hv : S.testBit v = true) : S - 2 ^ v < 2 ^ N ∧ cnt S = cnt (S - 2 ^ v) + 1 := by
  have h1 := lt128 hN hS
  obtain ⟨h2, h3⟩ := minus_or h1 hv
  have h4 := cnt_or_fin ⟨S - 2 ^ v, Nat.lt_of_le_of_lt (Nat.sub_le _ _) h1⟩ ⟨v, bit7 h1 hv⟩ h3
  dsimp only at h4
  rw [h2] at h4
  exact ⟨Nat.lt_of_le_of_lt (Nat.sub_le _ _) hS, h4⟩
theorem cnt_zero {S : Nat} (hS : S < 128) (h : S ≠ 0) : cnt S ≠ 0 := by
  have := (low_facts hS h).2.2
  unfold cnt; omega
def testV (rs : List Int) (S v : Nat) : Bool := S.testBit v && (pruneV rs S v).isSome

end Go.Proofs.YtjikmjhpmkakoaaGreatDoor

namespace Go.Proofs.YtjikmjhpmkakoaaGreatDoor
open Go.RowKit

/-- v can be taken away from S: it has a twin there, or at most one neighbour. -/
def prunP (rs : List Int) (S v : Nat) : Prop :=
  (∃ w, S.testBit w = true ∧ w ≠ v ∧ ∀ c, S.testBit c = true → c ≠ v → c ≠ w → ad rs v c = ad rs w c) ∨ ∀ a b, S.testBit a = true → S.testBit b = true → ad rs v a = true → ad rs v b = true → a = b
theorem cnt1_fin : ∀ x : Fin 128, cnt x.val = 1 → ∀ a b : Fin 7, x.val.testBit a.val = true → x.val.testBit b.val = true → a = b := by decide +kernel
theorem cnt1_of {X a b : Nat} (hX : X < 128) (h : cnt X = 1) (ha : X.testBit a = true) (hb : X.testBit b = true) : a = b := by
  have h1 := testBit_lt (N := 7) hX ha
  have h2 := testBit_lt (N := 7) hX hb
  exact congrArg Fin.val (cnt1_fin ⟨X, hX⟩ h ⟨a, h1⟩ ⟨b, h2⟩ ha hb)
theorem cnt1_fin2 : ∀ x : Fin 128, (∀ a b : Fin 7, x.val.testBit a.val = true → x.val.testBit b.val = true → a = b) → x.val = 0 ∨ cnt x.val = 1 := by decide +kernel
theorem cnt1_mk {X : Nat} (hX : X < 128) (h : ∀ a b, X.testBit a = true → X.testBit b = true → a = b) : X = 0 ∨ cnt X = 1 :=
  cnt1_fin2 ⟨X, hX⟩ fun a b ha hb => Fin.ext (h a.val b.val ha hb)
theorem tw2_iff {rs : List Int} (g : VG rs) {S v w : Nat} (hS : S < 2 ^ rs.length) (hv : S.testBit v = true) (hw : S.testBit w = true) (hne : w ≠ v) (he : ad rs v w = false) :
    tw2 rs S v w = true ↔ ∀ c, S.testBit c = true → c ≠ v → c ≠ w → ad rs v c = ad rs w c := by
  rw [← tw2_spec g hS hv hw hne he, decide_eq_true_eq, rows_but g hS hv hw]; rfl
theorem tw3_iff {rs : List Int} (g : VG rs) {S v w : Nat} (hS : S < 2 ^ rs.length) (hv : S.testBit v = true) (hw : S.testBit w = true) (he : ad rs v w = true) :
    tw3 rs S v w = true ↔ ∀ c, S.testBit c = true → c ≠ v → c ≠ w → ad rs v c = ad rs w c := by
  rw [← tw3_spec g hS hv hw he, decide_eq_true_eq, rows_but g hS hv hw]; rfl
theorem tw2_parts {rs : List Int} {S v w : Nat} (h : tw2 rs S v w = true) : w ≠ v ∧ S.testBit w = true ∧ ad rs v w = false := by
  unfold tw2 at h
  simp only [Bool.and_eq_true, decide_eq_true_eq, Bool.not_eq_true'] at h
  exact ⟨h.1.1.1, h.1.1.2, h.1.2⟩
theorem tw3_parts {rs : List Int} {S v w : Nat} (h : tw3 rs S v w = true) : S.testBit w = true ∧ ad rs v w = true := by
  unfold tw3 at h
  simp only [Bool.and_eq_true, decide_eq_true_eq] at h
  exact ⟨h.1.1, h.1.2⟩
theorem firstB_some {p : Nat → Bool} {n k : Nat} (h : firstB p n = some k) : k < n ∧ p k = true := by
  unfold firstB at h
  rw [List.find?_range_eq_some] at h
  exact ⟨by simpa using h.2.1, h.1⟩
theorem firstB_no {p : Nat → Bool} {n : Nat} (h : firstB p n = none) : ∀ k, k < n → p k = false := fun k hk => by
  unfold firstB at h
  rw [List.find?_eq_none] at h
  have := h k (by simpa using hk)
  simpa using this
theorem and_bit {a b i : Nat} : (a &&& b).testBit i = true ↔ a.testBit i = true ∧ b.testBit i = true := by rw [Nat.testBit_and, Bool.and_eq_true]
theorem pruneV_iff {rs : List Int} (g : VG rs) {S v : Nat} (hS : S < 2 ^ rs.length) (hv : S.testBit v = true) : (pruneV rs S v).isSome = true ↔ prunP rs S v := by
  have hvl := testBit_lt hS hv
  have hT7 : gn rs v &&& S < 128 := Nat.lt_of_le_of_lt Nat.and_le_left (g.lt128 hvl)
  by_cases h0 : gn rs v &&& S = 0
  · rw [pruneV_0 h0]
    refine ⟨fun _ => .inr fun a b ha _ hva _ => ?_, fun _ => rfl⟩
    have : (gn rs v &&& S).testBit a = true := and_bit.2 ⟨hva, ha⟩
    rw [h0] at this; simp at this
  · by_cases h1 : cnt (gn rs v &&& S) = 1
    · rw [pruneV_1 h0 h1]
      exact ⟨fun _ => .inr fun a b ha hb hva hvb => cnt1_of hT7 h1 (and_bit.2 ⟨hva, ha⟩) (and_bit.2 ⟨hvb, hb⟩), fun _ => rfl⟩
    · cases h2 : firstB (tw2 rs S v) rs.length with
      | some w =>
        rw [pruneV_2 h0 h1 h2]
        obtain ⟨-, ht⟩ := firstB_some h2
        obtain ⟨p1, p2, p3⟩ := tw2_parts ht
        exact ⟨fun _ => .inl ⟨w, p2, p1, (tw2_iff g hS hv p2 p1 p3).1 ht⟩, fun _ => rfl⟩
      | none =>
        cases h3 : firstB (tw3 rs S v) rs.length with
        | some w =>
          rw [pruneV_3 h0 h1 h2 h3]
          obtain ⟨-, ht⟩ := firstB_some h3
          obtain ⟨p2, p3⟩ := tw3_parts ht
          exact ⟨fun _ => .inl ⟨w, p2, fun e => (by rw [e, ad_irr g] at p3; cases p3), (tw3_iff g hS hv p2 p3).1 ht⟩, fun _ => rfl⟩
        | none =>
          rw [pruneV_no h0 h1 h2 h3]
          refine ⟨fun h => (by cases h), fun h => ?_⟩
          rcases h with ⟨w, p2, p1, p4⟩ | h
          · have hwl := testBit_lt hS p2
            cases he : ad rs v w
            · have := firstB_no h2 w hwl
              rw [(tw2_iff g hS hv p2 p1 he).2 p4] at this; cases this
            · have := firstB_no h3 w hwl
              rw [(tw3_iff g hS hv p2 he).2 p4] at this; cases this
          · rcases cnt1_mk hT7 fun a b ha hb => h a b (and_bit.1 ha).2 (and_bit.1 hb).2 (and_bit.1 ha).1 (and_bit.1 hb).1 with h | h
            · exact absurd h h0
            · exact absurd h h1

/-! ### The formulas -/
/-- Some k further different members of B behind l. -/
def exL (B : List Nat) : Nat → List Nat → (List Nat → Fm) → Fm
  | 0, l, p => p l
  | k + 1, l, p => exF (B.filter fun v => !l.elem v) fun v => exL B k (l ++ [v]) p
theorem exL_some {e : Nat → Bool} {B : List Nat} {p : List Nat → Fm} : ∀ (k : Nat) (l : List Nat), l.Nodup → (exL B k l p).eval e = true → ∃ t, t.length = k ∧ (l ++ t).Nodup ∧ (∀ y ∈ t, y ∈ B) ∧ (p (l ++ t)).eval e = true
  | 0, l, hn, h => ⟨[], rfl, by rwa [List.append_nil], by simp, by rwa [List.append_nil]⟩
  | k + 1, l, hn, h => by
    rw [exL, exF_true] at h
    obtain ⟨v, hv, h⟩ := h
    simp at hv
    have hn2 : (l ++ [v]).Nodup := by
      rw [List.nodup_append]
      exact ⟨hn, by simp, fun a ha b hb e => by simp at hb; subst hb; subst e; exact hv.2 ha⟩
    obtain ⟨t, h1, h2, h3, h4⟩ := exL_some k (l ++ [v]) hn2 h
    rw [List.append_assoc] at h2 h4
    refine ⟨v :: t, by simp [h1], h2, fun y hy => ?_, h4⟩
    rcases List.mem_cons.1 hy with rfl | hy
    · exact hv.1
    · exact h3 y hy
theorem exL_mk {e : Nat → Bool} {B : List Nat} {p : List Nat → Fm} : ∀ (t l : List Nat), (l ++ t).Nodup → (∀ y ∈ t, y ∈ B) → (p (l ++ t)).eval e = true → (exL B t.length l p).eval e = true
  | [], l, hn, h6, h => by rwa [List.append_nil] at h
  | v :: t, l, hn, h6, h => by
    rw [List.length_cons, exL, exF_true]
    refine ⟨v, ?_, exL_mk t (l ++ [v]) (by rwa [List.append_assoc]) (fun y hy => h6 y (List.mem_cons_of_mem _ hy)) (by rwa [List.append_assoc])⟩
    have : v ∉ l := fun hv => by
      rw [List.nodup_append] at hn
      exact hn.2.2 v hv v (by simp) rfl
    simp [h6 v (by simp), this]
def eqF (a b : Fm) : Fm := .or (.and a b) (.and (.not a) (.not b))
theorem eqF_true {e : Nat → Bool} {a b : Fm} : (eqF a b).eval e = true ↔ a.eval e = b.eval e := by
  simp only [eqF, Fm.eval]
  cases a.eval e <;> cases b.eval e <;> simp
def prunF (S v : Nat) : Fm :=
  .or (exF ((mS S).filter fun w => !Nat.beq w v) fun w => allF ((mS S).filter fun c => !Nat.beq c v && !Nat.beq c w) fun c => eqF (adF v c) (adF w c))
    (allF (mS S) fun a => allF (mS S) fun b => cond (Nat.beq a b) .tt (.not (.and (adF v a) (adF v b))))
def pathQ (j i : Nat) : Bool := Nat.beq i (j + 1)
/-- A path of four vertices and one that joins its ends; a path of five and one that joins its ends. -/
def ob4 (l : List Nat) : Fm := .and (patF pathQ (l.take 4)) (.and (adF (eln l 0) (eln l 4)) (adF (eln l 3) (eln l 4)))
def ob5 (l : List Nat) : Fm := .and (patF pathQ (l.take 5)) (.and (adF (eln l 0) (eln l 5)) (adF (eln l 4) (eln l 5)))
def obF (S : Nat) : Fm := .or (exL (mS S) 5 [] ob4) (exL (mS S) 6 [] ob5)
set_option maxRecDepth 100000 in
theorem prun_taut : tautB 15 (allF ((List.range 63).map (· + 1)) fun S => .or (exF (mS S) (prunF S)) (obF S)) = true := by decide +kernel
set_option maxRecDepth 100000 in
theorem back_taut : tautB 15 (allF ((List.range 63).map (· + 1)) fun S => allF (mS S) fun v => impF (.and (prunF S v) (obF S)) (obF (S - 2 ^ v))) = true := by decide +kernel

end Go.Proofs.YtjikmjhpmkakoaaGreatDoor

namespace Go.Proofs.YtjikmjhpmkakoaaGreatDoor
open Go.RowKit

end Go.Proofs.YtjikmjhpmkakoaaGreatDoor

namespace Go.Proofs.YtjikmjhpmkakoaaGreatDoor
open Go.RowKit

/-- The row of the i-th member among the first k members of a list. -/
def indRow (rs : List Int) (l : List Nat) (i : Nat) : Nat → Nat
  | 0 => 0
  | k + 1 => if (gn rs (eln l i)).testBit (eln l k) = true then indRow rs l i k ||| 2 ^ k else indRow rs l i k
/-- The rows of the first i members. -/
def indTo (rs : List Int) (l : List Nat) (i : Nat) : List Int := (List.range i).map fun j => (indRow rs l j l.length : Int)
/-- The rows of the part of a graph. -/
def ind (rs : List Int) (S : Nat) : List Int := indTo rs (els S) (cnt S)
theorem cnt_pos {S N : Nat} (h : S < 2 ^ N) (hN : N ≤ 7) (h0 : 0 < S) : 0 < (els S).length := by
  rcases Nat.eq_zero_or_pos (els S).length with h1 | h1
  · exfalso
    have h2 : S.testBit S.log2 = true := Nat.testBit_log2 (by omega)
    have h3 := (mem_els h hN).2 h2
    rw [List.length_eq_zero_iff.1 h1] at h3
    simp at h3
  · exact h1
end Go.Proofs.YtjikmjhpmkakoaaGreatDoor

namespace Go.Proofs.YtjikmjhpmkakoaaGreatDoor
open Go.RowKit

/-! ### The part of a graph is a graph -/
/-! ### Distances both ways -/
/-! ### IsConnected -/
end Go.Proofs.YtjikmjhpmkakoaaGreatDoor

namespace Go.Proofs.YtjikmjhpmkakoaaGreatDoor
open Go.RowKit

end Go.Proofs.YtjikmjhpmkakoaaGreatDoor

namespace Go.Proofs.YtjikmjhpmkakoaaGreatDoor
open Go.RowKit

end Go.Proofs.YtjikmjhpmkakoaaGreatDoor

namespace Go.Proofs.YtjikmjhpmkakoaaGreatDoor
open Go.RowKit

/-- v is reached from u in at most n steps within S. -/
def rin (rs : List Int) (S : Nat) : Nat → Nat → Nat → Prop
  | 0, u, v => u = v
  | n + 1, u, v => rin rs S n u v ∨ ∃ x, S.testBit x = true ∧ rin rs S n u x ∧ ad rs x v = true
theorem rin_trans {rs : List Int} {S u x : Nat} {n : Nat} (h : rin rs S n u x) : ∀ {m v : Nat}, rin rs S m x v → rin rs S (n + m) u v
  | 0, v, k => by cases k; exact h
  | m + 1, v, k => by
    rcases k with k | ⟨y, h1, h2, h3⟩
    · exact .inl (rin_trans h k)
    · exact .inr ⟨y, h1, rin_trans h h2, h3⟩
theorem rin_step {rs : List Int} {S u v : Nat} (hu : S.testBit u = true) (h : ad rs u v = true) : rin rs S 1 u v := .inr ⟨u, hu, rfl, h⟩
theorem stepN_rin {rs : List Int} {S : Nat} (hS : S < 128) {u : Nat} (hu : S.testBit u = true) : ∀ n v, S.testBit v = true → ((stepN rs S (2 ^ u) n).testBit v = true ↔ rin rs S n u v)
  | 0, v, _ => pow_bit
  | n + 1, v, hv => by
    show (step rs S (stepN rs S (2 ^ u) n)).testBit v = true ↔ _
    have hsub := stepN_sub (rs := rs) (pow_sub hu) n
    rw [step_bit (stepN_lt (pow_sub hu) hS n), stepN_rin hS hu n v hv]
    constructor
    · rintro ⟨-, h | ⟨a, h1, h2⟩⟩
      · exact .inl h
      · exact .inr ⟨a, hsub a h1, (stepN_rin hS hu n a (hsub a h1)).1 h1, h2⟩
    · rintro (h | ⟨a, h0, h1, h2⟩)
      · exact ⟨hv, .inl h⟩
      · exact ⟨hv, .inr ⟨a, (stepN_rin hS hu n a h0).2 h1, h2⟩⟩
/-- A set of one part hangs together. -/
theorem one_part {rs : List Int} (g : VG rs) {S : Nat} (hS : S < 2 ^ rs.length) (h1 : (partsOf rs S).length = 1) {u v : Nat} (hu : S.testBit u = true) (hv : S.testBit v = true) : rin rs S rs.length u v := by
  have hp := partsAt_end g hS
  have h7 : S < 128 := by have := g.pow.1; omega
  have hP : ∃ t, S.testBit t = true ∧ ∀ x, S.testBit x = true → (grow rs (2 ^ t) S).testBit x = true := by
    match hq : partsOf rs S, h1 with
    | [P], _ =>
      rw [hq] at hp
      obtain ⟨t, ht, e⟩ := hp.each P (by simp)
      refine ⟨t, ht, fun x hx => ?_⟩
      rcases (hp.bits x).1 hx with h | ⟨Q, hQ, h⟩
      · simp at h
      · simp at hQ; subst hQ; rw [← e]; exact h
  obtain ⟨t, ht, hall⟩ := hP
  have h2 := grow_same g hS ht (hall u hu)
  have h3 := hall v hv
  rw [← h2] at h3
  exact (stepN_rin h7 hu rs.length v hv).1 h3
theorem rin_symm {rs : List Int} (g : VG rs) {S u : Nat} (hu : S.testBit u = true) : ∀ {n v : Nat}, S.testBit v = true → rin rs S n u v → rin rs S n v u
  | 0, v, _, h => Eq.symm h
  | n + 1, v, hv, h => by
    rcases h with h | ⟨x, h1, h2, h3⟩
    · exact .inl (rin_symm g hu hv h)
    · have h4 := rin_symm g hu h1 h2
      have h5 := rin_trans (rin_step hv (by rw [ad_symm g]; exact h3)) h4
      rwa [Nat.add_comm] at h5
end Go.Proofs.YtjikmjhpmkakoaaGreatDoor
