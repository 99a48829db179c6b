/-
  flip of the program, where the edge is missing: it is laid. The graph is right.
  pruneOf of the program. The graph is right, the vertex is in the set.
-/
import Derived.Test.YtjikmjhpmkakoaaGreatDoorPkCardHereditary09
import Derived.Test.YtjikmjhpmkakoaaGreatDoorPkCardHereditary24
namespace Go.Proofs.YtjikmjhpmkakoaaGreatDoor
open Go.RowKit

theorem xor_pow {a k : Nat} (ha : a < 128) (hk : k ≤ 6) (h : a.testBit k = false) : bits .xor .i64 (a : Int) (pwN k) = ((a + 2 ^ k : Nat) : Int) := by
  have hp : 2 ^ k ≤ 2 ^ 6 := Nat.pow_le_pow_right (by decide) hk
  have hd : a &&& 2 ^ k = 0 := by
    apply Nat.eq_of_testBit_eq
    intro j
    rw [Nat.testBit_and, Nat.testBit_two_pow, Nat.zero_testBit]
    by_cases e : k = j
    · subst e; rw [h]; rfl
    · rw [decide_eq_false e, Bool.and_false]
  rw [pwN_small k (by omega), bits_xor_nat _ _ (by omega) (by omega), add_disj (by omega) (by omega) hd]
  congr 1
  apply Nat.eq_of_testBit_eq
  intro j
  rw [Nat.testBit_xor, Nat.testBit_or, Nat.testBit_two_pow]
  by_cases e : k = j
  · subst e; rw [h]; simp
  · rw [decide_eq_false e]; simp

set_option maxRecDepth 100000 in
set_option maxHeartbeats 1000000 in
theorem flip_any (ys : List Int) (a b g1 cap N : Nat) (w : World) (hN : ys.length = N) (hR : RowAt w g1 cap ys) (g : VG ys) (ha : a < N) (hb : b < N) (hab : a ≠ b) (he : eb ys a b = false) :
    Calls Tryz.prog 61 #[.agg #[.int .i64 N, .slice (some ⟨g1, 0, none⟩) N cap], .int .i64 a, .int .i64 b] w fun e w' => e = .returned (.tuple #[]) ∧ Only (fun x => x = g1) w.heap.size w w' ∧ RowAt w' g1 cap (addE ys a b) := by
  subst hN
  have HS := Lib.hid (addE_set g ha hb hab he)
  have he2 := he
  rw [eb_sym g ha hb] at he2
  have hga := g.lt128 ha
  have hgb := g.lt128 hb
  have hl7 := g.le
  have HX1 := Lib.hid (xor_pow hga (k := b) (by omega) he)
  have HX2 := Lib.hid (xor_pow hgb (k := a) (by omega) he2)
  have z1 := hR.cell a ha
  rw [g.row a ha] at z1
  have z2 := hR.frozen a
  have zl := hR.lt
  have x4 : gi (ys.set a ((gn ys a + 2 ^ b : Nat) : Int)) b = (gn ys b : Int) := by rw [← g.row b hb]; simp [gi, hab]
  clear he he2
  go_enter Tryz.func61, Tryz.ntmps61
  go_wp2_with fail
  generalize hW : World.alloc _ _ = W1
  obtain ⟨hB, -, k0⟩ := alloc1 hW
  replace z1 := (hB.cell (p := ⟨g1, a, none⟩) zl).trans z1
  replace z2 := (hB.frozen (p := ⟨g1, a, none⟩) zl).trans z2
  have hR1 := hR.below hB
  have hb0 := k0.lt
  have hc1 := k0.cell 1
  simp at hc1
  have hl1 := hR1.lt
  clear hW
  have HhB := Lib.hid hB
  clear hB
  have HhR1 := Lib.hid hR1
  clear hR1
  have HhR := Lib.hid hR
  clear hR
  have Hx4 := Lib.hid x4
  clear x4
  have Hk0 := Lib.hid k0
  clear k0
  obtain ⟨m, hm0⟩ : ∃ m : Later W1, m.w = W1 := ⟨Later.refl _, rfl⟩
  refine (fun h => hm0 ▸ h) ?_
  clear hm0
  go_wp2_with fail
  go_still_tail 8, (by kernel_rfl)
  refine wpList_drew_on m fun m => ?_
  go_wp2_with fail
  generalize hW3 : World.setCell _ _ _ = W3
  rw [HX1.out] at hW3
  have hO3 : Only (fun x => x = g1) W1.heap.size W1 W3 := hW3 ▸ (Only.of (X := fun x => x = g1) m.below).setCell (p := ⟨g1, a, none⟩) (.inl rfl) _
  have hR3 : RowAt W3 g1 cap (ys.set a ((gn ys a + 2 ^ b : Nat) : Int)) := hW3 ▸ (HhR1.out.below m.below).store a _
  have hne : ¬ w.heap.size = g1 := by omega
  have x1 := (hO3.cell (p := ⟨w.heap.size, 1, none⟩) hb0 hne).trans hc1
  have x2 := hR3.frozen b
  have x3 := hR3.cell b (by simpa using hb)
  rw [Hx4.out] at x3
  have b1 := Nat.lt_of_lt_of_le hb0 hO3.size
  have b2 := hR3.lt
  clear hW3 z1 z2 hc1 hb0 hl1 m
  have HhR3 := Lib.hid hR3
  clear hR3
  have HhO3 := Lib.hid hO3
  clear hO3
  obtain ⟨m, hm0⟩ : ∃ m : Later W3, m.w = W3 := ⟨Later.refl _, rfl⟩
  refine (fun h => hm0 ▸ h) ?_
  clear hm0
  go_wp2_with fail
  go_still_tail 8, (by kernel_rfl)
  refine wpList_drew_on m fun m => ?_
  go_wp2_with fail
  go_end0
  rw [HX2.out]
  refine ⟨rfl, ?_, ?_⟩
  · exact (((Only.of (X := fun x => x = g1) HhB.out).trans (HhO3.out.mono HhB.out.size fun b _ h => h)).more m.below (Nat.le_trans HhB.out.size HhO3.out.size)).setCell (p := ⟨g1, b, none⟩) (.inl rfl) _
  · rw [← HS.out]; exact (HhR3.out.below m.below).store b _

end Go.Proofs.YtjikmjhpmkakoaaGreatDoor

namespace Go.Proofs.YtjikmjhpmkakoaaGreatDoor
open Go.RowKit

theorem els_mono {Z x y : Nat} (hxy : x < y) (hy : y < cnt Z) : eln (els Z) x < eln (els Z) y := by
  have hx' : x < (els Z).length := by unfold cnt at hy; omega
  have hy' : y < (els Z).length := hy
  rw [eln_get hx', eln_get hy']
  have hs : (els Z).Pairwise (· < ·) := List.Pairwise.filter _ List.pairwise_lt_range
  exact List.pairwise_iff_getElem.1 hs x y hx' hy' hxy
theorem first_els {Z N k : Nat} {p : Nat → Bool} (hZ : Z < 2 ^ N) (hN : N ≤ 7) (hp : ∀ j, p j = true → Z.testBit j = true) (hk : k < cnt Z) (hb : ∀ t, t < k → p (eln (els Z) t) = false) (ha : p (eln (els Z) k) = true) : firstB p N = some (eln (els Z) k) := by
  refine firstB_hit (els_at hZ hN hk).1 (fun j hj => ?_) ha
  cases h : p j
  · rfl
  · obtain ⟨t, ht, e⟩ := (els_has hZ hN).1 (hp j h)
    rcases Nat.lt_trichotomy t k with q | q | q
    · have := hb t q; rw [e, h] at this; cases this
    · subst q; omega
    · have := els_mono q ht; omega
theorem first_none {Z N : Nat} {p : Nat → Bool} (hZ : Z < 2 ^ N) (hN : N ≤ 7) (hp : ∀ j, p j = true → Z.testBit j = true) (hb : ∀ t, t < cnt Z → p (eln (els Z) t) = false) : firstB p N = none := by
  refine firstB_none fun j _ => ?_
  cases h : p j
  · rfl
  · obtain ⟨t, ht, e⟩ := (els_has hZ hN).1 (hp j h)
    have := hb t ht; rw [e, h] at this; cases this
/-- Where a false twin may be. -/
def farN (rs : List Int) (S v : Nat) : Nat := nDiff (nDiff S (gn rs v &&& S)) (2 ^ v)
theorem far_bit {rs : List Int} {S v j : Nat} : (farN rs S v).testBit j = true ↔ S.testBit j = true ∧ eb rs v j = false ∧ j ≠ v := by
  unfold farN eb
  rw [nDiff_bit, nDiff_bit, Nat.testBit_and, Nat.testBit_two_pow, decide_eq_false_iff_not]
  constructor
  · rintro ⟨⟨h1, h2⟩, h3⟩
    rw [h1, Bool.and_true] at h2
    exact ⟨h1, h2, fun e => h3 e.symm⟩
  · rintro ⟨h1, h2, h3⟩
    exact ⟨⟨h1, by rw [h2]; rfl⟩, fun e => h3 e.symm⟩
theorem far_lt {rs : List Int} {S v N : Nat} (hS : S < 2 ^ N) : farN rs S v < 2 ^ N := nDiff_lt (nDiff_lt hS)
theorem tw2_far {rs : List Int} {S v j : Nat} (h : tw2 rs S v j = true) : (farN rs S v).testBit j = true := by
  unfold tw2 at h
  simp only [Bool.and_eq_true, decide_eq_true_eq, Bool.not_eq_true'] at h
  exact far_bit.2 ⟨h.1.1.2, h.1.2, h.1.1.1⟩
theorem tw2_at {rs : List Int} {S v j : Nat} (h : (farN rs S v).testBit j = true) : tw2 rs S v j = decide (gn rs j &&& S = gn rs v &&& S) := by
  obtain ⟨h1, h2, h3⟩ := far_bit.1 h
  unfold tw2
  rw [h1, h2, decide_eq_true h3]; simp
theorem tw3_own {rs : List Int} {S v j : Nat} (h : tw3 rs S v j = true) : (gn rs v &&& S).testBit j = true := by
  unfold tw3 at h
  simp only [Bool.and_eq_true] at h
  rw [Nat.testBit_and, h.1.1, Bool.and_true]; exact h.1.2
theorem tw3_at {rs : List Int} {S v j : Nat} (h : (gn rs v &&& S).testBit j = true) : tw3 rs S v j = decide ((gn rs j &&& S) ||| 2 ^ j = (gn rs v &&& S) ||| 2 ^ v) := by
  rw [Nat.testBit_and, Bool.and_eq_true] at h
  unfold tw3
  rw [h.2, show eb rs v j = true from h.1]; simp

set_option maxRecDepth 100000 in
set_option maxHeartbeats 4000000 in
theorem pruneOf_any (rs : List Int) (v S : Nat) (ro : Option Addr) (rc : Nat) (w : World) (g : VG rs) (hS : S < 2 ^ rs.length) (hv : S.testBit v = true) (hr : IntsAt w ro rs) :
    Calls Tryz.prog 48 #[.agg #[.int .i64 rs.length, .slice ro rs.length rc], .int .i64 S, .int .i64 v] w (RetP w (pruneV rs S v)) := by
  have hN7 := g.le
  have hp7 := g.pow.1
  have hvl := testBit_lt hS hv
  have hgv := g.lt128 hvl
  obtain ⟨rb, rofs, rfl, hrb, hrc⟩ := hr.graph g
  have hba : bits .and .i64 (gn rs v : Int) (S : Int) = ((gn rs v &&& S : Nat) : Int) := bits_and_nat _ _ (by omega) (by omega)
  have hnS : gn rs v &&& S < 2 ^ rs.length := Nat.lt_of_le_of_lt Nat.and_le_right hS
  have hn7 : gn rs v &&& S < 128 := by omega
  have hv6 : v ≤ 6 := by omega
  have hcv := hrc v hvl
  have Hrc := Lib.hid hrc
  clear hrc
  have hC := fun w : World => implCount_any (gn rs v &&& S) hn7 w
  have hLi := fun w : World => implListB_any (gn rs v &&& S) hn7 w
  have hfl := far_lt (rs := rs) (v := v) hS
  have hLf := fun w : World => implListB_any (farN rs S v) (by omega) w
  have hfb : bits .andNot .i64 (bits .andNot .i64 (S : Int) ((gn rs v &&& S : Nat) : Int)) (pwN v) = (farN rs S v : Int) := by
    have := nDiff_lt (b := gn rs v &&& S) hS
    rw [pwN_small v (by omega), bits_andNot_nat _ _ (by omega), bits_andNot_nat _ _ (by omega)]; rfl
  have hob : bits .or .i64 ((gn rs v &&& S : Nat) : Int) (pwN v) = (((gn rs v &&& S) ||| 2 ^ v : Nat) : Int) := by
    have := Nat.pow_le_pow_right (n := 2) (by decide) hv6
    rw [pwN_small v (by omega), bits_or_nat _ _ (by omega) (by omega)]
  have HT2 := Lib.hid (fun k (hk : k < cnt (farN rs S v)) (hb : ∀ t, t < k → tw2 rs S v (eln (els (farN rs S v)) t) = false) (ha : tw2 rs S v (eln (els (farN rs S v)) k) = true) => first_els hfl hN7 (fun j h => tw2_far h) hk hb ha)
  have HN2 := Lib.hid (fun (hb : ∀ t, t < cnt (farN rs S v) → tw2 rs S v (eln (els (farN rs S v)) t) = false) => first_none hfl hN7 (fun j h => tw2_far h) hb)
  have HA2 := Lib.hid (fun k (hk : k < cnt (farN rs S v)) => tw2_at (rs := rs) (S := S) (v := v) (els_at hfl hN7 hk).2)
  have HE2 := Lib.hid (fun k (hk : k < cnt (farN rs S v)) => (els_at hfl hN7 hk).1)
  have HT3 := Lib.hid (fun k (hk : k < cnt (gn rs v &&& S)) (hb : ∀ t, t < k → tw3 rs S v (eln (els (gn rs v &&& S)) t) = false) (ha : tw3 rs S v (eln (els (gn rs v &&& S)) k) = true) => first_els hnS hN7 (fun j h => tw3_own h) hk hb ha)
  have HN3 := Lib.hid (fun (hb : ∀ t, t < cnt (gn rs v &&& S) → tw3 rs S v (eln (els (gn rs v &&& S)) t) = false) => first_none hnS hN7 (fun j h => tw3_own h) hb)
  have HA3 := Lib.hid (fun k (hk : k < cnt (gn rs v &&& S)) => tw3_at (rs := rs) (S := S) (v := v) (els_at hnS hN7 hk).2)
  have HE3 := Lib.hid (fun k (hk : k < cnt (gn rs v &&& S)) => (els_at hnS hN7 hk).1)
  have hcz : (cnt (gn rs v &&& S) = 0) ↔ gn rs v &&& S = 0 := by
    constructor
    · intro h
      rcases Nat.eq_zero_or_pos (gn rs v &&& S) with h0 | h0
      · exact h0
      · have := (low_facts hn7 (by omega)).2.2
        unfold cnt at h; omega
    · intro h; rw [h]; decide
  have HC0 := Lib.hid hcz
  have HP0 := Lib.hid (fun h => pruneV_0 (rs := rs) (S := S) (v := v) h)
  have HP1 := Lib.hid (fun h0 h1 => pruneV_1 (rs := rs) (S := S) (v := v) h0 h1)
  have HP2 := Lib.hid (fun w h0 h1 h2 => pruneV_2 (rs := rs) (S := S) (v := v) (w := w) h0 h1 h2)
  have HP3 := Lib.hid (fun w h0 h1 h2 h3 => pruneV_3 (rs := rs) (S := S) (v := v) (w := w) h0 h1 h2 h3)
  have HP4 := Lib.hid (fun h0 h1 h2 h3 => pruneV_no (rs := rs) (S := S) (v := v) h0 h1 h2 h3)
  have hlow : eln (els (gn rs v &&& S)) 0 = low (gn rs v &&& S) := rfl
  have Hlow := Lib.hid hlow
  have hcle := cnt_le (gn rs v &&& S)
  have hcle2 := cnt_le (farN rs S v)
  have Hg := Lib.hid (fun k (hk : k < rs.length) => g.lt128 hk)
  clear hcz hlow
  go_enter Tryz.func48, Tryz.ntmps48
  go_wp2_with fail
  generalize hW : World.alloc _ _ = W1
  obtain ⟨hB, hs, k0, k1⟩ := alloc2 hW
  have b0 := k0.lt
  have c1 := k0.cell 1
  simp at c1
  have rb1 := Nat.lt_of_lt_of_le hrb hB.size
  have Hrc1 := Lib.hid (fun k (hk : k < rs.length) => (hB.cell (p := ⟨rb, rofs + k, none⟩) hrb).trans (Hrc.out k hk))
  have HFin : Hid (∀ (m : Later W1) (a b c : Int), Below w.heap.size w (((m.w.setCell ⟨w.heap.size + 1, 0, none⟩ (.int .i64 a)).setCell ⟨w.heap.size + 1, 1, none⟩ (.int .i64 b)).setCell ⟨w.heap.size + 1, 2, none⟩ (.int .i64 c))) := Lib.hid fun m a b c =>
    (((below_later hB m).setCell (by simp) _).setCell (by simp) _).setCell (by simp) _
  have z0 := k1.cell 0
  have z1 := k1.cell 1
  have z2 := k1.cell 2
  have z3 := k1.frozen 0
  have z4 := k1.frozen 1
  have z5 := k1.frozen 2
  have b1 := k1.lt
  simp at z0 z1 z2
  clear hW k0 k1 hs hrb hcv Hrc hr
  have HhB := Lib.hid hB
  clear hB
  obtain ⟨m, hm0⟩ : ∃ m : Later W1, m.w = W1 := ⟨Later.refl _, rfl⟩
  refine (fun h => hm0 ▸ h) ?_
  clear hm0
  refine (Calls.later _ (hC m.w)).mono ?_
  rintro e w' ⟨rfl, m, rfl⟩
  clear hC
  by_cases h0 : cnt (gn rs v &&& S) = 0
  · have HP := Lib.hid (HP0.out (HC0.out.1 h0))
    have d0 : (((cnt (gn rs v &&& S) : Nat) : Int) == 0) = true := by rw [h0]; rfl
    clear h0 hLi hLf
    go_wp2_with fail
    have q0 := (m.cell _ _ b1).trans z0
    have q1 := (m.cell _ _ b1).trans z1
    have q2 := (m.cell _ _ b1).trans z2
    refine bodyPost_ret (v := .tuple #[.agg #[.int .i64 v, .int .i64 0, .int .i64 (-1)], .bool true]) (by simp [results, Tryz.results48, go_sem, q0, q1, q2]) rfl ?_
    exact ⟨by rw [HP.out]; rfl, HFin.out m _ _ _⟩
  have d0 : (((cnt (gn rs v &&& S) : Nat) : Int) == 0) = false := by rw [beq_eq_false_iff_ne]; omega
  have Hn0 := Lib.hid (fun e => h0 (HC0.out.2 e))
  by_cases hc1 : cnt (gn rs v &&& S) = 1
  · have HP := Lib.hid (HP1.out Hn0.out hc1)
    have d1 : (((cnt (gn rs v &&& S) : Nat) : Int) == 1) = true := by rw [hc1]; rfl
    have hcn : 0 < (els (gn rs v &&& S)).length := by unfold cnt at hc1; omega
    have hc11 : 0 < cnt (gn rs v &&& S) := by omega
    clear h0 hc1 hLf hcle
    go_wp2_with fail
    refine (hLi m.w).mono ?_
    rintro e w3 ⟨ao, ac, rfl, hB3, hN⟩
    obtain ⟨g3, rfl, -, hg3, hc3⟩ := hN hcn
    have hc30 := hc3 0 hcn
    rw [Hlow.out] at hc30
    obtain ⟨m, rfl⟩ : ∃ m2 : Later W1, m2.w = w3 := ⟨m.on hB3, rfl⟩
    clear hB3 hc3 hLi hN hcn
    go_wp2_with fail
    have q0 := (m.cell _ _ b1).trans z0
    have q1 := (m.cell _ _ b1).trans z1
    have q2 := (m.cell _ _ b1).trans z2
    refine bodyPost_ret (v := .tuple #[.agg #[.int .i64 v, .int .i64 1, .int .i64 (low (gn rs v &&& S))], .bool true]) (by simp [results, Tryz.results48, go_sem, q0, q1, q2]) rfl ?_
    exact ⟨by rw [HP.out]; rfl, HFin.out m _ _ _⟩
  have d1 : (((cnt (gn rs v &&& S) : Nat) : Int) == 1) = false := by rw [beq_eq_false_iff_ne]; omega
  have Hc1 := Lib.hid hc1
  clear h0 hc1
  go_wp2_with fail
  refine (hLf m.w).mono ?_
  rintro e w3 ⟨fo, fc, rfl, hB3, hF⟩
  obtain ⟨m, rfl⟩ : ∃ m2 : Later W1, m2.w = w3 := ⟨m.on hB3, rfl⟩
  clear hB3 hLf
  have HRB := Lib.hid (fun (W2 : World) (hW : Below W1.heap.size W1 W2) => hW)
  have mb := m.below
  replace c1 := (m.cell _ _ b0).trans c1
  replace z0 := (m.cell _ _ b1).trans z0
  replace z1 := (m.cell _ _ b1).trans z1
  replace z2 := (m.cell _ _ b1).trans z2
  replace z3 := (m.frozen _ 0 b1).trans z3
  replace z4 := (m.frozen _ 1 b1).trans z4
  replace z5 := (m.frozen _ 2 b1).trans z5
  replace Hrc1 := Lib.hid (fun k (hk : k < rs.length) => (m.cell _ _ rb1).trans (Hrc1.out k hk))
  replace HFin : Hid (∀ (m2 : Later m.w) (a b c : Int), Below w.heap.size w (((m2.w.setCell ⟨w.heap.size + 1, 0, none⟩ (.int .i64 a)).setCell ⟨w.heap.size + 1, 1, none⟩ (.int .i64 b)).setCell ⟨w.heap.size + 1, 2, none⟩ (.int .i64 c))) := Lib.hid fun m2 => HFin.out (m.on m2.below)
  replace b0 := Nat.lt_of_lt_of_le b0 m.size
  replace b1 := Nat.lt_of_lt_of_le b1 m.size
  replace rb1 := Nat.lt_of_lt_of_le rb1 m.size
  clear mb HRB HhB
  generalize m.w = W2 at *
  clear m
  have HF := Lib.hid hF
  clear hF
  obtain ⟨m, hm0⟩ : ∃ m : Later W2, m.w = W2 := ⟨Later.refl _, rfl⟩
  refine (fun h => hm0 ▸ h) ?_
  clear hm0
  go_wp2_with fail
  go_loopw [42] (fun i wr => (∃ m : Later W2, wr = m.w) ∧ ∃ k : Nat, k ≤ cnt (farN rs S v) ∧ i = .int .i64 k ∧ ∀ t, t < k → tw2 rs S v (eln (els (farN rs S v)) t) = false) (fun i _ => cnt (farN rs S v) - (intOf i).toNat)
  case atStart => exact ⟨⟨m, rfl⟩, 0, by omega, rfl, fun t h => by omega⟩
  case round =>
    obtain ⟨⟨m, rfl⟩, k, hk, rfl, hT⟩ := hrel
    have HT := Lib.hid hT
    clear hT
    by_cases hlt : k < cnt (farN rs S v)
    · obtain ⟨fb, rfl, -, hfb, hfc⟩ := HF.out (by unfold cnt at hlt; omega)
      have hck := hfc k (by unfold cnt at hlt; exact hlt)
      have hEl := HE2.out k hlt
      have hcw := Hrc1.out _ hEl
      have hgw := Hg.out _ hEl
      have hA := HA2.out k hlt
      have hbw : bits .and .i64 (gn rs (eln (els (farN rs S v)) k) : Int) (S : Int) = ((gn rs (eln (els (farN rs S v)) k) &&& S : Nat) : Int) := bits_and_nat _ _ (by omega) (by omega)
      have hHit := Lib.hid (fun h => HT2.out k hlt HT.out h)
      have hMiss := Lib.hid (fun h => all_succ (p := fun t => tw2 rs S v (eln (els (farN rs S v)) t) = false) HT.out h)
      clear hfc
      by_cases hX : gn rs (eln (els (farN rs S v)) k) &&& S = gn rs v &&& S
      · have ht : tw2 rs S v (eln (els (farN rs S v)) k) = true := by rw [hA]; exact decide_eq_true hX
        have hP := HP2.out _ Hn0.out Hc1.out (hHit.out ht)
        rw [hX] at hbw
        clear ht hX hA hHit hMiss
        generalize eln (els (farN rs S v)) k = u at *
        have HhP := Lib.hid hP
        clear hP
        go_wp2_with fail
        have q0 := (m.cell _ _ b1).trans z0
        have q1 := (m.cell _ _ b1).trans z1
        have q2 := (m.cell _ _ b1).trans z2
        refine bodyPost_ret (v := .tuple #[.agg #[.int .i64 v, .int .i64 2, .int .i64 u], .bool true]) (by simp [results, Tryz.results48, go_sem, q0, q1, q2]) rfl ?_
        exact ⟨by rw [HhP.out]; rfl, HFin.out m _ _ _⟩
      · have hX' : (((gn rs (eln (els (farN rs S v)) k) &&& S : Nat) : Int) == ((gn rs v &&& S : Nat) : Int)) = false := by rw [beq_eq_false_iff_ne]; omega
        have ht : tw2 rs S v (eln (els (farN rs S v)) k) = false := by rw [hA]; exact decide_eq_false hX
        have hf := hMiss.out ht
        clear ht hX hA hHit hMiss
        have Hhf := Lib.hid hf
        clear hf
        generalize eln (els (farN rs S v)) k = u at *
        go_wp2_with fail
        go_roundw
        case rel => exact ⟨⟨m, rfl⟩, k + 1, by omega, by go_num, Hhf.out⟩
        case measure => simp [intOf]; omega
    · obtain rfl : k = cnt (farN rs S v) := by omega
      have hN2 := HN2.out HT.out
      have HhN2 := Lib.hid hN2
      clear hN2
      go_wp2_with fail
      refine (hLi m.w).mono ?_
      rintro e w3 ⟨oo, oc, rfl, hB3, hO⟩
      obtain ⟨m, rfl⟩ : ∃ m2 : Later W2, m2.w = w3 := ⟨m.on hB3, rfl⟩
      clear hB3 hLi
      replace c1 := (m.cell _ _ b0).trans c1
      replace z0 := (m.cell _ _ b1).trans z0
      replace z1 := (m.cell _ _ b1).trans z1
      replace z2 := (m.cell _ _ b1).trans z2
      replace z3 := (m.frozen _ 0 b1).trans z3
      replace z4 := (m.frozen _ 1 b1).trans z4
      replace z5 := (m.frozen _ 2 b1).trans z5
      replace Hrc1 := Lib.hid (fun k (hk : k < rs.length) => (m.cell _ _ rb1).trans (Hrc1.out k hk))
      replace HFin : Hid (∀ (m2 : Later m.w) (a b c : Int), Below w.heap.size w (((m2.w.setCell ⟨w.heap.size + 1, 0, none⟩ (.int .i64 a)).setCell ⟨w.heap.size + 1, 1, none⟩ (.int .i64 b)).setCell ⟨w.heap.size + 1, 2, none⟩ (.int .i64 c))) := Lib.hid fun m2 => HFin.out (m.on m2.below)
      replace b0 := Nat.lt_of_lt_of_le b0 m.size
      replace b1 := Nat.lt_of_lt_of_le b1 m.size
      replace rb1 := Nat.lt_of_lt_of_le rb1 m.size
      have HOo := Lib.hid hO
      clear hO HF HT
      generalize m.w = W3 at *
      clear m
      obtain ⟨m, hm0⟩ : ∃ m : Later W3, m.w = W3 := ⟨Later.refl _, rfl⟩
      refine (fun h => hm0 ▸ h) ?_
      clear hm0
      go_wp2_with fail
      go_loopw [62] (fun i wr => (∃ m : Later W3, wr = m.w) ∧ ∃ k : Nat, k ≤ cnt (gn rs v &&& S) ∧ i = .int .i64 k ∧ ∀ t, t < k → tw3 rs S v (eln (els (gn rs v &&& S)) t) = false) (fun i _ => cnt (gn rs v &&& S) - (intOf i).toNat)
      case atStart => exact ⟨⟨m, rfl⟩, 0, by omega, rfl, fun t h => by omega⟩
      case round =>
        obtain ⟨⟨m, rfl⟩, k, hk, rfl, hT⟩ := hrel
        have HT := Lib.hid hT
        clear hT
        by_cases hlt : k < cnt (gn rs v &&& S)
        · obtain ⟨fb, rfl, -, hfb, hfc⟩ := HOo.out (by unfold cnt at hlt; omega)
          have hck := hfc k (by unfold cnt at hlt; exact hlt)
          have hEl := HE3.out k hlt
          have hcw := Hrc1.out _ hEl
          have hgw := Hg.out _ hEl
          have hA := HA3.out k hlt
          have hbw : bits .and .i64 (gn rs (eln (els (gn rs v &&& S)) k) : Int) (S : Int) = ((gn rs (eln (els (gn rs v &&& S)) k) &&& S : Nat) : Int) := bits_and_nat _ _ (by omega) (by omega)
          have hu6 : eln (els (gn rs v &&& S)) k ≤ 6 := by omega
          have hor : bits .or .i64 ((gn rs (eln (els (gn rs v &&& S)) k) &&& S : Nat) : Int) (pwN (eln (els (gn rs v &&& S)) k)) = (((gn rs (eln (els (gn rs v &&& S)) k) &&& S) ||| 2 ^ eln (els (gn rs v &&& S)) k : Nat) : Int) := by
            have h1 := Nat.pow_le_pow_right (n := 2) (by decide) hu6
            have h2 : gn rs (eln (els (gn rs v &&& S)) k) &&& S ≤ S := Nat.and_le_right
            rw [pwN_small _ (by omega), bits_or_nat _ _ (by omega) (by omega)]
          have hHit := Lib.hid (fun h => HT3.out k hlt HT.out h)
          have hMiss := Lib.hid (fun h => all_succ (p := fun t => tw3 rs S v (eln (els (gn rs v &&& S)) t) = false) HT.out h)
          clear hfc
          by_cases hX : (gn rs (eln (els (gn rs v &&& S)) k) &&& S) ||| 2 ^ eln (els (gn rs v &&& S)) k = (gn rs v &&& S) ||| 2 ^ v
          · have ht : tw3 rs S v (eln (els (gn rs v &&& S)) k) = true := by rw [hA]; exact decide_eq_true hX
            have hP := HP3.out _ Hn0.out Hc1.out HhN2.out (hHit.out ht)
            rw [hX] at hor
            clear ht hX hA hHit hMiss
            generalize eln (els (gn rs v &&& S)) k = u at *
            generalize gn rs u &&& S = gu at *
            generalize (gn rs v &&& S) ||| 2 ^ v = OV at *
            have HhP := Lib.hid hP
            clear hP
            go_wp2_with fail
            refine wp_region_later m rfl (by kernel_rfl) (by kernel_rfl) ?_
            repeat (go_big_quiet_step (fail))
            refine wpQuiet_nil ?_
            rintro _ ⟨m, rfl⟩
            go_wp2_with fail
            have q0 := (m.cell _ _ b1).trans z0
            have q1 := (m.cell _ _ b1).trans z1
            have q2 := (m.cell _ _ b1).trans z2
            refine bodyPost_ret (v := .tuple #[.agg #[.int .i64 v, .int .i64 3, .int .i64 u], .bool true]) (by simp [results, Tryz.results48, go_sem, q0, q1, q2]) rfl ?_
            exact ⟨by rw [HhP.out]; rfl, HFin.out m _ _ _⟩
          · have ht : tw3 rs S v (eln (els (gn rs v &&& S)) k) = false := by rw [hA]; exact decide_eq_false hX
            have hf := hMiss.out ht
            clear ht hA hHit hMiss
            have Hhf := Lib.hid hf
            clear hf
            generalize eln (els (gn rs v &&& S)) k = u at *
            generalize gn rs u &&& S = gu at *
            generalize gu ||| 2 ^ u = GU at *
            generalize (gn rs v &&& S) ||| 2 ^ v = OV at *
            have hX' : ((GU : Int) == (OV : Int)) = false := by rw [beq_eq_false_iff_ne]; omega
            clear hX
            go_wp2_with fail
            refine wp_region_later m rfl (by kernel_rfl) (by kernel_rfl) ?_
            repeat (go_big_quiet_step (fail))
            refine wpQuiet_nil ?_
            rintro _ ⟨m, rfl⟩
            go_wp2_with fail
            go_roundw
            case rel => exact ⟨⟨m, rfl⟩, k + 1, by omega, by go_num, Hhf.out⟩
            case measure => simp [intOf]; omega
        · obtain rfl : k = cnt (gn rs v &&& S) := by omega
          have hP := HP4.out Hn0.out Hc1.out HhN2.out (HN3.out HT.out)
          have HhP := Lib.hid hP
          clear hP
          go_wp2_with fail
          have q0 := (m.cell _ _ b1).trans z0
          have q1 := (m.cell _ _ b1).trans z1
          have q2 := (m.cell _ _ b1).trans z2
          refine bodyPost_ret (v := .tuple #[.agg #[.int .i64 0, .int .i64 0, .int .i64 0], .bool false]) (by simp [results, Tryz.results48, go_sem, q0, q1, q2]) rfl ?_
          exact ⟨by rw [HhP.out]; rfl, HFin.out m _ _ _⟩

end Go.Proofs.YtjikmjhpmkakoaaGreatDoor
