/-
  A circle that is cut at a free point leaves intervals that meet as the arcs did; the arcs at a point meet. No conditions.
  GraphOfArcs on both sides, as the law wants it: a list of rows and whether it is a graph.
  The laws' own test that two lists are the same. The lists have at most 2^47 elements.
  What FnArcs calls beside the arcs' own functions: EqualGraphs of both sides, IsModelOf, sameModel. For at most 2^20 elements.
  The walks of impl.sorted, isShuffle, IsPermutation of both sides. For at most 2^20 elements.
-/
import Derived.Test.YtjikmjhpmkakoaaGreatDoorPkCardHereditary38
import Derived.Test.YtjikmjhpmkakoaaGreatDoorPkCardHereditary14
import Derived.Test.YtjikmjhpmkakoaaGreatDoorPkCardHereditary21
import Derived.Test.YtjikmjhpmkakoaaGreatDoorPkCardHereditary01
import Derived.Deep.CutRange
import Derived.Test.YtjikmjhpmkakoaaGreatDoorPkCardHereditary35
import Derived.Lib.SmallJoins
namespace Go.Proofs.YtjikmjhpmkakoaaGreatDoor
open Go.RowKit

theorem cyc {c p q : Int} (hp : 0 ≤ p) (hp2 : p < c) (hq : 0 ≤ q) (hq2 : q < c) : (q - p) % c = if p ≤ q then q - p else q - p + c := by
  split
  · exact Int.emod_eq_of_lt (by omega) (by omega)
  · rw [← Int.add_emod_right]; exact Int.emod_eq_of_lt (by omega) (by omega)
theorem mod_shift {c : Int} (a b x : Int) : (b - a) % c = ((b - x) % c - (a - x) % c) % c := by
  rw [show b - a = (b - x) - (a - x) by omega, Int.sub_emod]
theorem mod_shift2 {c : Int} (a b x : Int) : (b - a) % c = ((x - a) % c - (x - b) % c) % c := by
  rw [show b - a = (x - a) - (x - b) by omega, Int.sub_emod]
theorem arcsUpto_bit (c : Int) (f l : List Int) (x : Int) (i : Nat) : ∀ k, (arcsUpto c f l x k).testBit i = (decide (i < k) && onB c f l i x)
  | 0 => by simp [arcsUpto]
  | k + 1 => by
    have h := arcsUpto_bit c f l x i k
    have hlt := arcsUpto_lt c f l x k
    unfold arcsUpto
    by_cases e : i = k
    · subst e
      cases ho : onB c f l i x
      · rw [if_neg (by decide), Nat.add_zero, h, ho]; simp
      · rw [if_pos rfl, Nat.add_comm, Nat.testBit_two_pow_add_eq, h]; simp
    · have e2 : decide (i < k + 1) = decide (i < k) := decide_eq_decide.2 (by omega)
      rw [e2]
      split
      · rcases Nat.lt_or_ge i k with hi | hi
        · rw [Nat.add_comm, Nat.testBit_two_pow_add_gt hi, h]
        · rw [decide_eq_false (by omega), Bool.false_and]
          refine Nat.testBit_lt_two_pow ?_
          have h2 : 2 ^ (k + 1) ≤ 2 ^ i := Nat.pow_le_pow_right (by decide) (by omega)
          have h3 : 2 ^ (k + 1) = 2 ^ k + 2 ^ k := by rw [Nat.pow_succ]; omega
          omega
      · rw [Nat.add_zero, h]
/-- At a free point no arc lies. -/
theorem free_on {c : Int} {f l : List Int} {x : Int} (hv : isArcsB c f l = true) (h0 : 0 ≤ x) (h1 : x ≤ c - 1) (h : arcsAtV c f l x = 0) {i : Nat} (hi : i < f.length) : onB c f l i x = false := by
  unfold arcsAtV at h
  rw [if_pos ⟨hv, h0, h1⟩] at h
  have := arcsUpto_bit c f l x i f.length
  rw [show arcsUpto c f l x f.length = 0 by omega, decide_eq_true hi, Bool.true_and, Nat.zero_testBit] at this
  exact this.symm
/-- The arcs that are cut: they begin behind the free point and end ahead of it. -/
theorem cut_ends {c : Int} {f l : List Int} {x : Int} (hv : isArcsB c f l = true) (h0 : 0 ≤ x) (h1 : x ≤ c - 1) (h : arcsAtV c f l x = 0) {i : Nat} (hi : i < f.length) :
    1 ≤ cutT c f x i ∧ cutT c f x i < c ∧ 1 ≤ gi l i ∧ cutT c f x i + gi l i ≤ c := by
  obtain ⟨a1, a2, a3, a4, a5, a6⟩ := isArcsB_true hv
  have hk := a6 i hi
  have ho := free_on hv h0 h1 h hi
  unfold onB at ho
  rw [decide_eq_false_iff_not] at ho
  obtain ⟨l1, l2⟩ := cutT_lo c f x i (by omega)
  have hm := mod_shift (c := c) (gi f i) x x
  have e := cyc (c := c) (p := (gi f i - x) % c) (q := 0) l1 l2 (by omega) (by omega)
  rw [Int.sub_self, Int.zero_emod, e] at hm
  unfold cutT at *
  generalize (gi f i - x) % c = p at *
  split at hm <;> omega
def ivlMeet (ls rs : List Int) (i j : Nat) : Bool := decide (gi ls i ≤ gi rs j) && decide (gi ls j ≤ gi rs i)
theorem cutLs_at {c : Int} {f : List Int} {x : Int} {k i : Nat} (h : i < k) : gi (cutLs c f x k) i = cutT c f x i := by simp [cutLs, gi, h]
theorem cutRs_at {c : Int} {f l : List Int} {x : Int} {k i : Nat} (h : i < k) : gi (cutRs c f l x k) i = cutT c f x i + gi l i - 1 := by simp [cutRs, gi, h]
theorem cut_meet {c : Int} {f l : List Int} {x : Int} (hv : isArcsB c f l = true) (h0 : 0 ≤ x) (h1 : x ≤ c - 1) (h : arcsAtV c f l x = 0) {i j : Nat} (hi : i < f.length) (hj : j < f.length) :
    ivlMeet (cutLs c f x f.length) (cutRs c f l x f.length) i j = arcP c f l i j := by
  obtain ⟨p1, p2, p3, p4⟩ := cut_ends hv h0 h1 h hi
  obtain ⟨q1, q2, q3, q4⟩ := cut_ends hv h0 h1 h hj
  unfold ivlMeet arcP onB
  rw [cutLs_at hi, cutLs_at hj, cutRs_at hi, cutRs_at hj, mod_shift (gi f j) (gi f i) x, mod_shift (gi f i) (gi f j) x]
  have e1 := cyc (c := c) (p := (gi f j - x) % c) (q := (gi f i - x) % c) (by unfold cutT at *; omega) (by unfold cutT at *; omega) (by unfold cutT at *; omega) (by unfold cutT at *; omega)
  have e2 := cyc (c := c) (p := (gi f i - x) % c) (q := (gi f j - x) % c) (by unfold cutT at *; omega) (by unfold cutT at *; omega) (by unfold cutT at *; omega) (by unfold cutT at *; omega)
  rw [e1, e2]
  unfold cutT at *
  generalize (gi f i - x) % c = p at *
  generalize (gi f j - x) % c = q at *
  rw [Bool.eq_iff_iff]
  simp only [Bool.and_eq_true, Bool.or_eq_true, decide_eq_true_eq]
  split <;> split <;> omega
theorem cut_graph {c : Int} {f l : List Int} {x : Int} (hv : isArcsB c f l = true) (h0 : 0 ≤ x) (h1 : x ≤ c - 1) (h : arcsAtV c f l x = 0) :
    gOf f.length (ivlMeet (cutLs c f x f.length) (cutRs c f l x f.length)) = arcG c f l := by
  unfold arcG gOf
  exact rowsOf_congr fun i hi j hj => by unfold gE; rw [cut_meet hv h0 h1 h hi hj, cut_meet hv h0 h1 h hj hi]
/-- The arcs at a point meet. -/
theorem at_meet {c : Int} {f l : List Int} {x : Int} (hv : isArcsB c f l = true) {i j : Nat} (hi : onB c f l i x = true) (hj : onB c f l j x = true) : arcP c f l i j = true := by
  obtain ⟨a1, -⟩ := isArcsB_true hv
  unfold onB at hi hj
  unfold arcP onB
  rw [mod_shift2 (gi f j) (gi f i) x, mod_shift2 (gi f i) (gi f j) x]
  rw [decide_eq_true_eq] at hi hj
  have p1 := Int.emod_nonneg (x - gi f i) (show c ≠ 0 by omega)
  have p2 := Int.emod_lt_of_pos (x - gi f i) (show 0 < c by omega)
  have q1 := Int.emod_nonneg (x - gi f j) (show c ≠ 0 by omega)
  have q2 := Int.emod_lt_of_pos (x - gi f j) (show 0 < c by omega)
  generalize (x - gi f i) % c = p at *
  generalize (x - gi f j) % c = q at *
  rw [cyc p1 p2 q1 q2, cyc q1 q2 p1 p2, Bool.or_eq_true, decide_eq_true_eq, decide_eq_true_eq]
  split <;> split <;> omega
theorem free_covers {c : Int} {f l : List Int} {k : Nat} {s : Int} (hk : (k : Int) < c) (h : arcsAtV c f l k = 0) : coversB c f l s = false :=
  coversB_hit hk (by unfold notCov; rw [h]; simp [bits]; rfl)

end Go.Proofs.YtjikmjhpmkakoaaGreatDoor

namespace Go.Proofs.YtjikmjhpmkakoaaGreatDoor
open Go.RowKit

/-- What a call that makes a graph returns. -/
def RetG (w : World) (R : List Int) (ok : Bool) (e : Ending) (w' : World) : Prop :=
  ∃ ao cap, e = .returned (.tuple #[.agg #[.int .i64 R.length, .slice ao R.length cap], .bool ok]) ∧ Below w.heap.size w w' ∧ OwnE w' w.heap.size ao cap R
theorem RetG.of {w w' : World} {R : List Int} {ok : Bool} {e : Ending} {N g1 cap : Nat} (hN : R.length = N) (h : e = .returned (.tuple #[.agg #[.int .i64 N, .slice (some ⟨g1, 0, none⟩) N cap], .bool ok])) (hB : Below w.heap.size w w') (hg : w.heap.size ≤ g1) (hR : RowAt w' g1 cap R) : RetG w R ok e w' :=
  ⟨_, cap, by rw [h, hN], hB, hR.own hg⟩
theorem RetG.no {w w' : World} {e : Ending} (h : e = .returned (.tuple #[.agg #[.int .i64 0, .slice none 0 0], .bool false])) (hB : Below w.heap.size w w') : RetG w [] false e w' :=
  ⟨none, 0, h, hB, .inl (OwnL.nil _ _)⟩


end Go.Proofs.YtjikmjhpmkakoaaGreatDoor

namespace Go.Proofs.YtjikmjhpmkakoaaGreatDoor
open Go.RowKit

set_option maxHeartbeats 400000 in
theorem lawSameInts_any (ao bo : Option Addr) (xs ys : List Int) (c d : Nat) (w : World) (hx : IntsAt w ao xs) (hy : IntsAt w bo ys) (hn : xs.length ≤ 140737488351232) (hm : ys.length ≤ 140737488351232) :
    Calls Tryz.prog 30 #[.slice ao xs.length c, .slice bo ys.length d] w fun e w' => e = .returned (.bool (sameInts xs ys)) ∧ Below w.heap.size w w' := by
  by_cases hl : xs.length = ys.length
  · have hb : ((xs.length : Int) != ys.length) = false := by rw [hl]; simp
    have HL := Lib.hid hl
    clear hl
    go_enter Tryz.func30, Tryz.ntmps30
    go_wp2_with fail
    go_loopw [5] (fun i wr => (∃ m : Later w, wr = m.w) ∧ ∃ k : Nat, k ≤ xs.length ∧ i = .int .i64 k ∧ ∀ j, j < k → gi xs j = gi ys j) (fun i _ => xs.length - (intOf i).toNat)
    case atStart => exact ⟨⟨Later.refl _, rfl⟩, 0, by omega, rfl, fun j h => by omega⟩
    case round =>
      obtain ⟨⟨m, rfl⟩, k, hk, rfl, hP⟩ := hrel
      have HP := Lib.hid hP
      clear hP
      by_cases hlt : k < xs.length
      · have hlt' : k < ys.length := by rw [← HL.out]; exact hlt
        obtain ⟨b, off, rfl, hbl, hc⟩ := hx (by omega)
        obtain ⟨b2, off2, rfl, hbl2, hc2⟩ := hy (by omega)
        go_wp2_with fail
        cases he : (gi xs k != gi ys k)
        all_goals
          refine wp_region_later m rfl (by kernel_rfl) (by kernel_rfl) ?_
          repeat (go_big_quiet_step (fail))
          refine wpQuiet_nil ?_
          rintro _ ⟨m, rfl⟩
          go_wp2_with fail
        · go_roundw
          case rel =>
            refine ⟨⟨m, rfl⟩, k + 1, by omega, by go_num, fun j hj => ?_⟩
            rcases Nat.lt_succ_iff_lt_or_eq.1 hj with hj | rfl
            · exact HP.out j hj
            · simpa using he
          case measure => simp [intOf]; omega
        · go_ret
          exact ⟨retB (by rw [sameInts_at (by simpa using he)]), m.below⟩
      · go_wp2_with fail
        go_ret
        exact ⟨retB (by rw [sameInts_all HL.out (fun j hj => HP.out j (by omega))]), m.below⟩
  · have hb : ((xs.length : Int) != ys.length) = true := by simp; omega
    have HL := Lib.hid hl
    clear hl
    go_enter Tryz.func30, Tryz.ntmps30
    go_wp2_with fail
    go_ret
    exact ⟨retB (by rw [sameInts_len HL.out]), Below.refl _ _⟩

end Go.Proofs.YtjikmjhpmkakoaaGreatDoor

namespace Go.Proofs.YtjikmjhpmkakoaaGreatDoor
open Go.RowKit

set_option maxHeartbeats 1000000 in
theorem slEqual_any (ao bo : Option Addr) (xs : List Int) (c d : Nat) (w : World) (hx : IntsAt w ao xs) (hy : IntsAt w bo xs) (hn : xs.length ≤ 1048576) :
    Calls Tryz.prog 169 #[.slice ao xs.length c, .slice bo xs.length d] w fun e w' => e = .returned (.bool true) ∧ Below w.heap.size w w' := by
  go_enter Tryz.func169, Tryz.ntmps169
  go_wp2_with fail
  go_loopw [13] (fun i wr => (∃ m : Later w, wr = m.w) ∧ ∃ k : Nat, k ≤ xs.length ∧ i = .int .i64 k) (fun i _ => xs.length - (intOf i).toNat)
  case atStart => exact ⟨⟨Later.refl _, rfl⟩, 0, by omega, rfl⟩
  case round =>
    obtain ⟨⟨m, rfl⟩, k, hk, rfl⟩ := hrel
    by_cases hlt : k < xs.length
    · obtain ⟨b, off, rfl, hbl, hc⟩ := hx (by omega)
      obtain ⟨b2, off2, rfl, hbl2, hc2⟩ := hy (by omega)
      have hb : (gi xs k != gi xs k) = false := by simp
      go_wp2_with fail
      refine wp_region_later m rfl (by kernel_rfl) (by kernel_rfl) ?_
      repeat (go_big_quiet_step (fail))
      refine wpQuiet_nil ?_
      rintro _ ⟨m, rfl⟩
      go_wp2_with fail
      go_roundw
      case rel => exact ⟨⟨m, rfl⟩, k + 1, by omega, by go_num⟩
      case measure => simp [intOf]; omega
    · go_wp2_with fail
      go_ret
      exact ⟨rfl, m.below⟩


set_option maxHeartbeats 1000000 in
theorem specEqG_any (x : Int) (xs : List Int) (ao bo : Option Addr) (c d : Nat) (w : World) (hx : IntsAt w ao xs) (hy : IntsAt w bo xs) (hn : xs.length ≤ 1048576) :
    Calls Tryz.prog 15 #[.agg #[.int .i64 x, .slice ao xs.length c], .agg #[.int .i64 x, .slice bo xs.length d]] w fun e w' => e = .returned (.bool true) ∧ Below w.heap.size w w' := by
  go_enter Tryz.func15, Tryz.ntmps15
  go_wp2_with fail
  generalize hW : (w.alloc _).alloc _ = W1
  obtain ⟨hB, hS, k0, k1⟩ := alloc2 hW
  have b0 := k0.lt
  have b1 := k1.lt
  have c00 := k0.cell 0
  have c01 := k0.cell 1
  have c10 := k1.cell 0
  have c11 := k1.cell 1
  simp at c00 c01 c10 c11
  replace hx := hx.below hB
  replace hy := hy.below hB
  have HhB := Lib.hid hB
  clear hB
  have HhS := Lib.hid hS
  clear hS
  clear k0 k1 hW
  go_loopw [5] (fun i wr => (∃ m : Later W1, wr = m.w) ∧ ∃ k : Nat, k ≤ xs.length ∧ i = .int .i64 k) (fun i _ => xs.length - (intOf i).toNat)
  case atStart => exact ⟨⟨Later.refl _, rfl⟩, 0, by omega, rfl⟩
  case round =>
    obtain ⟨⟨m, rfl⟩, k, hk, rfl⟩ := hrel
    by_cases hlt : k < xs.length
    · obtain ⟨b, off, rfl, hbl, hc⟩ := hx (by omega)
      obtain ⟨b2, off2, rfl, hbl2, hc2⟩ := hy (by omega)
      have hb : (gi xs k != gi xs k) = false := by simp
      go_wp2_with fail
      refine wp_region_later m rfl (by kernel_rfl) (by kernel_rfl) ?_
      repeat (go_big_quiet_step (fail))
      refine wpQuiet_nil ?_
      rintro _ ⟨m, rfl⟩
      go_wp2_with fail
      go_roundw
      case rel => exact ⟨⟨m, rfl⟩, k + 1, by omega, by go_num⟩
      case measure => simp [intOf]; omega
    · go_wp2_with fail
      go_ret
      exact ⟨rfl, below_later HhB.out m⟩

/-- Intervals that IsModel takes. -/
def ivlOk (ls rs : List Int) : Prop := 1 ≤ ls.length ∧ ls.length ≤ 7 ∧ rs.length = ls.length ∧ ∀ i, i < ls.length → 0 ≤ gi ls i ∧ gi ls i ≤ gi rs i ∧ gi rs i ≤ 99






end Go.Proofs.YtjikmjhpmkakoaaGreatDoor

namespace Go.Proofs.YtjikmjhpmkakoaaGreatDoor
open Go.RowKit

/-- Cells stored one behind the other. -/
def setsI : Nat → List Int → List Int → List Int
  | _, xs, [] => xs
  | k, xs, y :: ys => setsI (k + 1) (xs.set k y) ys
theorem setsI_len : ∀ (k : Nat) (xs ys : List Int), (setsI k xs ys).length = xs.length
  | _, _, [] => rfl
  | k, xs, y :: ys => by show (setsI (k + 1) (xs.set k y) ys).length = _; rw [setsI_len, List.length_set]
theorem setsI_at {i : Nat} : ∀ (k : Nat) (xs ys : List Int), i < xs.length → gi (setsI k xs ys) i = if k ≤ i ∧ i < k + ys.length then gi ys (i - k) else gi xs i
  | k, xs, [], _ => by rw [if_neg (by simp)]; rfl
  | k, xs, y :: ys, hi => by
    show gi (setsI (k + 1) (xs.set k y) ys) i = _
    rw [setsI_at (k + 1) _ ys (by rw [List.length_set]; exact hi)]
    by_cases h1 : i = k
    · subst h1
      rw [if_neg (by omega), if_pos (by simp)]
      simp [gi, hi]
    · by_cases h2 : k + 1 ≤ i ∧ i < k + 1 + ys.length
      · rw [if_pos h2, if_pos (by simp; omega)]
        obtain ⟨j, rfl⟩ : ∃ j, i = k + (j + 1) := ⟨i - k - 1, by omega⟩
        have : k + (j + 1) - (k + 1) = j := by omega
        rw [this, Nat.add_sub_cancel_left]; simp [gi]
      · rw [if_neg h2, if_neg (by simp; omega)]
        have h3 : k ≠ i := fun e => h1 e.symm
        simp [gi, h3]
theorem setsI_all {xs ys : List Int} (h : ys.length = xs.length) : setsI 0 xs ys = ys :=
  gi_ext (by rw [setsI_len, h]) fun i hi => by
    rw [setsI_len] at hi
    rw [setsI_at 0 xs ys hi, if_pos (by omega), Nat.sub_zero]
theorem RowAt.stores {g cap : Nat} : ∀ (k : Nat) (xs ys : List Int) {w : World}, RowAt w g cap xs → RowAt (w.setCells g k (ys.map (Value.int .i64))) g cap (setsI k xs ys)
  | _, _, [], _, h => h
  | k, xs, y :: ys, _, h => RowAt.stores (k + 1) (xs.set k y) ys (h.store k y)

theorem below_cellsI {B : Nat} {a : World} (b : Nat) (hb : B ≤ b) : ∀ (vs : List Value) (o : Nat) {w : World}, Below B a w → Below B a (w.setCells b o vs)
  | [], _, _, h => h
  | v :: r, o, _, h => below_cellsI b hb r (o + 1) (h.setCell (p := ⟨b, o, none⟩) hb v)
theorem below_growI {B : Nat} {w : World} (hB : B ≤ w.heap.size) (os : Array Obj) : Below B w (Go.Sort.grow w os) :=
  ⟨rfl, rfl, rfl, by show w.heap.size ≤ (w.heap ++ os).size; rw [Array.size_append]; omega, fun j hj => by
    show (w.heap ++ os)[j]? = _
    rw [Array.getElem?_append_left (by omega)]⟩

set_option maxRecDepth 100000 in
theorem sort_any (l : List Int) (base cap : Nat) (ao : Option Addr) (w : World) (h : OwnE w base ao cap l) (hb : base ≤ w.heap.size) (h0 : 0 < l.length) (hn : l.length ≤ 1048576) :
    Calls Tryz.prog 160 #[.slice ao l.length cap] w fun e w' => e = .returned (.tuple #[]) ∧ Below base w w' ∧ OwnE w' base ao cap (sortI l) := by
  obtain ⟨g, rfl, hg, hR⟩ := h.row h0
  have hH : Go.Sort.Holds (Value.int .i64) w g 0 l.toArray := fun j hj => by
    have hj' : j < l.length := by simpa using hj
    refine ⟨?_, by rw [Nat.zero_add]; exact hR.frozen j⟩
    rw [Nat.zero_add, hR.cell j hj', gi_get hj']
    simp [hj']
  refine (sort_law g 0 cap l w hH hR.lt (by omega)).mono ?_
  rintro e w' ⟨rfl, q, os, rfl⟩
  rw [Lib.sorted_world _ w g 0 q _ _ os hH (by simp)]
  have hR1 : RowAt (w.drewN q) g cap l := hR.below (Joins.below_draws _ _ _)
  have hR2 := hR1.stores 0 l (sortI l)
  rw [setsI_all (sortI_len l)] at hR2
  have hB2 : Below base w ((w.drewN q).setCells g 0 ((sortI l).map (Value.int .i64))) := below_cellsI g hg _ 0 (Joins.below_draws _ _ _)
  have hB3 : ∀ B, B ≤ ((w.drewN q).setCells g 0 ((sortI l).map (Value.int .i64))).heap.size → Below B ((w.drewN q).setCells g 0 ((sortI l).map (Value.int .i64))) (Go.Sort.grow ((w.drewN q).setCells g 0 ((sortI l).map (Value.int .i64))) os) := fun B hB => below_growI hB os
  refine ⟨rfl, hB2.trans (hB3 _ (Nat.le_trans hb hB2.size)), ?_⟩
  have := (hR2.below (hB3 _ (Nat.le_refl _))).own hg
  exact this

set_option maxRecDepth 100000 in
theorem sorted_any (l : List Int) (la : Addr) (n lc : Nat) (w : World) (hl : IntsAt w (some la) l) (hn : n = l.length) (h0 : 0 < n) (hlen : n ≤ 1048576) :
    Calls Tryz.prog 143 #[.slice (some la) n lc] w fun e w' => ∃ ao cap, e = .returned (.slice ao n cap) ∧ Below w.heap.size w w' ∧ OwnE w' w.heap.size ao cap (sortI l) := by
  subst hn
  have hC := clone_any l la l.length lc w hl rfl hlen
  go_enter Tryz.func143, Tryz.ntmps143
  go_wp2_with fail
  refine hC.mono ?_
  rintro e w2 ⟨ao, cap, rfl, -, hO, hB⟩
  have hS := sort_any l w.heap.size cap ao w2 hO hB.size h0 hlen
  clear hC
  go_wp2_with fail
  refine hS.mono ?_
  rintro e w3 ⟨rfl, hB3, hO3⟩
  have hF := hB.trans hB3
  clear hS hB3 hB hO
  have HhF := Lib.hid hF
  clear hF
  have HhO3 := Lib.hid hO3
  clear hO3
  go_wp2_with fail
  go_ret
  exact ⟨ao, cap, rfl, HhF.out, HhO3.out⟩

set_option maxRecDepth 100000 in
set_option maxHeartbeats 1000000 in
theorem shuffle_any (l : List Int) (la : Addr) (n lc : Nat) (w : World) (hl : IntsAt w (some la) l) (hn : n = l.length) (h0 : 0 < n) (hlen : n ≤ 1048576) :
    Calls Tryz.prog 109 #[.slice (some la) n lc] w fun e w' => e = .returned (.bool (decide (sortI l = idL l.length))) ∧ Below w.heap.size w w' := by
  have hC := sorted_any l la n lc w hl hn h0 hlen
  have HI := Lib.hid (idL_iff (l := l) (ys := sortI l) (sortI_len l))
  have hsl := sortI_len l
  subst hn
  go_enter Tryz.func109, Tryz.ntmps109
  go_wp2_with fail
  refine hC.mono ?_
  rintro e w2 ⟨ao, cap, rfl, hB, hO⟩
  obtain ⟨g, rfl, hg, hR⟩ := hO.row (by omega)
  have hR' : ∀ k, k < l.length → w2.cell? ⟨g, k, none⟩ = some (.int .i64 (gi (sortI l) k)) := fun k hk => hR.cell k (by omega)
  clear hC hO hR hl
  generalize hy : sortI l = ys at *
  have HY := Lib.hid hy
  clear hy
  have HhB := Lib.hid hB
  clear hB
  have HhR' := Lib.hid hR'
  clear hR'
  have Hhsl := Lib.hid hsl
  clear hsl
  go_wp2_with fail
  go_loopw [8] (fun i wr => wr = w2 ∧ ∃ k : Nat, k ≤ l.length ∧ i = .int .i64 k ∧ ∀ j, j < k → gi ys j = (j : Int)) (fun i _ => l.length - (intOf i).toNat)
  case atStart => exact ⟨rfl, 0, by omega, rfl, fun j h => by omega⟩
  case round =>
    obtain ⟨rfl, k, hk, rfl, hP⟩ := hrel
    have HP := Lib.hid hP
    clear hP
    by_cases hlt : k < l.length
    · have z := HhR'.out k hlt
      by_cases he : gi ys k = (k : Int)
      · have HE := Lib.hid he
        rw [he] at z
        clear he
        go_wp2_with fail
        go_roundw
        case rel => exact ⟨by trivial, k + 1, by omega, by go_num, fun j hj => (Nat.lt_succ_iff_lt_or_eq.1 hj).elim (HP.out j) fun e => by subst e; exact HE.out⟩
        case measure => simp [intOf]; omega
      · have HE := Lib.hid he
        have hne : (gi ys k != (k : Int)) = true := by simpa using he
        have hf : (decide (sortI l = idL l.length)) = false := by rw [HY.out, decide_eq_false_iff_not]; exact fun e => HE.out (HI.out.1 e k hlt)
        have HF := Lib.hid hf
        clear hf he HE
        generalize gi ys k = x at *
        go_wp2_with fail
        go_ret
        exact ⟨retB HF.out.symm, HhB.out⟩
    · obtain rfl : k = l.length := by omega
      go_wp2_with fail
      go_ret
      exact ⟨retB (by rw [HY.out]; exact (decide_eq_true (HI.out.2 HP.out)).symm), HhB.out⟩

set_option maxHeartbeats 1000000 in
theorem implPerm_any (l : List Int) (ao : Option Addr) (n lc : Nat) (w : World) (hl : IntsAt w ao l) (hn : n = l.length) (hlen : n ≤ 1048576) :
    Calls Tryz.prog 58 #[.slice ao n lc] w fun e w' => e = .returned (.bool (permB l)) ∧ Below w.heap.size w w' := by
  subst hn
  have HE : Hid (permB l = ((decide ((1 : Int) ≤ l.length) && decide ((l.length : Int) ≤ 7)) && decide (sortI l = idL l.length))) := rfl
  cases h1 : (decide ((1 : Int) ≤ l.length) && decide ((l.length : Int) ≤ 7))
  · rw [h1] at HE
    go_enter Tryz.func58, Tryz.ntmps58
    go_wp2_with (first | (go_at_call 59; refine (within_any _ _ _ _).mono ?_; rintro e w' ⟨rfl, rfl⟩))
    all_goals (go_ret; exact ⟨retB (by rw [HE.out]; first | (rw [h1]; rfl) | rfl), Below.refl _ _⟩)
  · have h2 := h1
    simp only [Bool.and_eq_true, decide_eq_true_eq] at h2
    obtain ⟨b, off, rfl, hb, -⟩ := hl (by omega)
    have hC := shuffle_any l _ l.length lc w hl rfl (by omega) hlen
    rw [h1] at HE
    generalize decide (sortI l = idL l.length) = B at *
    go_enter Tryz.func58, Tryz.ntmps58
    go_wp2_with (first | (go_at_call 59; refine (within_any _ _ _ _).mono ?_; rintro e w' ⟨rfl, rfl⟩))
    refine hC.mono ?_
    rintro e w2 ⟨rfl, hB⟩
    go_wp2_with fail
    go_ret
    exact ⟨retB (by rw [HE.out]; rfl), hB⟩

set_option maxHeartbeats 1000000 in
theorem specPerm_any (l : List Int) (ao : Option Addr) (n lc : Nat) (w : World) (hl : IntsAt w ao l) (hn : n = l.length) (hlen : n ≤ 1048576) :
    Calls Tryz.prog 63 #[.slice ao n lc] w fun e w' => e = .returned (.bool (permB l)) ∧ Below w.heap.size w w' := by
  subst hn
  have HE : Hid (permB l = ((decide ((1 : Int) ≤ l.length) && decide ((l.length : Int) ≤ 7)) && decide (sortI l = idL l.length))) := rfl
  have hC := specSetOf_any l ao lc w hl hlen
  cases h1 : (decide ((1 : Int) ≤ l.length) && decide ((l.length : Int) ≤ 7))
  · rw [h1] at HE
    generalize setOk l = ok at *
    go_enter Tryz.func63, Tryz.ntmps63
    go_wp2_with fail
    refine hC.mono ?_
    rintro e w2 ⟨rfl, hB⟩
    cases ok
    · go_wp2_with fail
      go_ret
      exact ⟨retB (by rw [HE.out]; rfl), hB⟩
    · go_wp2_with (first | (go_at_call 54; refine (l1In_any _ _ _ _).mono ?_; rintro e w' ⟨rfl, rfl⟩))
      all_goals (go_ret; exact ⟨retB (by rw [HE.out]; first | (rw [h1]; rfl) | rfl), hB⟩)
  · have h2 := h1
    simp only [Bool.and_eq_true, decide_eq_true_eq] at h2
    have hs := perm_same (l := l) (by omega)
    rw [h1, ← hs] at HE
    have hw : wrap64 (pwN l.length - 1) = ((2 ^ l.length - 1 : Nat) : Int) := by
      rw [pwN_small _ (by omega)]
      exact (by decide +kernel : ∀ n : Fin 8, wrap64 (((2 ^ n.val : Nat) : Int) - 1) = ((2 ^ n.val - 1 : Nat) : Int)) ⟨l.length, by omega⟩
    clear hs
    generalize setOk l = ok at *
    generalize setV l = S at *
    have Hhw := Lib.hid hw
    clear hw
    go_enter Tryz.func63, Tryz.ntmps63
    go_wp2_with fail
    refine hC.mono ?_
    rintro e w2 ⟨rfl, hB⟩
    cases ok
    · go_wp2_with fail
      go_ret
      exact ⟨retB (by rw [HE.out]; rfl), hB⟩
    · go_wp2_with (first | (go_at_call 54; refine (l1In_any _ _ _ _).mono ?_; rintro e w' ⟨rfl, rfl⟩))
      go_ret
      exact ⟨retB (by rw [HE.out, Hhw.out]; rfl), hB⟩

end Go.Proofs.YtjikmjhpmkakoaaGreatDoor
