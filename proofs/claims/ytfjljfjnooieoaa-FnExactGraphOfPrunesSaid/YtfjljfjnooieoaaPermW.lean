/-
  The walks of impl.sorted, isShuffle, IsPermutation of both sides. For at most 2^20 elements.
-/
import Derived.Test.YtfjljfjnooieoaaPermL
import Derived.Test.YtfjljfjnooieoaaFillS
import Derived.Lib.SmallJoins
namespace Go.Proofs.Ytfjljfjnooieoaa
open Go.RowKit

/-- Cells stored one behind the other. -/
def setsI : Nat → List Int → List Int → List Int
  | _, xs, [] => xs
  | k, xs, y :: ys => setsI (k + 1) (xs.set k y) ys
theorem setsI_len : ∀ (k : Nat) (xs ys : List Int), (setsI k xs ys).length = xs.length
  | _, _, [] => rfl
  | k, xs, y :: ys => by show (setsI (k + 1) (xs.set k y) ys).length = _; rw [setsI_len, List.length_set]
theorem setsI_at {i : Nat} : ∀ (k : Nat) (xs ys : List Int), i < xs.length → gi (setsI k xs ys) i = if k ≤ i ∧ i < k + ys.length then gi ys (i - k) else gi xs i
  | k, xs, [], _ => by rw [if_neg (by simp)]; rfl
  | k, xs, y :: ys, hi => by
    show gi (setsI (k + 1) (xs.set k y) ys) i = _
    rw [setsI_at (k + 1) _ ys (by rw [List.length_set]; exact hi)]
    by_cases h1 : i = k
    · subst h1
      rw [if_neg (by omega), if_pos (by simp)]
      simp [gi, hi]
    · by_cases h2 : k + 1 ≤ i ∧ i < k + 1 + ys.length
      · rw [if_pos h2, if_pos (by simp; omega)]
        obtain ⟨j, rfl⟩ : ∃ j, i = k + (j + 1) := ⟨i - k - 1, by omega⟩
        have : k + (j + 1) - (k + 1) = j := by omega
        rw [this, Nat.add_sub_cancel_left]; simp [gi]
      · rw [if_neg h2, if_neg (by simp; omega)]
        have h3 : k ≠ i := fun e => h1 e.symm
        simp [gi, h3]
theorem setsI_all {xs ys : List Int} (h : ys.length = xs.length) : setsI 0 xs ys = ys :=
  gi_ext (by rw [setsI_len, h]) fun i hi => by
    rw [setsI_len] at hi
    rw [setsI_at 0 xs ys hi, if_pos (by omega), Nat.sub_zero]
theorem RowAt.stores {g cap : Nat} : ∀ (k : Nat) (xs ys : List Int) {w : World}, RowAt w g cap xs → RowAt (w.setCells g k (ys.map (Value.int .i64))) g cap (setsI k xs ys)
  | _, _, [], _, h => h
  | k, xs, y :: ys, _, h => RowAt.stores (k + 1) (xs.set k y) ys (h.store k y)

theorem below_cellsI {B : Nat} {a : World} (b : Nat) (hb : B ≤ b) : ∀ (vs : List Value) (o : Nat) {w : World}, Below B a w → Below B a (w.setCells b o vs)
  | [], _, _, h => h
  | v :: r, o, _, h => below_cellsI b hb r (o + 1) (h.setCell (p := ⟨b, o, none⟩) hb v)
theorem below_growI {B : Nat} {w : World} (hB : B ≤ w.heap.size) (os : Array Obj) : Below B w (Go.Sort.grow w os) :=
  ⟨rfl, rfl, rfl, by show w.heap.size ≤ (w.heap ++ os).size; rw [Array.size_append]; omega, fun j hj => by
    show (w.heap ++ os)[j]? = _
    rw [Array.getElem?_append_left (by omega)]⟩

set_option maxRecDepth 100000 in
theorem sort_any (l : List Int) (base cap : Nat) (ao : Option Addr) (w : World) (h : OwnE w base ao cap l) (hb : base ≤ w.heap.size) (h0 : 0 < l.length) (hn : l.length ≤ 1048576) :
    Calls Try.prog 54 #[.slice ao l.length cap] w fun e w' => e = .returned (.tuple #[]) ∧ Below base w w' ∧ OwnE w' base ao cap (sortI l) := by
  obtain ⟨g, rfl, hg, hR⟩ := h.row h0
  have hH : Go.Sort.Holds (Value.int .i64) w g 0 l.toArray := fun j hj => by
    have hj' : j < l.length := by simpa using hj
    refine ⟨?_, by rw [Nat.zero_add]; exact hR.frozen j⟩
    rw [Nat.zero_add, hR.cell j hj', gi_get hj']
    simp [hj']
  refine (sort_law g 0 cap l w hH hR.lt (by omega)).mono ?_
  rintro e w' ⟨rfl, q, os, rfl⟩
  rw [Lib.sorted_world _ w g 0 q _ _ os hH (by simp)]
  have hR1 : RowAt (w.drewN q) g cap l := hR.below (Joins.below_draws _ _ _)
  have hR2 := hR1.stores 0 l (sortI l)
  rw [setsI_all (sortI_len l)] at hR2
  have hB2 : Below base w ((w.drewN q).setCells g 0 ((sortI l).map (Value.int .i64))) := below_cellsI g hg _ 0 (Joins.below_draws _ _ _)
  have hB3 : ∀ B, B ≤ ((w.drewN q).setCells g 0 ((sortI l).map (Value.int .i64))).heap.size → Below B ((w.drewN q).setCells g 0 ((sortI l).map (Value.int .i64))) (Go.Sort.grow ((w.drewN q).setCells g 0 ((sortI l).map (Value.int .i64))) os) := fun B hB => below_growI hB os
  refine ⟨rfl, hB2.trans (hB3 _ (Nat.le_trans hb hB2.size)), ?_⟩
  have := (hR2.below (hB3 _ (Nat.le_refl _))).own hg
  exact this

set_option maxRecDepth 100000 in
theorem sorted_any (l : List Int) (la : Addr) (n lc : Nat) (w : World) (hl : IntsAt w (some la) l) (hn : n = l.length) (h0 : 0 < n) (hlen : n ≤ 1048576) :
    Calls Try.prog 52 #[.slice (some la) n lc] w fun e w' => ∃ ao cap, e = .returned (.slice ao n cap) ∧ Below w.heap.size w w' ∧ OwnE w' w.heap.size ao cap (sortI l) := by
  subst hn
  have hC := clone_any l la l.length lc w hl rfl hlen
  go_enter Try.func52, Try.ntmps52
  go_wp2_with fail
  refine hC.mono ?_
  rintro e w2 ⟨ao, cap, rfl, -, hO, hB⟩
  have hS := sort_any l w.heap.size cap ao w2 hO hB.size h0 hlen
  clear hC
  go_wp2_with fail
  refine hS.mono ?_
  rintro e w3 ⟨rfl, hB3, hO3⟩
  have hF := hB.trans hB3
  clear hS hB3 hB hO
  have HhF := Lib.hid hF
  clear hF
  have HhO3 := Lib.hid hO3
  clear hO3
  go_wp2_with fail
  go_ret
  exact ⟨ao, cap, rfl, HhF.out, HhO3.out⟩

set_option maxRecDepth 100000 in
set_option maxHeartbeats 1000000 in
theorem shuffle_any (l : List Int) (la : Addr) (n lc : Nat) (w : World) (hl : IntsAt w (some la) l) (hn : n = l.length) (h0 : 0 < n) (hlen : n ≤ 1048576) :
    Calls Try.prog 50 #[.slice (some la) n lc] w fun e w' => e = .returned (.bool (decide (sortI l = idL l.length))) ∧ Below w.heap.size w w' := by
  have hC := sorted_any l la n lc w hl hn h0 hlen
  have HI := Lib.hid (idL_iff (l := l) (ys := sortI l) (sortI_len l))
  have hsl := sortI_len l
  subst hn
  go_enter Try.func50, Try.ntmps50
  go_wp2_with fail
  refine hC.mono ?_
  rintro e w2 ⟨ao, cap, rfl, hB, hO⟩
  obtain ⟨g, rfl, hg, hR⟩ := hO.row (by omega)
  have hR' : ∀ k, k < l.length → w2.cell? ⟨g, k, none⟩ = some (.int .i64 (gi (sortI l) k)) := fun k hk => hR.cell k (by omega)
  clear hC hO hR hl
  generalize hy : sortI l = ys at *
  have HY := Lib.hid hy
  clear hy
  have HhB := Lib.hid hB
  clear hB
  have HhR' := Lib.hid hR'
  clear hR'
  have Hhsl := Lib.hid hsl
  clear hsl
  go_wp2_with fail
  go_loopw [8] (fun i wr => wr = w2 ∧ ∃ k : Nat, k ≤ l.length ∧ i = .int .i64 k ∧ ∀ j, j < k → gi ys j = (j : Int)) (fun i _ => l.length - (intOf i).toNat)
  case atStart => exact ⟨rfl, 0, by omega, rfl, fun j h => by omega⟩
  case round =>
    obtain ⟨rfl, k, hk, rfl, hP⟩ := hrel
    have HP := Lib.hid hP
    clear hP
    by_cases hlt : k < l.length
    · have z := HhR'.out k hlt
      by_cases he : gi ys k = (k : Int)
      · have HE := Lib.hid he
        rw [he] at z
        clear he
        go_wp2_with fail
        go_roundw
        case rel => exact ⟨by trivial, k + 1, by omega, by go_num, fun j hj => (Nat.lt_succ_iff_lt_or_eq.1 hj).elim (HP.out j) fun e => by subst e; exact HE.out⟩
        case measure => simp [intOf]; omega
      · have HE := Lib.hid he
        have hne : (gi ys k != (k : Int)) = true := by simpa using he
        have hf : (decide (sortI l = idL l.length)) = false := by rw [HY.out, decide_eq_false_iff_not]; exact fun e => HE.out (HI.out.1 e k hlt)
        have HF := Lib.hid hf
        clear hf he HE
        generalize gi ys k = x at *
        go_wp2_with fail
        go_ret
        exact ⟨retB HF.out.symm, HhB.out⟩
    · obtain rfl : k = l.length := by omega
      go_wp2_with fail
      go_ret
      exact ⟨retB (by rw [HY.out]; exact (decide_eq_true (HI.out.2 HP.out)).symm), HhB.out⟩

set_option maxHeartbeats 1000000 in
theorem implPerm_any (l : List Int) (ao : Option Addr) (n lc : Nat) (w : World) (hl : IntsAt w ao l) (hn : n = l.length) (hlen : n ≤ 1048576) :
    Calls Try.prog 38 #[.slice ao n lc] w fun e w' => e = .returned (.bool (permB l)) ∧ Below w.heap.size w w' := by
  subst hn
  have HE : Hid (permB l = ((decide ((1 : Int) ≤ l.length) && decide ((l.length : Int) ≤ 7)) && decide (sortI l = idL l.length))) := rfl
  cases h1 : (decide ((1 : Int) ≤ l.length) && decide ((l.length : Int) ≤ 7))
  · rw [h1] at HE
    go_enter Try.func38, Try.ntmps38
    go_wp2_with (first | (go_at_call 29; refine (within_any _ _ _ _).mono ?_; rintro e w' ⟨rfl, rfl⟩))
    all_goals (go_ret; exact ⟨retB (by rw [HE.out]; first | (rw [h1]; rfl) | rfl), Below.refl _ _⟩)
  · have h2 := h1
    simp only [Bool.and_eq_true, decide_eq_true_eq] at h2
    obtain ⟨b, off, rfl, hb, -⟩ := hl (by omega)
    have hC := shuffle_any l _ l.length lc w hl rfl (by omega) hlen
    rw [h1] at HE
    generalize decide (sortI l = idL l.length) = B at *
    go_enter Try.func38, Try.ntmps38
    go_wp2_with (first | (go_at_call 29; refine (within_any _ _ _ _).mono ?_; rintro e w' ⟨rfl, rfl⟩))
    refine hC.mono ?_
    rintro e w2 ⟨rfl, hB⟩
    go_wp2_with fail
    go_ret
    exact ⟨retB (by rw [HE.out]; rfl), hB⟩

set_option maxHeartbeats 1000000 in
theorem specPerm_any (l : List Int) (ao : Option Addr) (n lc : Nat) (w : World) (hl : IntsAt w ao l) (hn : n = l.length) (hlen : n ≤ 1048576) :
    Calls Try.prog 34 #[.slice ao n lc] w fun e w' => e = .returned (.bool (permB l)) ∧ Below w.heap.size w w' := by
  subst hn
  have HE : Hid (permB l = ((decide ((1 : Int) ≤ l.length) && decide ((l.length : Int) ≤ 7)) && decide (sortI l = idL l.length))) := rfl
  have hC := specSetOf_any l ao lc w hl hlen
  cases h1 : (decide ((1 : Int) ≤ l.length) && decide ((l.length : Int) ≤ 7))
  · rw [h1] at HE
    generalize setOk l = ok at *
    go_enter Try.func34, Try.ntmps34
    go_wp2_with fail
    refine hC.mono ?_
    rintro e w2 ⟨rfl, hB⟩
    cases ok
    · go_wp2_with fail
      go_ret
      exact ⟨retB (by rw [HE.out]; rfl), hB⟩
    · go_wp2_with (first | (go_at_call 25; refine (l1In_any _ _ _ _).mono ?_; rintro e w' ⟨rfl, rfl⟩))
      all_goals (go_ret; exact ⟨retB (by rw [HE.out]; first | (rw [h1]; rfl) | rfl), hB⟩)
  · have h2 := h1
    simp only [Bool.and_eq_true, decide_eq_true_eq] at h2
    have hs := perm_same (l := l) (by omega)
    rw [h1, ← hs] at HE
    have hw : wrap64 (pwN l.length - 1) = ((2 ^ l.length - 1 : Nat) : Int) := by
      rw [pwN_small _ (by omega)]
      exact (by decide +kernel : ∀ n : Fin 8, wrap64 (((2 ^ n.val : Nat) : Int) - 1) = ((2 ^ n.val - 1 : Nat) : Int)) ⟨l.length, by omega⟩
    clear hs
    generalize setOk l = ok at *
    generalize setV l = S at *
    have Hhw := Lib.hid hw
    clear hw
    go_enter Try.func34, Try.ntmps34
    go_wp2_with fail
    refine hC.mono ?_
    rintro e w2 ⟨rfl, hB⟩
    cases ok
    · go_wp2_with fail
      go_ret
      exact ⟨retB (by rw [HE.out]; rfl), hB⟩
    · go_wp2_with (first | (go_at_call 25; refine (l1In_any _ _ _ _).mono ?_; rintro e w' ⟨rfl, rfl⟩))
      go_ret
      exact ⟨retB (by rw [HE.out, Hhw.out]; rfl), hB⟩

end Go.Proofs.Ytfjljfjnooieoaa
