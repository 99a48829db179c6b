/-
  isVertex of the program. For at most 2^20 rows and vertices.
  DistanceOf on both sides. For at most 2^20 rows.
  IsConnected on both sides; distances are the same both ways; the part of a graph is a graph. For at most 2^20 rows.
-/
import Derived.Test.YtfkehmpckhmkbaaGreatPkLawPerfect03
import Derived.Test.YtfkehmpckhmkbaaGreatPkLawPerfect05
import Derived.Test.YtfkehmpckhmkbaaGreatPkLawPerfect24
import Derived.Deep.RegionHeld3
namespace Go.Proofs.YtfkehmpckhmkbaaGreat
open Go.RowKit

/-- All numbers of a list are vertices' numbers. -/
def vtx (n : Int) (l : List Int) : Bool := decide (∀ j, j < l.length → (decide (0 ≤ gi l j) && decide (gi l j ≤ n - 1)) = true)
theorem vtx_bad {n : Int} {l : List Int} {j : Nat} (hj : j < l.length) (h : (decide (0 ≤ gi l j) && decide (gi l j ≤ n - 1)) = false) : vtx n l = false := by
  unfold vtx; rw [decide_eq_false_iff_not]; intro a; rw [a j hj] at h; exact absurd h (by decide)
theorem vtx_ok {n : Int} {l : List Int} (h : ∀ j, j < l.length → (decide (0 ≤ gi l j) && decide (gi l j ≤ n - 1)) = true) : vtx n l = true := by unfold vtx; rw [decide_eq_true h]

/-- A graph, and the numbers are its vertices'. -/
def vtxB (n : Int) (rs l : List Int) : Bool := isGraphB n rs && vtx n l
theorem vtxB_inv {n : Int} {rs l : List Int} (h : isGraphB n rs = false) : vtxB n rs l = false := by unfold vtxB; rw [h]; rfl
theorem vtxB_of {n : Int} {rs l : List Int} (h : isGraphB n rs = true) : vtxB n rs l = vtx n l := by unfold vtxB; rw [h]; rfl


end Go.Proofs.YtfkehmpckhmkbaaGreat

namespace Go.Proofs.YtfkehmpckhmkbaaGreat
open Go.RowKit

def distB (n : Int) (rs : List Int) (v u : Int) : Int := if (isGraphB n rs && ((decide (0 ≤ v) && decide (v ≤ n - 1)) && (decide (0 ≤ u) && decide (u ≤ n - 1)))) = true then distV rs v.toNat u.toNat else -1
theorem distB_no {n : Int} {rs : List Int} {v u : Int} (h : isGraphB n rs = false) : distB n rs v u = -1 := by unfold distB; rw [h]; rfl
theorem distB_v {n : Int} {rs : List Int} {v u : Int} (h : (decide (0 ≤ v) && decide (v ≤ n - 1)) = false) : distB n rs v u = -1 := by unfold distB; rw [h]; simp
theorem distB_u {n : Int} {rs : List Int} {v u : Int} (h : (decide (0 ≤ u) && decide (u ≤ n - 1)) = false) : distB n rs v u = -1 := by unfold distB; rw [h]; simp
theorem distB_of {rs : List Int} {v u : Nat} (h : isGraphB rs.length rs = true) (hv : v < rs.length) (hu : u < rs.length) : distB rs.length rs v u = distV rs v u := by
  unfold distB; rw [if_pos]; rfl
  rw [h, decide_eq_true (show (0 : Int) ≤ (v : Int) by omega), decide_eq_true (show (v : Int) ≤ (rs.length : Int) - 1 by omega), decide_eq_true (show (0 : Int) ≤ (u : Int) by omega), decide_eq_true (show (u : Int) ≤ (rs.length : Int) - 1 by omega)]; rfl
theorem vtx_two {n v u : Int} : vtx n [v, u] = ((decide (0 ≤ v) && decide (v ≤ n - 1)) && (decide (0 ≤ u) && decide (u ≤ n - 1))) := by
  rw [Bool.eq_iff_iff]
  unfold vtx
  rw [decide_eq_true_eq, Bool.and_eq_true]
  constructor
  · exact fun h => ⟨h 0 (by simp), h 1 (by simp)⟩
  · rintro ⟨h1, h2⟩ j hj
    match j, hj with
    | 0, _ => exact h1
    | 1, _ => exact h2
theorem distV_ge (rs : List Int) (v u : Nat) : -1 ≤ distV rs v u := by unfold distV; split <;> omega
theorem distV_lt {rs : List Int} (v u : Nat) (h : 1 ≤ rs.length) : distV rs v u < rs.length := by
  unfold distV
  split
  · rename_i k hk
    unfold firstB at hk
    rw [List.find?_range_eq_some] at hk
    have := hk.2.1
    simp at this
    omega
  · omega

set_option maxHeartbeats 2000000 in
theorem specDist_any (n : Int) (rs : List Int) (v u : Int) (ro : Option Addr) (rc : Nat) (w : World) (hr : IntsAt w ro rs) (hrl : rs.length ≤ 1048576) :
    Calls Tryz.prog 78 #[.agg #[.int .i64 n, .slice ro rs.length rc], .int .i64 v, .int .i64 u] w fun e w' => e = .returned (.int .i64 (distB n rs v u)) ∧ Below w.heap.size w w' := by
  go_enter Tryz.func78, Tryz.ntmps78
  go_wp2_with fail
  generalize hW : w.alloc _ = W1
  obtain ⟨hB, -, k0⟩ := alloc1 hW
  replace hr := hr.below hB
  have hb0 := k0.lt
  have hc0 := k0.cell 0
  have hc1 := k0.cell 1
  simp at hc0 hc1
  clear hW k0
  have HhB := Lib.hid hB
  clear hB
  obtain ⟨m, hm0⟩ : ∃ m : Later W1, m.w = W1 := ⟨Later.refl _, rfl⟩
  refine (fun h => hm0 ▸ h) ?_
  clear hm0
  cases hv : isGraphB n rs
  · have HE := Lib.hid (distB_no (v := v) (u := u) hv)
    go_wp2_with (first | (go_at_call 13; refine (Calls.later m (specIsGraph_any _ _ _ _ _ (hr.later m) hrl)).mono ?_; rintro e w' ⟨rfl, m, rfl⟩))
    go_ret
    exact ⟨retI (by rw [HE.out]), below_later HhB.out m⟩
  obtain ⟨rfl, g⟩ := VG.of hv
  have hg1 := g.pos
  have hg2 := g.le
  by_cases h1 : 0 ≤ v ∧ v < rs.length ∧ 0 ≤ u ∧ u < rs.length
  · obtain ⟨a1, a2, a3, a4⟩ := h1
    obtain ⟨v, rfl⟩ : ∃ v' : Nat, v = v' := ⟨v.toNat, by omega⟩
    obtain ⟨u, rfl⟩ : ∃ v' : Nat, u = v' := ⟨u.toNat, by omega⟩
    have b1 : v < rs.length := by omega
    have b2 : u < rs.length := by omega
    have HE := Lib.hid (distB_of hv b1 b2)
    have hp := g.pow.1
    have hpw := pwN_small v (by omega)
    have d1 : decide (rs.length ≤ v) = false := decide_eq_false (by omega)
    have d2 : decide (rs.length ≤ u) = false := decide_eq_false (by omega)
    have d3 : decide ((v : Int) < 0) = false := decide_eq_false (by omega)
    have d4 : decide ((u : Int) < 0) = false := decide_eq_false (by omega)
    go_wp2_with (first | (go_at_call 13; refine (Calls.later m (specIsGraph_any _ _ _ _ _ (hr.later m) hrl)).mono ?_; rintro e w' ⟨rfl, m, rfl⟩))
    go_loopw [7, 8] (fun s i wr => (∃ m : Later W1, wr = m.w) ∧ ∃ k : Nat, k ≤ rs.length ∧ i = .int .i64 k ∧ s = .int .i64 (reach rs v k : Nat) ∧ ∀ j, j < k → (reach rs v j).testBit u = false) (fun _ i _ => rs.length - (intOf i).toNat)
    case atStart => exact ⟨⟨m, rfl⟩, 0, by omega, rfl, by simp [reach, stepN], fun j h => by omega⟩
    case round =>
      obtain ⟨⟨m, rfl⟩, k, hk, rfl, rfl, hP⟩ := hrel
      have HhP := Lib.hid hP
      clear hP
      by_cases hlt : k < rs.length
      · have hA := reach_lt b1 k (rs := rs)
        have hN := Lib.hid (reach_succ g b1 k)
        have hC := fun m : Later W1 => specAround_any rs (reach rs v k) ro rc m.w (hr.later m) hv hA
        have HH := Lib.hid (fun h => distV_hit (rs := rs) (v := v) (w := u) hlt HhP.out h)
        have HM := Lib.hid (fun h => all_succ (p := fun j => (reach rs v j).testBit u = false) HhP.out h)
        generalize reach rs v k = A at *
        have hn := hasN_nat A u
        cases hb : A.testBit u
        · rw [hb] at hn
          go_wp2_with (first | (go_at_call 101; refine (Calls.later m (hC _)).mono ?_; rintro e w' ⟨rfl, m, rfl⟩))
          go_roundw
          case rel => exact ⟨⟨m, rfl⟩, k + 1, by omega, by go_num, by rw [hN.out], HM.out hb⟩
          case measure => simp [intOf]; omega
        · rw [hb] at hn
          go_wp2_with fail
          go_ret
          exact ⟨retI (by rw [HE.out, HH.out hb]), below_later HhB.out m⟩
      · obtain rfl : k = rs.length := by omega
        have HH := Lib.hid (distV_none HhP.out)
        go_wp2_with fail
        go_ret
        exact ⟨retI (by rw [HE.out, HH.out]), below_later HhB.out m⟩
  · have HE : Hid (distB rs.length rs v u = -1) := by
      show distB rs.length rs v u = -1
      by_cases a : (decide (0 ≤ v) && decide (v ≤ (rs.length : Int) - 1)) = false
      · exact distB_v a
      · refine distB_u ?_
        simp at a ⊢; omega
    have h1' : v < 0 ∨ u < 0 ∨ (rs.length : Int) ≤ v ∨ (rs.length : Int) ≤ u := by omega
    clear h1
    by_cases c1 : v < 0
    · go_wp2_with (first | (go_at_call 13; refine (Calls.later m (specIsGraph_any _ _ _ _ _ (hr.later m) hrl)).mono ?_; rintro e w' ⟨rfl, m, rfl⟩))
      go_ret
      exact ⟨retI (by rw [HE.out]), below_later HhB.out m⟩
    · by_cases c2 : u < 0
      · go_wp2_with (first | (go_at_call 13; refine (Calls.later m (specIsGraph_any _ _ _ _ _ (hr.later m) hrl)).mono ?_; rintro e w' ⟨rfl, m, rfl⟩))
        go_ret
        exact ⟨retI (by rw [HE.out]), below_later HhB.out m⟩
      · by_cases c3 : (rs.length : Int) ≤ v
        · go_wp2_with (first | (go_at_call 13; refine (Calls.later m (specIsGraph_any _ _ _ _ _ (hr.later m) hrl)).mono ?_; rintro e w' ⟨rfl, m, rfl⟩))
          go_ret
          exact ⟨retI (by rw [HE.out]), below_later HhB.out m⟩
        · have c4 : (rs.length : Int) ≤ u := by omega
          go_wp2_with (first | (go_at_call 13; refine (Calls.later m (specIsGraph_any _ _ _ _ _ (hr.later m) hrl)).mono ?_; rintro e w' ⟨rfl, m, rfl⟩))
          go_ret
          exact ⟨retI (by rw [HE.out]), below_later HhB.out m⟩


end Go.Proofs.YtfkehmpckhmkbaaGreat

namespace Go.Proofs.YtfkehmpckhmkbaaGreat
open Go.RowKit

/-! ### The part of a graph is a graph -/
theorem indRow_bit (rs : List Int) (l : List Nat) (i j : Nat) : ∀ k, (indRow rs l i k).testBit j = (decide (j < k) && (gn rs (eln l i)).testBit (eln l j))
  | 0 => by simp [indRow]
  | k + 1 => by
    have ih := indRow_bit rs l i j k
    cases h : (gn rs (eln l i)).testBit (eln l k)
    · rw [indRow_no h, ih]
      by_cases e : j = k
      · subst e; simp [h]
      · have : (j < k + 1) ↔ j < k := by omega
        simp [this]
    · rw [indRow_yes h, ← or_pow _ _ (indRow_lt rs l i k), Nat.testBit_or, ih, Nat.testBit_two_pow]
      by_cases e : k = j
      · subst e; simp [h]
      · have : (j < k + 1) ↔ j < k := by omega
        simp [this, e]
theorem ind_at {rs : List Int} {S v : Nat} (hv : v < cnt S) : gi (ind rs S) v = (indRow rs (els S) v (cnt S) : Int) := by
  unfold ind indTo gi
  simp [hv]
  rfl
theorem ind_gn {rs : List Int} {S v : Nat} (hv : v < cnt S) : gn (ind rs S) v = indRow rs (els S) v (cnt S) := by unfold gn; rw [ind_at hv, Int.toNat_natCast]
theorem ind_graph {rs : List Int} (g : VG rs) {S : Nat} (hS : S < 2 ^ rs.length) (h0 : 0 < S) : isGraphB (cnt S) (ind rs S) = true := by
  have hl := ind_len rs S
  have hc := cnt_le S
  have h1 : 0 < cnt S := cnt_pos hS g.le h0
  have key := isGraphB_mk (rs := ind rs S) (by omega) (by omega) (fun v hv => ?_) (fun v hv u hu => ?_)
  · rw [hl] at key; exact key
  · rw [hl] at hv
    have h2 := indRow_lt rs (els S) v (cnt S)
    have h3 := g.irr _ (els_lt hS g.le hv)
    unfold rowOk
    rw [ind_at hv, hl, pwN_small _ (by omega), hasN_nat, indRow_bit, h3]
    simp only [Bool.and_false, Bool.not_false, Bool.and_true, Bool.and_eq_true, decide_eq_true_eq]
    omega
  · rw [hl] at hv
    have hu' : u < cnt S := by omega
    rw [ind_at hv, ind_at hu', hasN_nat, hasN_nat, indRow_bit, indRow_bit, decide_eq_true hv, decide_eq_true hu', g.sym _ (els_lt hS g.le hv) _ (els_lt hS g.le hu')]

/-! ### Distances both ways -/
theorem reach_bit {rs : List Int} (g : VG rs) {v n u : Nat} (hv : v < rs.length) : (reach rs v (n + 1)).testBit u = true ↔ (reach rs v n).testBit u = true ∨ ∃ a, (reach rs v n).testBit a = true ∧ (gn rs a).testBit u = true := by
  rw [reach_succ g hv, around_bit (by have := reach_lt hv n (rs := rs); have := g.pow.1; omega)]
theorem reach_front {rs : List Int} (g : VG rs) : ∀ n v u, v < rs.length → ((reach rs v (n + 1)).testBit u = true ↔ (reach rs v n).testBit u = true ∨ ∃ b, (gn rs v).testBit b = true ∧ (reach rs b n).testBit u = true)
  | 0, v, u, hv => by
    rw [reach_bit g hv]
    have e : ∀ x y : Nat, (reach rs x 0).testBit y = true ↔ x = y := fun x y => pow_bit
    simp only [e]
    constructor
    · rintro (h | ⟨a, rfl, h⟩)
      · exact .inl h
      · exact .inr ⟨u, h, rfl⟩
    · rintro (h | ⟨b, h, rfl⟩)
      · exact .inl h
      · exact .inr ⟨v, rfl, h⟩
  | n + 1, v, u, hv => by
    have hb : ∀ b, (gn rs v).testBit b = true → b < rs.length := fun b h => testBit_lt (g.lt v hv) h
    rw [reach_bit g hv]
    constructor
    · rintro (h | ⟨a, h1, h2⟩)
      · exact .inl h
      · rcases (reach_front g n v a hv).1 h1 with h3 | ⟨b, h3, h4⟩
        · exact .inl ((reach_bit g hv).2 (.inr ⟨a, h3, h2⟩))
        · exact .inr ⟨b, h3, (reach_bit g (hb b h3)).2 (.inr ⟨a, h4, h2⟩)⟩
    · rintro (h | ⟨b, h1, h2⟩)
      · exact .inl h
      · rcases (reach_bit g (hb b h1)).1 h2 with h3 | ⟨a, h3, h4⟩
        · exact .inl ((reach_front g n v u hv).2 (.inr ⟨b, h1, h3⟩))
        · exact .inr ⟨a, (reach_front g n v a hv).2 (.inr ⟨b, h1, h3⟩), h4⟩
theorem reach_sym {rs : List Int} (g : VG rs) : ∀ n v u, v < rs.length → u < rs.length → ((reach rs v n).testBit u = true ↔ (reach rs u n).testBit v = true)
  | 0, v, u, _, _ => by
    show (2 ^ v).testBit u = true ↔ (2 ^ u).testBit v = true
    rw [pow_bit, pow_bit]; exact eq_comm
  | n + 1, v, u, hv, hu => by
    rw [reach_bit g hv, reach_front g n u v hu, reach_sym g n v u hv hu]
    constructor
    · rintro (h | ⟨a, h1, h2⟩)
      · exact .inl h
      · have ha := testBit_lt (reach_lt hv n) h1
        exact .inr ⟨a, by rw [g.sym u hu a ha]; exact h2, (reach_sym g n v a hv ha).1 h1⟩
    · rintro (h | ⟨a, h1, h2⟩)
      · exact .inl h
      · have ha := testBit_lt (g.lt u hu) h1
        exact .inr ⟨a, (reach_sym g n v a hv ha).2 h2, by rw [g.sym a ha u hu]; exact h1⟩
theorem distV_sym {rs : List Int} (g : VG rs) {v u : Nat} (hv : v < rs.length) (hu : u < rs.length) : distV rs v u = distV rs u v := by
  have e : (fun n => (reach rs v n).testBit u) = fun n => (reach rs u n).testBit v := by
    funext n
    rw [Bool.eq_iff_iff]; exact reach_sym g n v u hv hu
  unfold distV
  rw [e]
theorem distV_self {rs : List Int} {v : Nat} (hv : v < rs.length) : distV rs v v = 0 := distV_hit (n := 0) (by omega) (fun j h => by omega) (pow_bit.2 rfl)

/-! ### IsConnected -/
def connN (rs : List Int) : Bool := decide ((partsOf rs (2 ^ rs.length - 1)).length = 1)
def connB (n : Int) (rs : List Int) : Bool := isGraphB n rs && connN rs
theorem connB_no {n : Int} {rs : List Int} (h : isGraphB n rs = false) : connB n rs = false := by unfold connB; rw [h]; rfl
theorem connB_of {n : Int} {rs : List Int} (h : isGraphB n rs = true) : connB n rs = (((partsOf rs (2 ^ rs.length - 1)).length : Int) == 1) := by
  unfold connB connN; rw [h, Bool.true_and, Bool.eq_iff_iff, decide_eq_true_eq, beq_iff_eq]; omega



end Go.Proofs.YtfkehmpckhmkbaaGreat
