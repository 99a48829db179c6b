/-
  isVertex of the program. For at most 2^20 rows and vertices.
  DistanceOf on both sides. For at most 2^20 rows.
  IsConnected on both sides; distances are the same both ways; the part of a graph is a graph. For at most 2^20 rows.
-/
import Derived.Test.YtjikmjhpmkakoaaGreatDoorPkCardHereditary03
import Derived.Test.YtjikmjhpmkakoaaGreatDoorPkCardHereditary06
import Derived.Test.YtjikmjhpmkakoaaGreatDoorPkCardHereditary30
import Derived.Deep.RegionHeld3
namespace Go.Proofs.YtjikmjhpmkakoaaGreatDoor
open Go.RowKit

/-- All numbers of a list are vertices' numbers. -/
def vtx (n : Int) (l : List Int) : Bool := decide (∀ j, j < l.length → (decide (0 ≤ gi l j) && decide (gi l j ≤ n - 1)) = true)
theorem vtx_bad {n : Int} {l : List Int} {j : Nat} (hj : j < l.length) (h : (decide (0 ≤ gi l j) && decide (gi l j ≤ n - 1)) = false) : vtx n l = false := by
  unfold vtx; rw [decide_eq_false_iff_not]; intro a; rw [a j hj] at h; exact absurd h (by decide)
theorem vtx_ok {n : Int} {l : List Int} (h : ∀ j, j < l.length → (decide (0 ≤ gi l j) && decide (gi l j ≤ n - 1)) = true) : vtx n l = true := by unfold vtx; rw [decide_eq_true h]

/-- A graph, and the numbers are its vertices'. -/
def vtxB (n : Int) (rs l : List Int) : Bool := isGraphB n rs && vtx n l
theorem vtxB_inv {n : Int} {rs l : List Int} (h : isGraphB n rs = false) : vtxB n rs l = false := by unfold vtxB; rw [h]; rfl
theorem vtxB_of {n : Int} {rs l : List Int} (h : isGraphB n rs = true) : vtxB n rs l = vtx n l := by unfold vtxB; rw [h]; rfl

set_option maxHeartbeats 1000000 in
theorem isVertex_any (n : Int) (rs l : List Int) (ro lo : Option Addr) (rc lc : Nat) (w : World) (hr : IntsAt w ro rs) (hrl : rs.length ≤ 1048576) (hl : IntsAt w lo l) (hll : l.length ≤ 1048576) :
    Calls Tryz.prog 107 #[.agg #[.int .i64 n, .slice ro rs.length rc], .slice lo l.length lc] w fun e w' => e = .returned (.bool (vtxB n rs l)) ∧ Below w.heap.size w w' := by
  go_enter Tryz.func107, Tryz.ntmps107
  go_wp2_with fail
  generalize hW : w.alloc _ = W1
  obtain ⟨hB, -, k0⟩ := alloc1 hW
  replace hr := hr.below hB
  replace hl := hl.below hB
  have hb0 := k0.lt
  have hc0 := k0.cell 0
  have hc1 := k0.cell 1
  simp at hc0 hc1
  clear hW k0
  have HhB := Lib.hid hB
  clear hB
  cases hv : isGraphB n rs
  · have HE := Lib.hid (vtxB_inv (l := l) hv)
    go_loopw [9] (fun i wr => (∃ m : Later W1, wr = m.w) ∧ ∃ k : Nat, k ≤ l.length ∧ i = .int .i64 k) (fun i _ => l.length - (intOf i).toNat)
    case atStart => exact ⟨⟨Later.refl _, rfl⟩, 0, by omega, rfl⟩
    case round =>
      obtain ⟨⟨m, rfl⟩, k, hk, rfl⟩ := hrel
      by_cases hlt : k < l.length
      · obtain ⟨lb, lofs, rfl, hlb, hlc⟩ := hl (by omega)
        have hlk := hlc k hlt
        clear hlc
        cases h1 : (decide (0 ≤ gi l k) && decide (gi l k ≤ wrap64 (n - 1)))
        · go_wp2_with (first | (go_at_call 59; refine (within_any _ _ _ _).mono ?_; rintro e w' ⟨rfl, rfl⟩))
          go_ret
          exact ⟨retB (by rw [HE.out]), below_later HhB.out m⟩
        · go_wp2_with (first | (go_at_call 59; refine (within_any _ _ _ _).mono ?_; rintro e w' ⟨rfl, rfl⟩))
          go_roundw
          case rel => exact ⟨⟨m, rfl⟩, k + 1, by omega, by go_num⟩
          case measure => simp [intOf]; omega
      · go_wp2_with (first | (go_at_call 45; refine (Calls.later m (implIsGraph_any _ _ _ _ _ (hr.later m) hrl)).mono ?_; rintro e w' ⟨rfl, m, rfl⟩))
        go_ret
        exact ⟨retB (by rw [HE.out]), below_later HhB.out m⟩
  · have HE := Lib.hid (vtxB_of (l := l) hv)
    obtain ⟨rfl, g⟩ := VG.of hv
    have hg1 := g.pos
    have hg2 := g.le
    go_loopw [9] (fun i wr => (∃ m : Later W1, wr = m.w) ∧ ∃ k : Nat, k ≤ l.length ∧ i = .int .i64 k ∧ ∀ j, j < k → (decide (0 ≤ gi l j) && decide (gi l j ≤ (rs.length : Int) - 1)) = true) (fun i _ => l.length - (intOf i).toNat)
    case atStart => exact ⟨⟨Later.refl _, rfl⟩, 0, by omega, rfl, fun j h => by omega⟩
    case round =>
      obtain ⟨⟨m, rfl⟩, k, hk, rfl, hP⟩ := hrel
      have HhP := Lib.hid hP
      clear hP
      by_cases hlt : k < l.length
      · obtain ⟨lb, lofs, rfl, hlb, hlc⟩ := hl (by omega)
        have hlk := hlc k hlt
        have HN := Lib.hid (fun h => vtx_bad (n := rs.length) hlt h)
        have HY := Lib.hid (fun h => all_succ (p := fun j => (decide (0 ≤ gi l j) && decide (gi l j ≤ (rs.length : Int) - 1)) = true) HhP.out h)
        clear hlc
        generalize gi l k = x at *
        cases h1 : (decide (0 ≤ x) && decide (x ≤ (rs.length : Int) - 1))
        · go_wp2_with (first | (go_at_call 59; refine (within_any _ _ _ _).mono ?_; rintro e w' ⟨rfl, rfl⟩))
          go_ret
          exact ⟨retB (by rw [HE.out, HN.out h1]), below_later HhB.out m⟩
        · go_wp2_with (first | (go_at_call 59; refine (within_any _ _ _ _).mono ?_; rintro e w' ⟨rfl, rfl⟩))
          go_roundw
          case rel => exact ⟨⟨m, rfl⟩, k + 1, by omega, by go_num, HY.out h1⟩
          case measure => simp [intOf]; omega
      · have HM := Lib.hid (vtx_ok (n := rs.length) (l := l) (fun j hj => HhP.out j (by omega)))
        go_wp2_with (first | (go_at_call 45; refine (Calls.later m (implIsGraph_any _ _ _ _ _ (hr.later m) hrl)).mono ?_; rintro e w' ⟨rfl, m, rfl⟩))
        go_ret
        exact ⟨retB (by rw [HE.out, HM.out]), below_later HhB.out m⟩

end Go.Proofs.YtjikmjhpmkakoaaGreatDoor

namespace Go.Proofs.YtjikmjhpmkakoaaGreatDoor
open Go.RowKit

def distB (n : Int) (rs : List Int) (v u : Int) : Int := if (isGraphB n rs && ((decide (0 ≤ v) && decide (v ≤ n - 1)) && (decide (0 ≤ u) && decide (u ≤ n - 1)))) = true then distV rs v.toNat u.toNat else -1
theorem distB_no {n : Int} {rs : List Int} {v u : Int} (h : isGraphB n rs = false) : distB n rs v u = -1 := by unfold distB; rw [h]; rfl
theorem distB_v {n : Int} {rs : List Int} {v u : Int} (h : (decide (0 ≤ v) && decide (v ≤ n - 1)) = false) : distB n rs v u = -1 := by unfold distB; rw [h]; simp
theorem distB_u {n : Int} {rs : List Int} {v u : Int} (h : (decide (0 ≤ u) && decide (u ≤ n - 1)) = false) : distB n rs v u = -1 := by unfold distB; rw [h]; simp
theorem distB_of {rs : List Int} {v u : Nat} (h : isGraphB rs.length rs = true) (hv : v < rs.length) (hu : u < rs.length) : distB rs.length rs v u = distV rs v u := by
  unfold distB; rw [if_pos]; rfl
  rw [h, decide_eq_true (show (0 : Int) ≤ (v : Int) by omega), decide_eq_true (show (v : Int) ≤ (rs.length : Int) - 1 by omega), decide_eq_true (show (0 : Int) ≤ (u : Int) by omega), decide_eq_true (show (u : Int) ≤ (rs.length : Int) - 1 by omega)]; rfl
theorem vtx_two {n v u : Int} : vtx n [v, u] = ((decide (0 ≤ v) && decide (v ≤ n - 1)) && (decide (0 ≤ u) && decide (u ≤ n - 1))) := by
  rw [Bool.eq_iff_iff]
  unfold vtx
  rw [decide_eq_true_eq, Bool.and_eq_true]
  constructor
  · exact fun h => ⟨h 0 (by simp), h 1 (by simp)⟩
  · rintro ⟨h1, h2⟩ j hj
    match j, hj with
    | 0, _ => exact h1
    | 1, _ => exact h2
theorem distV_ge (rs : List Int) (v u : Nat) : -1 ≤ distV rs v u := by unfold distV; split <;> omega
theorem distV_lt {rs : List Int} (v u : Nat) (h : 1 ≤ rs.length) : distV rs v u < rs.length := by
  unfold distV
  split
  · rename_i k hk
    unfold firstB at hk
    rw [List.find?_range_eq_some] at hk
    have := hk.2.1
    simp at this
    omega
  · omega

set_option maxHeartbeats 2000000 in
theorem specDist_any (n : Int) (rs : List Int) (v u : Int) (ro : Option Addr) (rc : Nat) (w : World) (hr : IntsAt w ro rs) (hrl : rs.length ≤ 1048576) :
    Calls Tryz.prog 69 #[.agg #[.int .i64 n, .slice ro rs.length rc], .int .i64 v, .int .i64 u] w fun e w' => e = .returned (.int .i64 (distB n rs v u)) ∧ Below w.heap.size w w' := by
  go_enter Tryz.func69, Tryz.ntmps69
  go_wp2_with fail
  generalize hW : w.alloc _ = W1
  obtain ⟨hB, -, k0⟩ := alloc1 hW
  replace hr := hr.below hB
  have hb0 := k0.lt
  have hc0 := k0.cell 0
  have hc1 := k0.cell 1
  simp at hc0 hc1
  clear hW k0
  have HhB := Lib.hid hB
  clear hB
  obtain ⟨m, hm0⟩ : ∃ m : Later W1, m.w = W1 := ⟨Later.refl _, rfl⟩
  refine (fun h => hm0 ▸ h) ?_
  clear hm0
  cases hv : isGraphB n rs
  · have HE := Lib.hid (distB_no (v := v) (u := u) hv)
    go_wp2_with (first | (go_at_call 12; refine (Calls.later m (specIsGraph_any _ _ _ _ _ (hr.later m) hrl)).mono ?_; rintro e w' ⟨rfl, m, rfl⟩))
    go_ret
    exact ⟨retI (by rw [HE.out]), below_later HhB.out m⟩
  obtain ⟨rfl, g⟩ := VG.of hv
  have hg1 := g.pos
  have hg2 := g.le
  by_cases h1 : 0 ≤ v ∧ v < rs.length ∧ 0 ≤ u ∧ u < rs.length
  · obtain ⟨a1, a2, a3, a4⟩ := h1
    obtain ⟨v, rfl⟩ : ∃ v' : Nat, v = v' := ⟨v.toNat, by omega⟩
    obtain ⟨u, rfl⟩ : ∃ v' : Nat, u = v' := ⟨u.toNat, by omega⟩
    have b1 : v < rs.length := by omega
    have b2 : u < rs.length := by omega
    have HE := Lib.hid (distB_of hv b1 b2)
    have hp := g.pow.1
    have hpw := pwN_small v (by omega)
    have d1 : decide (rs.length ≤ v) = false := decide_eq_false (by omega)
    have d2 : decide (rs.length ≤ u) = false := decide_eq_false (by omega)
    have d3 : decide ((v : Int) < 0) = false := decide_eq_false (by omega)
    have d4 : decide ((u : Int) < 0) = false := decide_eq_false (by omega)
    go_wp2_with (first | (go_at_call 12; refine (Calls.later m (specIsGraph_any _ _ _ _ _ (hr.later m) hrl)).mono ?_; rintro e w' ⟨rfl, m, rfl⟩))
    go_loopw [7, 8] (fun s i wr => (∃ m : Later W1, wr = m.w) ∧ ∃ k : Nat, k ≤ rs.length ∧ i = .int .i64 k ∧ s = .int .i64 (reach rs v k : Nat) ∧ ∀ j, j < k → (reach rs v j).testBit u = false) (fun _ i _ => rs.length - (intOf i).toNat)
    case atStart => exact ⟨⟨m, rfl⟩, 0, by omega, rfl, by simp [reach, stepN], fun j h => by omega⟩
    case round =>
      obtain ⟨⟨m, rfl⟩, k, hk, rfl, rfl, hP⟩ := hrel
      have HhP := Lib.hid hP
      clear hP
      by_cases hlt : k < rs.length
      · have hA := reach_lt b1 k (rs := rs)
        have hN := Lib.hid (reach_succ g b1 k)
        have hC := fun m : Later W1 => specAround_any rs (reach rs v k) ro rc m.w (hr.later m) hv hA
        have HH := Lib.hid (fun h => distV_hit (rs := rs) (v := v) (w := u) hlt HhP.out h)
        have HM := Lib.hid (fun h => all_succ (p := fun j => (reach rs v j).testBit u = false) HhP.out h)
        generalize reach rs v k = A at *
        have hn := hasN_nat A u
        cases hb : A.testBit u
        · rw [hb] at hn
          go_wp2_with (first | (go_at_call 116; refine (Calls.later m (hC _)).mono ?_; rintro e w' ⟨rfl, m, rfl⟩))
          go_roundw
          case rel => exact ⟨⟨m, rfl⟩, k + 1, by omega, by go_num, by rw [hN.out], HM.out hb⟩
          case measure => simp [intOf]; omega
        · rw [hb] at hn
          go_wp2_with fail
          go_ret
          exact ⟨retI (by rw [HE.out, HH.out hb]), below_later HhB.out m⟩
      · obtain rfl : k = rs.length := by omega
        have HH := Lib.hid (distV_none HhP.out)
        go_wp2_with fail
        go_ret
        exact ⟨retI (by rw [HE.out, HH.out]), below_later HhB.out m⟩
  · have HE : Hid (distB rs.length rs v u = -1) := by
      show distB rs.length rs v u = -1
      by_cases a : (decide (0 ≤ v) && decide (v ≤ (rs.length : Int) - 1)) = false
      · exact distB_v a
      · refine distB_u ?_
        simp at a ⊢; omega
    have h1' : v < 0 ∨ u < 0 ∨ (rs.length : Int) ≤ v ∨ (rs.length : Int) ≤ u := by omega
    clear h1
    by_cases c1 : v < 0
    · go_wp2_with (first | (go_at_call 12; refine (Calls.later m (specIsGraph_any _ _ _ _ _ (hr.later m) hrl)).mono ?_; rintro e w' ⟨rfl, m, rfl⟩))
      go_ret
      exact ⟨retI (by rw [HE.out]), below_later HhB.out m⟩
    · by_cases c2 : u < 0
      · go_wp2_with (first | (go_at_call 12; refine (Calls.later m (specIsGraph_any _ _ _ _ _ (hr.later m) hrl)).mono ?_; rintro e w' ⟨rfl, m, rfl⟩))
        go_ret
        exact ⟨retI (by rw [HE.out]), below_later HhB.out m⟩
      · by_cases c3 : (rs.length : Int) ≤ v
        · go_wp2_with (first | (go_at_call 12; refine (Calls.later m (specIsGraph_any _ _ _ _ _ (hr.later m) hrl)).mono ?_; rintro e w' ⟨rfl, m, rfl⟩))
          go_ret
          exact ⟨retI (by rw [HE.out]), below_later HhB.out m⟩
        · have c4 : (rs.length : Int) ≤ u := by omega
          go_wp2_with (first | (go_at_call 12; refine (Calls.later m (specIsGraph_any _ _ _ _ _ (hr.later m) hrl)).mono ?_; rintro e w' ⟨rfl, m, rfl⟩))
          go_ret
          exact ⟨retI (by rw [HE.out]), below_later HhB.out m⟩

set_option maxHeartbeats 2000000 in
theorem implDist_any (n : Int) (rs : List Int) (v u : Int) (ro : Option Addr) (rc : Nat) (w : World) (hr : IntsAt w ro rs) (hrl : rs.length ≤ 1048576) :
    Calls Tryz.prog 57 #[.agg #[.int .i64 n, .slice ro rs.length rc], .int .i64 v, .int .i64 u] w fun e w' => e = .returned (.int .i64 (distB n rs v u)) ∧ Below w.heap.size w w' := by
  go_enter Tryz.func57, Tryz.ntmps57
  go_wp2_with fail
  generalize hW : (w.alloc _).alloc _ = W1
  obtain ⟨hB, hsz, k0, k1⟩ := alloc2 hW
  replace hr := hr.below hB
  have hb0 := k0.lt
  have hc0 := k0.cell 0
  have hc1 := k0.cell 1
  have hI : IntsAt W1 (some ⟨w.heap.size + 1, 0, none⟩) [v, u] := (show OwnInts W1 (w.heap.size + 1) [v, u] from k1).ints
  simp at hc0 hc1
  clear hW k0 k1
  have HhB := Lib.hid hB
  clear hB
  obtain ⟨m, hm0⟩ : ∃ m : Later W1, m.w = W1 := ⟨Later.refl _, rfl⟩
  refine (fun h => hm0 ▸ h) ?_
  clear hm0
  refine (Calls.later m (isVertex_any n rs [v, u] ro _ rc 2 _ (hr.later m) hrl (hI.later m) (by simp))).mono ?_
  rintro e w' ⟨rfl, m, rfl⟩
  cases hv : isGraphB n rs
  · rw [vtxB_inv hv]
    have HE := Lib.hid (distB_no (v := v) (u := u) hv)
    go_wp2_with fail
    go_ret
    exact ⟨retI (by rw [HE.out]), below_later HhB.out m⟩
  rw [vtxB_of hv, vtx_two]
  obtain ⟨rfl, g⟩ := VG.of hv
  have hg1 := g.pos
  have hg2 := g.le
  cases c1 : (decide (0 ≤ v) && decide (v ≤ (rs.length : Int) - 1))
  · have HE := Lib.hid (distB_v (rs := rs) (u := u) c1)
    go_wp2_with fail
    go_ret
    exact ⟨retI (by rw [HE.out]), below_later HhB.out m⟩
  cases c2 : (decide (0 ≤ u) && decide (u ≤ (rs.length : Int) - 1))
  · have HE := Lib.hid (distB_u (rs := rs) (v := v) c2)
    go_wp2_with fail
    go_ret
    exact ⟨retI (by rw [HE.out]), below_later HhB.out m⟩
  simp only [Bool.and_eq_true, decide_eq_true_eq] at c1 c2
  obtain ⟨v, rfl⟩ : ∃ v' : Nat, v = v' := ⟨v.toNat, by omega⟩
  obtain ⟨u, rfl⟩ : ∃ v' : Nat, u = v' := ⟨u.toNat, by omega⟩
  have b1 : v < rs.length := by omega
  have b2 : u < rs.length := by omega
  have HE := Lib.hid (distB_of hv b1 b2)
  have hp := g.pow.1
  have hpw := pwN_small v (by omega)
  have hv7 : cnt (2 ^ v) = 1 := cnt_pow (by omega)
  clear c1 c2
  go_wp2_with fail
  go_loopw [7, 8] (fun s i wr => (∃ m : Later W1, wr = m.w) ∧ ∃ k : Nat, i = .int .i64 k ∧ s = .int .i64 (reach rs v k : Nat) ∧ (k + 1 ≤ cnt (reach rs v k)) ∧ ∀ j, j < k → (reach rs v j).testBit u = false) (fun _ i _ => rs.length - (intOf i).toNat)
  case atStart => exact ⟨⟨m, rfl⟩, 0, rfl, by simp [reach, stepN], by simp [reach, stepN, hv7], fun j h => by omega⟩
  case round =>
    obtain ⟨⟨m, rfl⟩, k, rfl, rfl, hcn, hP⟩ := hrel
    have hlt := reach_le g b1 hcn
    have HhP := Lib.hid hP
    clear hP
    have hA := reach_lt b1 k (rs := rs)
    have hN := Lib.hid (reach_succ g b1 k)
    have hK := Lib.hid (fun h => reach_cnt g b1 hcn h)
    have hC := fun m : Later W1 => implNeighbors_any rs (reach rs v k) ro rc m.w (hr.later m) g hA
    have HH := Lib.hid (fun h => distV_hit (rs := rs) (v := v) (w := u) hlt HhP.out h)
    have HM := Lib.hid (fun h => all_succ (p := fun j => (reach rs v j).testBit u = false) HhP.out h)
    have HS := Lib.hid (fun (h : ∀ j, j < k + 1 → (reach rs v j).testBit u = false) h2 => distV_stuck (rs := rs) (v := v) (w := u) (k := k) g b1 (fun j hj => h j (by omega)) h2)
    generalize reach rs v k = A at *
    have hq := around_lt g hA
    have hq2 := nbrs_lt g hA
    have ho : bits .or .i64 (A : Int) (nbrs rs A : Int) = (around rs A : Int) := bits_or_nat _ _ (by omega) (by omega)
    have hHas := fun w => has_any A u (by omega) (by omega) w
    simp only [Int.toNat_natCast] at hHas
    have hn := hasN_nat A u
    rw [hn] at hHas
    generalize nbrs rs A = D at *
    generalize around rs A = B at *
    cases hb : A.testBit u
    · rw [hb] at hHas
      clear hn
      by_cases he : B = A
      · have hb2 : ((B : Int) == A) = true := by rw [he]; simp
        have HJ := Lib.hid (HS.out (HM.out hb) he)
        clear he
        go_wp2_with (first | (go_at_call 60; refine (hHas _).mono ?_; rintro e w' ⟨rfl, rfl⟩) | (go_at_call 108; refine (Calls.later m (hC _)).mono ?_; rintro e w' ⟨rfl, m, rfl⟩))
        go_ret
        exact ⟨retI (by rw [HE.out, HJ.out]), below_later HhB.out m⟩
      · have hb2 : ((B : Int) == A) = false := by rw [beq_eq_false_iff_ne]; omega
        have HJ := Lib.hid (hK.out he)
        clear he
        go_wp2_with (first | (go_at_call 60; refine (hHas _).mono ?_; rintro e w' ⟨rfl, rfl⟩) | (go_at_call 108; refine (Calls.later m (hC _)).mono ?_; rintro e w' ⟨rfl, m, rfl⟩))
        go_roundw
        case rel => exact ⟨⟨m, rfl⟩, k + 1, by go_num, by rw [hN.out], HJ.out, HM.out hb⟩
        case measure => simp [intOf]; omega
    · rw [hb] at hHas
      clear hn
      go_wp2_with (first | (go_at_call 60; refine (hHas _).mono ?_; rintro e w' ⟨rfl, rfl⟩))
      go_ret
      exact ⟨retI (by rw [HE.out, HH.out hb]), below_later HhB.out m⟩

end Go.Proofs.YtjikmjhpmkakoaaGreatDoor

namespace Go.Proofs.YtjikmjhpmkakoaaGreatDoor
open Go.RowKit

/-! ### The part of a graph is a graph -/
theorem indRow_bit (rs : List Int) (l : List Nat) (i j : Nat) : ∀ k, (indRow rs l i k).testBit j = (decide (j < k) && (gn rs (eln l i)).testBit (eln l j))
  | 0 => by simp [indRow]
  | k + 1 => by
    have ih := indRow_bit rs l i j k
    cases h : (gn rs (eln l i)).testBit (eln l k)
    · rw [indRow_no h, ih]
      by_cases e : j = k
      · subst e; simp [h]
      · have : (j < k + 1) ↔ j < k := by omega
        simp [this]
    · rw [indRow_yes h, ← or_pow _ _ (indRow_lt rs l i k), Nat.testBit_or, ih, Nat.testBit_two_pow]
      by_cases e : k = j
      · subst e; simp [h]
      · have : (j < k + 1) ↔ j < k := by omega
        simp [this, e]
theorem ind_at {rs : List Int} {S v : Nat} (hv : v < cnt S) : gi (ind rs S) v = (indRow rs (els S) v (cnt S) : Int) := by
  unfold ind indTo gi
  simp [hv]
  rfl
theorem ind_gn {rs : List Int} {S v : Nat} (hv : v < cnt S) : gn (ind rs S) v = indRow rs (els S) v (cnt S) := by unfold gn; rw [ind_at hv, Int.toNat_natCast]
theorem ind_graph {rs : List Int} (g : VG rs) {S : Nat} (hS : S < 2 ^ rs.length) (h0 : 0 < S) : isGraphB (cnt S) (ind rs S) = true := by
  have hl := ind_len rs S
  have hc := cnt_le S
  have h1 : 0 < cnt S := cnt_pos hS g.le h0
  have key := isGraphB_mk (rs := ind rs S) (by omega) (by omega) (fun v hv => ?_) (fun v hv u hu => ?_)
  · rw [hl] at key; exact key
  · rw [hl] at hv
    have h2 := indRow_lt rs (els S) v (cnt S)
    have h3 := g.irr _ (els_lt hS g.le hv)
    unfold rowOk
    rw [ind_at hv, hl, pwN_small _ (by omega), hasN_nat, indRow_bit, h3]
    simp only [Bool.and_false, Bool.not_false, Bool.and_true, Bool.and_eq_true, decide_eq_true_eq]
    omega
  · rw [hl] at hv
    have hu' : u < cnt S := by omega
    rw [ind_at hv, ind_at hu', hasN_nat, hasN_nat, indRow_bit, indRow_bit, decide_eq_true hv, decide_eq_true hu', g.sym _ (els_lt hS g.le hv) _ (els_lt hS g.le hu')]

/-! ### Distances both ways -/
theorem reach_bit {rs : List Int} (g : VG rs) {v n u : Nat} (hv : v < rs.length) : (reach rs v (n + 1)).testBit u = true ↔ (reach rs v n).testBit u = true ∨ ∃ a, (reach rs v n).testBit a = true ∧ (gn rs a).testBit u = true := by
  rw [reach_succ g hv, around_bit (by have := reach_lt hv n (rs := rs); have := g.pow.1; omega)]
theorem reach_front {rs : List Int} (g : VG rs) : ∀ n v u, v < rs.length → ((reach rs v (n + 1)).testBit u = true ↔ (reach rs v n).testBit u = true ∨ ∃ b, (gn rs v).testBit b = true ∧ (reach rs b n).testBit u = true)
  | 0, v, u, hv => by
    rw [reach_bit g hv]
    have e : ∀ x y : Nat, (reach rs x 0).testBit y = true ↔ x = y := fun x y => pow_bit
    simp only [e]
    constructor
    · rintro (h | ⟨a, rfl, h⟩)
      · exact .inl h
      · exact .inr ⟨u, h, rfl⟩
    · rintro (h | ⟨b, h, rfl⟩)
      · exact .inl h
      · exact .inr ⟨v, rfl, h⟩
  | n + 1, v, u, hv => by
    have hb : ∀ b, (gn rs v).testBit b = true → b < rs.length := fun b h => testBit_lt (g.lt v hv) h
    rw [reach_bit g hv]
    constructor
    · rintro (h | ⟨a, h1, h2⟩)
      · exact .inl h
      · rcases (reach_front g n v a hv).1 h1 with h3 | ⟨b, h3, h4⟩
        · exact .inl ((reach_bit g hv).2 (.inr ⟨a, h3, h2⟩))
        · exact .inr ⟨b, h3, (reach_bit g (hb b h3)).2 (.inr ⟨a, h4, h2⟩)⟩
    · rintro (h | ⟨b, h1, h2⟩)
      · exact .inl h
      · rcases (reach_bit g (hb b h1)).1 h2 with h3 | ⟨a, h3, h4⟩
        · exact .inl ((reach_front g n v u hv).2 (.inr ⟨b, h1, h3⟩))
        · exact .inr ⟨a, (reach_front g n v a hv).2 (.inr ⟨b, h1, h3⟩), h4⟩
theorem reach_sym {rs : List Int} (g : VG rs) : ∀ n v u, v < rs.length → u < rs.length → ((reach rs v n).testBit u = true ↔ (reach rs u n).testBit v = true)
  | 0, v, u, _, _ => by
    show (2 ^ v).testBit u = true ↔ (2 ^ u).testBit v = true
    rw [pow_bit, pow_bit]; exact eq_comm
  | n + 1, v, u, hv, hu => by
    rw [reach_bit g hv, reach_front g n u v hu, reach_sym g n v u hv hu]
    constructor
    · rintro (h | ⟨a, h1, h2⟩)
      · exact .inl h
      · have ha := testBit_lt (reach_lt hv n) h1
        exact .inr ⟨a, by rw [g.sym u hu a ha]; exact h2, (reach_sym g n v a hv ha).1 h1⟩
    · rintro (h | ⟨a, h1, h2⟩)
      · exact .inl h
      · have ha := testBit_lt (g.lt u hu) h1
        exact .inr ⟨a, (reach_sym g n v a hv ha).2 h2, by rw [g.sym a ha u hu]; exact h1⟩
theorem distV_sym {rs : List Int} (g : VG rs) {v u : Nat} (hv : v < rs.length) (hu : u < rs.length) : distV rs v u = distV rs u v := by
  have e : (fun n => (reach rs v n).testBit u) = fun n => (reach rs u n).testBit v := by
    funext n
    rw [Bool.eq_iff_iff]; exact reach_sym g n v u hv hu
  unfold distV
  rw [e]
theorem distV_self {rs : List Int} {v : Nat} (hv : v < rs.length) : distV rs v v = 0 := distV_hit (n := 0) (by omega) (fun j h => by omega) (pow_bit.2 rfl)

/-! ### IsConnected -/
def connN (rs : List Int) : Bool := decide ((partsOf rs (2 ^ rs.length - 1)).length = 1)
def connB (n : Int) (rs : List Int) : Bool := isGraphB n rs && connN rs
theorem connB_no {n : Int} {rs : List Int} (h : isGraphB n rs = false) : connB n rs = false := by unfold connB; rw [h]; rfl
theorem connB_of {n : Int} {rs : List Int} (h : isGraphB n rs = true) : connB n rs = (((partsOf rs (2 ^ rs.length - 1)).length : Int) == 1) := by
  unfold connB connN; rw [h, Bool.true_and, Bool.eq_iff_iff, decide_eq_true_eq, beq_iff_eq]; omega

set_option maxRecDepth 100000 in
set_option maxHeartbeats 2000000 in
theorem specConn_any (n : Int) (rs : List Int) (ro : Option Addr) (rc : Nat) (w : World) (hr : IntsAt w ro rs) (hrl : rs.length ≤ 1048576) :
    Calls Tryz.prog 68 #[.agg #[.int .i64 n, .slice ro rs.length rc]] w fun e w' => e = .returned (.bool (connB n rs)) ∧ Below w.heap.size w w' := by
  go_enter Tryz.func68, Tryz.ntmps68
  go_wp2_with fail
  generalize hW : w.alloc _ = W1
  obtain ⟨hB, -, k0⟩ := alloc1 hW
  replace hr := hr.below hB
  have hb0 := k0.lt
  have hc0 := k0.cell 0
  have hc1 := k0.cell 1
  simp at hc0 hc1
  clear hW k0
  have HhB := Lib.hid hB
  clear hB
  obtain ⟨m, hm0⟩ : ∃ m : Later W1, m.w = W1 := ⟨Later.refl _, rfl⟩
  refine (fun h => hm0 ▸ h) ?_
  clear hm0
  cases hv : isGraphB n rs
  · have HE := Lib.hid (connB_no hv)
    have hG := fun m : Later W1 => specIsGraph_any n rs ro rc m.w (hr.later m) hrl
    rw [hv] at hG
    refine wp_region_later m rfl (by kernel_rfl) (by kernel_rfl) ?_
    repeat (go_big_quiet_step ((first | (go_at_call 12; exact Calls.later _ (hG _)))))
    refine wpQuiet_nil ?_
    rintro _ ⟨m, rfl⟩
    go_wp2_with fail
    go_ret
    exact ⟨retB (by rw [HE.out]), below_later HhB.out m⟩
  · have HE := Lib.hid (connB_of hv)
    obtain ⟨rfl, g⟩ := VG.of hv
    have hg1 := g.pos
    have hg2 := g.le
    obtain ⟨hp1, hp2⟩ := g.pow
    have hq := pwN_small rs.length (by omega)
    have q1 : IntKind.i64.wrap (((2 ^ rs.length : Nat) : Int) - 1) = ((2 ^ rs.length - 1 : Nat) : Int) := by rw [IntKind_i64_in _ (by omega) (by omega)]; omega
    have HA : Hid (∀ w : World, IntsAt w ro rs → Calls Tryz.prog 53 #[.agg #[.int .i64 rs.length, .slice ro rs.length rc], .int .i64 (2 ^ rs.length - 1 : Nat)] w (RetE w (ints (partsOf rs (2 ^ rs.length - 1))))) := Lib.hid fun w h => specParts_any rs (2 ^ rs.length - 1) ro rc w h hv (all_lt _)
    have HG : Hid (∀ w : World, IntsAt w ro rs → Calls Tryz.prog 12 #[.agg #[.int .i64 rs.length, .slice ro rs.length rc]] w fun e w' => e = .returned (.bool true) ∧ Below w.heap.size w w') := Lib.hid fun w h => by
      have := specIsGraph_any rs.length rs ro rc w h hrl
      rwa [hv] at this
    have hl1 := partsOf_len rs (2 ^ rs.length - 1)
    rw [← ints_len] at hl1 HE
    generalize ints (partsOf rs (2 ^ rs.length - 1)) = ps at *
    generalize 2 ^ rs.length - 1 = T1 at *
    generalize 2 ^ rs.length = T0 at *
    have hS' : ∀ w', Below W1.heap.size W1 w' → Below W1.heap.size W1 w' ∧ w'.cell? ⟨w.heap.size, 0, none⟩ = some (.int .i64 rs.length) ∧ w'.cell? ⟨w.heap.size, 1, none⟩ = some (.slice ro rs.length rc) := fun w' h => ⟨h, (h.cell hb0).trans hc0, (h.cell hb0).trans hc1⟩
    go_region_held3 (fun w' => Below W1.heap.size W1 w' ∧ w'.cell? ⟨w.heap.size, 0, none⟩ = some (.int .i64 rs.length) ∧ w'.cell? ⟨w.heap.size, 1, none⟩ = some (.slice ro rs.length rc))
      (exact hS' _ (by first | exact m.below.drew | assumption))
      (first
        | (go_at_call 12; go_must (refine (HG.out _ (hr.below (And.left (by assumption : Below W1.heap.size W1 _ ∧ _)))).mono ?_); rintro e w3 ⟨rfl, hB3⟩; have hB5 := below_more (And.left (by assumption : Below W1.heap.size W1 _ ∧ _)) hB3)
        | (go_at_call 53; go_must (refine (HA.out _ (hr.below (And.left (by assumption : Below W1.heap.size W1 _ ∧ _)))).mono ?_); rintro e w3 ⟨ao, cap, rfl, hB3, -⟩; have hB5 := below_more (And.left (by assumption : Below W1.heap.size W1 _ ∧ _)) hB3))
    all_goals
      have hBB := below_more' HhB.out hB5
      clear hS' hB3 hB5
      have HhBB := Lib.hid hBB
      clear hBB
      go_wp2_with fail
      go_ret
      exact ⟨retB (by rw [HE.out]), HhBB.out⟩

set_option maxRecDepth 100000 in
set_option maxHeartbeats 2000000 in
theorem implConn_any (n : Int) (rs : List Int) (ro : Option Addr) (rc : Nat) (w : World) (hr : IntsAt w ro rs) (hrl : rs.length ≤ 1048576) :
    Calls Tryz.prog 56 #[.agg #[.int .i64 n, .slice ro rs.length rc]] w fun e w' => e = .returned (.bool (connB n rs)) ∧ Below w.heap.size w w' := by
  go_enter Tryz.func56, Tryz.ntmps56
  go_wp2_with fail
  generalize hW : w.alloc _ = W1
  obtain ⟨hB, -, k0⟩ := alloc1 hW
  replace hr := hr.below hB
  have hb0 := k0.lt
  have hc0 := k0.cell 0
  have hc1 := k0.cell 1
  simp at hc0 hc1
  clear hW k0
  have HhB := Lib.hid hB
  clear hB
  obtain ⟨m, hm0⟩ : ∃ m : Later W1, m.w = W1 := ⟨Later.refl _, rfl⟩
  refine (fun h => hm0 ▸ h) ?_
  clear hm0
  cases hv : isGraphB n rs
  · have HE := Lib.hid (connB_no hv)
    have hG := fun m : Later W1 => implIsGraph_any n rs ro rc m.w (hr.later m) hrl
    rw [hv] at hG
    refine wp_region_later m rfl (by kernel_rfl) (by kernel_rfl) ?_
    repeat (go_big_quiet_step ((first | (go_at_call 45; exact Calls.later _ (hG _)))))
    refine wpQuiet_nil ?_
    rintro _ ⟨m, rfl⟩
    go_wp2_with fail
    go_ret
    exact ⟨retB (by rw [HE.out]), below_later HhB.out m⟩
  · have HE := Lib.hid (connB_of hv)
    obtain ⟨rfl, g⟩ := VG.of hv
    have hg1 := g.pos
    have hg2 := g.le
    obtain ⟨hp1, hp2⟩ := g.pow
    have HA : Hid (∀ w : World, IntsAt w ro rs → Calls Tryz.prog 52 #[.agg #[.int .i64 rs.length, .slice ro rs.length rc], .int .i64 (2 ^ rs.length - 1 : Nat)] w (RetE w (ints (partsOf rs (2 ^ rs.length - 1))))) := Lib.hid fun w h => implParts_any rs (2 ^ rs.length - 1) ro rc w h hv (all_lt _)
    have HL : Hid (∀ w : World, Calls Tryz.prog 46 #[.agg #[.int .i64 rs.length, .slice ro rs.length rc]] w fun e w' => e = .returned (.int .i64 (2 ^ rs.length - 1 : Nat)) ∧ Below w.heap.size w w') := Lib.hid fun w => implAll_any _ _ hg2 w
    have HG : Hid (∀ w : World, IntsAt w ro rs → Calls Tryz.prog 45 #[.agg #[.int .i64 rs.length, .slice ro rs.length rc]] w fun e w' => e = .returned (.bool true) ∧ Below w.heap.size w w') := Lib.hid fun w h => by
      have := implIsGraph_any rs.length rs ro rc w h hrl
      rwa [hv] at this
    have hl1 := partsOf_len rs (2 ^ rs.length - 1)
    rw [← ints_len] at hl1 HE
    generalize ints (partsOf rs (2 ^ rs.length - 1)) = ps at *
    generalize 2 ^ rs.length - 1 = T1 at *
    have hS' : ∀ w', Below W1.heap.size W1 w' → Below W1.heap.size W1 w' ∧ w'.cell? ⟨w.heap.size, 0, none⟩ = some (.int .i64 rs.length) ∧ w'.cell? ⟨w.heap.size, 1, none⟩ = some (.slice ro rs.length rc) := fun w' h => ⟨h, (h.cell hb0).trans hc0, (h.cell hb0).trans hc1⟩
    go_region_held3 (fun w' => Below W1.heap.size W1 w' ∧ w'.cell? ⟨w.heap.size, 0, none⟩ = some (.int .i64 rs.length) ∧ w'.cell? ⟨w.heap.size, 1, none⟩ = some (.slice ro rs.length rc))
      (exact hS' _ (by first | exact m.below.drew | assumption))
      (first
        | (go_at_call 45; go_must (refine (HG.out _ (hr.below (And.left (by assumption : Below W1.heap.size W1 _ ∧ _)))).mono ?_); rintro e w3 ⟨rfl, hB3⟩; have hB5 := below_more (And.left (by assumption : Below W1.heap.size W1 _ ∧ _)) hB3)
        | (go_at_call 46; go_must (refine (HL.out _).mono ?_); rintro e w3 ⟨rfl, hB3⟩; have hB5 := below_more (And.left (by assumption : Below W1.heap.size W1 _ ∧ _)) hB3)
        | (go_at_call 52; go_must (refine (HA.out _ (hr.below (And.left (by assumption : Below W1.heap.size W1 _ ∧ _)))).mono ?_); rintro e w3 ⟨ao, cap, rfl, hB3, -⟩; have hB5 := below_more (And.left (by assumption : Below W1.heap.size W1 _ ∧ _)) hB3))
    all_goals
      have hBB := below_more' HhB.out hB5
      clear hS' hB3 hB5
      have HhBB := Lib.hid hBB
      clear hBB
      go_wp2_with fail
      go_ret
      exact ⟨retB (by rw [HE.out]), HhBB.out⟩

end Go.Proofs.YtjikmjhpmkakoaaGreatDoor
