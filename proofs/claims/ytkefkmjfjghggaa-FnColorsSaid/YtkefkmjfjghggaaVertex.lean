/-
  isVertex of the program. For at most 2^20 rows and vertices.
-/
import Derived.Test.YtkefkmjfjghggaaSets
namespace Go.Proofs.Ytkefkmjfjghggaa
open Go.RowKit

/-- All numbers of a list are vertices' numbers. -/
def vtx (n : Int) (l : List Int) : Bool := decide (∀ j, j < l.length → (decide (0 ≤ gi l j) && decide (gi l j ≤ n - 1)) = true)
theorem vtx_bad {n : Int} {l : List Int} {j : Nat} (hj : j < l.length) (h : (decide (0 ≤ gi l j) && decide (gi l j ≤ n - 1)) = false) : vtx n l = false := by
  unfold vtx; rw [decide_eq_false_iff_not]; intro a; rw [a j hj] at h; exact absurd h (by decide)
theorem vtx_ok {n : Int} {l : List Int} (h : ∀ j, j < l.length → (decide (0 ≤ gi l j) && decide (gi l j ≤ n - 1)) = true) : vtx n l = true := by unfold vtx; rw [decide_eq_true h]

/-- A graph, and the numbers are its vertices'. -/
def vtxB (n : Int) (rs l : List Int) : Bool := isGraphB n rs && vtx n l
theorem vtxB_inv {n : Int} {rs l : List Int} (h : isGraphB n rs = false) : vtxB n rs l = false := by unfold vtxB; rw [h]; rfl
theorem vtxB_of {n : Int} {rs l : List Int} (h : isGraphB n rs = true) : vtxB n rs l = vtx n l := by unfold vtxB; rw [h]; rfl

set_option maxHeartbeats 1000000 in
theorem isVertex_any (n : Int) (rs l : List Int) (ro lo : Option Addr) (rc lc : Nat) (w : World) (hr : IntsAt w ro rs) (hrl : rs.length ≤ 1048576) (hl : IntsAt w lo l) (hll : l.length ≤ 1048576) :
    Calls Try.prog 91 #[.agg #[.int .i64 n, .slice ro rs.length rc], .slice lo l.length lc] w fun e w' => e = .returned (.bool (vtxB n rs l)) ∧ Below w.heap.size w w' := by
  go_enter Try.func91, Try.ntmps91
  go_wp2_with fail
  generalize hW : w.alloc _ = W1
  obtain ⟨hB, -, k0⟩ := alloc1 hW
  replace hr := hr.below hB
  replace hl := hl.below hB
  have hb0 := k0.lt
  have hc0 := k0.cell 0
  have hc1 := k0.cell 1
  simp at hc0 hc1
  clear hW k0
  have HhB := Lib.hid hB
  clear hB
  cases hv : isGraphB n rs
  · have HE := Lib.hid (vtxB_inv (l := l) hv)
    go_loopw [9] (fun i wr => (∃ m : Later W1, wr = m.w) ∧ ∃ k : Nat, k ≤ l.length ∧ i = .int .i64 k) (fun i _ => l.length - (intOf i).toNat)
    case atStart => exact ⟨⟨Later.refl _, rfl⟩, 0, by omega, rfl⟩
    case round =>
      obtain ⟨⟨m, rfl⟩, k, hk, rfl⟩ := hrel
      by_cases hlt : k < l.length
      · obtain ⟨lb, lofs, rfl, hlb, hlc⟩ := hl (by omega)
        have hlk := hlc k hlt
        clear hlc
        cases h1 : (decide (0 ≤ gi l k) && decide (gi l k ≤ wrap64 (n - 1)))
        · go_wp2_with (first | (go_at_call 71; refine (within_any _ _ _ _).mono ?_; rintro e w' ⟨rfl, rfl⟩))
          go_ret
          exact ⟨retB (by rw [HE.out]), below_later HhB.out m⟩
        · go_wp2_with (first | (go_at_call 71; refine (within_any _ _ _ _).mono ?_; rintro e w' ⟨rfl, rfl⟩))
          go_roundw
          case rel => exact ⟨⟨m, rfl⟩, k + 1, by omega, by go_num⟩
          case measure => simp [intOf]; omega
      · go_wp2_with (first | (go_at_call 72; refine (Calls.later m (implIsGraph_any _ _ _ _ _ (hr.later m) hrl)).mono ?_; rintro e w' ⟨rfl, m, rfl⟩))
        go_ret
        exact ⟨retB (by rw [HE.out]), below_later HhB.out m⟩
  · have HE := Lib.hid (vtxB_of (l := l) hv)
    obtain ⟨rfl, g⟩ := VG.of hv
    have hg1 := g.pos
    have hg2 := g.le
    go_loopw [9] (fun i wr => (∃ m : Later W1, wr = m.w) ∧ ∃ k : Nat, k ≤ l.length ∧ i = .int .i64 k ∧ ∀ j, j < k → (decide (0 ≤ gi l j) && decide (gi l j ≤ (rs.length : Int) - 1)) = true) (fun i _ => l.length - (intOf i).toNat)
    case atStart => exact ⟨⟨Later.refl _, rfl⟩, 0, by omega, rfl, fun j h => by omega⟩
    case round =>
      obtain ⟨⟨m, rfl⟩, k, hk, rfl, hP⟩ := hrel
      have HhP := Lib.hid hP
      clear hP
      by_cases hlt : k < l.length
      · obtain ⟨lb, lofs, rfl, hlb, hlc⟩ := hl (by omega)
        have hlk := hlc k hlt
        have HN := Lib.hid (fun h => vtx_bad (n := rs.length) hlt h)
        have HY := Lib.hid (fun h => all_succ (p := fun j => (decide (0 ≤ gi l j) && decide (gi l j ≤ (rs.length : Int) - 1)) = true) HhP.out h)
        clear hlc
        generalize gi l k = x at *
        cases h1 : (decide (0 ≤ x) && decide (x ≤ (rs.length : Int) - 1))
        · go_wp2_with (first | (go_at_call 71; refine (within_any _ _ _ _).mono ?_; rintro e w' ⟨rfl, rfl⟩))
          go_ret
          exact ⟨retB (by rw [HE.out, HN.out h1]), below_later HhB.out m⟩
        · go_wp2_with (first | (go_at_call 71; refine (within_any _ _ _ _).mono ?_; rintro e w' ⟨rfl, rfl⟩))
          go_roundw
          case rel => exact ⟨⟨m, rfl⟩, k + 1, by omega, by go_num, HY.out h1⟩
          case measure => simp [intOf]; omega
      · have HM := Lib.hid (vtx_ok (n := rs.length) (l := l) (fun j hj => HhP.out j (by omega)))
        go_wp2_with (first | (go_at_call 72; refine (Calls.later m (implIsGraph_any _ _ _ _ _ (hr.later m) hrl)).mono ?_; rintro e w' ⟨rfl, m, rfl⟩))
        go_ret
        exact ⟨retB (by rw [HE.out, HM.out]), below_later HhB.out m⟩

end Go.Proofs.Ytkefkmjfjghggaa
