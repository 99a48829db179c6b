/-
  The walks of IsWay on both sides. For at most 2^20 rows and list elements; the program's wants that the list's capacity is at least its length.
-/
import Derived.Test.YtodknojhlnpboaaDistinct
namespace Go.Proofs.Ytodknojhlnpboaa
open Go.RowKit

def edgeAt (rs l : List Int) (j : Nat) : Bool := (gn rs (gi l (j - 1)).toNat).testBit (gi l j).toNat
def wayB (n : Int) (rs l : List Int) : Bool := vertsB n rs l && decide (1 ≤ l.length ∧ ∀ j, j < l.length → 1 ≤ j → edgeAt rs l j = true)
theorem wayB_no {n : Int} {rs l : List Int} (h : vertsB n rs l = false) : wayB n rs l = false := by unfold wayB; rw [h]; rfl
theorem wayB_nil {n : Int} {rs l : List Int} (h : l.length = 0) : wayB n rs l = false := by unfold wayB; rw [decide_eq_false (by omega), Bool.and_false]
theorem wayB_bad {n : Int} {rs l : List Int} {j : Nat} (h1 : 1 ≤ j) (h2 : j < l.length) (h : edgeAt rs l j = false) : wayB n rs l = false := by
  unfold wayB; rw [decide_eq_false, Bool.and_false]; rintro ⟨_, a⟩; rw [a j h2 h1] at h; cases h
theorem wayB_ok {n : Int} {rs l : List Int} (hv : vertsB n rs l = true) (h0 : 1 ≤ l.length) (h : ∀ j, j < l.length → 1 ≤ j → edgeAt rs l j = true) : wayB n rs l = true := by
  unfold wayB; rw [hv, Bool.true_and, decide_eq_true_eq]; exact ⟨h0, h⟩
/-- A vertex of a list of different vertices, as a natural number. -/
theorem vert_at {n : Int} {rs l : List Int} (h : vertsB n rs l = true) {j : Nat} (hj : j < l.length) : ∃ v : Nat, gi l j = v ∧ v < rs.length := by
  obtain ⟨a, b⟩ := ((vertsB_true.1 h).2 j hj).1
  exact ⟨(gi l j).toNat, by omega, by omega⟩

set_option maxHeartbeats 1000000 in
theorem specIsWay_any (n : Int) (rs l : List Int) (ro lo : Option Addr) (rc lc : Nat) (w : World) (hr : IntsAt w ro rs) (hrl : rs.length ≤ 1048576) (hl : IntsAt w lo l) (hll : l.length ≤ 1048576) :
    Calls Try.prog 22 #[.agg #[.int .i64 n, .slice ro rs.length rc], .slice lo l.length lc] w fun e w' => e = .returned (.bool (wayB n rs l)) ∧ Below w.heap.size w w' := by
  go_enter Try.func22, Try.ntmps22
  go_wp2_with fail
  generalize hW : w.alloc _ = W1
  obtain ⟨hB, -, k0⟩ := alloc1 hW
  replace hr := hr.below hB
  replace hl := hl.below hB
  have hb0 := k0.lt
  have hc0 := k0.cell 0
  have hc1 := k0.cell 1
  simp at hc0 hc1
  clear hW k0
  have HhB := Lib.hid hB
  clear hB
  obtain ⟨m, hm0⟩ : ∃ m : Later W1, m.w = W1 := ⟨Later.refl _, rfl⟩
  refine (fun h => hm0 ▸ h) ?_
  clear hm0
  cases hv : vertsB n rs l
  · have HE := Lib.hid (wayB_no hv)
    go_wp2_with (first | (go_at_call 60; refine (Calls.later m (l4Distinct_any _ _ _ _ _ _ _ _ (hr.later m) hrl (hl.later m) hll)).mono ?_; rintro e w' ⟨rfl, m, rfl⟩))
    go_ret
    exact ⟨retB (by rw [HE.out]), below_later HhB.out m⟩
  by_cases h0 : l.length = 0
  · have HE := Lib.hid (wayB_nil (n := n) (rs := rs) h0)
    have hz : ((l.length : Int) == 0) = true := by rw [h0]; rfl
    clear h0
    go_wp2_with (first | (go_at_call 60; refine (Calls.later m (l4Distinct_any _ _ _ _ _ _ _ _ (hr.later m) hrl (hl.later m) hll)).mono ?_; rintro e w' ⟨rfl, m, rfl⟩))
    go_ret
    exact ⟨retB (by rw [HE.out]), below_later HhB.out m⟩
  · have hz : ((l.length : Int) == 0) = false := by rw [beq_eq_false_iff_ne]; omega
    obtain ⟨rfl, g⟩ := VG.of (vertsB_true.1 hv).1
    go_wp2_with (first | (go_at_call 60; refine (Calls.later m (l4Distinct_any _ _ _ _ _ _ _ _ (hr.later m) hrl (hl.later m) hll)).mono ?_; rintro e w' ⟨rfl, m, rfl⟩))
    go_loopw [5] (fun i wr => (∃ m : Later W1, wr = m.w) ∧ ∃ k : Nat, 1 ≤ k ∧ k ≤ l.length ∧ i = .int .i64 k ∧ ∀ j, j < k → 1 ≤ j → edgeAt rs l j = true) (fun i _ => l.length - (intOf i).toNat)
    case atStart => exact ⟨⟨m, rfl⟩, 1, by omega, by omega, rfl, fun j h => by omega⟩
    case round =>
      obtain ⟨⟨m, rfl⟩, k, hk1, hk, rfl, hP⟩ := hrel
      have HhP := Lib.hid hP
      clear hP
      by_cases hlt : k < l.length
      · obtain ⟨lb, lofs, rfl, hlb, hlc⟩ := hl (by omega)
        have hlt1 : k - 1 < l.length := by omega
        obtain ⟨u, hu, hu2⟩ := vert_at hv hlt1
        obtain ⟨v, hv1, hv2⟩ := vert_at hv hlt
        have hcu := hlc (k - 1) hlt1
        have hcv := hlc k hlt
        rw [hu] at hcu
        rw [hv1] at hcv
        have HQ : Hid (edgeAt rs l k = (gn rs u).testBit v) := by show edgeAt rs l k = _; unfold edgeAt; rw [hu, hv1]; rfl
        clear hlc hu hv1
        have hE := fun m : Later W1 => l2Edge_any rs u v ro rc m.w (hr.later m) g hu2 hv2
        go_wp2_with fail
        cases he : (gn rs u).testBit v
        all_goals
          simp only [he] at hE
          refine wp_region_later m rfl (by kernel_rfl) (by kernel_rfl) ?_
          repeat (go_big_quiet_step ((first | (go_at_call 61; exact Calls.later _ (hE _)))))
          refine wpQuiet_nil ?_
          rintro _ ⟨m, rfl⟩
          go_wp2_with fail
        · go_ret
          exact ⟨retB (by rw [wayB_bad hk1 hlt (by rw [HQ.out, he])]), below_later HhB.out m⟩
        · go_roundw
          case rel => exact ⟨⟨m, rfl⟩, k + 1, by omega, by omega, by go_num, all_succ HhP.out (fun _ => by rw [HQ.out, he])⟩
          case measure => simp [intOf]; omega
      · have HE := Lib.hid (wayB_ok hv (by omega) (fun j h1 => HhP.out j (by omega)))
        go_wp2_with fail
        go_ret
        exact ⟨retB (by rw [HE.out]), below_later HhB.out m⟩

set_option maxHeartbeats 1000000 in
theorem implIsWay_any (n : Int) (rs l : List Int) (ro lo : Option Addr) (rc lc : Nat) (w : World) (hr : IntsAt w ro rs) (hrl : rs.length ≤ 1048576) (hl : IntsAt w lo l) (hll : l.length ≤ 1048576) (hcap : l.length ≤ lc) :
    Calls Try.prog 23 #[.agg #[.int .i64 n, .slice ro rs.length rc], .slice lo l.length lc] w fun e w' => e = .returned (.bool (wayB n rs l)) ∧ Below w.heap.size w w' := by
  by_cases h0 : l.length = 0
  · have HE := Lib.hid (wayB_nil (n := n) (rs := rs) h0)
    have hz : ((l.length : Int) == 0) = true := by rw [h0]; rfl
    clear h0
    go_enter Try.func23, Try.ntmps23
    go_wp2_with fail
    go_ret
    exact ⟨retB (by rw [HE.out]), (Below.refl _ _).alloc (Nat.le_refl _) _⟩
  have hz : ((l.length : Int) == 0) = false := by rw [beq_eq_false_iff_ne]; omega
  go_enter Try.func23, Try.ntmps23
  go_wp2_with fail
  generalize hW : w.alloc _ = W1
  obtain ⟨hB, -, k0⟩ := alloc1 hW
  replace hr := hr.below hB
  replace hl := hl.below hB
  have hb0 := k0.lt
  have hc0 := k0.cell 0
  have hc1 := k0.cell 1
  simp at hc0 hc1
  clear hW k0
  have HhB := Lib.hid hB
  clear hB
  obtain ⟨m, hm0⟩ : ∃ m : Later W1, m.w = W1 := ⟨Later.refl _, rfl⟩
  refine (fun h => hm0 ▸ h) ?_
  clear hm0
  cases hv : vertsB n rs l
  · have HE := Lib.hid (wayB_no hv)
    go_wp2_with (first | (go_at_call 62; refine (Calls.later m (areVertices_any _ _ _ _ _ _ _ _ (hr.later m) hrl (hl.later m) hll hcap)).mono ?_; rintro e w' ⟨rfl, m, rfl⟩))
    go_ret
    exact ⟨retB (by rw [HE.out]), below_later HhB.out m⟩
  · obtain ⟨rfl, g⟩ := VG.of (vertsB_true.1 hv).1
    have hg2 := g.le
    go_wp2_with (first | (go_at_call 62; refine (Calls.later m (areVertices_any _ _ _ _ _ _ _ _ (hr.later m) hrl (hl.later m) hll hcap)).mono ?_; rintro e w' ⟨rfl, m, rfl⟩))
    go_loopw [5] (fun i wr => (∃ m : Later W1, wr = m.w) ∧ ∃ k : Nat, 1 ≤ k ∧ k ≤ l.length ∧ i = .int .i64 k ∧ ∀ j, j < k → 1 ≤ j → edgeAt rs l j = true) (fun i _ => l.length - (intOf i).toNat)
    case atStart => exact ⟨⟨m, rfl⟩, 1, by omega, by omega, rfl, fun j h => by omega⟩
    case round =>
      obtain ⟨⟨m, rfl⟩, k, hk1, hk, rfl, hP⟩ := hrel
      have HhP := Lib.hid hP
      clear hP
      by_cases hlt : k < l.length
      · obtain ⟨lb, lofs, rfl, hlb, hlc⟩ := hl (by omega)
        obtain ⟨rb, rofs, rfl, hrb, hrc⟩ := hr.graph g
        have hlt1 : k - 1 < l.length := by omega
        obtain ⟨u, hu, hu2⟩ := vert_at hv hlt1
        obtain ⟨v, hv1, hv2⟩ := vert_at hv hlt
        have hcu := hlc (k - 1) hlt1
        have hcv := hlc k hlt
        rw [hu] at hcu
        rw [hv1] at hcv
        have HQ : Hid (edgeAt rs l k = (gn rs u).testBit v) := by show edgeAt rs l k = _; unfold edgeAt; rw [hu, hv1]; rfl
        clear hlc hu hv1
        have hE := fun m : Later W1 => has_any (gn rs u) v (by omega) (by omega) m.w
        simp only [Int.toNat_natCast, hasN_nat] at hE
        go_wp2_with fail
        cases he : (gn rs u).testBit v
        all_goals
          simp only [he] at hE
          refine wp_region_later m rfl (by kernel_rfl) (by kernel_rfl) ?_
          repeat (go_big_quiet_step ((first | (go_at_call 63; exact Calls.later_same _ (hE _)))))
          refine wpQuiet_nil ?_
          rintro _ ⟨m, rfl⟩
          go_wp2_with fail
        · go_ret
          exact ⟨retB (by rw [wayB_bad hk1 hlt (by rw [HQ.out, he])]), below_later HhB.out m⟩
        · go_roundw
          case rel => exact ⟨⟨m, rfl⟩, k + 1, by omega, by omega, by go_num, all_succ HhP.out (fun _ => by rw [HQ.out, he])⟩
          case measure => simp [intOf]; omega
      · have HE := Lib.hid (wayB_ok hv (by omega) (fun j h1 => HhP.out j (by omega)))
        go_wp2_with fail
        go_ret
        exact ⟨retB (by rw [HE.out]), below_later HhB.out m⟩

end Go.Proofs.Ytodknojhlnpboaa
