/-
  The walks of IsGraph, of the reference and of the program: both return isGraphB. For at most 2^20 rows.
  Lists of integers that a call itself makes and appends to; the walks of ListOf and CountSet on both sides. No conditions.
-/
import Derived.Test.YtjikmjhpmkakoaaGreatDoorPkCardCographs01
namespace Go.Proofs.YtjikmjhpmkakoaaGreatDoor
open Go.RowKit

/-! ### What a graph is -/
def rowOk (N : Nat) (rs : List Int) (v : Nat) : Bool := decide (0 ≤ gi rs v) && decide (gi rs v < pwN N) && !hasN (gi rs v) v
def pairOk (N : Nat) (rs : List Int) (v w : Nat) : Bool := !(hasN (gi rs v) w && (decide (gi rs w < 0) || decide (pwN N ≤ gi rs w) || !hasN (gi rs w) v))
def isGraphB (n : Int) (rs : List Int) : Bool := decide (1 ≤ n ∧ n ≤ 7 ∧ (rs.length : Int) = n ∧ (∀ v, v < rs.length → rowOk rs.length rs v = true) ∧ ∀ v, v < rs.length → ∀ w, w < v → hasN (gi rs v) w = hasN (gi rs w) v)

theorem isGraphB_range {n : Int} {rs : List Int} (h : (decide (1 ≤ n) && decide (n ≤ 7)) = false) : isGraphB n rs = false := by
  unfold isGraphB; simp only [decide_eq_false_iff_not]; rintro ⟨a, b, _⟩; simp [a, b] at h
theorem isGraphB_len {n : Int} {rs : List Int} (h : ¬ (rs.length : Int) = n) : isGraphB n rs = false := by
  unfold isGraphB; simp only [decide_eq_false_iff_not]; rintro ⟨_, _, a, _⟩; exact h a
theorem isGraphB_row {rs : List Int} {v : Nat} (hv : v < rs.length) (h : rowOk rs.length rs v = false) : isGraphB rs.length rs = false := by
  unfold isGraphB; simp only [decide_eq_false_iff_not]; rintro ⟨_, _, _, a, _⟩; rw [a v hv] at h; cases h
theorem isGraphB_sym {rs : List Int} {v w : Nat} (hv : v < rs.length) (hw : w < v) (h : ¬ hasN (gi rs v) w = hasN (gi rs w) v) : isGraphB rs.length rs = false := by
  unfold isGraphB; simp only [decide_eq_false_iff_not]; rintro ⟨_, _, _, _, a⟩; exact h (a v hv w hw)
theorem isGraphB_mk {rs : List Int} (h1 : 1 ≤ rs.length) (h2 : rs.length ≤ 7) (h3 : ∀ v, v < rs.length → rowOk rs.length rs v = true) (h4 : ∀ v, v < rs.length → ∀ w, w < v → hasN (gi rs v) w = hasN (gi rs w) v) : isGraphB rs.length rs = true := by
  unfold isGraphB; simp only [decide_eq_true_eq]; exact ⟨by omega, by omega, trivial, h3, h4⟩
theorem isGraphB_true {n : Int} {rs : List Int} (h : isGraphB n rs = true) : n = rs.length ∧ 1 ≤ rs.length ∧ rs.length ≤ 7 ∧ (∀ v, v < rs.length → rowOk rs.length rs v = true) ∧ ∀ v, v < rs.length → ∀ w, w < v → hasN (gi rs v) w = hasN (gi rs w) v := by
  unfold isGraphB at h; simp only [decide_eq_true_eq] at h; obtain ⟨a, b, c, d, e⟩ := h; exact ⟨c.symm, by omega, by omega, d, e⟩
theorem isGraphB_pair {rs : List Int} {v w : Nat} (hv : v < rs.length) (hw : w < rs.length) (h : pairOk rs.length rs v w = false) : isGraphB rs.length rs = false := by
  cases hb : isGraphB rs.length rs with
  | false => rfl
  | true =>
    obtain ⟨_, _, _, h3, h4⟩ := isGraphB_true hb
    have hr := h3 w hw
    have hr2 := h3 v hv
    unfold pairOk at h
    unfold rowOk at hr hr2
    simp only [Bool.and_eq_true, decide_eq_true_eq, Bool.not_eq_true', Bool.not_eq_false', Bool.or_eq_true] at h hr hr2
    obtain ⟨ha, hb'⟩ := h
    have hne : v ≠ w := by rintro rfl; rw [ha] at hr2; simp at hr2
    have hs : hasN (gi rs v) w = hasN (gi rs w) v := by
      rcases Nat.lt_or_gt_of_ne hne with h | h
      · exact (h4 w hw v h).symm
      · exact h4 v hv w h
    rw [ha] at hs
    rw [← hs] at hb'
    simp at hb'
    omega
theorem isGraphB_pairs {rs : List Int} (h1 : 1 ≤ rs.length) (h2 : rs.length ≤ 7) (h3 : ∀ v, v < rs.length → rowOk rs.length rs v = true) (h4 : ∀ v, v < rs.length → ∀ w, w < rs.length → pairOk rs.length rs v w = true) : isGraphB rs.length rs = true := by
  refine isGraphB_mk h1 h2 h3 fun v hv w hw => ?_
  have a := h4 v hv w (by omega)
  have b := h4 w (by omega) v hv
  unfold pairOk at a b
  cases h5 : hasN (gi rs v) w <;> cases h6 : hasN (gi rs w) v <;> simp_all

set_option maxRecDepth 100000 in
set_option maxHeartbeats 1000000 in
theorem specIsGraph_any (n : Int) (rs : List Int) (ro : Option Addr) (rc : Nat) (w : World) (hr : IntsAt w ro rs) (hrl : rs.length ≤ 1048576) :
    Calls Tryz.prog 12 #[.agg #[.int .i64 n, .slice ro rs.length rc]] w fun e w' => e = .returned (.bool (isGraphB n rs)) ∧ Below w.heap.size w w' := by
  go_enter Tryz.func12, Tryz.ntmps12
  go_wp2_with fail
  generalize hW : w.alloc _ = W1
  obtain ⟨hB, -, k0⟩ := alloc1 hW
  replace hr := hr.below hB
  have hb0 := k0.lt
  have hc0 := k0.cell 0
  have hc1 := k0.cell 1
  simp at hc0 hc1
  clear hW k0
  have HhB := Lib.hid hB
  clear hB
  obtain ⟨m, hm0⟩ : ∃ m : Later W1, m.w = W1 := ⟨Later.refl _, rfl⟩
  refine (fun h => hm0 ▸ h) ?_
  clear hm0
  cases h1 : (decide (1 ≤ n) && decide (n ≤ 7))
  · have HE := Lib.hid (isGraphB_range (rs := rs) h1)
    go_wp2_with (first | (go_at_call 54; refine (l1In_any _ _ _ _).mono ?_; rintro e w' ⟨rfl, rfl⟩))
    go_ret
    exact ⟨retB (by rw [HE.out]), below_later HhB.out m⟩
  by_cases h2 : (rs.length : Int) = n
  · subst h2
    have h1' := h1
    simp only [Bool.and_eq_true, decide_eq_true_eq] at h1'
    obtain ⟨h3, h4⟩ := h1'
    have hp : pwN rs.length = ((2 ^ rs.length : Nat) : Int) := pwN_small _ (by omega)
    have Hhp := Lib.hid hp
    clear hp
    go_wp2_with (first | (go_at_call 54; refine (l1In_any _ _ _ _).mono ?_; rintro e w' ⟨rfl, rfl⟩))
    go_loopw [3] (fun i wr => (∃ m : Later W1, wr = m.w) ∧ ∃ k : Nat, k ≤ rs.length ∧ i = .int .i64 k ∧ ∀ v, v < k → rowOk rs.length rs v = true ∧ ∀ w, w < rs.length → pairOk rs.length rs v w = true) (fun i _ => rs.length - (intOf i).toNat)
    case atStart => exact ⟨⟨m, rfl⟩, 0, by omega, rfl, fun v h => by omega⟩
    case round =>
      obtain ⟨⟨m, rfl⟩, k, hk, rfl, hP⟩ := hrel
      have HhP := Lib.hid hP
      clear hP
      by_cases hlt : k < rs.length
      · obtain ⟨rb, rofs, rfl, hrb, hrc⟩ := hr (by omega)
        go_wp2_with fail
        have HR : Hid (rowOk rs.length rs k = (decide (0 ≤ gi rs k) && decide (gi rs k < pwN rs.length) && !hasN (gi rs k) k)) := rfl
        by_cases g1 : gi rs k < 0
        · refine wp_region_later m rfl (by kernel_rfl) (by kernel_rfl) ?_
          repeat (go_big_quiet_step (fail))
          refine wpQuiet_nil ?_
          rintro _ ⟨m, rfl⟩
          go_wp2_with fail
          go_ret
          exact ⟨retB (by rw [isGraphB_row (v := k) (by omega) (by rw [HR.out, decide_eq_false (by omega)]; rfl)]), below_later HhB.out m⟩
        by_cases g2 : pwN rs.length ≤ gi rs k
        · refine wp_region_later m rfl (by kernel_rfl) (by kernel_rfl) ?_
          repeat (go_big_quiet_step (fail))
          refine wpQuiet_nil ?_
          rintro _ ⟨m, rfl⟩
          go_wp2_with fail
          go_ret
          exact ⟨retB (by rw [isGraphB_row (v := k) (by omega) (by rw [HR.out, decide_eq_false (p := gi rs k < pwN rs.length) (by omega)]; simp)]), below_later HhB.out m⟩
        cases g3 : hasN (gi rs k) k
        · have hok : rowOk rs.length rs k = true := by rw [HR.out, decide_eq_true (by omega), decide_eq_true (by omega), g3]; rfl
          have Hhok := Lib.hid hok
          clear hok
          clear HR
          refine wp_region_later m rfl (by kernel_rfl) (by kernel_rfl) ?_
          repeat (go_big_quiet_step (fail))
          refine wpQuiet_nil ?_
          rintro _ ⟨m, rfl⟩
          go_wp2_with fail
          go_loopw [4] (fun i wr => (∃ m : Later W1, wr = m.w) ∧ ∃ j : Nat, j ≤ rs.length ∧ i = .int .i64 j ∧ ∀ w, w < j → pairOk rs.length rs k w = true) (fun i _ => rs.length - (intOf i).toNat)
          case atStart => exact ⟨⟨m, rfl⟩, 0, by omega, rfl, fun v h => by omega⟩
          case round =>
            obtain ⟨⟨m, rfl⟩, j, hj, rfl, hJ⟩ := hrel
            have HhJ := Lib.hid hJ
            clear hJ
            by_cases hjt : j < rs.length
            · go_wp2_with fail
              have HQ : Hid (pairOk rs.length rs k j = !(hasN (gi rs k) j && (decide (gi rs j < 0) || decide (pwN rs.length ≤ gi rs j) || !hasN (gi rs j) k))) := rfl
              cases i1 : hasN (gi rs k) j
              · have hq : pairOk rs.length rs k j = true := by rw [HQ.out, i1]; rfl
                have Hhq := Lib.hid hq
                clear hq
                clear HQ
                refine wp_region_later m rfl (by kernel_rfl) (by kernel_rfl) ?_
                repeat (go_big_quiet_step (fail))
                refine wpQuiet_nil ?_
                rintro _ ⟨m, rfl⟩
                go_wp2_with fail
                go_roundw
                case rel => exact ⟨⟨m, rfl⟩, j + 1, by omega, by go_num, all_succ HhJ.out Hhq.out⟩
                case measure => simp [intOf]; omega
              by_cases i2 : gi rs j < 0
              · refine wp_region_later m rfl (by kernel_rfl) (by kernel_rfl) ?_
                repeat (go_big_quiet_step (fail))
                refine wpQuiet_nil ?_
                rintro _ ⟨m, rfl⟩
                go_wp2_with fail
                go_ret
                exact ⟨retB (by rw [isGraphB_pair (v := k) (w := j) (by omega) (by omega) (by rw [HQ.out, i1, decide_eq_true i2]; rfl)]), below_later HhB.out m⟩
              by_cases i3 : pwN rs.length ≤ gi rs j
              · refine wp_region_later m rfl (by kernel_rfl) (by kernel_rfl) ?_
                repeat (go_big_quiet_step (fail))
                refine wpQuiet_nil ?_
                rintro _ ⟨m, rfl⟩
                go_wp2_with fail
                go_ret
                exact ⟨retB (by rw [isGraphB_pair (v := k) (w := j) (by omega) (by omega) (by rw [HQ.out, i1, decide_eq_true i3]; simp)]), below_later HhB.out m⟩
              cases i4 : hasN (gi rs j) k
              · refine wp_region_later m rfl (by kernel_rfl) (by kernel_rfl) ?_
                repeat (go_big_quiet_step (fail))
                refine wpQuiet_nil ?_
                rintro _ ⟨m, rfl⟩
                go_wp2_with fail
                go_ret
                exact ⟨retB (by rw [isGraphB_pair (v := k) (w := j) (by omega) (by omega) (by rw [HQ.out, i1, i4]; simp)]), below_later HhB.out m⟩
              · have hq : pairOk rs.length rs k j = true := by rw [HQ.out, i1, i4, decide_eq_false (by omega), decide_eq_false (by omega)]; rfl
                have Hhq := Lib.hid hq
                clear hq
                clear HQ
                refine wp_region_later m rfl (by kernel_rfl) (by kernel_rfl) ?_
                repeat (go_big_quiet_step (fail))
                refine wpQuiet_nil ?_
                rintro _ ⟨m, rfl⟩
                go_wp2_with fail
                go_roundw
                case rel => exact ⟨⟨m, rfl⟩, j + 1, by omega, by go_num, all_succ HhJ.out Hhq.out⟩
                case measure => simp [intOf]; omega
            · go_wp2_with fail
              go_roundw
              case rel => exact ⟨⟨m, rfl⟩, k + 1, by omega, by go_num, all_succ HhP.out ⟨Hhok.out, fun w hw => HhJ.out w (by omega)⟩⟩
              case measure => simp [intOf]; omega
        · refine wp_region_later m rfl (by kernel_rfl) (by kernel_rfl) ?_
          repeat (go_big_quiet_step (fail))
          refine wpQuiet_nil ?_
          rintro _ ⟨m, rfl⟩
          go_wp2_with fail
          go_ret
          exact ⟨retB (by rw [isGraphB_row (v := k) (by omega) (by rw [HR.out, g3]; simp)]), below_later HhB.out m⟩
      · go_wp2_with fail
        go_ret
        exact ⟨retB (by rw [isGraphB_pairs (by omega) (by omega) (fun v hv => (HhP.out v (by omega)).1) (fun v hv => (HhP.out v (by omega)).2)]), below_later HhB.out m⟩
  · have hb : ((rs.length : Int) != n) = true := by simpa using h2
    have HE := Lib.hid (isGraphB_len h2)
    clear h2
    go_wp2_with (first | (go_at_call 54; refine (l1In_any _ _ _ _).mono ?_; rintro e w' ⟨rfl, rfl⟩))
    go_ret
    exact ⟨retB (by rw [HE.out]), below_later HhB.out m⟩

theorem pwN_pos (N : Nat) (h : N ≤ 7) : 1 ≤ pwN N ∧ pwN N ≤ 128 := by
  rw [pwN_small N (by omega)]
  have := Nat.two_pow_pos N
  have : 2 ^ N ≤ 2 ^ 7 := Nat.pow_le_pow_right (by decide) h
  omega

set_option maxRecDepth 100000 in
set_option maxHeartbeats 1000000 in
theorem implIsGraph_any (n : Int) (rs : List Int) (ro : Option Addr) (rc : Nat) (w : World) (hr : IntsAt w ro rs) (hrl : rs.length ≤ 1048576) :
    Calls Tryz.prog 45 #[.agg #[.int .i64 n, .slice ro rs.length rc]] w fun e w' => e = .returned (.bool (isGraphB n rs)) ∧ Below w.heap.size w w' := by
  go_enter Tryz.func45, Tryz.ntmps45
  go_wp2_with fail
  generalize hW : w.alloc _ = W1
  obtain ⟨hB, -, k0⟩ := alloc1 hW
  replace hr := hr.below hB
  have hb0 := k0.lt
  have hc0 := k0.cell 0
  have hc1 := k0.cell 1
  simp at hc0 hc1
  clear hW k0
  have HhB := Lib.hid hB
  clear hB
  obtain ⟨m, hm0⟩ : ∃ m : Later W1, m.w = W1 := ⟨Later.refl _, rfl⟩
  refine (fun h => hm0 ▸ h) ?_
  clear hm0
  cases h1 : (decide (1 ≤ n) && decide (n ≤ 7))
  · have HE := Lib.hid (isGraphB_range (rs := rs) h1)
    go_wp2_with (first | (go_at_call 59; refine (within_any _ _ _ _).mono ?_; rintro e w' ⟨rfl, rfl⟩))
    go_ret
    exact ⟨retB (by rw [HE.out]), below_later HhB.out m⟩
  by_cases h2 : (rs.length : Int) = n
  · subst h2
    have h1' := h1
    simp only [Bool.and_eq_true, decide_eq_true_eq] at h1'
    obtain ⟨h3, h4⟩ := h1'
    obtain ⟨hp1, hp2⟩ := pwN_pos rs.length (by omega)
    go_wp2_with (first | (go_at_call 59; refine (within_any _ _ _ _).mono ?_; rintro e w' ⟨rfl, rfl⟩))
    go_loopw [23] (fun i wr => (∃ m : Later W1, wr = m.w) ∧ ∃ k : Nat, k ≤ rs.length ∧ i = .int .i64 k ∧ ∀ v, v < k → rowOk rs.length rs v = true) (fun i _ => rs.length - (intOf i).toNat)
    case atStart => exact ⟨⟨m, rfl⟩, 0, by omega, rfl, fun v h => by omega⟩
    case round =>
      obtain ⟨⟨m, rfl⟩, k, hk, rfl, hP⟩ := hrel
      have HhP := Lib.hid hP
      clear hP
      by_cases hlt : k < rs.length
      · obtain ⟨rb, rofs, rfl, hrb, hrc⟩ := hr (by omega)
        have HR : Hid (rowOk rs.length rs k = (decide (0 ≤ gi rs k) && decide (gi rs k < pwN rs.length) && !hasN (gi rs k) k)) := rfl
        cases g1 : (decide (0 ≤ gi rs k) && decide (gi rs k ≤ pwN rs.length - 1))
        · have HE : Hid (rowOk rs.length rs k = false) := by
            show rowOk rs.length rs k = false
            rw [HR.out]
            simp only [Bool.and_eq_false_iff, decide_eq_false_iff_not] at g1 ⊢
            omega
          go_wp2_with (first | (go_at_call 59; refine (within_any _ _ _ _).mono ?_; rintro e w' ⟨rfl, rfl⟩))
          go_ret
          exact ⟨retB (by rw [isGraphB_row (v := k) (by omega) HE.out]), below_later HhB.out m⟩
        cases g3 : hasN (gi rs k) k
        · have hok : rowOk rs.length rs k = true := by
            rw [HR.out, g3]
            simp only [Bool.and_eq_true, decide_eq_true_eq] at g1
            rw [decide_eq_true (by omega), decide_eq_true (by omega)]; rfl
          have Hhok := Lib.hid hok
          clear hok
          clear HR
          go_wp2_with (first | (go_at_call 59; refine (within_any _ _ _ _).mono ?_; rintro e w' ⟨rfl, rfl⟩) | (go_at_call 60; refine (has_any _ _ (by omega) (by omega) _).mono ?_; rintro e w' ⟨rfl, rfl⟩))
          go_roundw
          case rel => exact ⟨⟨m, rfl⟩, k + 1, by omega, by go_num, all_succ HhP.out Hhok.out⟩
          case measure => simp [intOf]; omega
        · go_wp2_with (first | (go_at_call 59; refine (within_any _ _ _ _).mono ?_; rintro e w' ⟨rfl, rfl⟩) | (go_at_call 60; refine (has_any _ _ (by omega) (by omega) _).mono ?_; rintro e w' ⟨rfl, rfl⟩))
          go_ret
          exact ⟨retB (by rw [isGraphB_row (v := k) (by omega) (by rw [HR.out, g3]; simp)]), below_later HhB.out m⟩
      · go_wp2_with fail
        have hRows : ∀ v, v < rs.length → rowOk rs.length rs v = true := fun v hv => HhP.out v (by omega)
        clear HhP
        have HhRows := Lib.hid hRows
        clear hRows
        go_loopw [44] (fun i wr => (∃ m : Later W1, wr = m.w) ∧ ∃ k : Nat, k ≤ rs.length ∧ i = .int .i64 k ∧ ∀ v, v < k → ∀ w, w < v → hasN (gi rs v) w = hasN (gi rs w) v) (fun i _ => rs.length - (intOf i).toNat)
        case atStart => exact ⟨⟨m, rfl⟩, 0, by omega, rfl, fun v h => by omega⟩
        case round =>
          obtain ⟨⟨m, rfl⟩, k, hk, rfl, hP⟩ := hrel
          have HhP := Lib.hid hP
          clear hP
          by_cases hlt : k < rs.length
          · obtain ⟨rb, rofs, rfl, hrb, hrc⟩ := hr (by omega)
            go_wp2_with fail
            go_loopw [50] (fun i wr => (∃ m : Later W1, wr = m.w) ∧ ∃ j : Nat, j ≤ k ∧ i = .int .i64 j ∧ ∀ w, w < j → hasN (gi rs k) w = hasN (gi rs w) k) (fun i _ => k - (intOf i).toNat)
            case atStart => exact ⟨⟨m, rfl⟩, 0, by omega, rfl, fun v h => by omega⟩
            case round =>
              obtain ⟨⟨m, rfl⟩, j, hj, rfl, hJ⟩ := hrel
              have HhJ := Lib.hid hJ
              clear hJ
              by_cases hjt : j < k
              · have hjr : j < rs.length := by omega
                go_wp2_with fail
                cases i1 : (hasN (gi rs k) j == hasN (gi rs j) k)
                · refine wp_region_later m rfl (by kernel_rfl) (by kernel_rfl) ?_
                  repeat (go_big_quiet_step ((first | (go_at_call 60; exact Calls.later_same _ (has_any _ _ (by omega) (by omega) _)))))
                  refine wpQuiet_nil ?_
                  rintro _ ⟨m, rfl⟩
                  go_wp2_with fail
                  go_ret
                  exact ⟨retB (by rw [isGraphB_sym (v := k) (w := j) (by omega) (by omega) (by simpa using i1)]), below_later HhB.out m⟩
                · have hq : hasN (gi rs k) j = hasN (gi rs j) k := by simpa using i1
                  have Hhq := Lib.hid hq
                  clear hq
                  refine wp_region_later m rfl (by kernel_rfl) (by kernel_rfl) ?_
                  repeat (go_big_quiet_step ((first | (go_at_call 60; exact Calls.later_same _ (has_any _ _ (by omega) (by omega) _)))))
                  refine wpQuiet_nil ?_
                  rintro _ ⟨m, rfl⟩
                  go_wp2_with fail
                  go_roundw
                  case rel => exact ⟨⟨m, rfl⟩, j + 1, by omega, by go_num, all_succ HhJ.out Hhq.out⟩
                  case measure => simp [intOf]; omega
              · go_wp2_with fail
                go_roundw
                case rel => exact ⟨⟨m, rfl⟩, k + 1, by omega, by go_num, all_succ HhP.out (fun w hw => HhJ.out w (by omega))⟩
                case measure => simp [intOf]; omega
          · go_wp2_with fail
            go_ret
            exact ⟨retB (by rw [isGraphB_mk (by omega) (by omega) HhRows.out (fun v hv => HhP.out v (by omega))]), below_later HhB.out m⟩
  · have hb : ((rs.length : Int) != n) = true := by simpa using h2
    have HE := Lib.hid (isGraphB_len h2)
    clear h2
    go_wp2_with (first | (go_at_call 59; refine (within_any _ _ _ _).mono ?_; rintro e w' ⟨rfl, rfl⟩))
    go_ret
    exact ⟨retB (by rw [HE.out]), below_later HhB.out m⟩

end Go.Proofs.YtjikmjhpmkakoaaGreatDoor

namespace Go.Proofs.YtjikmjhpmkakoaaGreatDoor
open Go.RowKit

/-- The slice value v owns the integers xs in a row of the call's own, from block 'base' on. -/
def OwnL (w : World) (base : Nat) (v : Value) (xs : List Int) : Prop := w.ownsRow base 3 1 v xs.length (xs.map (Value.int .i64))
theorem OwnL.ints {w : World} {base n cap : Nat} {ao : Option Addr} {xs : List Int} (h : OwnL w base (.slice ao n cap) xs) : IntsAt w ao xs := fun h0 => by
  obtain ⟨hl, h1 | ⟨g, cp, cur, hv, hg, hb, hn, hm, hsz, ht⟩⟩ := h
  · omega
  · simp only [Value.slice.injEq] at hv
    obtain ⟨rfl, -, -⟩ := hv
    refine ⟨g, 0, rfl, (Array.getElem?_eq_some_iff.1 hb).1, fun k hk => ?_⟩
    have : cur[k]? = some (.int .i64 (gi xs k)) := by
      have e : (cur.toList.take (xs.length * 1))[k]? = (xs.map (Value.int .i64))[k]? := by rw [ht]
      rw [List.getElem?_take, if_pos (by omega), Array.getElem?_toList] at e
      rw [e]; simp [gi, hk]
    rw [Nat.zero_add]
    simp only [World.cell?, hb]
    simpa using this
theorem OwnL.form {w : World} {base : Nat} {v : Value} {xs : List Int} (h : OwnL w base v xs) : ∃ ao cap, v = .slice ao xs.length cap := by
  obtain ⟨hl, ⟨h1, h2⟩ | ⟨g, cp, cur, hv, -⟩⟩ := h
  · exact ⟨none, 0, by rw [h1, h2]⟩
  · exact ⟨_, _, hv⟩
theorem OwnL.alloc {w : World} {base : Nat} {v : Value} {xs : List Int} (h : OwnL w base v xs) (o : Obj) : OwnL (w.alloc o) base v xs := World.ownsRow.alloc h o
theorem OwnL.mono {w : World} {base base' : Nat} {v : Value} {xs : List Int} (h : OwnL w base v xs) (hb : base' ≤ base) : OwnL w base' v xs := by
  obtain ⟨h0, h1 | ⟨g, cap, cur, hv, hg, r⟩⟩ := h
  · exact ⟨h0, .inl h1⟩
  · exact ⟨h0, .inr ⟨g, cap, cur, hv, Nat.le_trans hb hg, r⟩⟩
theorem OwnL.below {w w' : World} {base : Nat} {v : Value} {xs : List Int} (h : OwnL w base v xs) (hb : Below w.heap.size w w') : OwnL w' base v xs := by
  obtain ⟨h0, h1 | ⟨g, cap, cur, hv, hg, hh, r⟩⟩ := h
  · exact ⟨h0, .inl h1⟩
  · exact ⟨h0, .inr ⟨g, cap, cur, hv, hg, by rw [hb.block g (Array.getElem?_eq_some_iff.1 hh).1]; exact hh, r⟩⟩
theorem OwnL.nil (w : World) (base : Nat) : OwnL w base (.slice none 0 0) [] := World.ownsRow_nil _ _ _ _
/-- '[]int{}' -/
theorem OwnL.empty (w : World) : OwnL (w.alloc (.cells #[] 3)) w.heap.size (.slice (some ⟨w.heap.size, 0, none⟩) 0 0) [] :=
  ⟨by simp, .inr ⟨w.heap.size, 0, #[], rfl, Nat.le_refl _, by show (w.heap.push _)[w.heap.size]? = _; simp, Nat.le_refl _, by simp, by simp, by simp⟩⟩

/-- 'out = append(out, y)', out the call's own. -/
theorem wpList_append_int {ops : Array Oper} {rest : List Oper} {o : Oper} {a : Act} {Q : Exit → Act → World → Prop} {w : World} (hgd : o.guard = none) (s x : Operand)
    (ho : o.op = .call { callee := .builtin .append, args := #[s, x], argTypes := #[24, 24] })
    (base : Nat) (v : Value) (xs : List Int) (y : Int) (hs : a.eval s = v) (hown : OwnL w base v xs) (hx : a.eval x = .slice (some ⟨w.heap.size, 0, none⟩) 1 1) (hbase : base ≤ w.heap.size) (hlen : xs.length ≤ 1048576)
    (h : ∀ ao cap w', OwnL w' base (.slice ao (xs.length + 1) cap) (xs ++ [y]) → Below base w w' → wpList Tryz.prog ops Q rest (a.put o.dst (.slice ao (xs.length + 1) cap)) w') :
    wpList Tryz.prog ops Q (o :: rest) a (w.alloc (.cells #[.int .i64 y] 3)) := by
  obtain ⟨i0, hi, hz0, hz1, hz2⟩ := info_parts info_int
  refine wpList_append_own (w.alloc (.cells #[.int .i64 y] 3)) hgd s x 24 ho base 3 i0 (.int .i64 0) 1 8 Tryz.underlying24 hi hz0 hz1 hz2 rfl (by decide) v xs.length (xs.map (Value.int .i64)) hs (hown.alloc _)
    ⟨w.heap.size, 0, none⟩ 1 1 [.int .i64 y] hx rfl ?_ ?_ (by unfold maxLen; omega) (by omega) (by simp; omega) ?_
  · intro j u hj
    match j, hj with
    | 0, hj => simp at hj; subst hj; simp [Addr.add]
  · intro u hu; simp at hu; subst hu; rfl
  · intro v' w' h1 h2 _
    have h3 : OwnL w' base v' (xs ++ [y]) := by unfold OwnL; simpa using h1
    obtain ⟨ao, cap, rfl⟩ := h3.form
    have e : (xs ++ [y]).length = xs.length + 1 := by simp
    rw [e] at h3 ⊢
    refine h ao cap w' h3 ?_
    have hb : Below base w (w.alloc (.cells #[.int .i64 y] 3)) := (Below.refl _ _).alloc hbase _
    exact hb.grown h2 (by simp; omega) (fun k hk => (hown.lt k hk).1)

/-! ### ListOf -/
def listUpto (s : Int) (k : Nat) : List Int := ((List.range k).filter (fun v => hasN s v)).map Int.ofNat
theorem listUpto_yes {s : Int} {k : Nat} (h : hasN s k = true) : listUpto s (k + 1) = listUpto s k ++ [(k : Int)] := by
  unfold listUpto; rw [List.range_succ, List.filter_append]; simp [h]
theorem listUpto_no {s : Int} {k : Nat} (h : hasN s k = false) : listUpto s (k + 1) = listUpto s k := by
  unfold listUpto; rw [List.range_succ, List.filter_append]; simp [h]
theorem listUpto_len (s : Int) (k : Nat) : (listUpto s k).length ≤ k := by
  unfold listUpto; rw [List.length_map]; exact Nat.le_trans (List.length_filter_le _ _) (by simp)
def listOf (s : Int) : List Int := if 0 ≤ s ∧ s ≤ 127 then listUpto s 7 else []
theorem listOf_out {s : Int} (h : (decide (0 ≤ s) && decide (s ≤ 127)) = false) : listOf s = [] := by unfold listOf; rw [if_neg]; rintro ⟨a, b⟩; simp [a, b] at h
theorem listOf_in {s : Int} (h : (decide (0 ≤ s) && decide (s ≤ 127)) = true) : listOf s = listUpto s 7 := by unfold listOf; rw [if_pos]; simpa using h
theorem listOf_len (s : Int) : (listOf s).length ≤ 7 := by unfold listOf; split; exact listUpto_len s 7; simp

theorem l3Fine_any (s : Int) (w : World) : Calls Tryz.prog 113 #[.int .i64 s] w fun e w' => e = .returned (.bool (decide (0 ≤ s) && decide (s ≤ 127))) ∧ w = w' := by
  go_enter Tryz.func113, Tryz.ntmps113
  go_wp2_with (first | (go_at_call 54; refine (l1In_any _ _ _ _).mono ?_; rintro e w' ⟨rfl, rfl⟩))
  go_ret
  exact ⟨rfl, rfl⟩

/-- What a call says that hands back a list of its own. -/
def RetL (w : World) (xs : List Int) (e : Ending) (w' : World) : Prop := ∃ ao cap, e = .returned (.slice ao xs.length cap) ∧ Below w.heap.size w w' ∧ OwnL w' w.heap.size (.slice ao xs.length cap) xs

set_option maxHeartbeats 1000000 in
theorem specListOf_any (s : Int) (w : World) : Calls Tryz.prog 64 #[.int .i64 s] w (RetL w (listOf s)) := by
  go_enter Tryz.func64, Tryz.ntmps64
  go_wp2_with fail
  cases hv : (decide (0 ≤ s) && decide (s ≤ 127))
  · have HE := Lib.hid (listOf_out hv)
    go_loopw [3, 4] (fun o i wr => wr = w.alloc (.cells #[] 3) ∧ o = .slice (some ⟨w.heap.size, 0, none⟩) 0 0 ∧ i = .int .i64 0) (fun _ _ _ => 0)
    case atStart => exact ⟨rfl, rfl, rfl⟩
    case round =>
      obtain ⟨rfl, rfl, rfl⟩ := hrel
      go_wp2_with (first | (go_at_call 113; refine (l3Fine_any _ _).mono ?_; rintro e w' ⟨rfl, rfl⟩))
      go_ret
      exact ⟨some ⟨w.heap.size, 0, none⟩, 0, by rw [HE.out]; rfl, (Below.refl _ _).alloc (Nat.le_refl _) _, by rw [HE.out]; exact OwnL.empty w⟩
  · have HE := Lib.hid (listOf_in hv)
    go_loopw [3, 4] (fun o i wr => ∃ k : Nat, k ≤ 7 ∧ i = .int .i64 k ∧ ∃ ao cap, o = .slice ao (listUpto s k).length cap ∧ OwnL wr w.heap.size (.slice ao (listUpto s k).length cap) (listUpto s k) ∧ Below w.heap.size w wr) (fun _ i _ => 7 - (intOf i).toNat)
    case atStart => exact ⟨0, by omega, rfl, _, _, rfl, OwnL.empty w, (Below.refl _ _).alloc (Nat.le_refl _) _⟩
    case round =>
      obtain ⟨k, hk, rfl, ao, cap, rfl, hown, hB⟩ := hrel
      have hBs := hB.size
      have hl := listUpto_len s k
      have HB := Lib.hid hB
      have HO := Lib.hid hown
      clear hB hown
      by_cases hlt : k < 7
      · cases hb : hasN s k
        · have HU := Lib.hid (listUpto_no hb)
          go_wp2_with (first | (go_at_call 113; refine (l3Fine_any _ _).mono ?_; rintro e w' ⟨rfl, rfl⟩))
          go_roundw
          case rel => exact ⟨k + 1, by omega, by go_num, ao, cap, by rw [HU.out], by rw [HU.out]; exact HO.out, HB.out⟩
          case measure => simp [intOf]; omega
        · have HU := Lib.hid (listUpto_yes hb)
          go_wp2_with (first | (go_at_call 113; refine (l3Fine_any _ _).mono ?_; rintro e w' ⟨rfl, rfl⟩) | (at_builtin; go_must (refine wpList_append_int rfl _ _ rfl w.heap.size (.slice ao (listUpto s k).length cap) _ _ rfl HO.out rfl (by omega) (by omega) ?_); intro ao' cap' w1 hown1 hB1))
          go_roundw
          case rel => exact ⟨k + 1, by omega, by go_num, ao', cap', by rw [HU.out]; simp, by rw [HU.out]; simpa using hown1, HB.out.trans hB1⟩
          case measure => simp [intOf]; omega
      · go_wp2_with (first | (go_at_call 113; refine (l3Fine_any _ _).mono ?_; rintro e w' ⟨rfl, rfl⟩))
        go_ret
        obtain rfl : k = 7 := by omega
        exact ⟨ao, cap, by rw [HE.out]; rfl, HB.out, by rw [HE.out]; exact HO.out⟩

set_option maxHeartbeats 1000000 in
theorem implListOf_any (s : Int) (w : World) : Calls Tryz.prog 47 #[.int .i64 s] w (RetL w (listOf s)) := by
  go_enter Tryz.func47, Tryz.ntmps47
  go_wp2_with fail
  cases hv : (decide (0 ≤ s) && decide (s ≤ 127))
  · have HE := Lib.hid (listOf_out hv)
    go_wp2_with (first | (go_at_call 59; refine (within_any _ _ _ _).mono ?_; rintro e w' ⟨rfl, rfl⟩))
    go_ret
    exact ⟨some ⟨w.heap.size, 0, none⟩, 0, by rw [HE.out]; rfl, (Below.refl _ _).alloc (Nat.le_refl _) _, by rw [HE.out]; exact OwnL.empty w⟩
  · have HE := Lib.hid (listOf_in hv)
    go_wp2_with (first | (go_at_call 59; refine (within_any _ _ _ _).mono ?_; rintro e w' ⟨rfl, rfl⟩))
    go_loopw [3, 10] (fun o i wr => ∃ k : Nat, k ≤ 7 ∧ i = .int .i64 k ∧ ∃ ao cap, o = .slice ao (listUpto s k).length cap ∧ OwnL wr w.heap.size (.slice ao (listUpto s k).length cap) (listUpto s k) ∧ Below w.heap.size w wr) (fun _ i _ => 7 - (intOf i).toNat)
    case atStart => exact ⟨0, by omega, rfl, _, _, rfl, OwnL.empty w, (Below.refl _ _).alloc (Nat.le_refl _) _⟩
    case round =>
      obtain ⟨k, hk, rfl, ao, cap, rfl, hown, hB⟩ := hrel
      have hBs := hB.size
      have hl := listUpto_len s k
      have HB := Lib.hid hB
      have HO := Lib.hid hown
      clear hB hown
      by_cases hlt : k < 7
      · cases hb : hasN s k
        · have HU := Lib.hid (listUpto_no hb)
          go_wp2_with (first | (go_at_call 60; refine (has_any _ _ (by omega) (by omega) _).mono ?_; rintro e w' ⟨rfl, rfl⟩))
          go_roundw
          case rel => exact ⟨k + 1, by omega, by go_num, ao, cap, by rw [HU.out], by rw [HU.out]; exact HO.out, HB.out⟩
          case measure => simp [intOf]; omega
        · have HU := Lib.hid (listUpto_yes hb)
          go_wp2_with (first | (go_at_call 60; refine (has_any _ _ (by omega) (by omega) _).mono ?_; rintro e w' ⟨rfl, rfl⟩) | (at_builtin; go_must (refine wpList_append_int rfl _ _ rfl w.heap.size (.slice ao (listUpto s k).length cap) _ _ rfl HO.out rfl (by omega) (by omega) ?_); intro ao' cap' w1 hown1 hB1))
          go_roundw
          case rel => exact ⟨k + 1, by omega, by go_num, ao', cap', by rw [HU.out]; simp, by rw [HU.out]; simpa using hown1, HB.out.trans hB1⟩
          case measure => simp [intOf]; omega
      · go_wp2_with fail
        go_ret
        obtain rfl : k = 7 := by omega
        exact ⟨ao, cap, by rw [HE.out]; rfl, HB.out, by rw [HE.out]; exact HO.out⟩

theorem specCountSet_any (s : Int) (w : World) : Calls Tryz.prog 34 #[.int .i64 s] w fun e w' => e = .returned (.int .i64 (listOf s).length) ∧ Below w.heap.size w w' := by
  have hl := listOf_len s
  go_enter Tryz.func34, Tryz.ntmps34
  go_wp2_with fail
  refine (specListOf_any _ _).mono ?_
  rintro e w' ⟨ao, cap, rfl, hB, -⟩
  go_wp2_with fail
  go_ret
  exact ⟨rfl, hB⟩

theorem implCountSet_any (s : Int) (w : World) : Calls Tryz.prog 81 #[.int .i64 s] w fun e w' => e = .returned (.int .i64 (listOf s).length) ∧ Below w.heap.size w w' := by
  have hl := listOf_len s
  go_enter Tryz.func81, Tryz.ntmps81
  go_wp2_with fail
  refine (implListOf_any _ _).mono ?_
  rintro e w' ⟨ao, cap, rfl, hB, -⟩
  go_wp2_with fail
  go_ret
  exact ⟨rfl, hB⟩

end Go.Proofs.YtjikmjhpmkakoaaGreatDoor
