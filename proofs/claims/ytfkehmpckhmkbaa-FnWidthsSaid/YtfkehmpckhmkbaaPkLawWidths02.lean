/-
  The walks of IsGraph, of the reference and of the program: both return isGraphB. For at most 2^20 rows.
-/
import Derived.Test.YtfkehmpckhmkbaaPkLawWidths01
namespace Go.Proofs.Ytfkehmpckhmkbaa
open Go.RowKit

/-! ### What a graph is -/
def rowOk (N : Nat) (rs : List Int) (v : Nat) : Bool := decide (0 ≤ gi rs v) && decide (gi rs v < pwN N) && !hasN (gi rs v) v
def pairOk (N : Nat) (rs : List Int) (v w : Nat) : Bool := !(hasN (gi rs v) w && (decide (gi rs w < 0) || decide (pwN N ≤ gi rs w) || !hasN (gi rs w) v))
def isGraphB (n : Int) (rs : List Int) : Bool := decide (1 ≤ n ∧ n ≤ 7 ∧ (rs.length : Int) = n ∧ (∀ v, v < rs.length → rowOk rs.length rs v = true) ∧ ∀ v, v < rs.length → ∀ w, w < v → hasN (gi rs v) w = hasN (gi rs w) v)

theorem isGraphB_range {n : Int} {rs : List Int} (h : (decide (1 ≤ n) && decide (n ≤ 7)) = false) : isGraphB n rs = false := by
  unfold isGraphB; simp only [decide_eq_false_iff_not]; rintro ⟨a, b, _⟩; simp [a, b] at h
theorem isGraphB_len {n : Int} {rs : List Int} (h : ¬ (rs.length : Int) = n) : isGraphB n rs = false := by
  unfold isGraphB; simp only [decide_eq_false_iff_not]; rintro ⟨_, _, a, _⟩; exact h a
theorem isGraphB_row {rs : List Int} {v : Nat} (hv : v < rs.length) (h : rowOk rs.length rs v = false) : isGraphB rs.length rs = false := by
  unfold isGraphB; simp only [decide_eq_false_iff_not]; rintro ⟨_, _, _, a, _⟩; rw [a v hv] at h; cases h
theorem isGraphB_sym {rs : List Int} {v w : Nat} (hv : v < rs.length) (hw : w < v) (h : ¬ hasN (gi rs v) w = hasN (gi rs w) v) : isGraphB rs.length rs = false := by
  unfold isGraphB; simp only [decide_eq_false_iff_not]; rintro ⟨_, _, _, _, a⟩; exact h (a v hv w hw)
theorem isGraphB_mk {rs : List Int} (h1 : 1 ≤ rs.length) (h2 : rs.length ≤ 7) (h3 : ∀ v, v < rs.length → rowOk rs.length rs v = true) (h4 : ∀ v, v < rs.length → ∀ w, w < v → hasN (gi rs v) w = hasN (gi rs w) v) : isGraphB rs.length rs = true := by
  unfold isGraphB; simp only [decide_eq_true_eq]; exact ⟨by omega, by omega, trivial, h3, h4⟩
theorem isGraphB_true {n : Int} {rs : List Int} (h : isGraphB n rs = true) : n = rs.length ∧ 1 ≤ rs.length ∧ rs.length ≤ 7 ∧ (∀ v, v < rs.length → rowOk rs.length rs v = true) ∧ ∀ v, v < rs.length → ∀ w, w < v → hasN (gi rs v) w = hasN (gi rs w) v := by
  unfold isGraphB at h; simp only [decide_eq_true_eq] at h; obtain ⟨a, b, c, d, e⟩ := h; exact ⟨c.symm, by omega, by omega, d, e⟩
/-- Bits of a row that is too small for them are not set. -/
theorem hasN_ge {x : Int} {N w : Nat} (h0 : 0 ≤ x) (h1 : x < pwN N) (hN : N ≤ 62) (hw : N ≤ w) : hasN x w = false := by
  obtain ⟨y, rfl⟩ := Int.eq_ofNat_of_zero_le h0
  rw [pwN_small N hN] at h1
  rw [hasN_nat]
  exact Nat.testBit_lt_two_pow (Nat.lt_of_lt_of_le (by omega) (Nat.pow_le_pow_right (by decide) hw))
theorem isGraphB_pair {rs : List Int} {v w : Nat} (hv : v < rs.length) (hw : w < rs.length) (h : pairOk rs.length rs v w = false) : isGraphB rs.length rs = false := by
  cases hb : isGraphB rs.length rs with
  | false => rfl
  | true =>
    obtain ⟨_, _, _, h3, h4⟩ := isGraphB_true hb
    have hr := h3 w hw
    have hr2 := h3 v hv
    unfold pairOk at h
    unfold rowOk at hr hr2
    simp only [Bool.and_eq_true, decide_eq_true_eq, Bool.not_eq_true', Bool.not_eq_false', Bool.or_eq_true] at h hr hr2
    obtain ⟨ha, hb'⟩ := h
    have hne : v ≠ w := by rintro rfl; rw [ha] at hr2; simp at hr2
    have hs : hasN (gi rs v) w = hasN (gi rs w) v := by
      rcases Nat.lt_or_gt_of_ne hne with h | h
      · exact (h4 w hw v h).symm
      · exact h4 v hv w h
    rw [ha] at hs
    rw [← hs] at hb'
    simp at hb'
    omega
theorem isGraphB_pairs {rs : List Int} (h1 : 1 ≤ rs.length) (h2 : rs.length ≤ 7) (h3 : ∀ v, v < rs.length → rowOk rs.length rs v = true) (h4 : ∀ v, v < rs.length → ∀ w, w < rs.length → pairOk rs.length rs v w = true) : isGraphB rs.length rs = true := by
  refine isGraphB_mk h1 h2 h3 fun v hv w hw => ?_
  have a := h4 v hv w (by omega)
  have b := h4 w (by omega) v hv
  unfold pairOk at a b
  cases h5 : hasN (gi rs v) w <;> cases h6 : hasN (gi rs w) v <;> simp_all

set_option maxRecDepth 100000 in
set_option maxHeartbeats 1000000 in
theorem specIsGraph_any (n : Int) (rs : List Int) (ro : Option Addr) (rc : Nat) (w : World) (hr : IntsAt w ro rs) (hrl : rs.length ≤ 1048576) :
    Calls Try.prog 12 #[.agg #[.int .i64 n, .slice ro rs.length rc]] w fun e w' => e = .returned (.bool (isGraphB n rs)) ∧ Below w.heap.size w w' := by
  go_enter Try.func12, Try.ntmps12
  go_wp2_with fail
  generalize hW : w.alloc _ = W1
  obtain ⟨hB, -, k0⟩ := alloc1 hW
  replace hr := hr.below hB
  have hb0 := k0.lt
  have hc0 := k0.cell 0
  have hc1 := k0.cell 1
  simp at hc0 hc1
  clear hW k0
  have HhB := Lib.hid hB
  clear hB
  obtain ⟨m, hm0⟩ : ∃ m : Later W1, m.w = W1 := ⟨Later.refl _, rfl⟩
  refine (fun h => hm0 ▸ h) ?_
  clear hm0
  cases h1 : (decide (1 ≤ n) && decide (n ≤ 7))
  · have HE := Lib.hid (isGraphB_range (rs := rs) h1)
    go_wp2_with (first | (go_at_call 37; refine (l1In_any _ _ _ _).mono ?_; rintro e w' ⟨rfl, rfl⟩))
    go_ret
    exact ⟨retB (by rw [HE.out]), below_later HhB.out m⟩
  by_cases h2 : (rs.length : Int) = n
  · subst h2
    have h1' := h1
    simp only [Bool.and_eq_true, decide_eq_true_eq] at h1'
    obtain ⟨h3, h4⟩ := h1'
    have hp : pwN rs.length = ((2 ^ rs.length : Nat) : Int) := pwN_small _ (by omega)
    have Hhp := Lib.hid hp
    clear hp
    go_wp2_with (first | (go_at_call 37; refine (l1In_any _ _ _ _).mono ?_; rintro e w' ⟨rfl, rfl⟩))
    go_loopw [3] (fun i wr => (∃ m : Later W1, wr = m.w) ∧ ∃ k : Nat, k ≤ rs.length ∧ i = .int .i64 k ∧ ∀ v, v < k → rowOk rs.length rs v = true ∧ ∀ w, w < rs.length → pairOk rs.length rs v w = true) (fun i _ => rs.length - (intOf i).toNat)
    case atStart => exact ⟨⟨m, rfl⟩, 0, by omega, rfl, fun v h => by omega⟩
    case round =>
      obtain ⟨⟨m, rfl⟩, k, hk, rfl, hP⟩ := hrel
      have HhP := Lib.hid hP
      clear hP
      by_cases hlt : k < rs.length
      · obtain ⟨rb, rofs, rfl, hrb, hrc⟩ := hr (by omega)
        go_wp2_with fail
        have HR : Hid (rowOk rs.length rs k = (decide (0 ≤ gi rs k) && decide (gi rs k < pwN rs.length) && !hasN (gi rs k) k)) := rfl
        by_cases g1 : gi rs k < 0
        · refine wp_region_later m rfl (by kernel_rfl) (by kernel_rfl) ?_
          repeat (go_big_quiet_step (fail))
          refine wpQuiet_nil ?_
          rintro _ ⟨m, rfl⟩
          go_wp2_with fail
          go_ret
          exact ⟨retB (by rw [isGraphB_row (v := k) (by omega) (by rw [HR.out, decide_eq_false (by omega)]; rfl)]), below_later HhB.out m⟩
        by_cases g2 : pwN rs.length ≤ gi rs k
        · refine wp_region_later m rfl (by kernel_rfl) (by kernel_rfl) ?_
          repeat (go_big_quiet_step (fail))
          refine wpQuiet_nil ?_
          rintro _ ⟨m, rfl⟩
          go_wp2_with fail
          go_ret
          exact ⟨retB (by rw [isGraphB_row (v := k) (by omega) (by rw [HR.out, decide_eq_false (p := gi rs k < pwN rs.length) (by omega)]; simp)]), below_later HhB.out m⟩
        cases g3 : hasN (gi rs k) k
        · have hok : rowOk rs.length rs k = true := by rw [HR.out, decide_eq_true (by omega), decide_eq_true (by omega), g3]; rfl
          have Hhok := Lib.hid hok
          clear hok
          clear HR
          refine wp_region_later m rfl (by kernel_rfl) (by kernel_rfl) ?_
          repeat (go_big_quiet_step (fail))
          refine wpQuiet_nil ?_
          rintro _ ⟨m, rfl⟩
          go_wp2_with fail
          go_loopw [4] (fun i wr => (∃ m : Later W1, wr = m.w) ∧ ∃ j : Nat, j ≤ rs.length ∧ i = .int .i64 j ∧ ∀ w, w < j → pairOk rs.length rs k w = true) (fun i _ => rs.length - (intOf i).toNat)
          case atStart => exact ⟨⟨m, rfl⟩, 0, by omega, rfl, fun v h => by omega⟩
          case round =>
            obtain ⟨⟨m, rfl⟩, j, hj, rfl, hJ⟩ := hrel
            have HhJ := Lib.hid hJ
            clear hJ
            by_cases hjt : j < rs.length
            · go_wp2_with fail
              have HQ : Hid (pairOk rs.length rs k j = !(hasN (gi rs k) j && (decide (gi rs j < 0) || decide (pwN rs.length ≤ gi rs j) || !hasN (gi rs j) k))) := rfl
              cases i1 : hasN (gi rs k) j
              · have hq : pairOk rs.length rs k j = true := by rw [HQ.out, i1]; rfl
                have Hhq := Lib.hid hq
                clear hq
                clear HQ
                refine wp_region_later m rfl (by kernel_rfl) (by kernel_rfl) ?_
                repeat (go_big_quiet_step (fail))
                refine wpQuiet_nil ?_
                rintro _ ⟨m, rfl⟩
                go_wp2_with fail
                go_roundw
                case rel => exact ⟨⟨m, rfl⟩, j + 1, by omega, by go_num, all_succ HhJ.out Hhq.out⟩
                case measure => simp [intOf]; omega
              by_cases i2 : gi rs j < 0
              · refine wp_region_later m rfl (by kernel_rfl) (by kernel_rfl) ?_
                repeat (go_big_quiet_step (fail))
                refine wpQuiet_nil ?_
                rintro _ ⟨m, rfl⟩
                go_wp2_with fail
                go_ret
                exact ⟨retB (by rw [isGraphB_pair (v := k) (w := j) (by omega) (by omega) (by rw [HQ.out, i1, decide_eq_true i2]; rfl)]), below_later HhB.out m⟩
              by_cases i3 : pwN rs.length ≤ gi rs j
              · refine wp_region_later m rfl (by kernel_rfl) (by kernel_rfl) ?_
                repeat (go_big_quiet_step (fail))
                refine wpQuiet_nil ?_
                rintro _ ⟨m, rfl⟩
                go_wp2_with fail
                go_ret
                exact ⟨retB (by rw [isGraphB_pair (v := k) (w := j) (by omega) (by omega) (by rw [HQ.out, i1, decide_eq_true i3]; simp)]), below_later HhB.out m⟩
              cases i4 : hasN (gi rs j) k
              · refine wp_region_later m rfl (by kernel_rfl) (by kernel_rfl) ?_
                repeat (go_big_quiet_step (fail))
                refine wpQuiet_nil ?_
                rintro _ ⟨m, rfl⟩
                go_wp2_with fail
                go_ret
                exact ⟨retB (by rw [isGraphB_pair (v := k) (w := j) (by omega) (by omega) (by rw [HQ.out, i1, i4]; simp)]), below_later HhB.out m⟩
              · have hq : pairOk rs.length rs k j = true := by rw [HQ.out, i1, i4, decide_eq_false (by omega), decide_eq_false (by omega)]; rfl
                have Hhq := Lib.hid hq
                clear hq
                clear HQ
                refine wp_region_later m rfl (by kernel_rfl) (by kernel_rfl) ?_
                repeat (go_big_quiet_step (fail))
                refine wpQuiet_nil ?_
                rintro _ ⟨m, rfl⟩
                go_wp2_with fail
                go_roundw
                case rel => exact ⟨⟨m, rfl⟩, j + 1, by omega, by go_num, all_succ HhJ.out Hhq.out⟩
                case measure => simp [intOf]; omega
            · go_wp2_with fail
              go_roundw
              case rel => exact ⟨⟨m, rfl⟩, k + 1, by omega, by go_num, all_succ HhP.out ⟨Hhok.out, fun w hw => HhJ.out w (by omega)⟩⟩
              case measure => simp [intOf]; omega
        · refine wp_region_later m rfl (by kernel_rfl) (by kernel_rfl) ?_
          repeat (go_big_quiet_step (fail))
          refine wpQuiet_nil ?_
          rintro _ ⟨m, rfl⟩
          go_wp2_with fail
          go_ret
          exact ⟨retB (by rw [isGraphB_row (v := k) (by omega) (by rw [HR.out, g3]; simp)]), below_later HhB.out m⟩
      · go_wp2_with fail
        go_ret
        exact ⟨retB (by rw [isGraphB_pairs (by omega) (by omega) (fun v hv => (HhP.out v (by omega)).1) (fun v hv => (HhP.out v (by omega)).2)]), below_later HhB.out m⟩
  · have hb : ((rs.length : Int) != n) = true := by simpa using h2
    have HE := Lib.hid (isGraphB_len h2)
    clear h2
    go_wp2_with (first | (go_at_call 37; refine (l1In_any _ _ _ _).mono ?_; rintro e w' ⟨rfl, rfl⟩))
    go_ret
    exact ⟨retB (by rw [HE.out]), below_later HhB.out m⟩

theorem pwN_pos (N : Nat) (h : N ≤ 7) : 1 ≤ pwN N ∧ pwN N ≤ 128 := by
  rw [pwN_small N (by omega)]
  have := Nat.two_pow_pos N
  have : 2 ^ N ≤ 2 ^ 7 := Nat.pow_le_pow_right (by decide) h
  omega

set_option maxRecDepth 100000 in
set_option maxHeartbeats 1000000 in
theorem implIsGraph_any (n : Int) (rs : List Int) (ro : Option Addr) (rc : Nat) (w : World) (hr : IntsAt w ro rs) (hrl : rs.length ≤ 1048576) :
    Calls Try.prog 70 #[.agg #[.int .i64 n, .slice ro rs.length rc]] w fun e w' => e = .returned (.bool (isGraphB n rs)) ∧ Below w.heap.size w w' := by
  go_enter Try.func70, Try.ntmps70
  go_wp2_with fail
  generalize hW : w.alloc _ = W1
  obtain ⟨hB, -, k0⟩ := alloc1 hW
  replace hr := hr.below hB
  have hb0 := k0.lt
  have hc0 := k0.cell 0
  have hc1 := k0.cell 1
  simp at hc0 hc1
  clear hW k0
  have HhB := Lib.hid hB
  clear hB
  obtain ⟨m, hm0⟩ : ∃ m : Later W1, m.w = W1 := ⟨Later.refl _, rfl⟩
  refine (fun h => hm0 ▸ h) ?_
  clear hm0
  cases h1 : (decide (1 ≤ n) && decide (n ≤ 7))
  · have HE := Lib.hid (isGraphB_range (rs := rs) h1)
    go_wp2_with (first | (go_at_call 80; refine (within_any _ _ _ _).mono ?_; rintro e w' ⟨rfl, rfl⟩))
    go_ret
    exact ⟨retB (by rw [HE.out]), below_later HhB.out m⟩
  by_cases h2 : (rs.length : Int) = n
  · subst h2
    have h1' := h1
    simp only [Bool.and_eq_true, decide_eq_true_eq] at h1'
    obtain ⟨h3, h4⟩ := h1'
    obtain ⟨hp1, hp2⟩ := pwN_pos rs.length (by omega)
    go_wp2_with (first | (go_at_call 80; refine (within_any _ _ _ _).mono ?_; rintro e w' ⟨rfl, rfl⟩))
    go_loopw [23] (fun i wr => (∃ m : Later W1, wr = m.w) ∧ ∃ k : Nat, k ≤ rs.length ∧ i = .int .i64 k ∧ ∀ v, v < k → rowOk rs.length rs v = true) (fun i _ => rs.length - (intOf i).toNat)
    case atStart => exact ⟨⟨m, rfl⟩, 0, by omega, rfl, fun v h => by omega⟩
    case round =>
      obtain ⟨⟨m, rfl⟩, k, hk, rfl, hP⟩ := hrel
      have HhP := Lib.hid hP
      clear hP
      by_cases hlt : k < rs.length
      · obtain ⟨rb, rofs, rfl, hrb, hrc⟩ := hr (by omega)
        have HR : Hid (rowOk rs.length rs k = (decide (0 ≤ gi rs k) && decide (gi rs k < pwN rs.length) && !hasN (gi rs k) k)) := rfl
        cases g1 : (decide (0 ≤ gi rs k) && decide (gi rs k ≤ pwN rs.length - 1))
        · have HE : Hid (rowOk rs.length rs k = false) := by
            show rowOk rs.length rs k = false
            rw [HR.out]
            simp only [Bool.and_eq_false_iff, decide_eq_false_iff_not] at g1 ⊢
            omega
          go_wp2_with (first | (go_at_call 80; refine (within_any _ _ _ _).mono ?_; rintro e w' ⟨rfl, rfl⟩))
          go_ret
          exact ⟨retB (by rw [isGraphB_row (v := k) (by omega) HE.out]), below_later HhB.out m⟩
        cases g3 : hasN (gi rs k) k
        · have hok : rowOk rs.length rs k = true := by
            rw [HR.out, g3]
            simp only [Bool.and_eq_true, decide_eq_true_eq] at g1
            rw [decide_eq_true (by omega), decide_eq_true (by omega)]; rfl
          have Hhok := Lib.hid hok
          clear hok
          clear HR
          go_wp2_with (first | (go_at_call 80; refine (within_any _ _ _ _).mono ?_; rintro e w' ⟨rfl, rfl⟩) | (go_at_call 71; refine (has_any _ _ (by omega) (by omega) _).mono ?_; rintro e w' ⟨rfl, rfl⟩))
          go_roundw
          case rel => exact ⟨⟨m, rfl⟩, k + 1, by omega, by go_num, all_succ HhP.out Hhok.out⟩
          case measure => simp [intOf]; omega
        · go_wp2_with (first | (go_at_call 80; refine (within_any _ _ _ _).mono ?_; rintro e w' ⟨rfl, rfl⟩) | (go_at_call 71; refine (has_any _ _ (by omega) (by omega) _).mono ?_; rintro e w' ⟨rfl, rfl⟩))
          go_ret
          exact ⟨retB (by rw [isGraphB_row (v := k) (by omega) (by rw [HR.out, g3]; simp)]), below_later HhB.out m⟩
      · go_wp2_with fail
        have hRows : ∀ v, v < rs.length → rowOk rs.length rs v = true := fun v hv => HhP.out v (by omega)
        clear HhP
        have HhRows := Lib.hid hRows
        clear hRows
        go_loopw [44] (fun i wr => (∃ m : Later W1, wr = m.w) ∧ ∃ k : Nat, k ≤ rs.length ∧ i = .int .i64 k ∧ ∀ v, v < k → ∀ w, w < v → hasN (gi rs v) w = hasN (gi rs w) v) (fun i _ => rs.length - (intOf i).toNat)
        case atStart => exact ⟨⟨m, rfl⟩, 0, by omega, rfl, fun v h => by omega⟩
        case round =>
          obtain ⟨⟨m, rfl⟩, k, hk, rfl, hP⟩ := hrel
          have HhP := Lib.hid hP
          clear hP
          by_cases hlt : k < rs.length
          · obtain ⟨rb, rofs, rfl, hrb, hrc⟩ := hr (by omega)
            go_wp2_with fail
            go_loopw [50] (fun i wr => (∃ m : Later W1, wr = m.w) ∧ ∃ j : Nat, j ≤ k ∧ i = .int .i64 j ∧ ∀ w, w < j → hasN (gi rs k) w = hasN (gi rs w) k) (fun i _ => k - (intOf i).toNat)
            case atStart => exact ⟨⟨m, rfl⟩, 0, by omega, rfl, fun v h => by omega⟩
            case round =>
              obtain ⟨⟨m, rfl⟩, j, hj, rfl, hJ⟩ := hrel
              have HhJ := Lib.hid hJ
              clear hJ
              by_cases hjt : j < k
              · have hjr : j < rs.length := by omega
                go_wp2_with fail
                cases i1 : (hasN (gi rs k) j == hasN (gi rs j) k)
                · refine wp_region_later m rfl (by kernel_rfl) (by kernel_rfl) ?_
                  repeat (go_big_quiet_step ((first | (go_at_call 71; exact Calls.later_same _ (has_any _ _ (by omega) (by omega) _)))))
                  refine wpQuiet_nil ?_
                  rintro _ ⟨m, rfl⟩
                  go_wp2_with fail
                  go_ret
                  exact ⟨retB (by rw [isGraphB_sym (v := k) (w := j) (by omega) (by omega) (by simpa using i1)]), below_later HhB.out m⟩
                · have hq : hasN (gi rs k) j = hasN (gi rs j) k := by simpa using i1
                  have Hhq := Lib.hid hq
                  clear hq
                  refine wp_region_later m rfl (by kernel_rfl) (by kernel_rfl) ?_
                  repeat (go_big_quiet_step ((first | (go_at_call 71; exact Calls.later_same _ (has_any _ _ (by omega) (by omega) _)))))
                  refine wpQuiet_nil ?_
                  rintro _ ⟨m, rfl⟩
                  go_wp2_with fail
                  go_roundw
                  case rel => exact ⟨⟨m, rfl⟩, j + 1, by omega, by go_num, all_succ HhJ.out Hhq.out⟩
                  case measure => simp [intOf]; omega
              · go_wp2_with fail
                go_roundw
                case rel => exact ⟨⟨m, rfl⟩, k + 1, by omega, by go_num, all_succ HhP.out (fun w hw => HhJ.out w (by omega))⟩
                case measure => simp [intOf]; omega
          · go_wp2_with fail
            go_ret
            exact ⟨retB (by rw [isGraphB_mk (by omega) (by omega) HhRows.out (fun v hv => HhP.out v (by omega))]), below_later HhB.out m⟩
  · have hb : ((rs.length : Int) != n) = true := by simpa using h2
    have HE := Lib.hid (isGraphB_len h2)
    clear h2
    go_wp2_with (first | (go_at_call 80; refine (within_any _ _ _ _).mono ?_; rintro e w' ⟨rfl, rfl⟩))
    go_ret
    exact ⟨retB (by rw [HE.out]), below_later HhB.out m⟩

end Go.Proofs.Ytfkehmpckhmkbaa
