/-
  The walks of IsDominating and IsPacking on both sides. For at most 2^20 rows.
-/
import Derived.Test.YtflejcffjngdfaaSets
namespace Go.Proofs.Ytflejcffjngdfaa
open Go.RowKit

def domB (n : Int) (rs : List Int) (s : Int) : Bool := isSetB n rs s && decide (around rs s.toNat = 2 ^ rs.length - 1)
theorem domB_nat {rs : List Int} {S : Nat} (h : isSetB rs.length rs S = true) : domB rs.length rs S = (((around rs S : Nat) : Int) == ((2 ^ rs.length - 1 : Nat) : Int)) := by
  unfold domB; rw [h, Bool.true_and, Int.toNat_natCast, Bool.eq_iff_iff, decide_eq_true_eq, beq_iff_eq]; exact Int.ofNat_inj.symm
theorem domB_no {n : Int} {rs : List Int} {s : Int} (h : isSetB n rs s = false) : domB n rs s = false := by unfold domB; rw [h]; rfl

set_option maxHeartbeats 1000000 in
theorem specDom_any (n : Int) (rs : List Int) (s : Int) (ro : Option Addr) (rc : Nat) (w : World) (hr : IntsAt w ro rs) (hrl : rs.length ≤ 1048576) :
    Calls Try.prog 25 #[.agg #[.int .i64 n, .slice ro rs.length rc], .int .i64 s] w fun e w' => e = .returned (.bool (domB n rs s)) ∧ Below w.heap.size w w' := by
  go_enter Try.func25, Try.ntmps25
  go_wp2_with fail
  generalize hW : w.alloc _ = W1
  obtain ⟨hB, -, k0⟩ := alloc1 hW
  replace hr := hr.below hB
  have hb0 := k0.lt
  have hc0 := k0.cell 0
  have hc1 := k0.cell 1
  simp at hc0 hc1
  clear hW k0
  have HhB := Lib.hid hB
  clear hB
  obtain ⟨m, hm0⟩ : ∃ m : Later W1, m.w = W1 := ⟨Later.refl _, rfl⟩
  refine (fun h => hm0 ▸ h) ?_
  clear hm0
  cases hv : isSetB n rs s
  · have HE := Lib.hid (domB_no hv)
    have hIS := fun m : Later W1 => specIsSet_any n rs s ro rc m.w (hr.later m) hrl
    simp only [hv] at hIS
    refine wp_region_later m rfl (by kernel_rfl) (by kernel_rfl) ?_
    repeat (go_big_quiet_step ((first | (go_at_call 121; exact Calls.later _ (hIS _)))))
    refine wpQuiet_nil ?_
    rintro _ ⟨m, rfl⟩
    go_wp2_with fail
    go_ret
    exact ⟨retB (by rw [HE.out]), below_later HhB.out m⟩
  · obtain ⟨rfl, g, S, rfl, hS⟩ := isSetB_true hv
    have hgb : isGraphB rs.length rs = true := by unfold isSetB at hv; simp only [Bool.and_eq_true] at hv; exact hv.1
    have HE := Lib.hid (domB_nat hv)
    have hIS := fun m : Later W1 => specIsSet_any rs.length rs S ro rc m.w (hr.later m) hrl
    simp only [hv] at hIS
    have hg1 := g.pos
    have hg2 := g.le
    have hp : pwN rs.length - 1 = ((2 ^ rs.length - 1 : Nat) : Int) := all_small hg2
    obtain ⟨hp1, hp2⟩ := pwN_pos rs.length hg2
    have hp3 := g.pow.2
    generalize hT : 2 ^ rs.length - 1 = T at *
    clear hT
    refine wp_region_later m rfl (by kernel_rfl) (by kernel_rfl) ?_
    repeat (go_big_quiet_step ((first | (go_at_call 121; exact Calls.later _ (hIS _)) | (go_at_call 118; exact Calls.later _ (specAround_any _ _ _ _ _ (hr.later _) hgb hS)))))
    refine wpQuiet_nil ?_
    rintro _ ⟨m, rfl⟩
    go_wp2_with fail
    go_ret
    exact ⟨retB (by rw [HE.out]), below_later HhB.out m⟩

set_option maxHeartbeats 1000000 in
theorem implDom_any (n : Int) (rs : List Int) (s : Int) (ro : Option Addr) (rc : Nat) (w : World) (hr : IntsAt w ro rs) (hrl : rs.length ≤ 1048576) :
    Calls Try.prog 17 #[.agg #[.int .i64 n, .slice ro rs.length rc], .int .i64 s] w fun e w' => e = .returned (.bool (domB n rs s)) ∧ Below w.heap.size w w' := by
  go_enter Try.func17, Try.ntmps17
  go_wp2_with fail
  generalize hW : w.alloc _ = W1
  obtain ⟨hB, -, k0⟩ := alloc1 hW
  replace hr := hr.below hB
  have hb0 := k0.lt
  have hc0 := k0.cell 0
  have hc1 := k0.cell 1
  simp at hc0 hc1
  clear hW k0
  have HhB := Lib.hid hB
  clear hB
  obtain ⟨m, hm0⟩ : ∃ m : Later W1, m.w = W1 := ⟨Later.refl _, rfl⟩
  refine (fun h => hm0 ▸ h) ?_
  clear hm0
  cases hv : isSetB n rs s
  · have HE := Lib.hid (domB_no hv)
    have hIS := fun m : Later W1 => implIsSet_any n rs s ro rc m.w (hr.later m) hrl
    simp only [hv] at hIS
    refine wp_region_later m rfl (by kernel_rfl) (by kernel_rfl) ?_
    repeat (go_big_quiet_step ((first | (go_at_call 113; exact Calls.later _ (hIS _)))))
    refine wpQuiet_nil ?_
    rintro _ ⟨m, rfl⟩
    go_wp2_with fail
    go_ret
    exact ⟨retB (by rw [HE.out]), below_later HhB.out m⟩
  · obtain ⟨rfl, g, S, rfl, hS⟩ := isSetB_true hv
    have hgb : isGraphB rs.length rs = true := by unfold isSetB at hv; simp only [Bool.and_eq_true] at hv; exact hv.1
    have HE := Lib.hid (domB_nat hv)
    have hIS := fun m : Later W1 => implIsSet_any rs.length rs S ro rc m.w (hr.later m) hrl
    simp only [hv] at hIS
    have hg2 := g.le
    refine wp_region_later m rfl (by kernel_rfl) (by kernel_rfl) ?_
    repeat (go_big_quiet_step ((first | (go_at_call 113; exact Calls.later _ (hIS _)) | (go_at_call 114; exact Calls.later _ (implAround_any _ _ _ _ _ (hr.later _) hgb hS)) | (go_at_call 115; exact Calls.later _ (implAll_any _ _ hg2 _)))))
    refine wpQuiet_nil ?_
    rintro _ ⟨m, rfl⟩
    go_wp2_with fail
    go_ret
    exact ⟨retB (by rw [HE.out]), below_later HhB.out m⟩

/-- Vertex v and its neighbours have at most one vertex in S. -/
def packAt (rs : List Int) (S v : Nat) : Nat := cnt ((gn rs v ||| 2 ^ v) &&& S)
def packB (n : Int) (rs : List Int) (s : Int) : Bool := isSetB n rs s && decide (∀ v, v < rs.length → packAt rs s.toNat v ≤ 1)
theorem packB_no {n : Int} {rs : List Int} {s : Int} (h : isSetB n rs s = false) : packB n rs s = false := by unfold packB; rw [h]; rfl
theorem packB_bad {n : Int} {rs : List Int} {S v : Nat} (hv : v < rs.length) (h : 1 < packAt rs S v) : packB n rs S = false := by
  unfold packB; rw [Int.toNat_natCast, decide_eq_false (fun a => by have := a v hv; omega), Bool.and_false]
theorem packB_ok {n : Int} {rs : List Int} {S : Nat} (h : isSetB n rs S = true) (ha : ∀ v, v < rs.length → packAt rs S v ≤ 1) : packB n rs S = true := by
  unfold packB; rw [h, Int.toNat_natCast, decide_eq_true ha]; rfl

/-- What the walks want of vertex k. -/
theorem pack_facts {rs : List Int} (g : VG rs) {S k : Nat} (hS : S < 2 ^ rs.length) (hk : k < rs.length) :
    pwN k = ((2 ^ k : Nat) : Int) ∧ bits .or .i64 (gn rs k : Int) ((2 ^ k : Nat) : Int) = ((gn rs k ||| 2 ^ k : Nat) : Int) ∧ bits .and .i64 ((gn rs k ||| 2 ^ k : Nat) : Int) (S : Int) = (((gn rs k ||| 2 ^ k) &&& S : Nat) : Int) ∧ (gn rs k ||| 2 ^ k) &&& S < 128 := by
  have h1 := g.lt k hk
  have h2 := g.pow.1
  have h3 : 2 ^ k < 2 ^ rs.length := Nat.pow_lt_pow_right (by decide) hk
  have h4 : gn rs k ||| 2 ^ k < 2 ^ rs.length := Nat.or_lt_two_pow h1 h3
  have h5 : (gn rs k ||| 2 ^ k) &&& S ≤ S := Nat.and_le_right
  have h6 := g.le
  exact ⟨pwN_small _ (by omega), bits_or_nat _ _ (by omega) (by omega), bits_and_nat _ _ (by omega) (by omega), by omega⟩

set_option maxHeartbeats 1000000 in
theorem specPack_any (n : Int) (rs : List Int) (s : Int) (ro : Option Addr) (rc : Nat) (w : World) (hr : IntsAt w ro rs) (hrl : rs.length ≤ 1048576) :
    Calls Try.prog 26 #[.agg #[.int .i64 n, .slice ro rs.length rc], .int .i64 s] w fun e w' => e = .returned (.bool (packB n rs s)) ∧ Below w.heap.size w w' := by
  go_enter Try.func26, Try.ntmps26
  go_wp2_with fail
  generalize hW : w.alloc _ = W1
  obtain ⟨hB, -, k0⟩ := alloc1 hW
  replace hr := hr.below hB
  have hb0 := k0.lt
  have hc0 := k0.cell 0
  have hc1 := k0.cell 1
  simp at hc0 hc1
  clear hW k0
  have HhB := Lib.hid hB
  clear hB
  cases hv : isSetB n rs s
  · have HE := Lib.hid (packB_no hv)
    go_loopw [5] (fun i wr => (∃ m : Later W1, wr = m.w) ∧ i = .int .i64 0) (fun _ _ => 0)
    case atStart => exact ⟨⟨Later.refl _, rfl⟩, rfl⟩
    case round =>
      obtain ⟨⟨m, rfl⟩, rfl⟩ := hrel
      by_cases h0 : 0 < n
      all_goals
        go_wp2_with (first | (go_at_call 121; refine (Calls.later m (specIsSet_any _ _ _ _ _ _ (hr.later m) hrl)).mono ?_; rintro e w' ⟨rfl, m, rfl⟩))
        go_ret
        exact ⟨retB (by rw [HE.out]), below_later HhB.out m⟩
  · obtain ⟨rfl, g, S, rfl, hS⟩ := isSetB_true hv
    have hg1 := g.pos
    have hg2 := g.le
    go_loopw [5] (fun i wr => (∃ m : Later W1, wr = m.w) ∧ ∃ k : Nat, k ≤ rs.length ∧ i = .int .i64 k ∧ ∀ v, v < k → packAt rs S v ≤ 1) (fun i _ => rs.length - (intOf i).toNat)
    case atStart => exact ⟨⟨Later.refl _, rfl⟩, 0, by omega, rfl, fun v h => by omega⟩
    case round =>
      obtain ⟨⟨m, rfl⟩, k, hk, rfl, hP⟩ := hrel
      have HhP := Lib.hid hP
      clear hP
      by_cases hlt : k < rs.length
      · obtain ⟨rb, rofs, rfl, hrb, hrc⟩ := hr.graph g
        obtain ⟨q1, q2, q3, q4⟩ := pack_facts g hS hlt
        have HA : Hid (packAt rs S k = cnt ((gn rs k ||| 2 ^ k) &&& S)) := rfl
        generalize (gn rs k ||| 2 ^ k) &&& S = A at *
        generalize gn rs k ||| 2 ^ k = B at *
        generalize 2 ^ k = C at *
        by_cases hc : 1 < cnt A
        all_goals
          go_wp2_with (first | (go_at_call 121; refine (Calls.later m (specIsSet_any _ _ _ _ _ _ (hr.later m) hrl)).mono ?_; rintro e w' ⟨rfl, m, rfl⟩))
          refine wp_region_later m rfl (by kernel_rfl) (by kernel_rfl) ?_
          repeat (go_big_quiet_step ((first | (go_at_call 22; exact Calls.later _ (specCount_any _ q4 _)))))
          refine wpQuiet_nil ?_
          rintro _ ⟨m, rfl⟩
          go_wp2_with fail
        · go_ret
          exact ⟨retB (by rw [packB_bad hlt (by rw [HA.out]; exact hc)]), below_later HhB.out m⟩
        · go_roundw
          case rel => exact ⟨⟨m, rfl⟩, k + 1, by omega, by go_num, all_succ HhP.out (by rw [HA.out]; omega)⟩
          case measure => simp [intOf]; omega
      · have HE := Lib.hid (packB_ok hv (fun v h => HhP.out v (by omega)))
        go_wp2_with (first | (go_at_call 121; refine (Calls.later m (specIsSet_any _ _ _ _ _ _ (hr.later m) hrl)).mono ?_; rintro e w' ⟨rfl, m, rfl⟩))
        go_ret
        exact ⟨retB (by rw [HE.out]), below_later HhB.out m⟩

set_option maxHeartbeats 1000000 in
theorem implPack_any (n : Int) (rs : List Int) (s : Int) (ro : Option Addr) (rc : Nat) (w : World) (hr : IntsAt w ro rs) (hrl : rs.length ≤ 1048576) :
    Calls Try.prog 18 #[.agg #[.int .i64 n, .slice ro rs.length rc], .int .i64 s] w fun e w' => e = .returned (.bool (packB n rs s)) ∧ Below w.heap.size w w' := by
  go_enter Try.func18, Try.ntmps18
  go_wp2_with fail
  generalize hW : w.alloc _ = W1
  obtain ⟨hB, -, k0⟩ := alloc1 hW
  replace hr := hr.below hB
  have hb0 := k0.lt
  have hc0 := k0.cell 0
  have hc1 := k0.cell 1
  simp at hc0 hc1
  clear hW k0
  have HhB := Lib.hid hB
  clear hB
  obtain ⟨m, hm0⟩ : ∃ m : Later W1, m.w = W1 := ⟨Later.refl _, rfl⟩
  refine (fun h => hm0 ▸ h) ?_
  clear hm0
  cases hv : isSetB n rs s
  · have HE := Lib.hid (packB_no hv)
    go_wp2_with (first | (go_at_call 113; refine (Calls.later m (implIsSet_any _ _ _ _ _ _ (hr.later m) hrl)).mono ?_; rintro e w' ⟨rfl, m, rfl⟩))
    go_ret
    exact ⟨retB (by rw [HE.out]), below_later HhB.out m⟩
  · obtain ⟨rfl, g, S, rfl, hS⟩ := isSetB_true hv
    have hg1 := g.pos
    have hg2 := g.le
    go_wp2_with (first | (go_at_call 113; refine (Calls.later m (implIsSet_any _ _ _ _ _ _ (hr.later m) hrl)).mono ?_; rintro e w' ⟨rfl, m, rfl⟩))
    go_loopw [14] (fun i wr => (∃ m : Later W1, wr = m.w) ∧ ∃ k : Nat, k ≤ rs.length ∧ i = .int .i64 k ∧ ∀ v, v < k → packAt rs S v ≤ 1) (fun i _ => rs.length - (intOf i).toNat)
    case atStart => exact ⟨⟨m, rfl⟩, 0, by omega, rfl, fun v h => by omega⟩
    case round =>
      obtain ⟨⟨m, rfl⟩, k, hk, rfl, hP⟩ := hrel
      have HhP := Lib.hid hP
      clear hP
      by_cases hlt : k < rs.length
      · obtain ⟨rb, rofs, rfl, hrb, hrc⟩ := hr.graph g
        obtain ⟨q1, q2, q3, q4⟩ := pack_facts g hS hlt
        have HA : Hid (packAt rs S k = cnt ((gn rs k ||| 2 ^ k) &&& S)) := rfl
        generalize (gn rs k ||| 2 ^ k) &&& S = A at *
        generalize gn rs k ||| 2 ^ k = B at *
        generalize 2 ^ k = C at *
        by_cases hc : 1 < cnt A
        all_goals
          go_wp2_with (first | (go_at_call 111; refine (Calls.later m (implCount_any _ q4 _)).mono ?_; rintro e w' ⟨rfl, m, rfl⟩))
        · go_ret
          exact ⟨retB (by rw [packB_bad hlt (by rw [HA.out]; exact hc)]), below_later HhB.out m⟩
        · go_roundw
          case rel => exact ⟨⟨m, rfl⟩, k + 1, by omega, by go_num, all_succ HhP.out (by rw [HA.out]; omega)⟩
          case measure => simp [intOf]; omega
      · have HE := Lib.hid (packB_ok hv (fun v h => HhP.out v (by omega)))
        go_wp2_with fail
        go_ret
        exact ⟨retB (by rw [HE.out]), below_later HhB.out m⟩

end Go.Proofs.Ytflejcffjngdfaa
