/-
  LeastImperfect and IsPerfect on both sides. For at most 2^20 rows.
-/
import Derived.Test.YtepbhgapjogkjaaSmall
import Derived.Test.YtepbhgapjogkjaaLeast
import Derived.Test.YtepbhgapjogkjaaConn
namespace Go.Proofs.Ytepbhgapjogkjaa
open Go.RowKit

/-- Does the part of a set need more colours than its largest clique has vertices? -/
def badP (rs : List Int) (S : Nat) : Bool := decide (0 < S) && decide (clqN (cnt S) (ind rs S) < chromV (cnt S) (ind rs S))
theorem badP_zero (rs : List Int) : badP rs 0 = false := rfl
theorem badP_of {rs : List Int} {S : Nat} {a b : Int} (h0 : 0 < S) (h1 : chromV (cnt S) (ind rs S) = a) (h2 : clqN (cnt S) (ind rs S) = b) : badP rs S = decide (b < a) := by unfold badP; rw [h1, h2, decide_eq_true h0, Bool.true_and]
theorem badP_small {rs : List Int} (g : VG rs) {S : Nat} (hS : S < 2 ^ rs.length) (h : cnt S < 5) : badP rs S = false := by
  unfold badP
  by_cases h0 : 0 < S
  · have hl := ind_len rs S
    have := small_any (rs := ind rs S) (by rw [hl]; exact ind_graph g hS h0) (by omega)
    rw [hl] at this
    rw [decide_eq_false (p := clqN (cnt S) (ind rs S) < chromV (cnt S) (ind rs S)) (by omega), Bool.and_false]
  · rw [decide_eq_false h0]; rfl
def badO (n : Int) (rs : List Int) : Option Nat := leastO n rs (badP rs)

set_option maxRecDepth 100000 in
set_option maxHeartbeats 2000000 in
theorem specImperf_any (n : Int) (rs : List Int) (ro : Option Addr) (rc : Nat) (w : World) (hr : IntsAt w ro rs) (hrl : rs.length ≤ 1048576) :
    Calls Try.prog 28 #[.agg #[.int .i64 n, .slice ro rs.length rc]] w fun e w' => e = .returned (.tuple #[.int .i64 (leastI (badO n rs)), .bool (badO n rs).isSome]) ∧ Below w.heap.size w w' := by
  go_enter Try.func28, Try.ntmps28
  go_wp2_with fail
  generalize hW : w.alloc _ = W1
  obtain ⟨hB, -, k0⟩ := alloc1 hW
  replace hr := hr.below hB
  have hb0 := k0.lt
  have hc0 := k0.cell 0
  have hc1 := k0.cell 1
  simp at hc0 hc1
  clear hW k0
  have HhB := Lib.hid hB
  clear hB
  cases hv : isGraphB n rs
  · have HE : Hid (badO n rs = none) := Lib.hid (leastO_no hv)
    go_loopw [4] (fun i wr => (∃ m : Later W1, wr = m.w) ∧ i = .int .i64 1) (fun _ _ => 0)
    case atStart => exact ⟨⟨Later.refl _, rfl⟩, rfl⟩
    case round =>
      obtain ⟨⟨m, rfl⟩, rfl⟩ := hrel
      go_wp2_with (first | (go_at_call 68; refine (Calls.later m (specIsGraph_any _ _ _ _ _ (hr.later m) hrl)).mono ?_; rintro e w' ⟨rfl, m, rfl⟩))
      go_ret2
      exact ⟨by rw [HE.out]; rfl, below_later HhB.out m⟩
  · have HE : Hid (badO n rs = firstB (badP rs) (2 ^ rs.length)) := Lib.hid (leastO_of hv)
    obtain ⟨rfl, g⟩ := VG.of hv
    have hg1 := g.pos
    have hg2 := g.le
    obtain ⟨hp1, hp2⟩ := g.pow
    have hq := pwN_small rs.length (by omega)
    have hz := badP_zero rs
    have HS := Lib.hid (fun k a b => badP_of (rs := rs) (S := k) (a := a) (b := b))
    have HF := Lib.hid (fun k h1 h2 => badP_small (S := k) g h1 h2)
    have HI : Hid (∀ (S : Nat) (w : World), 0 < S → S < 2 ^ rs.length → IntsAt w ro rs → Calls Try.prog 70 #[.agg #[.int .i64 rs.length, .slice ro rs.length rc], .int .i64 S] w fun e w' => ∃ ao cap, e = .returned (.tuple #[.agg #[.int .i64 (cnt S), .slice ao (cnt S) cap], .bool true]) ∧ Below w.heap.size w w' ∧ OwnE w' w.heap.size ao cap (ind rs S)) := Lib.hid fun S w h0 h1 h => specInd_any rs S ro rc w h hv h1 h0
    generalize 2 ^ rs.length = T at *
    generalize badP rs = p at *
    go_loopw [4] (fun i wr => (∃ m : Later W1, wr = m.w) ∧ ∃ k : Nat, 1 ≤ k ∧ k ≤ T ∧ i = .int .i64 k ∧ ∀ j, j < k → p j = false) (fun i _ => T - (intOf i).toNat)
    case atStart => exact ⟨⟨Later.refl _, rfl⟩, 1, by omega, by omega, rfl, fun j h => by rw [show j = 0 by omega]; exact hz⟩
    case round =>
      obtain ⟨⟨m, rfl⟩, k, hk1, hk, rfl, hP⟩ := hrel
      have HhP := Lib.hid hP
      clear hP
      by_cases hlt : k < T
      · have HY := Lib.hid (fun h => all_succ (p := fun j => p j = false) HhP.out h)
        have HH := Lib.hid (fun h => firstB_hit (p := p) hlt HhP.out h)
        have hPa := fun m : Later W1 => HI.out k m.w (by omega) hlt (hr.later m)
        replace HS := Lib.hid (HS.out k _ _ (by omega) rfl rfl)
        replace HF := Lib.hid (HF.out k hlt)
        have hil := ind_len rs k
        have hc7 := cnt_le k
        have hCh := fun (w : World) (ao : Option Addr) (cap : Nat) (h : IntsAt w ao (ind rs k)) => specChrom_any (cnt k) (ind rs k) ao cap w h (by omega)
        have hCl := fun (w : World) (ao : Option Addr) (cap : Nat) (h : IntsAt w ao (ind rs k)) => specClqN_any (cnt k) (ind rs k) ao cap w h (by omega)
        rw [hil] at hCh hCl
        generalize ind rs k = is at *
        generalize chromV (cnt k) is = c1 at *
        generalize clqN (cnt k) is = c2 at *
        have HhCh := Lib.hid hCh
        clear hCh
        have HhCl := Lib.hid hCl
        clear hCl
        go_wp2_with (first | (go_at_call 68; refine (Calls.later m (specIsGraph_any _ _ _ _ _ (hr.later m) hrl)).mono ?_; rintro e w' ⟨rfl, m, rfl⟩))
        refine (hPa m).mono ?_
        rintro e w2 ⟨ao, cap, rfl, hB2, hE⟩
        have hI := hE.ints
        obtain ⟨m, rfl⟩ : ∃ m2 : Later W1, m2.w = w2 := ⟨m.on hB2, rfl⟩
        clear hB2 hPa hE
        go_wp2_with fail
        generalize hW3 : World.alloc _ _ = W3
        obtain ⟨hB3, -, k3⟩ := alloc1 hW3
        have x0 := k3.cell 0
        have x1 := k3.cell 1
        have xl := k3.lt
        simp at x0 x1
        replace hI := hI.below hB3
        have HW : ∀ m2 : Later W3, ∃ m' : Later W1, m'.w = m2.w := fun m2 => ⟨⟨m2.w, below_more (below_more m.below hB3) m2.below⟩, rfl⟩
        clear hW3 k3 hB3
        generalize m.w.heap.size = b2 at *
        clear m
        obtain ⟨m, hm0⟩ : ∃ m : Later W3, m.w = W3 := ⟨Later.refl _, rfl⟩
        refine (fun h => hm0 ▸ h) ?_
        clear hm0
        have C1 := fun m : Later W3 => HhCh.out m.w ao cap (hI.later m)
        have C2 := fun m : Later W3 => HhCl.out m.w ao cap (hI.later m)
        by_cases h5 : 5 ≤ cnt k
        · have d5 : decide (5 ≤ cnt k) = true := decide_eq_true h5
          have d6 : decide ((5 : Int) ≤ (cnt k : Int)) = true := decide_eq_true (by omega)
          cases hd : decide (c2 < c1)
          · have HN := Lib.hid (HY.out (by rw [HS.out, hd]))
            go_wp2_with fail
            refine wp_region_later m rfl (by kernel_rfl) (by kernel_rfl) ?_
            repeat (go_big_quiet_step ((first | (go_at_call 71; exact Calls.later _ (C1 _)) | (go_at_call 80; exact Calls.later _ (C2 _)))))
            refine wpQuiet_nil ?_
            rintro _ ⟨m, rfl⟩
            go_wp2_with fail
            go_roundw
            case rel =>
              obtain ⟨m2, hm2⟩ := HW m
              exact ⟨⟨m2, hm2.symm⟩, k + 1, by omega, by omega, by go_num, HN.out⟩
            case measure => simp [intOf]; omega
          · have HN := Lib.hid (HH.out (by rw [HS.out, hd]))
            go_wp2_with fail
            refine wp_region_later m rfl (by kernel_rfl) (by kernel_rfl) ?_
            repeat (go_big_quiet_step ((first | (go_at_call 71; exact Calls.later _ (C1 _)) | (go_at_call 80; exact Calls.later _ (C2 _)))))
            refine wpQuiet_nil ?_
            rintro _ ⟨m, rfl⟩
            go_wp2_with fail
            obtain ⟨m2, hm2⟩ := HW m
            have hBF : Below w.heap.size w m.w := hm2 ▸ below_later HhB.out m2
            go_ret2
            exact ⟨by rw [HE.out, HN.out]; rfl, hBF⟩
        · have HN := Lib.hid (HY.out (HF.out (by omega)))
          have d5 : decide (5 ≤ cnt k) = false := decide_eq_false h5
          have d6 : decide ((5 : Int) ≤ (cnt k : Int)) = false := decide_eq_false (by omega)
          go_wp2_with fail
          refine wp_region_later m rfl (by kernel_rfl) (by kernel_rfl) ?_
          repeat (go_big_quiet_step (fail))
          refine wpQuiet_nil ?_
          rintro _ ⟨m, rfl⟩
          go_wp2_with fail
          go_roundw
          case rel =>
            obtain ⟨m2, hm2⟩ := HW m
            exact ⟨⟨m2, hm2.symm⟩, k + 1, by omega, by omega, by go_num, HN.out⟩
          case measure => simp [intOf]; omega
      · have HN := Lib.hid (firstB_none (p := p) (n := T) (fun j h => HhP.out j (by omega)))
        go_wp2_with (first | (go_at_call 68; refine (Calls.later m (specIsGraph_any _ _ _ _ _ (hr.later m) hrl)).mono ?_; rintro e w' ⟨rfl, m, rfl⟩))
        go_ret2
        exact ⟨by rw [HE.out, HN.out]; rfl, below_later HhB.out m⟩

set_option maxRecDepth 100000 in
set_option maxHeartbeats 2000000 in
theorem imperfTest_any (rs : List Int) (ro : Option Addr) (rc : Nat) (hv : isGraphB rs.length rs = true) : TestOf 82 rs ro rc (badP rs) := by
  intro S w hr hS
  have g := (VG.of hv).2
  have hrl : rs.length ≤ 1048576 := by have := g.le; omega
  go_enter Try.func82, Try.ntmps82
  go_wp2_with fail
  generalize hW : w.alloc _ = W1
  obtain ⟨hB, -, k0⟩ := alloc1 hW
  replace hr := hr.below hB
  have hb0 := k0.lt
  have hc0 := k0.cell 0
  have hc1 := k0.cell 1
  simp at hc0 hc1
  clear hW k0
  have HhB := Lib.hid hB
  clear hB
  by_cases h0 : S = 0
  · subst h0
    refine (implInd_bad rs.length rs 0 ro rc W1 hr hrl (.inr rfl)).mono ?_
    rintro e w2 ⟨rfl, hB2⟩
    have hBB : Below w.heap.size w w2 := below_more' HhB.out hB2
    clear hB2
    go_wp2_with fail
    generalize hW3 : World.alloc _ _ = W3
    obtain ⟨hB3, -, -⟩ := alloc1 hW3
    have hB4 := below_more' hBB hB3
    clear hW3 hB3 hBB
    have HhB4 := Lib.hid hB4
    clear hB4
    obtain ⟨m, hm0⟩ : ∃ m : Later W3, m.w = W3 := ⟨Later.refl _, rfl⟩
    refine (fun h => hm0 ▸ h) ?_
    clear hm0
    refine wp_region_later m rfl (by kernel_rfl) (by kernel_rfl) ?_
    repeat (go_big_quiet_step (fail))
    refine wpQuiet_nil ?_
    rintro _ ⟨m, rfl⟩
    go_wp2_with fail
    go_ret
    exact ⟨rfl, below_later HhB4.out m⟩
  · have HS := Lib.hid (badP_of (rs := rs) (S := S) (by omega) rfl rfl)
    have hil := ind_len rs S
    have hc7 := cnt_le S
    refine (implInd_any rs S ro rc W1 hr hv hS (by omega)).mono ?_
    rintro e w2 ⟨ao, cap, rfl, hB2, hI⟩
    have hBB : Below w.heap.size w w2 := below_more' HhB.out hB2
    clear hB2
    go_wp2_with fail
    generalize hW3 : World.alloc _ _ = W3
    obtain ⟨hB3, -, k3⟩ := alloc1 hW3
    have x0 := k3.cell 0
    have x1 := k3.cell 1
    have xl := k3.lt
    simp at x0 x1
    replace hI := hI.below hB3
    have hB4 := below_more' hBB hB3
    clear hW3 hB3 hBB k3
    have HhB4 := Lib.hid hB4
    clear hB4
    have C1 := fun m : Later W3 => implChrom_any (cnt S) (ind rs S) ao cap m.w (hI.later m) (by omega)
    have C2 := fun m : Later W3 => implClqN_any (cnt S) (ind rs S) ao cap m.w (hI.later m) (by omega)
    rw [hil] at C1 C2
    generalize ind rs S = is at *
    generalize chromV (cnt S) is = c1 at *
    generalize clqN (cnt S) is = c2 at *
    generalize w2.heap.size = b2 at *
    obtain ⟨m, hm0⟩ : ∃ m : Later W3, m.w = W3 := ⟨Later.refl _, rfl⟩
    refine (fun h => hm0 ▸ h) ?_
    clear hm0
    cases hd : decide (c2 < c1)
    all_goals
      refine wp_region_later m rfl (by kernel_rfl) (by kernel_rfl) ?_
      repeat (go_big_quiet_step ((first | (go_at_call 73; exact Calls.later _ (C1 _)) | (go_at_call 84; exact Calls.later _ (C2 _)))))
      refine wpQuiet_nil ?_
      rintro _ ⟨m, rfl⟩
      go_wp2_with fail
      go_ret
      exact ⟨retB (by rw [HS.out, hd]), below_later HhB4.out m⟩

set_option maxRecDepth 100000 in
theorem implImperf_any (n : Int) (rs : List Int) (ro : Option Addr) (rc : Nat) (w : World) (hr : IntsAt w ro rs) (hrl : rs.length ≤ 1048576) :
    Calls Try.prog 29 #[.agg #[.int .i64 n, .slice ro rs.length rc]] w fun e w' => e = .returned (.tuple #[.int .i64 (leastI (badO n rs)), .bool (badO n rs).isSome]) ∧ Below w.heap.size w w' := by
  go_enter Try.func29, Try.ntmps29
  go_wp2_with fail
  generalize hW : w.alloc _ = W1
  obtain ⟨hB, -, k0⟩ := alloc1 hW
  replace hr := hr.below hB
  have hb0 := k0.lt
  have hc0 := k0.cell 0
  have hc1 := k0.cell 1
  simp at hc0 hc1
  clear hW k0
  have HhB := Lib.hid hB
  clear hB
  obtain ⟨m, hm0⟩ : ∃ m : Later W1, m.w = W1 := ⟨Later.refl _, rfl⟩
  refine (fun h => hm0 ▸ h) ?_
  clear hm0
  go_wp2_with (first | (go_at_call 81; refine (Calls.later m (implLeast_any n rs ro rc 82 (badP rs) _ (hr.later m) hrl (fun _ _ => rfl) (fun hv => imperfTest_any rs ro rc hv))).mono ?_; rintro e w' ⟨rfl, m, rfl⟩))
  go_ret2
  exact ⟨rfl, below_later HhB.out m⟩

/-! ### IsPerfect -/
def perfectB (n : Int) (rs : List Int) : Bool := isGraphB n rs && !(badO n rs).isSome

theorem specPerfect_any (n : Int) (rs : List Int) (ro : Option Addr) (rc : Nat) (w : World) (hr : IntsAt w ro rs) (hrl : rs.length ≤ 1048576) :
    Calls Try.prog 30 #[.agg #[.int .i64 n, .slice ro rs.length rc]] w fun e w' => e = .returned (.bool (perfectB n rs)) ∧ Below w.heap.size w w' := by
  have HE : Hid (perfectB n rs = (isGraphB n rs && !(badO n rs).isSome)) := rfl
  go_enter Try.func30, Try.ntmps30
  go_wp2_with fail
  generalize hW : w.alloc _ = W1
  obtain ⟨hB, -, k0⟩ := alloc1 hW
  replace hr := hr.below hB
  have hb0 := k0.lt
  have hc0 := k0.cell 0
  have hc1 := k0.cell 1
  simp at hc0 hc1
  clear hW k0
  have HhB := Lib.hid hB
  clear hB
  obtain ⟨m, hm0⟩ : ∃ m : Later W1, m.w = W1 := ⟨Later.refl _, rfl⟩
  refine (fun h => hm0 ▸ h) ?_
  clear hm0
  have hG := fun m : Later W1 => specIsGraph_any n rs ro rc m.w (hr.later m) hrl
  cases hv : isGraphB n rs
  all_goals
    rw [hv] at hG HE
    go_wp2_with (first | (go_at_call 28; refine (Calls.later m (specImperf_any _ _ _ _ _ (hr.later m) hrl)).mono ?_; rintro e w' ⟨rfl, m, rfl⟩) | (go_at_call 68; refine (Calls.later m (hG _)).mono ?_; rintro e w' ⟨rfl, m, rfl⟩))
    go_ret
    exact ⟨retB (by rw [HE.out]; cases badO n rs <;> rfl), below_later HhB.out m⟩

theorem implPerfect_any (n : Int) (rs : List Int) (ro : Option Addr) (rc : Nat) (w : World) (hr : IntsAt w ro rs) (hrl : rs.length ≤ 1048576) :
    Calls Try.prog 31 #[.agg #[.int .i64 n, .slice ro rs.length rc]] w fun e w' => e = .returned (.bool (perfectB n rs)) ∧ Below w.heap.size w w' := by
  have HE : Hid (perfectB n rs = (isGraphB n rs && !(badO n rs).isSome)) := rfl
  go_enter Try.func31, Try.ntmps31
  go_wp2_with fail
  generalize hW : w.alloc _ = W1
  obtain ⟨hB, -, k0⟩ := alloc1 hW
  replace hr := hr.below hB
  have hb0 := k0.lt
  have hc0 := k0.cell 0
  have hc1 := k0.cell 1
  simp at hc0 hc1
  clear hW k0
  have HhB := Lib.hid hB
  clear hB
  obtain ⟨m, hm0⟩ : ∃ m : Later W1, m.w = W1 := ⟨Later.refl _, rfl⟩
  refine (fun h => hm0 ▸ h) ?_
  clear hm0
  have hG := fun m : Later W1 => implIsGraph_any n rs ro rc m.w (hr.later m) hrl
  cases hv : isGraphB n rs
  all_goals
    rw [hv] at hG HE
    go_wp2_with (first | (go_at_call 29; refine (Calls.later m (implImperf_any _ _ _ _ _ (hr.later m) hrl)).mono ?_; rintro e w' ⟨rfl, m, rfl⟩) | (go_at_call 77; refine (Calls.later m (hG _)).mono ?_; rintro e w' ⟨rfl, m, rfl⟩))
    go_ret
    exact ⟨retB (by rw [HE.out]; cases badO n rs <;> rfl), below_later HhB.out m⟩

end Go.Proofs.Ytepbhgapjogkjaa
