/-
  LeastImperfect and IsPerfect on both sides. For at most 2^20 rows.
  Plain laws: the complement of a graph is a graph; a coloring is found with enough colors, and its colors are below their number. No conditions.
  CountColorings of the program, and how many colorings there are. For at most 2^20 rows.
-/
import Derived.Test.YtfkehmpckhmkbaaGreatPkLawPerfect23
import Derived.Test.YtfkehmpckhmkbaaGreatPkLawPerfect25
import Derived.Test.YtfkehmpckhmkbaaGreatPkLawPerfect20
import Derived.Test.YtfkehmpckhmkbaaGreatPkLawPerfect06
import Derived.Test.YtfkehmpckhmkbaaGreatPkLawPerfect04
namespace Go.Proofs.YtfkehmpckhmkbaaGreat
open Go.RowKit

/-- Does the part of a set need more colours than its largest clique has vertices? -/
def badP (rs : List Int) (S : Nat) : Bool := decide (0 < S) && decide (clqN (cnt S) (ind rs S) < chromV (cnt S) (ind rs S))
theorem badP_zero (rs : List Int) : badP rs 0 = false := rfl
theorem badP_of {rs : List Int} {S : Nat} {a b : Int} (h0 : 0 < S) (h1 : chromV (cnt S) (ind rs S) = a) (h2 : clqN (cnt S) (ind rs S) = b) : badP rs S = decide (b < a) := by unfold badP; rw [h1, h2, decide_eq_true h0, Bool.true_and]
theorem badP_small {rs : List Int} (g : VG rs) {S : Nat} (hS : S < 2 ^ rs.length) (h : cnt S < 5) : badP rs S = false := by
  unfold badP
  by_cases h0 : 0 < S
  · have hl := ind_len rs S
    have := small_any (rs := ind rs S) (by rw [hl]; exact ind_graph g hS h0) (by omega)
    rw [hl] at this
    rw [decide_eq_false (p := clqN (cnt S) (ind rs S) < chromV (cnt S) (ind rs S)) (by omega), Bool.and_false]
  · rw [decide_eq_false h0]; rfl
def badO (n : Int) (rs : List Int) : Option Nat := leastO n rs (badP rs)

set_option maxRecDepth 100000 in
set_option maxHeartbeats 2000000 in
theorem specImperf_any (n : Int) (rs : List Int) (ro : Option Addr) (rc : Nat) (w : World) (hr : IntsAt w ro rs) (hrl : rs.length ≤ 1048576) :
    Calls Tryz.prog 8 #[.agg #[.int .i64 n, .slice ro rs.length rc]] w fun e w' => e = .returned (.tuple #[.int .i64 (leastI (badO n rs)), .bool (badO n rs).isSome]) ∧ Below w.heap.size w w' := by
  go_enter Tryz.func8, Tryz.ntmps8
  go_wp2_with fail
  generalize hW : w.alloc _ = W1
  obtain ⟨hB, -, k0⟩ := alloc1 hW
  replace hr := hr.below hB
  have hb0 := k0.lt
  have hc0 := k0.cell 0
  have hc1 := k0.cell 1
  simp at hc0 hc1
  clear hW k0
  have HhB := Lib.hid hB
  clear hB
  cases hv : isGraphB n rs
  · have HE : Hid (badO n rs = none) := Lib.hid (leastO_no hv)
    go_loopw [4] (fun i wr => (∃ m : Later W1, wr = m.w) ∧ i = .int .i64 1) (fun _ _ => 0)
    case atStart => exact ⟨⟨Later.refl _, rfl⟩, rfl⟩
    case round =>
      obtain ⟨⟨m, rfl⟩, rfl⟩ := hrel
      go_wp2_with (first | (go_at_call 13; refine (Calls.later m (specIsGraph_any _ _ _ _ _ (hr.later m) hrl)).mono ?_; rintro e w' ⟨rfl, m, rfl⟩))
      go_ret2
      exact ⟨by rw [HE.out]; rfl, below_later HhB.out m⟩
  · have HE : Hid (badO n rs = firstB (badP rs) (2 ^ rs.length)) := Lib.hid (leastO_of hv)
    obtain ⟨rfl, g⟩ := VG.of hv
    have hg1 := g.pos
    have hg2 := g.le
    obtain ⟨hp1, hp2⟩ := g.pow
    have hq := pwN_small rs.length (by omega)
    have hz := badP_zero rs
    have HS := Lib.hid (fun k a b => badP_of (rs := rs) (S := k) (a := a) (b := b))
    have HF := Lib.hid (fun k h1 h2 => badP_small (S := k) g h1 h2)
    have HI : Hid (∀ (S : Nat) (w : World), 0 < S → S < 2 ^ rs.length → IntsAt w ro rs → Calls Tryz.prog 40 #[.agg #[.int .i64 rs.length, .slice ro rs.length rc], .int .i64 S] w fun e w' => ∃ ao cap, e = .returned (.tuple #[.agg #[.int .i64 (cnt S), .slice ao (cnt S) cap], .bool true]) ∧ Below w.heap.size w w' ∧ OwnE w' w.heap.size ao cap (ind rs S)) := Lib.hid fun S w h0 h1 h => specInd_any rs S ro rc w h hv h1 h0
    generalize 2 ^ rs.length = T at *
    generalize badP rs = p at *
    go_loopw [4] (fun i wr => (∃ m : Later W1, wr = m.w) ∧ ∃ k : Nat, 1 ≤ k ∧ k ≤ T ∧ i = .int .i64 k ∧ ∀ j, j < k → p j = false) (fun i _ => T - (intOf i).toNat)
    case atStart => exact ⟨⟨Later.refl _, rfl⟩, 1, by omega, by omega, rfl, fun j h => by rw [show j = 0 by omega]; exact hz⟩
    case round =>
      obtain ⟨⟨m, rfl⟩, k, hk1, hk, rfl, hP⟩ := hrel
      have HhP := Lib.hid hP
      clear hP
      by_cases hlt : k < T
      · have HY := Lib.hid (fun h => all_succ (p := fun j => p j = false) HhP.out h)
        have HH := Lib.hid (fun h => firstB_hit (p := p) hlt HhP.out h)
        have hPa := fun m : Later W1 => HI.out k m.w (by omega) hlt (hr.later m)
        replace HS := Lib.hid (HS.out k _ _ (by omega) rfl rfl)
        replace HF := Lib.hid (HF.out k hlt)
        have hil := ind_len rs k
        have hc7 := cnt_le k
        have hCh := fun (w : World) (ao : Option Addr) (cap : Nat) (h : IntsAt w ao (ind rs k)) => specChrom_any (cnt k) (ind rs k) ao cap w h (by omega)
        have hCl := fun (w : World) (ao : Option Addr) (cap : Nat) (h : IntsAt w ao (ind rs k)) => specClqN_any (cnt k) (ind rs k) ao cap w h (by omega)
        rw [hil] at hCh hCl
        generalize ind rs k = is at *
        generalize chromV (cnt k) is = c1 at *
        generalize clqN (cnt k) is = c2 at *
        have HhCh := Lib.hid hCh
        clear hCh
        have HhCl := Lib.hid hCl
        clear hCl
        go_wp2_with (first | (go_at_call 13; refine (Calls.later m (specIsGraph_any _ _ _ _ _ (hr.later m) hrl)).mono ?_; rintro e w' ⟨rfl, m, rfl⟩))
        refine (hPa m).mono ?_
        rintro e w2 ⟨ao, cap, rfl, hB2, hE⟩
        have hI := hE.ints
        obtain ⟨m, rfl⟩ : ∃ m2 : Later W1, m2.w = w2 := ⟨m.on hB2, rfl⟩
        clear hB2 hPa hE
        go_wp2_with fail
        generalize hW3 : World.alloc _ _ = W3
        obtain ⟨hB3, -, k3⟩ := alloc1 hW3
        have x0 := k3.cell 0
        have x1 := k3.cell 1
        have xl := k3.lt
        simp at x0 x1
        replace hI := hI.below hB3
        have HW : ∀ m2 : Later W3, ∃ m' : Later W1, m'.w = m2.w := fun m2 => ⟨⟨m2.w, below_more (below_more m.below hB3) m2.below⟩, rfl⟩
        clear hW3 k3 hB3
        generalize m.w.heap.size = b2 at *
        clear m
        obtain ⟨m, hm0⟩ : ∃ m : Later W3, m.w = W3 := ⟨Later.refl _, rfl⟩
        refine (fun h => hm0 ▸ h) ?_
        clear hm0
        have C1 := fun m : Later W3 => HhCh.out m.w ao cap (hI.later m)
        have C2 := fun m : Later W3 => HhCl.out m.w ao cap (hI.later m)
        by_cases h5 : 5 ≤ cnt k
        · have d5 : decide (5 ≤ cnt k) = true := decide_eq_true h5
          have d6 : decide ((5 : Int) ≤ (cnt k : Int)) = true := decide_eq_true (by omega)
          cases hd : decide (c2 < c1)
          · have HN := Lib.hid (HY.out (by rw [HS.out, hd]))
            go_wp2_with fail
            refine wp_region_later m rfl (by kernel_rfl) (by kernel_rfl) ?_
            repeat (go_big_quiet_step ((first | (go_at_call 16; exact Calls.later _ (C1 _)) | (go_at_call 17; exact Calls.later _ (C2 _)))))
            refine wpQuiet_nil ?_
            rintro _ ⟨m, rfl⟩
            go_wp2_with fail
            go_roundw
            case rel =>
              obtain ⟨m2, hm2⟩ := HW m
              exact ⟨⟨m2, hm2.symm⟩, k + 1, by omega, by omega, by go_num, HN.out⟩
            case measure => simp [intOf]; omega
          · have HN := Lib.hid (HH.out (by rw [HS.out, hd]))
            go_wp2_with fail
            refine wp_region_later m rfl (by kernel_rfl) (by kernel_rfl) ?_
            repeat (go_big_quiet_step ((first | (go_at_call 16; exact Calls.later _ (C1 _)) | (go_at_call 17; exact Calls.later _ (C2 _)))))
            refine wpQuiet_nil ?_
            rintro _ ⟨m, rfl⟩
            go_wp2_with fail
            obtain ⟨m2, hm2⟩ := HW m
            have hBF : Below w.heap.size w m.w := hm2 ▸ below_later HhB.out m2
            go_ret2
            exact ⟨by rw [HE.out, HN.out]; rfl, hBF⟩
        · have HN := Lib.hid (HY.out (HF.out (by omega)))
          have d5 : decide (5 ≤ cnt k) = false := decide_eq_false h5
          have d6 : decide ((5 : Int) ≤ (cnt k : Int)) = false := decide_eq_false (by omega)
          go_wp2_with fail
          refine wp_region_later m rfl (by kernel_rfl) (by kernel_rfl) ?_
          repeat (go_big_quiet_step (fail))
          refine wpQuiet_nil ?_
          rintro _ ⟨m, rfl⟩
          go_wp2_with fail
          go_roundw
          case rel =>
            obtain ⟨m2, hm2⟩ := HW m
            exact ⟨⟨m2, hm2.symm⟩, k + 1, by omega, by omega, by go_num, HN.out⟩
          case measure => simp [intOf]; omega
      · have HN := Lib.hid (firstB_none (p := p) (n := T) (fun j h => HhP.out j (by omega)))
        go_wp2_with (first | (go_at_call 13; refine (Calls.later m (specIsGraph_any _ _ _ _ _ (hr.later m) hrl)).mono ?_; rintro e w' ⟨rfl, m, rfl⟩))
        go_ret2
        exact ⟨by rw [HE.out, HN.out]; rfl, below_later HhB.out m⟩

set_option maxRecDepth 100000 in
set_option maxHeartbeats 2000000 in
theorem imperfTest_any (rs : List Int) (ro : Option Addr) (rc : Nat) (hv : isGraphB rs.length rs = true) : TestOf 36 rs ro rc (badP rs) := by
  intro S w hr hS
  have g := (VG.of hv).2
  have hrl : rs.length ≤ 1048576 := by have := g.le; omega
  go_enter Tryz.func36, Tryz.ntmps36
  go_wp2_with fail
  generalize hW : w.alloc _ = W1
  obtain ⟨hB, -, k0⟩ := alloc1 hW
  replace hr := hr.below hB
  have hb0 := k0.lt
  have hc0 := k0.cell 0
  have hc1 := k0.cell 1
  simp at hc0 hc1
  clear hW k0
  have HhB := Lib.hid hB
  clear hB
  by_cases h0 : S = 0
  · subst h0
    refine (implInd_bad rs.length rs 0 ro rc W1 hr hrl (.inr rfl)).mono ?_
    rintro e w2 ⟨rfl, hB2⟩
    have hBB : Below w.heap.size w w2 := below_more' HhB.out hB2
    clear hB2
    go_wp2_with fail
    generalize hW3 : World.alloc _ _ = W3
    obtain ⟨hB3, -, -⟩ := alloc1 hW3
    have hB4 := below_more' hBB hB3
    clear hW3 hB3 hBB
    have HhB4 := Lib.hid hB4
    clear hB4
    obtain ⟨m, hm0⟩ : ∃ m : Later W3, m.w = W3 := ⟨Later.refl _, rfl⟩
    refine (fun h => hm0 ▸ h) ?_
    clear hm0
    refine wp_region_later m rfl (by kernel_rfl) (by kernel_rfl) ?_
    repeat (go_big_quiet_step (fail))
    refine wpQuiet_nil ?_
    rintro _ ⟨m, rfl⟩
    go_wp2_with fail
    go_ret
    exact ⟨rfl, below_later HhB4.out m⟩
  · have HS := Lib.hid (badP_of (rs := rs) (S := S) (by omega) rfl rfl)
    have hil := ind_len rs S
    have hc7 := cnt_le S
    refine (implInd_any rs S ro rc W1 hr hv hS (by omega)).mono ?_
    rintro e w2 ⟨ao, cap, rfl, hB2, hI⟩
    have hBB : Below w.heap.size w w2 := below_more' HhB.out hB2
    clear hB2
    go_wp2_with fail
    generalize hW3 : World.alloc _ _ = W3
    obtain ⟨hB3, -, k3⟩ := alloc1 hW3
    have x0 := k3.cell 0
    have x1 := k3.cell 1
    have xl := k3.lt
    simp at x0 x1
    replace hI := hI.below hB3
    have hB4 := below_more' hBB hB3
    clear hW3 hB3 hBB k3
    have HhB4 := Lib.hid hB4
    clear hB4
    have C1 := fun m : Later W3 => implChrom_any (cnt S) (ind rs S) ao cap m.w (hI.later m) (by omega)
    have C2 := fun m : Later W3 => implClqN_any (cnt S) (ind rs S) ao cap m.w (hI.later m) (by omega)
    rw [hil] at C1 C2
    generalize ind rs S = is at *
    generalize chromV (cnt S) is = c1 at *
    generalize clqN (cnt S) is = c2 at *
    generalize w2.heap.size = b2 at *
    obtain ⟨m, hm0⟩ : ∃ m : Later W3, m.w = W3 := ⟨Later.refl _, rfl⟩
    refine (fun h => hm0 ▸ h) ?_
    clear hm0
    cases hd : decide (c2 < c1)
    all_goals
      refine wp_region_later m rfl (by kernel_rfl) (by kernel_rfl) ?_
      repeat (go_big_quiet_step ((first | (go_at_call 38; exact Calls.later _ (C1 _)) | (go_at_call 39; exact Calls.later _ (C2 _)))))
      refine wpQuiet_nil ?_
      rintro _ ⟨m, rfl⟩
      go_wp2_with fail
      go_ret
      exact ⟨retB (by rw [HS.out, hd]), below_later HhB4.out m⟩

set_option maxRecDepth 100000 in
theorem implImperf_any (n : Int) (rs : List Int) (ro : Option Addr) (rc : Nat) (w : World) (hr : IntsAt w ro rs) (hrl : rs.length ≤ 1048576) :
    Calls Tryz.prog 7 #[.agg #[.int .i64 n, .slice ro rs.length rc]] w fun e w' => e = .returned (.tuple #[.int .i64 (leastI (badO n rs)), .bool (badO n rs).isSome]) ∧ Below w.heap.size w w' := by
  go_enter Tryz.func7, Tryz.ntmps7
  go_wp2_with fail
  generalize hW : w.alloc _ = W1
  obtain ⟨hB, -, k0⟩ := alloc1 hW
  replace hr := hr.below hB
  have hb0 := k0.lt
  have hc0 := k0.cell 0
  have hc1 := k0.cell 1
  simp at hc0 hc1
  clear hW k0
  have HhB := Lib.hid hB
  clear hB
  obtain ⟨m, hm0⟩ : ∃ m : Later W1, m.w = W1 := ⟨Later.refl _, rfl⟩
  refine (fun h => hm0 ▸ h) ?_
  clear hm0
  go_wp2_with (first | (go_at_call 35; refine (Calls.later m (implLeast_any n rs ro rc 36 (badP rs) _ (hr.later m) hrl (fun _ _ => rfl) (fun hv => imperfTest_any rs ro rc hv))).mono ?_; rintro e w' ⟨rfl, m, rfl⟩))
  go_ret2
  exact ⟨rfl, below_later HhB.out m⟩

/-! ### IsPerfect -/
def perfectB (n : Int) (rs : List Int) : Bool := isGraphB n rs && !(badO n rs).isSome

theorem specPerfect_any (n : Int) (rs : List Int) (ro : Option Addr) (rc : Nat) (w : World) (hr : IntsAt w ro rs) (hrl : rs.length ≤ 1048576) :
    Calls Tryz.prog 11 #[.agg #[.int .i64 n, .slice ro rs.length rc]] w fun e w' => e = .returned (.bool (perfectB n rs)) ∧ Below w.heap.size w w' := by
  have HE : Hid (perfectB n rs = (isGraphB n rs && !(badO n rs).isSome)) := rfl
  go_enter Tryz.func11, Tryz.ntmps11
  go_wp2_with fail
  generalize hW : w.alloc _ = W1
  obtain ⟨hB, -, k0⟩ := alloc1 hW
  replace hr := hr.below hB
  have hb0 := k0.lt
  have hc0 := k0.cell 0
  have hc1 := k0.cell 1
  simp at hc0 hc1
  clear hW k0
  have HhB := Lib.hid hB
  clear hB
  obtain ⟨m, hm0⟩ : ∃ m : Later W1, m.w = W1 := ⟨Later.refl _, rfl⟩
  refine (fun h => hm0 ▸ h) ?_
  clear hm0
  have hG := fun m : Later W1 => specIsGraph_any n rs ro rc m.w (hr.later m) hrl
  cases hv : isGraphB n rs
  all_goals
    rw [hv] at hG HE
    go_wp2_with (first | (go_at_call 8; refine (Calls.later m (specImperf_any _ _ _ _ _ (hr.later m) hrl)).mono ?_; rintro e w' ⟨rfl, m, rfl⟩) | (go_at_call 13; refine (Calls.later m (hG _)).mono ?_; rintro e w' ⟨rfl, m, rfl⟩))
    go_ret
    exact ⟨retB (by rw [HE.out]; cases badO n rs <;> rfl), below_later HhB.out m⟩

theorem implPerfect_any (n : Int) (rs : List Int) (ro : Option Addr) (rc : Nat) (w : World) (hr : IntsAt w ro rs) (hrl : rs.length ≤ 1048576) :
    Calls Tryz.prog 6 #[.agg #[.int .i64 n, .slice ro rs.length rc]] w fun e w' => e = .returned (.bool (perfectB n rs)) ∧ Below w.heap.size w w' := by
  have HE : Hid (perfectB n rs = (isGraphB n rs && !(badO n rs).isSome)) := rfl
  go_enter Tryz.func6, Tryz.ntmps6
  go_wp2_with fail
  generalize hW : w.alloc _ = W1
  obtain ⟨hB, -, k0⟩ := alloc1 hW
  replace hr := hr.below hB
  have hb0 := k0.lt
  have hc0 := k0.cell 0
  have hc1 := k0.cell 1
  simp at hc0 hc1
  clear hW k0
  have HhB := Lib.hid hB
  clear hB
  obtain ⟨m, hm0⟩ : ∃ m : Later W1, m.w = W1 := ⟨Later.refl _, rfl⟩
  refine (fun h => hm0 ▸ h) ?_
  clear hm0
  have hG := fun m : Later W1 => implIsGraph_any n rs ro rc m.w (hr.later m) hrl
  cases hv : isGraphB n rs
  all_goals
    rw [hv] at hG HE
    go_wp2_with (first | (go_at_call 7; refine (Calls.later m (implImperf_any _ _ _ _ _ (hr.later m) hrl)).mono ?_; rintro e w' ⟨rfl, m, rfl⟩) | (go_at_call 34; refine (Calls.later m (hG _)).mono ?_; rintro e w' ⟨rfl, m, rfl⟩))
    go_ret
    exact ⟨retB (by rw [HE.out]; cases badO n rs <;> rfl), below_later HhB.out m⟩

end Go.Proofs.YtfkehmpckhmkbaaGreat

namespace Go.Proofs.YtfkehmpckhmkbaaGreat
open Go.RowKit

theorem complRow_bit {rs : List Int} {v i : Nat} : (complRow rs v).testBit i = true ↔ i < rs.length ∧ (gn rs v).testBit i = false ∧ v ≠ i := by
  unfold complRow
  rw [nDiff_bit, nDiff_bit, all_bit]
  constructor
  · rintro ⟨⟨h1, h2⟩, h3⟩
    exact ⟨h1, h2, fun e => by rw [(pow_bit).2 e] at h3; cases h3⟩
  · rintro ⟨h1, h2, h3⟩
    refine ⟨⟨h1, h2⟩, ?_⟩
    cases h : (2 ^ v).testBit i
    · rfl
    · exact absurd (pow_bit.1 h) h3
theorem complRow_lt (rs : List Int) (v : Nat) : complRow rs v < 2 ^ rs.length := Nat.lt_of_le_of_lt ((nDiff_sub _ _).trans (nDiff_sub _ _)).le (all_lt _)
theorem compl_graph {rs : List Int} (g : VG rs) : isGraphB rs.length (compl rs) = true := by
  have hl := compl_len rs
  have h1 := g.pos
  have h2 := g.le
  have key := isGraphB_mk (rs := compl rs) (by omega) (by omega) (fun v hv => ?_) (fun v hv u hu => ?_)
  · rw [hl] at key; exact key
  · rw [hl] at hv
    have h3 := complRow_lt rs v
    unfold rowOk
    rw [compl_at hv, hl, pwN_small _ (by omega), hasN_nat]
    have h4 : (complRow rs v).testBit v = false := by
      cases h : (complRow rs v).testBit v
      · rfl
      · exact absurd rfl (complRow_bit.1 h).2.2
    rw [h4]
    simp only [Bool.not_false, Bool.and_true, Bool.and_eq_true, decide_eq_true_eq]
    omega
  · rw [hl] at hv
    have hu' : u < rs.length := by omega
    rw [compl_at hv, compl_at hu', hasN_nat, hasN_nat, Bool.eq_iff_iff, complRow_bit, complRow_bit, g.sym v hv u hu']
    constructor
    · rintro ⟨_, a, b⟩; exact ⟨hv, a, fun e => b e.symm⟩
    · rintro ⟨_, a, b⟩; exact ⟨hu', a, fun e => b e.symm⟩

/-! ### What the search for a coloring finds -/
theorem pigeon : ∀ (k : Nat) (l : List Int), l.length < k → ∃ c, c < k ∧ (c : Int) ∉ l
  | 0, l, h => by omega
  | k + 1, l, h => by
    by_cases hm : (k : Int) ∈ l
    · have hl := List.length_erase_of_mem hm
      have hp : 0 < l.length := List.length_pos_of_mem hm
      obtain ⟨c, h1, h2⟩ := pigeon k (l.erase (k : Int)) (by omega)
      exact ⟨c, by omega, fun h3 => h2 ((List.mem_erase_of_ne (by omega)).2 h3)⟩
    · exact ⟨k, by omega, hm⟩
theorem freeTo_not {rs l : List Int} {c : Nat} (h : (c : Int) ∉ l) : ∀ t, t ≤ l.length → freeTo rs l c t = true
  | 0, _ => rfl
  | t + 1, ht => by
    have ih := freeTo_not (rs := rs) h t (by omega)
    have hc : clash rs l c t = false := by
      unfold clash
      have : (gi l t == (c : Int)) = false := by
        rw [beq_eq_false_iff_ne]
        intro e
        apply h
        rw [← e]
        have : t < l.length := by omega
        simp [gi, this]
      rw [this]; rfl
    show (freeTo rs l c t && !clash rs l c t) = true
    rw [ih, hc]; rfl
theorem preB_some {step : Nat → Option (List Int) → Option (List Int) × Bool} (h : ∀ c, (step c none).2 = (step c none).1.isNone) {j n : Nat} (hj : j < n) (hs : (step j none).1.isSome = true) : (preB step none n).1.isSome = true := by
  cases hn : (preB step none n).1 with
  | some x => rfl
  | none =>
    exfalso
    have h2 := preB_last h n
    rw [hn] at h2
    have h3 : ∀ i, i ≤ n → (preB step none i).2 = true := fun i hi => by
      cases h4 : (preB step none i).2
      · have := preB_stop h4 n hi
        rw [this, h4] at h2; cases h2
      · rfl
    have h5 := h3 j (by omega)
    have h6 := preB_last h j
    rw [h5] at h6
    have h7 : (preB step none j).1 = none := by simpa using h6.symm
    have h8 : preB step none (j + 1) = step j none := by rw [preB, if_pos h5, h7]
    have h9 := h3 (j + 1) (by omega)
    rw [h8, h (j)] at h9
    rw [Option.isNone_iff_eq_none] at h9
    rw [h9] at hs; cases hs
theorem firstC_some' {rs : List Int} {kc : Nat} : ∀ f l, l.length + f ≤ kc → (firstC rs kc f l).isSome = true
  | 0, l, _ => rfl
  | f + 1, l, h => by
    obtain ⟨c, h1, h2⟩ := pigeon kc l (by omega)
    refine preB_some (fun c => by
      split
      · exact colRun_last rs kc f _
      · rfl) h1 ?_
    rw [if_pos (freeTo_not h2 _ (Nat.le_refl _))]
    exact firstC_some' f _ (by simp; omega)
/-- What is kept at each step holds of the coloring that is found. -/
theorem firstC_inv {rs : List Int} {kc : Nat} (P : List Int → Prop) (hs : ∀ l c, P l → c < kc → freeTo rs l c l.length = true → P (l ++ [(c : Int)])) : ∀ f l x, P l → firstC rs kc f l = some x → P x
  | 0, l, x, hl, h => by
    have : some l = some x := h
    simp only [Option.some.injEq] at this
    rw [← this]; exact hl
  | f + 1, l, x, hl, h => by
    have hj : ∀ j, j ≤ kc → ∀ x, (preB (fun c s => if freeTo rs l c l.length = true then colRun lastV rs kc f s (l ++ [(c : Int)]) else (s, true)) none j).1 = some x → P x := by
      intro j
      induction j with
      | zero => intro _ x hx; cases hx
      | succ j ih =>
        intro hjk x hx
        rw [preB] at hx
        split at hx
        · rename_i h2
          have hn : (preB (fun c s => if freeTo rs l c l.length = true then colRun lastV rs kc f s (l ++ [(c : Int)]) else (s, true)) none j).1 = none := by
            have := preB_last (step := fun c s => if freeTo rs l c l.length = true then colRun lastV rs kc f s (l ++ [(c : Int)]) else (s, true)) (fun c => by
              split
              · exact colRun_last rs kc f _
              · rfl) j
            rw [h2] at this
            simpa using this.symm
          rw [hn] at hx
          split at hx
          · rename_i h3
            exact firstC_inv P hs f _ x (hs l j hl (by omega) h3) hx
          · cases hx
        · exact ih (by omega) x hx
    exact hj kc (Nat.le_refl _) x h
def below (kc : Nat) (l : List Int) : Prop := ∀ y, y ∈ l → ∃ c : Nat, c < kc ∧ y = (c : Int)
theorem firstC_below {rs : List Int} {kc f : Nat} {x : List Int} (h : firstC rs kc f [] = some x) : below kc x := by
  refine firstC_inv (rs := rs) (kc := kc) (below kc) (fun l c hl hc _ y hy => ?_) f [] x (fun y hy => by cases hy) h
  simp only [List.mem_append, List.mem_singleton] at hy
  rcases hy with hy | rfl
  · exact hl y hy
  · exact ⟨c, hc, rfl⟩
/-- Of a graph: the chromatic number, and the first coloring with so many colors. -/
theorem chrom_facts {rs : List Int} {n : Int} (hv : isGraphB n rs = true) : ∃ (k : Nat) (x : List Int), chromV n rs = k ∧ 1 ≤ k ∧ k ≤ 7 ∧ colWith n rs k = some x ∧ x.length = rs.length ∧ ∀ t, t < rs.length → ∃ c : Nat, c < k ∧ gi x t = (c : Int) := by
  have g := (VG.of hv).2
  have h7 : (colWith n rs ((6 + 1 : Nat) : Int)).isSome = true := by
    rw [colWith_of hv (by decide)]
    exact firstC_some' _ _ (by have := g.le; simp; omega)
  unfold chromV
  cases hf : firstB (fun j => (colWith n rs ((j + 1 : Nat) : Int)).isSome) 7 with
  | none =>
    exfalso
    unfold firstB at hf
    rw [List.find?_range_eq_none] at hf
    have := hf 6 (by omega)
    rw [h7] at this; cases this
  | some j =>
    unfold firstB at hf
    rw [List.find?_range_eq_some] at hf
    obtain ⟨h1, h2, -⟩ := hf
    have hj : j < 7 := by simpa using h2
    obtain ⟨x, hx⟩ := Option.isSome_iff_exists.1 h1
    have hc := colWith_of (k := j + 1) hv (by rw [Bool.and_eq_true, decide_eq_true_eq, decide_eq_true_eq]; omega)
    rw [hx] at hc
    refine ⟨j + 1, x, rfl, by omega, by omega, hx, ?_, fun t ht => ?_⟩
    · have := firstC_len rs (j + 1) _ _ _ hc.symm
      simpa using this
    · have hl := firstC_len rs (j + 1) _ _ _ hc.symm
      have ht' : t < x.length := by rw [hl]; simpa using ht
      have := firstC_below hc.symm (x[t]) (List.getElem_mem ht')
      simpa [gi, ht'] using this

end Go.Proofs.YtfkehmpckhmkbaaGreat

namespace Go.Proofs.YtfkehmpckhmkbaaGreat
open Go.RowKit

/-! ### The number -/
def colCount (rs : List Int) (kc : Nat) : Nat → List Int → Nat
  | 0, _ => 1
  | f + 1, l => ((List.range kc).map fun c => if freeTo rs l c l.length = true then colCount rs kc f (l ++ [(c : Int)]) else 0).sum
/-- The part of the sum below color j. -/
def colSum (rs : List Int) (kc f : Nat) (l : List Int) (j : Nat) : Nat := ((List.range j).map fun c => if freeTo rs l c l.length = true then colCount rs kc f (l ++ [(c : Int)]) else 0).sum
theorem colSum_zero (rs : List Int) (kc f : Nat) (l : List Int) : colSum rs kc f l 0 = 0 := rfl
theorem colSum_no {rs : List Int} {kc f : Nat} {l : List Int} {j : Nat} (h : freeTo rs l j l.length = false) : colSum rs kc f l (j + 1) = colSum rs kc f l j := by
  unfold colSum; rw [List.range_succ, List.map_append, List.sum_append]; simp [h]
theorem colSum_yes {rs : List Int} {kc f : Nat} {l : List Int} {j : Nat} (h : freeTo rs l j l.length = true) : colSum rs kc f l (j + 1) = colSum rs kc f l j + colCount rs kc f (l ++ [(j : Int)]) := by
  unfold colSum; rw [List.range_succ, List.map_append, List.sum_append]; simp [h]
theorem colCount_succ (rs : List Int) (kc f : Nat) (l : List Int) : colCount rs kc (f + 1) l = colSum rs kc f l kc := rfl
theorem colCount_le (rs : List Int) {kc : Nat} (hk : kc ≤ 4) : ∀ f l, colCount rs kc f l ≤ 4 ^ f
  | 0, _ => Nat.le_refl _
  | f + 1, l => by
    have h : ∀ j, colSum rs kc f l j ≤ j * 4 ^ f := by
      intro j
      induction j with
      | zero => simp [colSum]
      | succ j ih =>
        rw [Nat.succ_mul]
        cases hf : freeTo rs l j l.length
        · rw [colSum_no hf]; exact Nat.le_trans ih (Nat.le_add_right _ _)
        · rw [colSum_yes hf]; exact Nat.add_le_add ih (colCount_le rs hk f _)
    rw [colCount_succ, Nat.pow_succ, Nat.mul_comm]
    exact Nat.le_trans (h kc) (Nat.mul_le_mul_right _ hk)
theorem colSum_le (rs : List Int) {kc : Nat} (hk : kc ≤ 4) (f : Nat) (l : List Int) : ∀ j, colSum rs kc f l j ≤ j * 4 ^ f
  | 0 => by simp [colSum]
  | j + 1 => by
    rw [Nat.succ_mul]
    have ih := colSum_le rs hk f l j
    cases hf : freeTo rs l j l.length
    · rw [colSum_no hf]; exact Nat.le_trans ih (Nat.le_add_right _ _)
    · rw [colSum_yes hf]; exact Nat.add_le_add ih (colCount_le rs hk f _)
/-- What CountColorings says. -/
def countV (n : Int) (rs : List Int) (k : Int) : Int := if isGraphB n rs = true ∧ (decide (0 ≤ k) && decide (k ≤ 4)) = true then colCount rs k.toNat rs.length [] else -1
theorem countV_no {n : Int} {rs : List Int} {k : Int} (h : isGraphB n rs = false) : countV n rs k = -1 := by unfold countV; rw [if_neg]; rintro ⟨a, -⟩; rw [h] at a; cases a
theorem countV_out {n : Int} {rs : List Int} {k : Int} (h : (decide (0 ≤ k) && decide (k ≤ 4)) = false) : countV n rs k = -1 := by unfold countV; rw [if_neg]; rintro ⟨-, a⟩; rw [h] at a; cases a
theorem countV_of {n : Int} {rs : List Int} {k : Nat} (h : isGraphB n rs = true) (h1 : (decide (0 ≤ (k : Int)) && decide ((k : Int) ≤ 4)) = true) : countV n rs k = colCount rs k rs.length [] := by unfold countV; rw [if_pos ⟨h, h1⟩]; rfl

/-- The visitor that counts. -/
def countS (s : Int) (_ : List Int) : Int × Bool := (wrap64 (s + 1), true)
theorem countRun (rs : List Int) (kc : Nat) : ∀ f (l : List Int) (s : Int), 0 ≤ s → s + colCount rs kc f l ≤ 9223372036854775807 → colRun countS rs kc f s l = (s + colCount rs kc f l, true)
  | 0, l, s, h0, h1 => by
    have : colCount rs kc 0 l = 1 := rfl
    rw [this] at h1 ⊢
    show (wrap64 (s + 1), true) = _
    rw [IntWalk.wrap64_in _ ⟨by omega, by omega⟩]; rfl
  | f + 1, l, s, h0, h1 => by
    have h : ∀ j, j ≤ kc → s + colSum rs kc f l j ≤ 9223372036854775807 → preB (fun c s => if freeTo rs l c l.length = true then colRun countS rs kc f s (l ++ [(c : Int)]) else (s, true)) s j = (s + colSum rs kc f l j, true) := by
      intro j
      induction j with
      | zero => intro _ _; rw [colSum_zero]; simp [preB]
      | succ j ih =>
        intro hj hle
        cases hf : freeTo rs l j l.length
        · rw [colSum_no hf] at hle ⊢
          rw [preB_go (ih (by omega) hle), hf]; rfl
        · rw [colSum_yes hf] at hle ⊢
          rw [preB_go (ih (by omega) (by omega)), hf, if_pos rfl, countRun rs kc f _ _ (by omega) (by omega)]
          simp [Int.add_assoc]
    rw [colCount_succ] at h1 ⊢
    exact h kc (Nat.le_refl _) h1



end Go.Proofs.YtfkehmpckhmkbaaGreat
