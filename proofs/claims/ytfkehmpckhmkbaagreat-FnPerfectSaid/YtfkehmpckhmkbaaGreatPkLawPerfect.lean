/-
  FnPerfect: for every input the law returns true, and its argument reads as it did. No conditions.
-/
import Derived.Test.YtfkehmpckhmkbaaGreatPkLawPerfect17
import Derived.Test.YtfkehmpckhmkbaaGreatPkLawPerfect40
import Derived.Test.YtfkehmpckhmkbaaGreatPkLawPerfect29
import Derived.Test.YtfkehmpckhmkbaaGreatPkLawPerfect27
import Derived.Test.YtfkehmpckhmkbaaGreatPkLawPerfect28
import Derived.Test.YtfkehmpckhmkbaaGreatPkLawPerfect21
import Derived.Test.YtfkehmpckhmkbaaGreatPkLawPerfect23
import Derived.Test.YtfkehmpckhmkbaaGreatPkLawPerfect10
import Derived.Test.YtfkehmpckhmkbaaGreatPkLawPerfect36
import Derived.Test.YtfkehmpckhmkbaaGreatPkLawPerfect07
import Derived.Deep.CutRange
namespace Go.Proofs.YtfkehmpckhmkbaaGreat.lawPerfect
open Go.Proofs.YtfkehmpckhmkbaaGreat Go.RowKit

/-- What ComplementOf hands back, of a graph or not. -/
def RetCo (x : Int) (f : List Int) (w : World) (e : Ending) (w' : World) : Prop :=
  ∃ (N : Int) (k : Nat) (ao : Option Addr) (c3 : Nat), e = .returned (.tuple #[.agg #[.int .i64 N, .slice ao k c3], .bool (isGraphB x f)]) ∧ Below w.heap.size w w' ∧ (isGraphB x f = true → N = x ∧ k = (compl f).length ∧ IntsAt w' ao (compl f))
theorem specCo_any (x : Int) (f : List Int) (ro : Option Addr) (rc : Nat) (w : World) (hr : IntsAt w ro f) (hrl : f.length ≤ 1048576) :
    Calls Tryz.prog 15 #[.agg #[.int .i64 x, .slice ro f.length rc]] w (RetCo x f w) := by
  cases hv : isGraphB x f
  · exact (specCompl_bad x f ro rc w hr hrl hv).mono fun e w' ⟨h1, h2⟩ => ⟨0, 0, none, 0, by rw [h1, hv], h2, fun h => by rw [hv] at h; cases h⟩
  · obtain ⟨rfl, -⟩ := VG.of hv
    exact (specCompl_any f ro rc w hr hv).mono fun e w' ⟨ao, c3, h1, h2, h3⟩ => ⟨f.length, f.length, ao, c3, by rw [h1, hv], h2, fun _ => ⟨rfl, (compl_len f).symm, h3⟩⟩

set_option maxRecDepth 100000 in
set_option maxHeartbeats 16000000 in
theorem law_any (n c : Nat) (bo : Option Addr) (w : World) (hb : BytesU w.heap.size w bo n) (hn : n ≤ 9223372036854775807) :
    Calls Tryz.prog 3 #[.slice bo n c] w fun e w' => e = .returned (.bool true) ∧ Below w.heap.size w w' := by
  by_cases hbig : 1048576 < n
  · have d0 : decide (1048576 < n) = true := decide_eq_true hbig
    go_enter Tryz.func3, Tryz.ntmps3
    go_wp2_with fail
    refine (big_any n c bo w hn).mono ?_
    rintro e w' ⟨rfl, rfl⟩
    go_wp2_with fail
    go_ret
    exact ⟨rfl, Below.refl _ _⟩
  · have d0 : decide (1048576 < n) = false := decide_eq_false hbig
    replace hn : n ≤ 1048576 := by omega
    clear hbig
    go_enter Tryz.func3, Tryz.ntmps3
    go_wp2_with fail
    refine (big_any n c bo w (by omega)).mono ?_
    rintro e w' ⟨rfl, rfl⟩
    clear d0
    go_wp2_with fail
    refine (DrawIsPerfect_any n c bo w hb hn).mono ?_
    rintro e w1 ⟨x, f, g, cap, ⟨hf1, hf7⟩, rfl, hg, hR, hB1⟩
    have hb1 : ∀ w', Below w.heap.size w w' → BytesU w'.heap.size w' bo n := fun w' h => (hb.only (Only.of (X := fun _ => False) h) fun _ _ h => h).mono h.size
    clear hb
    go_wp2_with fail
    generalize hW2 : World.alloc _ _ = W2
    obtain ⟨hB2, hz2, k2⟩ := alloc1 hW2
    have hr := (hR.below hB2).ints
    have hs1 := hB1.size
    have hB : Below w.heap.size w W2 := hB1.trans (hB2.mono hs1)
    have hb0 := k2.lt
    have hc0 := k2.cell 0
    have hc1 := k2.cell 1
    simp at hc0 hc1
    clear hW2 hz2 k2 hB1 hB2 hR hg hf1 hs1
    have hrl : f.length ≤ 1048576 := by omega
    generalize w1.heap.size = yb at *
    have F := perf_facts x f hf7
    have hpl := obstV_len x f
    have h1 := fun m : Later W2 => implPerfect_any x f (some ⟨g, 0, none⟩) cap m.w (hr.later m) hrl
    have h2 := fun m : Later W2 => implImperf_any x f (some ⟨g, 0, none⟩) cap m.w (hr.later m) hrl
    have h3 := fun m : Later W2 => specImperf_any x f (some ⟨g, 0, none⟩) cap m.w (hr.later m) hrl
    have h4 := fun m : Later W2 => implObst_any x f (some ⟨g, 0, none⟩) cap m.w (hr.later m) hrl
    have h5 := fun m : Later W2 => specObstC_any x f (some ⟨g, 0, none⟩) cap m.w (hr.later m) hrl
    have HX : Hid (isGraphB x f = true → perfectB x f = true → chromV x f = clqN x f ∧ ∃ I : Nat, I < 128 ∧ largestV x f (fun S => indepB f.length f S) = (I : Int) ∧ (coverOf x f).length = cnt I) := Lib.hid fun hv hp => by
      obtain ⟨rfl, g⟩ := VG.of hv
      obtain ⟨I, i1, i2, i3⟩ := perf_cover hv hf7 hp
      exact ⟨perf_col hv hf7 hp, I, by have := g.pow.1; omega, i2, i3⟩
    have HY : Hid (isGraphB x f = true → perfectB x (compl f) = perfectB x f) := Lib.hid fun hv => by
      obtain ⟨rfl, g⟩ := VG.of hv
      exact perf_compl hv hf7
    have HZ : Hid (c5 f → chordalB x f = false ∧ sidesB x f = false) := Lib.hid fun hc => ⟨by
      cases h : chordalB x f
      · rfl
      · exact absurd hc (chordal_c5 h), by
      cases h : sidesB x f
      · rfl
      · exact absurd hc (sides_c5 h)⟩
    have s4 := fun (lo : Option Addr) (lc : Nat) (w' : World) h1 h2 h3 => implPerf_any x f ((obstV x f).getD []) (some ⟨g, 0, none⟩) lo cap lc w' h1 hrl h2 hpl h3
    generalize obstV x f = Q at *
    generalize leastI (badO x f) = bi at *
    generalize (badO x f).isSome = bs at *
    have HhB := Lib.hid hB
    clear hB
    have Hhb1 := Lib.hid hb1
    clear hb1
    have HF := Lib.hid F
    clear F
    have S4 := Lib.hid s4
    clear s4
    obtain ⟨m, hm0⟩ : ∃ m : Later W2, m.w = W2 := ⟨Later.refl _, rfl⟩
    refine (fun h => hm0 ▸ h) ?_
    clear hm0
    go_wp2_with fail
    refine (Calls.later m (h1 m)).mono ?_
    rintro e w' ⟨rfl, m, rfl⟩
    clear h1
    go_wp2_with fail
    refine (Calls.later m (h2 m)).mono ?_
    rintro e w' ⟨rfl, m, rfl⟩
    clear h2
    go_wp2_with fail
    refine (Calls.later m (h3 m)).mono ?_
    rintro e w' ⟨rfl, m, rfl⟩
    clear h3
    go_wp2_with fail
    refine (h4 m).mono ?_
    rintro e w3 ⟨lo, lc, rfl, hB3, hL⟩
    replace hL := hL.ints
    obtain ⟨m, rfl⟩ : ∃ m2 : Later W2, m2.w = w3 := ⟨m.on hB3, rfl⟩
    clear hB3 h4
    go_wp2_with fail
    refine (h5 m).mono ?_
    rintro e w3 ⟨lo2, lc2, rfl, hB3, hL2, hc2⟩
    replace hL := hL.below hB3
    obtain ⟨m, rfl⟩ : ∃ m2 : Later W2, m2.w = w3 := ⟨m.on hB3, rfl⟩
    clear hB3 h5
    replace hr := hr.later m
    replace hc0 : m.w.cell? _ = _ := (m.cell _ _ hb0).trans hc0
    replace hc1 : m.w.cell? _ = _ := (m.cell _ _ hb0).trans hc1
    replace hb0 := Nat.lt_of_lt_of_le hb0 m.size
    replace HhB := Lib.hid (below_later HhB.out m)
    generalize m.w = W3 at *
    clear m
    obtain ⟨m, hm0⟩ : ∃ m : Later W3, m.w = W3 := ⟨Later.refl _, rfl⟩
    refine (fun h => hm0 ▸ h) ?_
    clear hm0
    have s1 := fun m : Later W3 => lawSameInts_any lo lo2 (Q.getD []) (Q.getD []) lc lc2 m.w (hL.later m) (hL2.later m) (by omega) (by omega)
    have s2 := fun m : Later W3 => specPerfect_any x f (some ⟨g, 0, none⟩) cap m.w (hr.later m) hrl
    have s3 := fun m : Later W3 => specIsGraph_any x f (some ⟨g, 0, none⟩) cap m.w (hr.later m) hrl
    have s4 := fun m : Later W3 => S4.out lo2 lc2 m.w (hr.later m) (hL2.later m) hc2
    have s5 := fun m : Later W3 => specCo_any x f (some ⟨g, 0, none⟩) cap m.w (hr.later m) hrl
    simp only [sameInts_refl] at s1
    have HP0 : Hid (perfectB x f = perfectB x f) := Lib.hid rfl
    generalize Q.isSome = qs at *
    generalize Q.getD [] = q at *
    generalize perfB x f q = pB at *
    clear HP0 S4 hL hL2 hc2
    generalize hP : perfectB x f = P at *
    generalize hG : isGraphB x f = gB at *
    have S5 := Lib.hid s5
    have HhP := Lib.hid hP
    clear hP
    have HhG := Lib.hid hG
    clear hG
    clear s5
    go_upto_region 9 with fail
    go_cut [100] from 53 to 207 (fun v wx => v = .bool false ∧ ∃ m' : Later W3, wx = m'.w)
    case first =>
      rcases HF.out with ⟨rfl, rfl, rfl, rfl⟩ | ⟨rfl, rfl, rfl, rfl⟩ | ⟨rfl, rfl, rfl, rfl, rfl, -⟩
      · clear HF
        go_wp2_with fail
        refine (Calls.later m (s2 m)).mono ?_
        rintro e w' ⟨rfl, m, rfl⟩
        go_wp2_with fail
        refine (Calls.later m (s1 m)).mono ?_
        rintro e w' ⟨rfl, m, rfl⟩
        go_wp2_with fail
        refine (Calls.later m (s3 m)).mono ?_
        rintro e w' ⟨rfl, m, rfl⟩
        go_wp2_with fail
        go_meet
        case rel => exact ⟨rfl, m, rfl⟩
      · clear HF
        go_wp2_with fail
        refine (Calls.later m (s2 m)).mono ?_
        rintro e w' ⟨rfl, m, rfl⟩
        go_wp2_with fail
        refine (Calls.later m (s1 m)).mono ?_
        rintro e w' ⟨rfl, m, rfl⟩
        go_wp2_with fail
        refine (Calls.later m (s3 m)).mono ?_
        rintro e w' ⟨rfl, m, rfl⟩
        go_wp2_with fail
        go_meet
        case rel => exact ⟨rfl, m, rfl⟩
      · clear HF
        go_wp2_with fail
        refine (Calls.later m (s2 m)).mono ?_
        rintro e w' ⟨rfl, m, rfl⟩
        go_wp2_with fail
        refine (Calls.later m (s1 m)).mono ?_
        rintro e w' ⟨rfl, m, rfl⟩
        go_wp2_with fail
        refine (Calls.later m (s3 m)).mono ?_
        rintro e w' ⟨rfl, m, rfl⟩
        go_wp2_with fail
        refine (Calls.later m (s4 m)).mono ?_
        rintro e w' ⟨rfl, m, rfl⟩
        go_wp2_with fail
        go_meet
        case rel => exact ⟨rfl, m, rfl⟩
    case rest =>
      obtain ⟨rfl, m, rfl⟩ := hcut
      clear s1 s2 s3 s4
      go_wp2_with fail
      refine (S5.out m).mono ?_
      rintro e w4 ⟨N, kk, ao, c3, rfl, hB4, hC4⟩
      obtain ⟨m, rfl⟩ : ∃ m2 : Later W3, m2.w = w4 := ⟨m.on hB4, rfl⟩
      rw [HhG.out] at hC4 ⊢
      have HC4 := Lib.hid hC4
      clear hB4 S5 hC4
      go_upto_region 12 with fail
      generalize hW5 : World.alloc _ _ = W5
      obtain ⟨hB5, hz5, k5⟩ := alloc1 hW5
      have hBm5 := below_more m.below hB5
      have hc0' := (hB5.cell (p := ⟨yb, 0, none⟩) (Nat.lt_of_lt_of_le hb0 m.size)).trans ((m.cell yb 0 hb0).trans hc0)
      have hc1' := (hB5.cell (p := ⟨yb, 1, none⟩) (Nat.lt_of_lt_of_le hb0 m.size)).trans ((m.cell yb 1 hb0).trans hc1)
      have hb0' := Nat.lt_of_lt_of_le hb0 hBm5.size
      have hr5 := (hr.later m).below hB5
      have HC5 : Hid (gB = true → x = N ∧ (compl f).length = kk ∧ IntsAt W5 ao (compl f)) := Lib.hid fun h => ⟨(HC4.out h).1.symm, (HC4.out h).2.1.symm, (HC4.out h).2.2.below hB5⟩
      have HB5 := Lib.hid (HhB.out.trans (hBm5.mono HhB.out.size))
      clear hW5 hz5 HC4 hc0 hc1 hb0 hr HhB hB5 hBm5
      generalize m.w.heap.size = yh at *
      clear m
      have hd0 := k5.cell 0
      have hd1 := k5.cell 1
      have hd4 := k5.lt
      simp at hd0 hd1
      have hcl : (compl f).length ≤ 1048576 := by rw [compl_len]; exact hrl
      clear k5
      go_cut [151] from 106 to 207 (fun v wx => v = .bool false ∧ ∃ m' : Later W5, wx = m'.w)
      case first =>
        rcases HF.out with ⟨rfl, rfl, rfl, rfl⟩ | ⟨rfl, rfl, rfl, rfl⟩ | ⟨rfl, rfl, rfl, rfl, rfl, hc5⟩
        · have t1 := fun m : Later W5 => specIsGraph_any x f (some ⟨g, 0, none⟩) cap m.w (hr5.later m) hrl
          rw [HhG.out] at t1
          clear HF HC5
          obtain ⟨m, hm0⟩ : ∃ m : Later W5, m.w = W5 := ⟨Later.refl _, rfl⟩
          refine (fun h => hm0 ▸ h) ?_
          clear hm0
          refine wp_region_later m rfl (by kernel_rfl) (by kernel_rfl) ?_
          repeat (go_big_quiet_step ((first | (go_at_call 13; exact Calls.later _ (t1 _)))))
          refine wpQuiet_nil ?_
          rintro _ ⟨m, rfl⟩
          go_wp2_with fail
          go_meet
          case rel => exact ⟨rfl, m, rfl⟩
        · obtain ⟨hN, hk, hco⟩ := HC5.out rfl
          subst hN
          subst hk
          obtain ⟨hx1, I, hI, hx2, hx3⟩ := HX.out rfl rfl
          have u1 := fun (w' : World) (h : Below W5.heap.size W5 w') => implPerfect_any x (compl f) ao c3 w' (hco.below h) hcl
          rw [HY.out rfl] at u1
          have u2 := fun (w' : World) (h : Below W5.heap.size W5 w') => specChrom_any x f (some ⟨g, 0, none⟩) cap w' (hr5.below h) hrl
          rw [hx1] at u2
          have u3 := fun (w' : World) (h : Below W5.heap.size W5 w') => specClqN_any x f (some ⟨g, 0, none⟩) cap w' (hr5.below h) hrl
          have u4 := fun (w' : World) (h : Below W5.heap.size W5 w') => specCoverOf_any x f (some ⟨g, 0, none⟩) cap w' (hr5.below h) hrl
          rw [hx3] at u4
          have u5 := fun (w' : World) (h : Below W5.heap.size W5 w') => specLargestIndep_any x f (some ⟨g, 0, none⟩) cap w' (hr5.below h) hrl
          rw [hx2] at u5
          have u6 := fun (w' : World) (_ : Below W5.heap.size W5 w') => specCount_any I hI w'
          have u7 := fun (w' : World) (h : Below W5.heap.size W5 w') => specIsGraph_any x f (some ⟨g, 0, none⟩) cap w' (hr5.below h) hrl
          rw [HhG.out] at u7
          generalize clqN x f = cq at *
          generalize cnt I = ci at *
          clear hx1 hx2 hx3 HF HC5
          have hA : Below W5.heap.size W5 W5.drew := (Below.refl _ _).drew
          have hT0 : ∀ w', Below W5.heap.size W5 w' → Below W5.heap.size W5 w' ∧ w'.cell? ⟨yb, 0, none⟩ = some (.int .i64 x) ∧ w'.cell? ⟨yb, 1, none⟩ = some (.slice (some ⟨g, 0, none⟩) f.length cap) ∧ w'.cell? ⟨yh, 0, none⟩ = some (.int .i64 x) ∧ w'.cell? ⟨yh, 1, none⟩ = some (.slice ao (compl f).length c3) := fun w' h =>
            ⟨h, (h.cell hb0').trans hc0', (h.cell hb0').trans hc1', (h.cell hd4).trans hd0, (h.cell hd4).trans hd1⟩
          refine wp_region_B (fun w' => Below W5.heap.size W5 w' ∧ w'.cell? ⟨yb, 0, none⟩ = some (.int .i64 x) ∧ w'.cell? ⟨yb, 1, none⟩ = some (.slice (some ⟨g, 0, none⟩) f.length cap) ∧ w'.cell? ⟨yh, 0, none⟩ = some (.int .i64 x) ∧ w'.cell? ⟨yh, 1, none⟩ = some (.slice ao (compl f).length c3)) (fun _ => True) [] (by kernel_rfl) (hT0 _ hA) (trivial) (fun hM => ?_)
          refine wpAnyB_take (i := 0) (v := ?_) false rfl (by kernel_rfl) (by kernel_rfl) (by kernel_rfl) (by kernel_rfl) (by kernel_rfl) (fun _ _ _ h => h) (Or.inl ⟨by rfl, ?_⟩) hM (fun hM2 => ?_)
          rotate_left
          · (intro w hSw; replace hSw := hSw.1; (try dsimp only at hSw); go_simp; try with_reducible rfl)
          replace hM := hM2
          clear hM2
          try simp only [List.getElem_toArray, List.getElem_cons_zero, Act.put, List.setIfInBounds_toArray, List.set_cons_zero, List.set_cons_succ]
          refine wpAnyB_take (i := 1) (v := ?_) false rfl (by kernel_rfl) (by kernel_rfl) (by kernel_rfl) (by kernel_rfl) (by kernel_rfl) (fun _ _ _ h => h) (Or.inl ⟨by rfl, ?_⟩) hM (fun hM2 => ?_)
          rotate_left
          · (intro w hSw; replace hSw := hSw.1; (try dsimp only at hSw); go_simp; try with_reducible rfl)
          replace hM := hM2
          clear hM2
          try simp only [List.getElem_toArray, List.getElem_cons_succ, List.getElem_cons_zero, Act.put, List.setIfInBounds_toArray, List.set_cons_zero, List.set_cons_succ]
          refine wpAnyB_take (i := 2) (v := ?_) false rfl (by kernel_rfl) (by kernel_rfl) (by kernel_rfl) (by kernel_rfl) (by kernel_rfl) (fun _ _ _ h => h) (Or.inl ⟨by rfl, ?_⟩) hM (fun hM2 => ?_)
          rotate_left
          · (intro w hSw; replace hSw := hSw.1; (try dsimp only at hSw); go_simp; try with_reducible rfl)
          replace hM := hM2
          clear hM2
          try simp only [List.getElem_toArray, List.getElem_cons_succ, List.getElem_cons_zero, Act.put, List.setIfInBounds_toArray, List.set_cons_zero, List.set_cons_succ]
          refine wpAnyB_take (i := 4) (v := ?_) false rfl (by kernel_rfl) (by kernel_rfl) (by kernel_rfl) (by kernel_rfl) (by kernel_rfl) (fun _ _ _ h => h) (Or.inl ⟨by rfl, ?_⟩) hM (fun hM2 => ?_)
          rotate_left
          · (intro w hSw; replace hSw := hSw.1; (try dsimp only at hSw); go_simp; try with_reducible rfl)
          replace hM := hM2
          clear hM2
          try simp only [List.getElem_toArray, List.getElem_cons_succ, List.getElem_cons_zero, Act.put, List.setIfInBounds_toArray, List.set_cons_zero, List.set_cons_succ]
          refine wpAnyB_one (i := 3) (by kernel_rfl) rfl (fun K hK => ?_)
          (go_simp; go_at_call 6; refine (u1 _ hA).mono ?_; rintro e w6 ⟨rfl, hB6⟩; replace hA := below_more hA hB6; dsimp only)
          refine hK.out _ _ (meetB.both (hT0 _ hA) trivial) (fun hM2 => ?_)
          clear hK K
          replace hM := hM2
          clear hM2
          try simp only [List.getElem_toArray, List.getElem_cons_succ, List.getElem_cons_zero, Act.put, List.setIfInBounds_toArray, List.set_cons_zero, List.set_cons_succ]
          refine wpAnyB_take (i := 5) (v := ?_) false rfl (by kernel_rfl) (by kernel_rfl) (by kernel_rfl) (by kernel_rfl) (by kernel_rfl) (fun _ _ _ h => h) (Or.inl ⟨by rfl, ?_⟩) hM (fun hM2 => ?_)
          rotate_left
          · (intro w hSw; replace hSw := hSw.1; (try dsimp only at hSw); go_simp; try with_reducible rfl)
          replace hM := hM2
          clear hM2
          try simp only [List.getElem_toArray, List.getElem_cons_succ, List.getElem_cons_zero, Act.put, List.setIfInBounds_toArray, List.set_cons_zero, List.set_cons_succ]
          refine wpAnyB_take (i := 6) (v := ?_) false rfl (by kernel_rfl) (by kernel_rfl) (by kernel_rfl) (by kernel_rfl) (by kernel_rfl) (fun _ _ _ h => h) (Or.inl ⟨by rfl, ?_⟩) hM (fun hM2 => ?_)
          rotate_left
          · (intro w hSw; replace hSw := hSw.1; (try dsimp only at hSw); go_simp; try with_reducible rfl)
          replace hM := hM2
          clear hM2
          try simp only [List.getElem_toArray, List.getElem_cons_succ, List.getElem_cons_zero, Act.put, List.setIfInBounds_toArray, List.set_cons_zero, List.set_cons_succ]
          refine wpAnyB_take (i := 7) (v := ?_) false rfl (by kernel_rfl) (by kernel_rfl) (by kernel_rfl) (by kernel_rfl) (by kernel_rfl) (fun _ _ _ h => h) (Or.inl ⟨by rfl, ?_⟩) hM (fun hM2 => ?_)
          rotate_left
          · (intro w hSw; replace hSw := hSw.1; (try dsimp only at hSw); go_simp; try with_reducible rfl)
          replace hM := hM2
          clear hM2
          try simp only [List.getElem_toArray, List.getElem_cons_succ, List.getElem_cons_zero, Act.put, List.setIfInBounds_toArray, List.set_cons_zero, List.set_cons_succ]
          refine wpAnyB_take (i := 8) (v := ?_) false rfl (by kernel_rfl) (by kernel_rfl) (by kernel_rfl) (by kernel_rfl) (by kernel_rfl) (fun _ _ _ h => h) (Or.inl ⟨by rfl, ?_⟩) hM (fun hM2 => ?_)
          rotate_left
          · (intro w hSw; replace hSw := hSw.1; (try dsimp only at hSw); go_simp; try with_reducible rfl)
          replace hM := hM2
          clear hM2
          try simp only [List.getElem_toArray, List.getElem_cons_succ, List.getElem_cons_zero, Act.put, List.setIfInBounds_toArray, List.set_cons_zero, List.set_cons_succ]
          refine wpAnyB_take (i := 9) (v := ?_) false rfl (by kernel_rfl) (by kernel_rfl) (by kernel_rfl) (by kernel_rfl) (by kernel_rfl) (fun _ _ _ h => h) (Or.inl ⟨by rfl, ?_⟩) hM (fun hM2 => ?_)
          rotate_left
          · (intro w hSw; replace hSw := hSw.1; (try dsimp only at hSw); go_simp; try with_reducible rfl)
          replace hM := hM2
          clear hM2
          try simp only [List.getElem_toArray, List.getElem_cons_succ, List.getElem_cons_zero, Act.put, List.setIfInBounds_toArray, List.set_cons_zero, List.set_cons_succ]
          refine wpAnyB_take (i := 10) (v := ?_) false rfl (by kernel_rfl) (by kernel_rfl) (by kernel_rfl) (by kernel_rfl) (by kernel_rfl) (fun _ _ _ h => h) (Or.inl ⟨by rfl, ?_⟩) hM (fun hM2 => ?_)
          rotate_left
          · (intro w hSw; replace hSw := hSw.1; (try dsimp only at hSw); go_simp; try with_reducible rfl)
          replace hM := hM2
          clear hM2
          try simp only [List.getElem_toArray, List.getElem_cons_succ, List.getElem_cons_zero, Act.put, List.setIfInBounds_toArray, List.set_cons_zero, List.set_cons_succ]
          refine wpAnyB_take (i := 12) (v := ?_) false rfl (by kernel_rfl) (by kernel_rfl) (by kernel_rfl) (by kernel_rfl) (by kernel_rfl) (fun _ _ _ h => h) (Or.inl ⟨by rfl, ?_⟩) hM (fun hM2 => ?_)
          rotate_left
          · (intro w hSw; replace hSw := hSw.1; (try dsimp only at hSw); go_simp; try with_reducible rfl)
          replace hM := hM2
          clear hM2
          try simp only [List.getElem_toArray, List.getElem_cons_succ, List.getElem_cons_zero, Act.put, List.setIfInBounds_toArray, List.set_cons_zero, List.set_cons_succ]
          refine wpAnyB_one (i := 11) (by kernel_rfl) rfl (fun K hK => ?_)
          (go_simp; go_at_call 16; refine (u2 _ hA).mono ?_; rintro e w6 ⟨rfl, hB6⟩; replace hA := below_more hA hB6; dsimp only)
          refine hK.out _ _ (meetB.both (hT0 _ hA) trivial) (fun hM2 => ?_)
          clear hK K
          replace hM := hM2
          clear hM2
          try simp only [List.getElem_toArray, List.getElem_cons_succ, List.getElem_cons_zero, Act.put, List.setIfInBounds_toArray, List.set_cons_zero, List.set_cons_succ]
          refine wpAnyB_one (i := 13) (by kernel_rfl) rfl (fun K hK => ?_)
          (go_simp; go_at_call 17; refine (u3 _ hA).mono ?_; rintro e w6 ⟨rfl, hB6⟩; replace hA := below_more hA hB6; dsimp only)
          refine hK.out _ _ (meetB.both (hT0 _ hA) trivial) (fun hM2 => ?_)
          clear hK K
          replace hM := hM2
          clear hM2
          try simp only [List.getElem_toArray, List.getElem_cons_succ, List.getElem_cons_zero, Act.put, List.setIfInBounds_toArray, List.set_cons_zero, List.set_cons_succ]
          refine wpAnyB_take (i := 14) (v := ?_) false rfl (by kernel_rfl) (by kernel_rfl) (by kernel_rfl) (by kernel_rfl) (by kernel_rfl) (fun _ _ _ h => h) (Or.inl ⟨by rfl, ?_⟩) hM (fun hM2 => ?_)
          rotate_left
          · (intro w hSw; replace hSw := hSw.1; (try dsimp only at hSw); go_simp; try with_reducible rfl)
          replace hM := hM2
          clear hM2
          try simp only [List.getElem_toArray, List.getElem_cons_succ, List.getElem_cons_zero, Act.put, List.setIfInBounds_toArray, List.set_cons_zero, List.set_cons_succ]
          refine wpAnyB_take (i := 15) (v := ?_) false rfl (by kernel_rfl) (by kernel_rfl) (by kernel_rfl) (by kernel_rfl) (by kernel_rfl) (fun _ _ _ h => h) (Or.inl ⟨by rfl, ?_⟩) hM (fun hM2 => ?_)
          rotate_left
          · (intro w hSw; replace hSw := hSw.1; (try dsimp only at hSw); go_simp; try with_reducible rfl)
          replace hM := hM2
          clear hM2
          try simp only [List.getElem_toArray, List.getElem_cons_succ, List.getElem_cons_zero, Act.put, List.setIfInBounds_toArray, List.set_cons_zero, List.set_cons_succ]
          refine wpAnyB_take (i := 16) (v := ?_) false rfl (by kernel_rfl) (by kernel_rfl) (by kernel_rfl) (by kernel_rfl) (by kernel_rfl) (fun _ _ _ h => h) (Or.inl ⟨by rfl, ?_⟩) hM (fun hM2 => ?_)
          rotate_left
          · (intro w hSw; replace hSw := hSw.1; (try dsimp only at hSw); go_simp; try with_reducible rfl)
          replace hM := hM2
          clear hM2
          try simp only [List.getElem_toArray, List.getElem_cons_succ, List.getElem_cons_zero, Act.put, List.setIfInBounds_toArray, List.set_cons_zero, List.set_cons_succ]
          refine wpAnyB_take (i := 19) (v := ?_) false rfl (by kernel_rfl) (by kernel_rfl) (by kernel_rfl) (by kernel_rfl) (by kernel_rfl) (fun _ _ _ h => h) (Or.inl ⟨by rfl, ?_⟩) hM (fun hM2 => ?_)
          rotate_left
          · (intro w hSw; replace hSw := hSw.1; (try dsimp only at hSw); go_simp; try with_reducible rfl)
          replace hM := hM2
          clear hM2
          try simp only [List.getElem_toArray, List.getElem_cons_succ, List.getElem_cons_zero, Act.put, List.setIfInBounds_toArray, List.set_cons_zero, List.set_cons_succ]
          refine wpAnyB_one (i := 17) (by kernel_rfl) rfl (fun K hK => ?_)
          (go_simp; go_at_call 18; refine (u4 _ hA).mono ?_; rintro e w6 ⟨ao6, cap6, rfl, hB6, -⟩; replace hA := below_more hA hB6; dsimp only)
          refine hK.out _ _ (meetB.both (hT0 _ hA) trivial) (fun hM2 => ?_)
          clear hK K
          replace hM := hM2
          clear hM2
          try simp only [List.getElem_toArray, List.getElem_cons_succ, List.getElem_cons_zero, Act.put, List.setIfInBounds_toArray, List.set_cons_zero, List.set_cons_succ]
          refine wpAnyB_take (i := 18) (v := ?_) false rfl (by kernel_rfl) (by kernel_rfl) (by kernel_rfl) (by kernel_rfl) (by kernel_rfl) (fun _ _ _ h => h) (Or.inl ⟨by rfl, ?_⟩) hM (fun hM2 => ?_)
          rotate_left
          · (intro w hSw; replace hSw := hSw.1; (try dsimp only at hSw); go_simp; try with_reducible rfl)
          replace hM := hM2
          clear hM2
          try simp only [List.getElem_toArray, List.getElem_cons_succ, List.getElem_cons_zero, Act.put, List.setIfInBounds_toArray, List.set_cons_zero, List.set_cons_succ]
          refine wpAnyB_one (i := 20) (by kernel_rfl) rfl (fun K hK => ?_)
          (go_simp; go_at_call 20; refine (u5 _ hA).mono ?_; rintro e w6 ⟨rfl, hB6⟩; replace hA := below_more hA hB6; dsimp only)
          refine hK.out _ _ (meetB.both (hT0 _ hA) trivial) (fun hM2 => ?_)
          clear hK K
          replace hM := hM2
          clear hM2
          try simp only [List.getElem_toArray, List.getElem_cons_succ, List.getElem_cons_zero, Act.put, List.setIfInBounds_toArray, List.set_cons_zero, List.set_cons_succ]
          refine wpAnyB_one (i := 21) (by kernel_rfl) rfl (fun K hK => ?_)
          (go_simp; go_at_call 19; refine (u6 _ hA).mono ?_; rintro e w6 ⟨rfl, hB6⟩; replace hA := below_more hA hB6; dsimp only)
          refine hK.out _ _ (meetB.both (hT0 _ hA) trivial) (fun hM2 => ?_)
          clear hK K
          replace hM := hM2
          clear hM2
          try simp only [List.getElem_toArray, List.getElem_cons_succ, List.getElem_cons_zero, Act.put, List.setIfInBounds_toArray, List.set_cons_zero, List.set_cons_succ]
          refine wpAnyB_take (i := 22) (v := ?_) false rfl (by kernel_rfl) (by kernel_rfl) (by kernel_rfl) (by kernel_rfl) (by kernel_rfl) (fun _ _ _ h => h) (Or.inl ⟨by rfl, ?_⟩) hM (fun hM2 => ?_)
          rotate_left
          · (intro w hSw; replace hSw := hSw.1; (try dsimp only at hSw); go_simp; try with_reducible rfl)
          replace hM := hM2
          clear hM2
          try simp only [List.getElem_toArray, List.getElem_cons_succ, List.getElem_cons_zero, Act.put, List.setIfInBounds_toArray, List.set_cons_zero, List.set_cons_succ]
          refine wpAnyB_take (i := 23) (v := ?_) false rfl (by kernel_rfl) (by kernel_rfl) (by kernel_rfl) (by kernel_rfl) (by kernel_rfl) (fun _ _ _ h => h) (Or.inl ⟨by rfl, ?_⟩) hM (fun hM2 => ?_)
          rotate_left
          · (intro w hSw; replace hSw := hSw.1; (try dsimp only at hSw); go_simp; try with_reducible rfl)
          replace hM := hM2
          clear hM2
          try simp only [List.getElem_toArray, List.getElem_cons_succ, List.getElem_cons_zero, Act.put, List.setIfInBounds_toArray, List.set_cons_zero, List.set_cons_succ]
          refine wpAnyB_take (i := 24) (v := ?_) false rfl (by kernel_rfl) (by kernel_rfl) (by kernel_rfl) (by kernel_rfl) (by kernel_rfl) (fun _ _ _ h => h) (Or.inl ⟨by rfl, ?_⟩) hM (fun hM2 => ?_)
          rotate_left
          · (intro w hSw; replace hSw := hSw.1; (try dsimp only at hSw); go_simp; try with_reducible rfl)
          replace hM := hM2
          clear hM2
          try simp only [List.getElem_toArray, List.getElem_cons_succ, List.getElem_cons_zero, Act.put, List.setIfInBounds_toArray, List.set_cons_zero, List.set_cons_succ]
          refine wpAnyB_take (i := 25) (v := ?_) false rfl (by kernel_rfl) (by kernel_rfl) (by kernel_rfl) (by kernel_rfl) (by kernel_rfl) (fun _ _ _ h => h) (Or.inl ⟨by rfl, ?_⟩) hM (fun hM2 => ?_)
          rotate_left
          · (intro w hSw; replace hSw := hSw.1; (try dsimp only at hSw); go_simp; try with_reducible rfl)
          replace hM := hM2
          clear hM2
          try simp only [List.getElem_toArray, List.getElem_cons_succ, List.getElem_cons_zero, Act.put, List.setIfInBounds_toArray, List.set_cons_zero, List.set_cons_succ]
          refine wpAnyB_take (i := 26) (v := ?_) false rfl (by kernel_rfl) (by kernel_rfl) (by kernel_rfl) (by kernel_rfl) (by kernel_rfl) (fun _ _ _ h => h) (Or.inl ⟨by rfl, ?_⟩) hM (fun hM2 => ?_)
          rotate_left
          · (intro w hSw; replace hSw := hSw.1; (try dsimp only at hSw); go_simp; try with_reducible rfl)
          replace hM := hM2
          clear hM2
          try simp only [List.getElem_toArray, List.getElem_cons_succ, List.getElem_cons_zero, Act.put, List.setIfInBounds_toArray, List.set_cons_zero, List.set_cons_succ]
          refine wpAnyB_take (i := 27) (v := ?_) false rfl (by kernel_rfl) (by kernel_rfl) (by kernel_rfl) (by kernel_rfl) (by kernel_rfl) (fun _ _ _ h => h) (Or.inl ⟨by rfl, ?_⟩) hM (fun hM2 => ?_)
          rotate_left
          · (intro w hSw; replace hSw := hSw.1; (try dsimp only at hSw); go_simp; try with_reducible rfl)
          replace hM := hM2
          clear hM2
          try simp only [List.getElem_toArray, List.getElem_cons_succ, List.getElem_cons_zero, Act.put, List.setIfInBounds_toArray, List.set_cons_zero, List.set_cons_succ]
          refine wpAnyB_one (i := 28) (by kernel_rfl) rfl (fun K hK => ?_)
          (go_simp; go_at_call 13; refine (u7 _ hA).mono ?_; rintro e w6 ⟨rfl, hB6⟩; replace hA := below_more hA hB6; dsimp only)
          refine hK.out _ _ (meetB.both (hT0 _ hA) trivial) (fun hM2 => ?_)
          clear hK K
          replace hM := hM2
          clear hM2
          try simp only [List.getElem_toArray, List.getElem_cons_succ, List.getElem_cons_zero, Act.put, List.setIfInBounds_toArray, List.set_cons_zero, List.set_cons_succ]
          refine wpAnyB_take (i := 29) (v := ?_) false rfl (by kernel_rfl) (by kernel_rfl) (by kernel_rfl) (by kernel_rfl) (by kernel_rfl) (fun _ _ _ h => h) (Or.inl ⟨by rfl, ?_⟩) hM (fun hM2 => ?_)
          rotate_left
          · (intro w hSw; replace hSw := hSw.1; (try dsimp only at hSw); go_simp; try with_reducible rfl)
          replace hM := hM2
          clear hM2
          try simp only [List.getElem_toArray, List.getElem_cons_succ, List.getElem_cons_zero, Act.put, List.setIfInBounds_toArray, List.set_cons_zero, List.set_cons_succ]
          refine wpAnyB_take (i := 30) (v := ?_) false rfl (by kernel_rfl) (by kernel_rfl) (by kernel_rfl) (by kernel_rfl) (by kernel_rfl) (fun _ _ _ h => h) (Or.inl ⟨by rfl, ?_⟩) hM (fun hM2 => ?_)
          rotate_left
          · (intro w hSw; replace hSw := hSw.1; (try dsimp only at hSw); go_simp; try with_reducible rfl)
          replace hM := hM2
          clear hM2
          try simp only [List.getElem_toArray, List.getElem_cons_succ, List.getElem_cons_zero, Act.put, List.setIfInBounds_toArray, List.set_cons_zero, List.set_cons_succ]
          refine wpAnyB_take (i := 31) (v := ?_) false rfl (by kernel_rfl) (by kernel_rfl) (by kernel_rfl) (by kernel_rfl) (by kernel_rfl) (fun _ _ _ h => h) (Or.inl ⟨by rfl, ?_⟩) hM (fun hM2 => ?_)
          rotate_left
          · (intro w hSw; replace hSw := hSw.1; (try dsimp only at hSw); go_simp; try with_reducible rfl)
          replace hM := hM2
          clear hM2
          try simp only [List.getElem_toArray, List.getElem_cons_succ, List.getElem_cons_zero, Act.put, List.setIfInBounds_toArray, List.set_cons_zero, List.set_cons_succ]
          refine wpAnyB_take (i := 32) (v := ?_) false rfl (by kernel_rfl) (by kernel_rfl) (by kernel_rfl) (by kernel_rfl) (by kernel_rfl) (fun _ _ _ h => h) (Or.inl ⟨by rfl, ?_⟩) hM (fun hM2 => ?_)
          rotate_left
          · (intro w hSw; replace hSw := hSw.1; (try dsimp only at hSw); go_simp; try with_reducible rfl)
          replace hM := hM2
          clear hM2
          try simp only [List.getElem_toArray, List.getElem_cons_succ, List.getElem_cons_zero, Act.put, List.setIfInBounds_toArray, List.set_cons_zero, List.set_cons_succ]
          refine wpAnyB_take (i := 33) (v := ?_) false rfl (by kernel_rfl) (by kernel_rfl) (by kernel_rfl) (by kernel_rfl) (by kernel_rfl) (fun _ _ _ h => h) (Or.inl ⟨by rfl, ?_⟩) hM (fun hM2 => ?_)
          rotate_left
          · (intro w hSw; replace hSw := hSw.1; (try dsimp only at hSw); go_simp; try with_reducible rfl)
          replace hM := hM2
          clear hM2
          try simp only [List.getElem_toArray, List.getElem_cons_succ, List.getElem_cons_zero, Act.put, List.setIfInBounds_toArray, List.set_cons_zero, List.set_cons_succ]
          refine wpAnyB_take (i := 34) (v := undef) false rfl (by kernel_rfl) (by kernel_rfl) (by kernel_rfl) (by kernel_rfl) (by kernel_rfl) (fun _ _ _ h => h) (Or.inr ⟨by rfl, rfl⟩) hM (fun hM2 => ?_)
          replace hM := hM2
          clear hM2
          try simp only [List.getElem_toArray, List.getElem_cons_succ, List.getElem_cons_zero, Act.put, List.setIfInBounds_toArray, List.set_cons_zero, List.set_cons_succ]
          refine wpAnyB_take (i := 35) (v := undef) false rfl (by kernel_rfl) (by kernel_rfl) (by kernel_rfl) (by kernel_rfl) (by kernel_rfl) (fun _ _ _ h => h) (Or.inr ⟨by rfl, rfl⟩) hM (fun hM2 => ?_)
          replace hM := hM2
          clear hM2
          try simp only [List.getElem_toArray, List.getElem_cons_succ, List.getElem_cons_zero, Act.put, List.setIfInBounds_toArray, List.set_cons_zero, List.set_cons_succ]
          refine wpAnyB_take (i := 36) (v := undef) false rfl (by kernel_rfl) (by kernel_rfl) (by kernel_rfl) (by kernel_rfl) (by kernel_rfl) (fun _ _ _ h => h) (Or.inr ⟨by rfl, rfl⟩) hM (fun hM2 => ?_)
          replace hM := hM2
          clear hM2
          try simp only [List.getElem_toArray, List.getElem_cons_succ, List.getElem_cons_zero, Act.put, List.setIfInBounds_toArray, List.set_cons_zero, List.set_cons_succ]
          refine wpAnyB_take (i := 37) (v := undef) false rfl (by kernel_rfl) (by kernel_rfl) (by kernel_rfl) (by kernel_rfl) (by kernel_rfl) (fun _ _ _ h => h) (Or.inr ⟨by rfl, rfl⟩) hM (fun hM2 => ?_)
          replace hM := hM2
          clear hM2
          try simp only [List.getElem_toArray, List.getElem_cons_succ, List.getElem_cons_zero, Act.put, List.setIfInBounds_toArray, List.set_cons_zero, List.set_cons_succ]
          refine wpAnyB_take (i := 38) (v := undef) false rfl (by kernel_rfl) (by kernel_rfl) (by kernel_rfl) (by kernel_rfl) (by kernel_rfl) (fun _ _ _ h => h) (Or.inr ⟨by rfl, rfl⟩) hM (fun hM2 => ?_)
          replace hM := hM2
          clear hM2
          try simp only [List.getElem_toArray, List.getElem_cons_succ, List.getElem_cons_zero, Act.put, List.setIfInBounds_toArray, List.set_cons_zero, List.set_cons_succ]
          refine wpAnyB_take (i := 39) (v := undef) false rfl (by kernel_rfl) (by kernel_rfl) (by kernel_rfl) (by kernel_rfl) (by kernel_rfl) (fun _ _ _ h => h) (Or.inr ⟨by rfl, rfl⟩) hM (fun hM2 => ?_)
          replace hM := hM2
          clear hM2
          try simp only [List.getElem_toArray, List.getElem_cons_succ, List.getElem_cons_zero, Act.put, List.setIfInBounds_toArray, List.set_cons_zero, List.set_cons_succ]
          refine wpAnyB_take (i := 40) (v := undef) false rfl (by kernel_rfl) (by kernel_rfl) (by kernel_rfl) (by kernel_rfl) (by kernel_rfl) (fun _ _ _ h => h) (Or.inr ⟨by rfl, rfl⟩) hM (fun hM2 => ?_)
          replace hM := hM2
          clear hM2
          try simp only [List.getElem_toArray, List.getElem_cons_succ, List.getElem_cons_zero, Act.put, List.setIfInBounds_toArray, List.set_cons_zero, List.set_cons_succ]
          refine wpAnyB_take (i := 41) (v := undef) false rfl (by kernel_rfl) (by kernel_rfl) (by kernel_rfl) (by kernel_rfl) (by kernel_rfl) (fun _ _ _ h => h) (Or.inr ⟨by rfl, rfl⟩) hM (fun hM2 => ?_)
          replace hM := hM2
          clear hM2
          try simp only [List.getElem_toArray, List.getElem_cons_succ, List.getElem_cons_zero, Act.put, List.setIfInBounds_toArray, List.set_cons_zero, List.set_cons_succ]
          refine wpAnyB_take (i := 42) (v := undef) false rfl (by kernel_rfl) (by kernel_rfl) (by kernel_rfl) (by kernel_rfl) (by kernel_rfl) (fun _ _ _ h => h) (Or.inr ⟨by rfl, rfl⟩) hM (fun hM2 => ?_)
          replace hM := hM2
          clear hM2
          try simp only [List.getElem_toArray, List.getElem_cons_succ, List.getElem_cons_zero, Act.put, List.setIfInBounds_toArray, List.set_cons_zero, List.set_cons_succ]
          refine wpAnyB_take (i := 43) (v := undef) false rfl (by kernel_rfl) (by kernel_rfl) (by kernel_rfl) (by kernel_rfl) (by kernel_rfl) (fun _ _ _ h => h) (Or.inr ⟨by rfl, rfl⟩) hM (fun hM2 => ?_)
          replace hM := hM2
          clear hM2
          try simp only [List.getElem_toArray, List.getElem_cons_succ, List.getElem_cons_zero, Act.put, List.setIfInBounds_toArray, List.set_cons_zero, List.set_cons_succ]
          refine wpAnyB_take (i := 44) (v := ?_) false rfl (by kernel_rfl) (by kernel_rfl) (by kernel_rfl) (by kernel_rfl) (by kernel_rfl) (fun _ _ _ h => h) (Or.inl ⟨by rfl, ?_⟩) hM (fun hM2 => ?_)
          rotate_left
          · (intro w hSw; replace hSw := hSw.1; (try dsimp only at hSw); go_simp; try with_reducible rfl)
          replace hM := hM2
          clear hM2
          try simp only [List.getElem_toArray, List.getElem_cons_succ, List.getElem_cons_zero, Act.put, List.setIfInBounds_toArray, List.set_cons_zero, List.set_cons_succ]
          refine wpAnyB_take (i := 45) (v := ?_) false rfl (by kernel_rfl) (by kernel_rfl) (by kernel_rfl) (by kernel_rfl) (by kernel_rfl) (fun _ _ _ h => h) (Or.inl ⟨by rfl, ?_⟩) hM (fun hM2 => ?_)
          rotate_left
          · (intro w hSw; replace hSw := hSw.1; (try dsimp only at hSw); go_simp; try with_reducible rfl)
          replace hM := hM2
          clear hM2
          try simp only [List.getElem_toArray, List.getElem_cons_succ, List.getElem_cons_zero, Act.put, List.setIfInBounds_toArray, List.set_cons_zero, List.set_cons_succ]
          refine wpAnyB_done (by kernel_rfl) ?_ _
          clear hM hT0 u1 u2 u3 u4 u5 u6 u7
          go_wp2_with fail
          go_meet
          case rel => exact ⟨rfl, ⟨_, hA⟩, rfl⟩
        · obtain ⟨hN, hk, hco⟩ := HC5.out rfl
          subst hN
          subst hk
          obtain ⟨hz1, hz2⟩ := HZ.out hc5
          have t1 := fun m : Later W5 => specIsGraph_any x f (some ⟨g, 0, none⟩) cap m.w (hr5.later m) hrl
          rw [HhG.out] at t1
          have t2 := fun m : Later W5 => implPerfect_any x (compl f) ao c3 m.w (hco.later m) hcl
          rw [HY.out rfl] at t2
          have t3 := fun m : Later W5 => specChordal_any x f (some ⟨g, 0, none⟩) cap m.w (hr5.later m) hrl
          rw [hz1] at t3
          have t4 := fun m : Later W5 => specBip_any x f (some ⟨g, 0, none⟩) cap m.w (hr5.later m) hrl
          rw [hz2] at t4
          have t5 : ∀ m : Later W5, Calls Tryz.prog 23 #[.agg #[.int .i64 x, .slice (some ⟨g, 0, none⟩) f.length cap]] m.w fun e w' => e = .returned (.bool false) ∧ Below m.w.heap.size m.w w' := fun m =>
            (specComp_any x f (some ⟨g, 0, none⟩) cap m.w (hr5.later m) hrl).mono fun e w' ⟨b, h1, h2, h3⟩ => ⟨by
              cases b
              · exact h1
              · exact absurd hc5 (h3 rfl).2, h2⟩
          clear hz1 hz2 HF HC5
          obtain ⟨m, hm0⟩ : ∃ m : Later W5, m.w = W5 := ⟨Later.refl _, rfl⟩
          refine (fun h => hm0 ▸ h) ?_
          clear hm0
          refine wp_region_later m rfl (by kernel_rfl) (by kernel_rfl) ?_
          repeat (go_big_quiet_step ((first | (go_at_call 6; exact Calls.later _ (t2 _)) | (go_at_call 13; exact Calls.later _ (t1 _)) | (go_at_call 21; exact Calls.later _ (t3 _)) | (go_at_call 22; exact Calls.later _ (t4 _)) | (go_at_call 23; exact Calls.later _ (t5 _)))))
          refine wpQuiet_nil ?_
          rintro _ ⟨m, rfl⟩
          go_wp2_with fail
          go_meet
          case rel => exact ⟨rfl, m, rfl⟩
      case rest =>
        obtain ⟨rfl, m, rfl⟩ := hcut
        clear hc0' hc1' hb0' hr5 hrl hf7 HC5 HF HX HY HZ HhP HhG hpl hd0 hd1 hd4 hcl
        have hBm := below_later HB5.out m
        generalize m.w = W7 at *
        clear m HB5
        have hA := DrawFindOddHole_any n c bo W7 (Hhb1.out _ hBm) hn
        go_wp2_with fail
        refine hA.mono ?_
        rintro e w8 ⟨xa, fa, ga, ca, ⟨-, ha7⟩, rfl, -, hRa, hBa⟩
        clear hA
        replace hBm := hBm.trans (hBa.mono hBm.size)
        clear hBa
        go_wp2_with fail
        generalize hW9 : World.alloc _ _ = W9
        obtain ⟨hB9, hz9, k9⟩ := alloc1 hW9
        have hra := (hRa.below hB9).ints
        replace hBm := hBm.trans (hB9.mono hBm.size)
        clear hW9 hz9 hB9 hRa
        generalize w8.heap.size = ya at *
        have qa1 := implOddHole_any xa fa (some ⟨ga, 0, none⟩) ca W9 hra (by omega)
        have qa2 := fun (w' : World) (h : Below W9.heap.size W9 w') => specOddHole_any xa fa (some ⟨ga, 0, none⟩) ca w' (hra.below h) (by omega)
        have hla := oddHoleV_len xa fa
        have v0 := k9.cell 0
        have v1 := k9.cell 1
        have v4 := k9.lt
        simp at v0 v1
        clear k9
        generalize oddHoleV xa fa = Oa at *
        have HhBm := Lib.hid hBm
        clear hBm
        refine qa1.mono ?_
        rintro e w10 ⟨loa, lca, rfl, hB10, hLa⟩
        replace hLa := hLa.ints
        have qa3 := qa2 w10 hB10
        have u0 : w10.cell? ⟨ya, 0, none⟩ = _ := (hB10.cell v4).trans v0
        have u1 : w10.cell? ⟨ya, 1, none⟩ = _ := (hB10.cell v4).trans v1
        have u4 := Nat.lt_of_lt_of_le v4 hB10.size
        have hBm := HhBm.out.trans (hB10.mono HhBm.out.size)
        clear qa1 qa2 hB10 v0 v1 v4 hra HhBm
        have HhBm := Lib.hid hBm
        clear hBm
        go_wp2_with fail
        refine qa3.mono ?_
        rintro e w11 ⟨lpa, lqa, rfl, hB11, hMa⟩
        replace hLa := hLa.below hB11
        have hBm := HhBm.out.trans (hB11.mono HhBm.out.size)
        clear qa3 hB11 u0 u1 u4 HhBm ha7
        generalize Oa.isSome = oa at *
        generalize Oa.getD [] = la at *
        have hA := DrawFindAntihole_any n c bo w11 (Hhb1.out _ hBm) hn
        go_wp2_with fail
        refine hA.mono ?_
        rintro e w8 ⟨xd, fd, gd, cd, ⟨-, hd7⟩, rfl, -, hRd, hBd⟩
        clear hA
        replace hLa := hLa.below hBd
        replace hMa := hMa.below hBd
        replace hBm := hBm.trans (hBd.mono hBm.size)
        clear hBd
        go_wp2_with fail
        generalize hW9 : World.alloc _ _ = W9
        obtain ⟨hB9, hz9, k9⟩ := alloc1 hW9
        have hrd := (hRd.below hB9).ints
        replace hLa := hLa.below hB9
        replace hMa := hMa.below hB9
        replace hBm := hBm.trans (hB9.mono hBm.size)
        clear hW9 hz9 hB9 hRd
        generalize w8.heap.size = yd at *
        have qd1 := implAnti_any xd fd (some ⟨gd, 0, none⟩) cd W9 hrd (by omega)
        have qd2 := fun (w' : World) (h : Below W9.heap.size W9 w') => specAnti_any xd fd (some ⟨gd, 0, none⟩) cd w' (hrd.below h) (by omega)
        have hld := antiV_len xd fd
        have v0 := k9.cell 0
        have v1 := k9.cell 1
        have v4 := k9.lt
        simp at v0 v1
        clear k9
        generalize antiV xd fd = Od at *
        have HhBm := Lib.hid hBm
        clear hBm
        refine qd1.mono ?_
        rintro e w10 ⟨lod, lcd, rfl, hB10, hLd⟩
        replace hLd := hLd.ints
        have qd3 := qd2 w10 hB10
        have u0 : w10.cell? ⟨yd, 0, none⟩ = _ := (hB10.cell v4).trans v0
        have u1 : w10.cell? ⟨yd, 1, none⟩ = _ := (hB10.cell v4).trans v1
        have u4 := Nat.lt_of_lt_of_le v4 hB10.size
        replace hLa := hLa.below hB10
        replace hMa := hMa.below hB10
        have hBm := HhBm.out.trans (hB10.mono HhBm.out.size)
        clear qd1 qd2 hB10 v0 v1 v4 hrd HhBm
        have HhBm := Lib.hid hBm
        clear hBm
        go_wp2_with fail
        refine qd3.mono ?_
        rintro e w12 ⟨lpd, lqd, rfl, hB12, hMd⟩
        replace hLd := hLd.below hB12
        replace hLa := hLa.below hB12
        replace hMa := hMa.below hB12
        have hBm := HhBm.out.trans (hB12.mono HhBm.out.size)
        clear qd3 hB12 u0 u1 u4 HhBm hd7
        generalize Od.isSome = od at *
        generalize Od.getD [] = ld at *
        have hA := DrawIsPerfectObstacle_any n c bo w12 (Hhb1.out _ hBm) hn
        go_wp2_with fail
        refine hA.mono ?_
        rintro e w14 ⟨xb, fb, lb, gb, cb, lob, lcb, ⟨-, hb7⟩, hlb, hlcb, rfl, hRb, hLb, hBb⟩
        clear hA
        replace hLa := hLa.below hBb
        replace hMa := hMa.below hBb
        replace hLd := hLd.below hBb
        replace hMd := hMd.below hBb
        replace hBm := hBm.trans (hBb.mono hBm.size)
        clear hBb
        go_upto_region 21 with fail
        generalize hW15 : World.alloc _ _ = W15
        obtain ⟨hB15, hz15, k15⟩ := alloc1 hW15
        replace hLa := hLa.below hB15
        replace hMa := hMa.below hB15
        replace hLd := hLd.below hB15
        replace hMd := hMd.below hB15
        replace hLb := hLb.below hB15
        have hrb := (hRb.below hB15).ints
        have HB := Lib.hid (hBm.trans (hB15.mono hBm.size))
        clear hW15 hz15 hB15 hRb hBm Hhb1
        generalize w14.heap.size = yb15 at *
        have r0 := k15.cell 0
        have r1 := k15.cell 1
        have r4 := k15.lt
        simp at r0 r1
        clear k15
        have g1 := fun m : Later W15 => lawSameInts_any loa lpa la la lca lqa m.w (hLa.later m) (hMa.later m) (by omega) (by omega)
        have g2 := fun m : Later W15 => lawSameInts_any lod lpd ld ld lcd lqd m.w (hLd.later m) (hMd.later m) (by omega) (by omega)
        have g5 := fun m : Later W15 => implPerf_any xb fb lb (some ⟨gb, 0, none⟩) lob cb lcb m.w (hrb.later m) (by omega) (hLb.later m) hlb hlcb
        have g6 := fun m : Later W15 => specPerf_any xb fb lb (some ⟨gb, 0, none⟩) lob cb lcb m.w (hrb.later m) (by omega) (hLb.later m) hlb
        simp only [sameInts_refl] at g1 g2
        generalize perfB xb fb lb = C at *
        clear hLa hMa hLd hMd hLb hrb hlb hlcb hb7 hla hld
        obtain ⟨m, hm0⟩ : ∃ m : Later W15, m.w = W15 := ⟨Later.refl _, rfl⟩
        refine (fun h => hm0 ▸ h) ?_
        clear hm0
        refine wp_region_later m rfl (by kernel_rfl) (by kernel_rfl) ?_
        repeat (go_big_quiet_step ((first | (go_at_call 12; with_reducible exact Calls.later _ (g1 _)) | (go_at_call 12; with_reducible exact Calls.later _ (g2 _)) | (go_at_call 14; exact Calls.later _ (g5 _)) | (go_at_call 31; exact Calls.later _ (g6 _)))))
        refine wpQuiet_nil ?_
        rintro _ ⟨m, rfl⟩
        go_wp2_with fail
        go_ret
        exact ⟨by simp, below_later HB.out m⟩

open Go.ChangeShapes Go.WideShapes Go.ChangeAt

set_option maxRecDepth 100000 in
set_option maxHeartbeats 2000000 in
theorem lifted (os : Os) (started : os.Started) (H : Type) (enc : TypeId × Value → H) :
    ReturnsInHanded {} Tryz.checked os 3 .any (Rows.fnPerfectSpec.pre6 enc Tryz.prog Tryz.f3 Rows.fnPerfectRow.domain false) (Rows.fnPerfectSpec.post enc Tryz.prog Tryz.f3 false true false false) := by
  refine returnsInHanded_of_change (C := Tryz.checked) own started (by kernel_rfl) Tryz.func3
    (ChangeSpec.witness6 (enc := enc) (C := Tryz.checked) false ⟨#[], #[.slice none 0 0], []⟩ 8 (by kernel_rfl) (by kernel_rfl) (by kernel_rfl) (by kernel_rfl)) ?_
  intro W base args ds gs before hval0 hW hcnd _
  have hval : ∀ (j : Nat) t v, Tryz.f3.params[j]? = some t → args[j]? = some v → Value.okWide Tryz.prog W .any base t v := hval0
  have hW' := hW
  obtain ⟨p, q, hA0, hV, rfl, hfz, hnd⟩ := hW
  have hA : DataW.TrodAll enc Tryz.prog W 0 (fun _ => true) true Tryz.f3.params.toList args.toList ds p := hA0
  rw [Tryz.params3] at hA hval
  obtain ⟨v0, vs0, d0, ds0, p0, q0, hargs, rfl, rfl, h0, r0⟩ := trodAll_cons hA
  obtain ⟨rfl, rfl, rfl⟩ := trodAll_nil r0
  obtain rfl : args = #[v0] := by cases args; simp_all
  obtain ⟨rfl, rfl⟩ := trodVars_none hV
  have k0 := h0
  have lt0 : ∀ x ∈ p0, x.block < W.heap.size := by obtain ⟨m, hm⟩ := k0; exact DataW.trod_lt m _ _ _ hm
  obtain ⟨m, hm⟩ := h0
  obtain ⟨v1, v2, v3, rfl⟩ := okWide_slice Tryz.underlying22 (hval 0 22 v0 rfl rfl)
  obtain ⟨bo, n, c, e0, hb, hn⟩ := bytes_of_trod hm
  obtain ⟨rfl, rfl, rfl⟩ : v1 = bo ∧ v2 = n ∧ v3 = c := by simpa using e0
  clear hA0 hval0
  refine (law_any _ _ _ W hb hn).mono fun e W' ⟨he, bel⟩ => ?_
  subst he
  exact ⟨_, rfl, _, _, _, [], _, [], hW', trodAll_mk1 (shut_bool Tryz.underlying4 _), (trodAll_cons_mk (Below.trod laidOut (by kernel_rfl) (of_decide_eq_true (by kernel_rfl)) k0 bel lt0) trodAll_mk0), rfl, bel.frame _, fun h => by cases h⟩

theorem holds : Rows.FnPerfectSaid :=
  OpenClaim.holds_of_wide 3 Tryz.f3 rfl rfl rfl rfl rfl rfl rfl ⟨rfl, rfl, rfl, rfl, rfl⟩ rfl rfl rfl rfl rfl (by kernel_rfl) Tryz.func3 (by kernel_rfl)
    (of_decide_eq_true (by kernel_rfl)) (by unfold Func.isWrapper; first | (rw [if_pos (by decide +kernel)]; kernel_rfl) | (rw [if_neg (by decide +kernel)]; exact ⟨rfl, rfl⟩))
    (fun os started H enc _ => lifted os started H enc)
#print axioms holds

end Go.Proofs.YtfkehmpckhmkbaaGreat.lawPerfect
