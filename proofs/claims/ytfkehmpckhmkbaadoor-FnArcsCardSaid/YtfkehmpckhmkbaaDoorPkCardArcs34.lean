/-
  What FnArcs calls beside the arcs' own functions: EqualGraphs of both sides, IsModelOf, sameModel. For at most 2^20 elements.
-/
import Derived.Test.YtfkehmpckhmkbaaDoorPkCardArcs33
import Derived.Test.YtfkehmpckhmkbaaDoorPkCardArcs29
import Derived.Deep.CutRange
namespace Go.Proofs.YtfkehmpckhmkbaaDoor
open Go.RowKit

set_option maxHeartbeats 1000000 in
theorem slEqual_any (ao bo : Option Addr) (xs : List Int) (c d : Nat) (w : World) (hx : IntsAt w ao xs) (hy : IntsAt w bo xs) (hn : xs.length ≤ 1048576) :
    Calls Tryd.prog 52 #[.slice ao xs.length c, .slice bo xs.length d] w fun e w' => e = .returned (.bool true) ∧ Below w.heap.size w w' := by
  go_enter Tryd.func52, Tryd.ntmps52
  go_wp2_with fail
  go_loopw [13] (fun i wr => (∃ m : Later w, wr = m.w) ∧ ∃ k : Nat, k ≤ xs.length ∧ i = .int .i64 k) (fun i _ => xs.length - (intOf i).toNat)
  case atStart => exact ⟨⟨Later.refl _, rfl⟩, 0, by omega, rfl⟩
  case round =>
    obtain ⟨⟨m, rfl⟩, k, hk, rfl⟩ := hrel
    by_cases hlt : k < xs.length
    · obtain ⟨b, off, rfl, hbl, hc⟩ := hx (by omega)
      obtain ⟨b2, off2, rfl, hbl2, hc2⟩ := hy (by omega)
      have hb : (gi xs k != gi xs k) = false := by simp
      go_wp2_with fail
      refine wp_region_later m rfl (by kernel_rfl) (by kernel_rfl) ?_
      repeat (go_big_quiet_step (fail))
      refine wpQuiet_nil ?_
      rintro _ ⟨m, rfl⟩
      go_wp2_with fail
      go_roundw
      case rel => exact ⟨⟨m, rfl⟩, k + 1, by omega, by go_num⟩
      case measure => simp [intOf]; omega
    · go_wp2_with fail
      go_ret
      exact ⟨rfl, m.below⟩

set_option maxHeartbeats 1000000 in
theorem implEqG_any (x : Int) (xs : List Int) (ao bo : Option Addr) (c d : Nat) (w : World) (hx : IntsAt w ao xs) (hy : IntsAt w bo xs) (hn : xs.length ≤ 1048576) :
    Calls Tryd.prog 38 #[.agg #[.int .i64 x, .slice ao xs.length c], .agg #[.int .i64 x, .slice bo xs.length d]] w fun e w' => e = .returned (.bool true) ∧ Below w.heap.size w w' := by
  go_enter Tryd.func38, Tryd.ntmps38
  go_wp2_with fail
  generalize hW : (w.alloc _).alloc _ = W1
  obtain ⟨hB, hS, k0, k1⟩ := alloc2 hW
  have b0 := k0.lt
  have b1 := k1.lt
  have c00 := k0.cell 0
  have c01 := k0.cell 1
  have c10 := k1.cell 0
  have c11 := k1.cell 1
  simp at c00 c01 c10 c11
  replace hx := Lib.hid (hx.below hB)
  replace hy := Lib.hid (hy.below hB)
  have HhB := Lib.hid hB
  clear hB
  have HhS := Lib.hid hS
  clear hS
  clear k0 k1 hW
  obtain ⟨m, hm0⟩ : ∃ m : Later W1, m.w = W1 := ⟨Later.refl _, rfl⟩
  refine (fun h => hm0 ▸ h) ?_
  clear hm0
  refine (Calls.later m (slEqual_any _ _ _ _ _ _ (hx.out.later m) (hy.out.later m) hn)).mono ?_
  rintro e w' ⟨rfl, m, rfl⟩
  go_wp2_with fail
  go_ret
  exact ⟨rfl, below_later HhB.out m⟩

set_option maxHeartbeats 1000000 in
theorem specEqG_any (x : Int) (xs : List Int) (ao bo : Option Addr) (c d : Nat) (w : World) (hx : IntsAt w ao xs) (hy : IntsAt w bo xs) (hn : xs.length ≤ 1048576) :
    Calls Tryd.prog 10 #[.agg #[.int .i64 x, .slice ao xs.length c], .agg #[.int .i64 x, .slice bo xs.length d]] w fun e w' => e = .returned (.bool true) ∧ Below w.heap.size w w' := by
  go_enter Tryd.func10, Tryd.ntmps10
  go_wp2_with fail
  generalize hW : (w.alloc _).alloc _ = W1
  obtain ⟨hB, hS, k0, k1⟩ := alloc2 hW
  have b0 := k0.lt
  have b1 := k1.lt
  have c00 := k0.cell 0
  have c01 := k0.cell 1
  have c10 := k1.cell 0
  have c11 := k1.cell 1
  simp at c00 c01 c10 c11
  replace hx := hx.below hB
  replace hy := hy.below hB
  have HhB := Lib.hid hB
  clear hB
  have HhS := Lib.hid hS
  clear hS
  clear k0 k1 hW
  go_loopw [5] (fun i wr => (∃ m : Later W1, wr = m.w) ∧ ∃ k : Nat, k ≤ xs.length ∧ i = .int .i64 k) (fun i _ => xs.length - (intOf i).toNat)
  case atStart => exact ⟨⟨Later.refl _, rfl⟩, 0, by omega, rfl⟩
  case round =>
    obtain ⟨⟨m, rfl⟩, k, hk, rfl⟩ := hrel
    by_cases hlt : k < xs.length
    · obtain ⟨b, off, rfl, hbl, hc⟩ := hx (by omega)
      obtain ⟨b2, off2, rfl, hbl2, hc2⟩ := hy (by omega)
      have hb : (gi xs k != gi xs k) = false := by simp
      go_wp2_with fail
      refine wp_region_later m rfl (by kernel_rfl) (by kernel_rfl) ?_
      repeat (go_big_quiet_step (fail))
      refine wpQuiet_nil ?_
      rintro _ ⟨m, rfl⟩
      go_wp2_with fail
      go_roundw
      case rel => exact ⟨⟨m, rfl⟩, k + 1, by omega, by go_num⟩
      case measure => simp [intOf]; omega
    · go_wp2_with fail
      go_ret
      exact ⟨rfl, below_later HhB.out m⟩

/-- Intervals that IsModel takes. -/
def ivlOk (ls rs : List Int) : Prop := 1 ≤ ls.length ∧ ls.length ≤ 7 ∧ rs.length = ls.length ∧ ∀ i, i < ls.length → 0 ≤ gi ls i ∧ gi ls i ≤ gi rs i ∧ gi rs i ≤ 99

set_option maxHeartbeats 2000000 in
theorem implIsModel_any (ls rs : List Int) (ao bo : Option Addr) (c d : Nat) (w : World) (hv : ivlOk ls rs) (hx : IntsAt w ao ls) (hy : IntsAt w bo rs) :
    Calls Tryd.prog 50 #[.agg #[.slice ao ls.length c, .slice bo rs.length d]] w fun e w' => e = .returned (.bool true) ∧ Below w.heap.size w w' := by
  obtain ⟨h1, h7, hl, hv⟩ := hv
  have hne : ((rs.length : Int) != (ls.length : Int)) = false := by rw [hl]; simp
  have HL := Lib.hid hl
  have HV := Lib.hid hv
  clear hl hv
  go_enter Tryd.func50, Tryd.ntmps50
  go_wp2_with fail
  generalize hW : w.alloc _ = W1
  obtain ⟨hB, -, k0⟩ := alloc1 hW
  replace hx := hx.below hB
  replace hy := hy.below hB
  have hb0 := k0.lt
  have hc0 := k0.cell 0
  have hc1 := k0.cell 1
  simp at hc0 hc1
  clear hW k0
  have HhB := Lib.hid hB
  clear hB
  obtain ⟨m, hm0⟩ : ∃ m : Later W1, m.w = W1 := ⟨Later.refl _, rfl⟩
  refine (fun h => hm0 ▸ h) ?_
  clear hm0
  go_wp2_with (first | (go_at_call 34; refine (within_any _ _ _ _).mono ?_; rintro e w' ⟨rfl, rfl⟩))
  go_loopw [22] (fun i wr => (∃ m : Later W1, wr = m.w) ∧ ∃ k : Nat, k ≤ ls.length ∧ i = .int .i64 k) (fun i _ => ls.length - (intOf i).toNat)
  case atStart => exact ⟨⟨m, rfl⟩, 0, by omega, rfl⟩
  case round =>
    obtain ⟨⟨m, rfl⟩, k, hk, rfl⟩ := hrel
    by_cases hlt : k < ls.length
    · obtain ⟨b, off, rfl, hbl, hc⟩ := hx (by omega)
      obtain ⟨b2, off2, rfl, hbl2, hc2⟩ := hy (by rw [HL.out]; omega)
      have hlt2 : k < rs.length := by rw [HL.out]; exact hlt
      obtain ⟨v1, v2, v3⟩ := HV.out k hlt
      have z1 := hc k hlt
      have z2 := hc2 k hlt2
      clear hc hc2
      generalize gi ls k = A at *
      generalize gi rs k = B at *
      have d1 : decide (A < 0) = false := decide_eq_false (by omega)
      have d2 : decide (B < A) = false := decide_eq_false (by omega)
      have d3 : decide (99 < B) = false := decide_eq_false (by omega)
      go_wp2_with fail
      go_roundw
      case rel => exact ⟨⟨m, rfl⟩, k + 1, by omega, by go_num⟩
      case measure => simp [intOf]; omega
    · go_wp2_with fail
      go_ret
      exact ⟨rfl, below_later HhB.out m⟩

set_option maxRecDepth 100000 in
set_option maxHeartbeats 2000000 in
theorem ivlClosure {ls rs : List Int} {ao bo : Option Addr} {c d h : Nat} {W : World} (hv : ivlOk ls rs) (k0 : Blk W h #[.slice ao ls.length c, .slice bo rs.length d] 38) (hx : IntsAt W ao ls) (hy : IntsAt W bo rs) :
    PredOf 51 #[.pointer (some ⟨h, 0, none⟩)] W ls.length (ivlMeet ls rs) := by
  intro v w w0 hwv hvN hB
  show Calls Tryd.prog 51 #[.int .i64 w, .int .i64 v, .pointer (some ⟨h, 0, none⟩)] w0 _
  obtain ⟨-, h7, hl, -⟩ := hv
  have hwN : w < ls.length := by omega
  have hvR : v < rs.length := by omega
  have hwR : w < rs.length := by omega
  have HP : Hid (ivlMeet ls rs w v = (decide (gi ls w ≤ gi rs v) && decide (gi ls v ≤ gi rs w))) := rfl
  replace hx := hx.below hB
  replace hy := hy.below hB
  have k1 := k0.below hB k0.lt
  have hh := k1.lt
  have y0 := k1.cell 0
  have y1 := k1.cell 1
  simp at y0 y1
  obtain ⟨b, off, rfl, hbl, hc⟩ := hx (by omega)
  obtain ⟨b2, off2, rfl, hbl2, hc2⟩ := hy (by omega)
  have z1 := hc w hwN
  have z2 := hc v hvN
  have z3 := hc2 w hwR
  have z4 := hc2 v hvR
  clear hl hc hc2 k0 k1 hB hx hy
  generalize gi ls w = lw at *
  generalize gi ls v = lv at *
  generalize gi rs w = rw1 at *
  generalize gi rs v = rv at *
  generalize ivlMeet ls rs w v = R at *
  go_enter Tryd.func51, Tryd.ntmps51
  go_wp2_with fail
  cases hA : decide (lw ≤ rv)
  all_goals
    refine wp_region_later (Later.refl w0) rfl (by kernel_rfl) (by kernel_rfl) ?_
    repeat (go_big_quiet_step (fail))
    refine wpQuiet_nil ?_
    rintro _ ⟨m, rfl⟩
    go_wp2_with fail
    go_ret
    exact ⟨retB (by rw [HP.out, hA]; simp), m.below⟩

set_option maxRecDepth 100000 in
set_option maxHeartbeats 1000000 in
theorem implGraphIvl_any (ls rs : List Int) (ao bo : Option Addr) (c d : Nat) (w : World) (hv : ivlOk ls rs) (hx : IntsAt w ao ls) (hy : IntsAt w bo rs) :
    Calls Tryd.prog 37 #[.agg #[.slice ao ls.length c, .slice bo rs.length d]] w fun e w' => ∃ g1 cap, e = .returned (.tuple #[.agg #[.int .i64 ls.length, .slice (some ⟨g1, 0, none⟩) ls.length cap], .bool true]) ∧ Below w.heap.size w w' ∧ RowAt w' g1 cap (gOf ls.length (ivlMeet ls rs)) := by
  have h1 := hv.1
  have h7 := hv.2.1
  have Hhv := Lib.hid hv
  clear hv
  go_enter Tryd.func37, Tryd.ntmps37
  go_wp2_with fail
  generalize hW : World.alloc _ _ = W1
  obtain ⟨hB, -, k0, k1⟩ := alloc2 hW
  replace hx := hx.below hB
  replace hy := hy.below hB
  clear hW
  obtain ⟨m, hm0⟩ : ∃ m : Later W1, m.w = W1 := ⟨Later.refl _, rfl⟩
  refine (fun h => hm0 ▸ h) ?_
  clear hm0
  have hG := fun m : Later W1 => implIsModel_any ls rs ao bo c d m.w Hhv.out (hx.later m) (hy.later m)
  refine (Calls.later _ (hG m)).mono ?_
  rintro e w' ⟨rfl, m, rfl⟩
  have k0' := k0.later m
  have y0 := k0'.cell 0
  have y1 := k0'.cell 1
  have yl := k0'.lt
  simp at y0 y1
  have hX := graphOf_any ls.length 51 #[.pointer (some ⟨w.heap.size, 0, none⟩)] (ivlMeet ls rs) m.w h1 h7 (fun _ _ => rfl) (ivlClosure Hhv.out k0' (hx.later m) (hy.later m))
  clear k0 k0' hG
  have HhB := Lib.hid hB
  clear hB
  have Hk1 := Lib.hid k1
  clear k1
  go_wp2_with fail
  refine hX.mono ?_
  rintro e w3 ⟨g1, rfl, hB3, hg1, hR⟩
  have kr := (Hk1.out.later m).below hB3 (Hk1.out.later m).lt
  have hmw := m.size
  have z0 := kr.cell 0
  have z1 := kr.cell 1
  have z2 := kr.frozen 0
  have z3 := kr.frozen 1
  have z4 := kr.lt
  have hkl := Hk1.out.lt
  simp at z0 z1
  have hF : Below w.heap.size w ((w3.setCell ⟨w.heap.size + 1, 0, none⟩ (.int .i64 ls.length)).setCell ⟨w.heap.size + 1, 1, none⟩ (.slice (some ⟨g1, 0, none⟩) ls.length ls.length)) :=
    ((below_more' (below_later HhB.out m) hB3).setCell (by simp) _).setCell (by simp) _
  have hFR : RowAt ((w3.setCell ⟨w.heap.size + 1, 0, none⟩ (.int .i64 ls.length)).setCell ⟨w.heap.size + 1, 1, none⟩ (.slice (some ⟨g1, 0, none⟩) ls.length ls.length)) g1 ls.length (gOf ls.length (ivlMeet ls rs)) := (hR.otherCell (by simp; omega)).otherCell (by simp; omega)
  clear kr hR hX hB3 hg1 y0 y1
  have HhF := Lib.hid hF
  clear hF
  have HhFR := Lib.hid hFR
  clear hFR
  go_wp2_with fail
  refine bodyPost_ret (v := .tuple #[.agg #[.int .i64 ls.length, .slice (some ⟨g1, 0, none⟩) ls.length ls.length], .bool true]) (by simp [results, Tryd.results37, go_sem, z0, z1]) rfl ?_
  exact ⟨g1, ls.length, rfl, HhF.out, HhFR.out⟩

set_option maxRecDepth 100000 in
set_option maxHeartbeats 1000000 in
theorem implIsModelOf_any (ls rs R : List Int) (ao bo ro : Option Addr) (c d rc : Nat) (w : World) (hv : ivlOk ls rs) (hg : gOf ls.length (ivlMeet ls rs) = R) (hx : IntsAt w ao ls) (hy : IntsAt w bo rs) (hr : IntsAt w ro R) :
    Calls Tryd.prog 15 #[.agg #[.int .i64 ls.length, .slice ro R.length rc], .agg #[.slice ao ls.length c, .slice bo rs.length d]] w fun e w' => e = .returned (.bool true) ∧ Below w.heap.size w w' := by
  have hl : R.length = ls.length := by rw [← hg]; exact rowsOf_len _ _
  have h7 := hv.2.1
  have Hl := Lib.hid hl
  have Hg := Lib.hid hg
  clear hg hl
  have Hhv := Lib.hid hv
  clear hv
  go_enter Tryd.func15, Tryd.ntmps15
  go_wp2_with fail
  generalize hW : (w.alloc _).alloc _ = W1
  obtain ⟨hB, hS, k0, k1⟩ := alloc2 hW
  replace hx := hx.below hB
  replace hy := hy.below hB
  replace hr := hr.below hB
  clear hW hS
  have b0 := k0.lt
  have c00 := k0.cell 0
  have c01 := k0.cell 1
  have b1 := k1.lt
  have c10 := k1.cell 0
  have c11 := k1.cell 1
  simp at c00 c01 c10 c11
  have HhB := Lib.hid hB
  clear hB
  have Hk0 := Lib.hid k0
  clear k0
  clear k1
  refine (implGraphIvl_any ls rs ao bo c d W1 Hhv.out hx hy).mono ?_
  rintro e w3 ⟨g1, cap, rfl, hB3, hR⟩
  have k3 := Hk0.out.below hB3 b0
  rw [Hg.out] at hR
  have hr3 := hr.below hB3
  have hBB := below_more' HhB.out hB3
  clear hx hy hr hB3 c00 c01 c10 c11 b0 b1 Hk0 HhB
  go_upto_region 2 with fail
  generalize hW4 : World.alloc _ _ = W4
  obtain ⟨hB4, hz4, k4⟩ := alloc1 hW4
  have k5 := k3.below hB4 k3.lt
  have hr4 := hr3.below hB4
  have hR4 := (hR.below hB4).ints
  have hBB4 := hBB.trans (hB4.mono hBB.size)
  clear hW4 hB4 hz4 k3 hr3 hR hBB
  have b0 := k4.lt
  have c00 := k4.cell 0
  have c01 := k4.cell 1
  have b1 := k5.lt
  have c10 := k5.cell 0
  have c11 := k5.cell 1
  simp at c00 c01 c10 c11
  generalize w3.heap.size = yb at *
  clear k4 k5
  have hE := implEqG_any (ls.length : Int) R (some ⟨g1, 0, none⟩) ro cap rc W4 hR4 hr4 (by rw [Hl.out]; omega)
  rw [Hl.out] at hE c11
  have HhBB4 := Lib.hid hBB4
  clear hBB4
  clear hR4 hr4
  rw [Hl.out]
  go_wp2_with fail
  refine hE.mono ?_
  rintro e w5 ⟨rfl, hB5⟩
  have hF := below_more' HhBB4.out hB5
  clear hE hB5 c00 c01 c10 c11
  have HhF := Lib.hid hF
  clear hF
  go_wp2_with fail
  go_ret
  exact ⟨rfl, HhF.out⟩

set_option maxHeartbeats 1000000 in
theorem sameModel_any (xs ys : List Int) (fc lc fc' lc' : Nat) (fo lo fo' lo' : Option Addr) (w : World) (hf : IntsAt w fo xs) (hl : IntsAt w lo ys) (hf' : IntsAt w fo' xs) (hl' : IntsAt w lo' ys) (hn : xs.length ≤ 1048576) (hm : ys.length ≤ 1048576) :
    Calls Tryd.prog 23 #[.agg #[.slice fo xs.length fc, .slice lo ys.length lc], .agg #[.slice fo' xs.length fc', .slice lo' ys.length lc']] w fun e w' => e = .returned (.bool true) ∧ Below w.heap.size w w' := by
  go_enter Tryd.func23, Tryd.ntmps23
  go_wp2_with fail
  generalize hW : (w.alloc _).alloc _ = W1
  obtain ⟨hB, hS, k0, k1⟩ := alloc2 hW
  have b0 := k0.lt
  have b1 := k1.lt
  have c00 := k0.cell 0
  have c01 := k0.cell 1
  have c10 := k1.cell 0
  have c11 := k1.cell 1
  simp at c00 c01 c10 c11
  replace hf := Lib.hid (hf.below hB)
  replace hl := Lib.hid (hl.below hB)
  replace hf' := Lib.hid (hf'.below hB)
  replace hl' := Lib.hid (hl'.below hB)
  have HhB := Lib.hid hB
  clear hB
  have HhS := Lib.hid hS
  clear hS
  clear k0 k1 hW
  have hr1 := sameInts_refl xs
  have hr2 := sameInts_refl ys
  obtain ⟨m, hm0⟩ : ∃ m : Later W1, m.w = W1 := ⟨Later.refl _, rfl⟩
  refine (fun h => hm0 ▸ h) ?_
  clear hm0
  refine (Calls.later m (lawSameInts_any _ _ _ _ _ _ _ (hf.out.later m) (hf'.out.later m) (by omega) (by omega))).mono ?_
  rintro e w' ⟨rfl, m, rfl⟩
  go_wp2_with fail
  refine (Calls.later m (lawSameInts_any _ _ _ _ _ _ _ (hl.out.later m) (hl'.out.later m) (by omega) (by omega))).mono ?_
  rintro e w' ⟨rfl, m, rfl⟩
  go_wp2_with fail
  go_ret
  exact ⟨rfl, below_later HhB.out m⟩

end Go.Proofs.YtfkehmpckhmkbaaDoor
