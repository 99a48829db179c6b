/-
  ComplementOf of the reference. For at most 2^20 rows.
  FindAntihole and PerfectObstacle on both sides. For at most 2^20 rows.
-/
import Derived.Test.YtfkehmpckhmkbaaGreatPkLawPerfect06
import Derived.Deep.RegionLaw
import Derived.Test.YtfkehmpckhmkbaaGreatPkLawPerfect15
namespace Go.Proofs.YtfkehmpckhmkbaaGreat
open Go.RowKit

theorem OwnE.setB {w : World} {base cap : Nat} {ao : Option Addr} {xs : List Int} (h : OwnE w base ao cap xs) {a : Addr} (ha : a.block < base) (u : Value) : OwnE (w.setCell a u) base ao cap xs :=
  h.imp (fun h => ownsRow_setCell_below h ha u) id
def complTo (rs : List Int) (k : Nat) : List Int := (List.range k).map fun v : Nat => (complRow rs v : Int)
theorem complTo_len (rs : List Int) (k : Nat) : (complTo rs k).length = k := by simp [complTo]
theorem complTo_succ (rs : List Int) (k : Nat) : complTo rs (k + 1) = complTo rs k ++ [(complRow rs k : Int)] := by unfold complTo; rw [List.range_succ, List.map_append]; rfl
theorem complTo_all (rs : List Int) : complTo rs rs.length = compl rs := rfl
/-- How the reference reckons the row. -/
theorem complRow_sub {rs : List Int} (g : VG rs) {k : Nat} (hk : k < rs.length) : (complRow rs k : Int) = ((2 ^ rs.length : Nat) : Int) - 1 - (gn rs k : Int) - ((2 ^ k : Nat) : Int) := by
  have hN := g.le
  have hl := g.lt k hk
  have hno : (gn rs k).testBit k = false := g.irr k hk
  have hk2 : 2 ^ k < 2 ^ rs.length := Nat.pow_lt_pow_right (by decide) hk
  have key : ∀ N : Fin 8, ∀ r : Fin 128, ∀ k : Fin 7, k.val < N.val → r.val < 2 ^ N.val → r.val.testBit k.val = false → nDiff (nDiff (2 ^ N.val - 1) r.val) (2 ^ k.val) + r.val + 2 ^ k.val = 2 ^ N.val - 1 := by decide +kernel
  have e := key ⟨rs.length, by omega⟩ ⟨gn rs k, by have := g.pow.1; omega⟩ ⟨k, by omega⟩ hk hl hno
  simp only at e
  unfold complRow
  omega

set_option maxRecDepth 100000 in
set_option maxHeartbeats 1000000 in
theorem specCompl_bad (n : Int) (rs : List Int) (ro : Option Addr) (rc : Nat) (w : World) (hr : IntsAt w ro rs) (hrl : rs.length ≤ 1048576) (hv : isGraphB n rs = false) :
    Calls Tryz.prog 15 #[.agg #[.int .i64 n, .slice ro rs.length rc]] w fun e w' => e = .returned (.tuple #[.agg #[.int .i64 0, .slice none 0 0], .bool false]) ∧ Below w.heap.size w w' := by
  go_enter Tryz.func15, Tryz.ntmps15
  go_wp2_with fail
  generalize hW : World.alloc _ _ = W1
  obtain ⟨hB, -, -, k1⟩ := alloc2 hW
  replace hr := hr.below hB
  clear hW
  obtain ⟨m, hm0⟩ : ∃ m : Later W1, m.w = W1 := ⟨Later.refl _, rfl⟩
  refine (fun h => hm0 ▸ h) ?_
  clear hm0
  refine (Calls.later m (specIsGraph_any _ _ _ _ _ (hr.later m) hrl)).mono ?_
  rintro e w' ⟨rfl, m, rfl⟩
  rw [hv]
  have k1' := k1.later m
  have y0 := k1'.cell 0
  have y1 := k1'.cell 1
  have y2 := k1'.frozen 0
  have y3 := k1'.frozen 1
  simp at y0 y1
  have hF : Below w.heap.size w ((m.w.setCell ⟨w.heap.size + 1, 0, none⟩ (.int .i64 0)).setCell ⟨w.heap.size + 1, 1, none⟩ (.slice none 0 0)) := ((below_later hB m).setCell (by simp) _).setCell (by simp) _
  clear k1 k1'
  have HhB := Lib.hid hB
  clear hB
  have HhF := Lib.hid hF
  clear hF
  go_wp2_with fail
  refine bodyPost_ret (v := .tuple #[.agg #[.int .i64 0, .slice none 0 0], .bool false]) (by simp [results, Tryz.results15, go_sem, y0, y1]) rfl ?_
  exact ⟨rfl, HhF.out⟩

set_option maxRecDepth 100000 in
set_option maxHeartbeats 2000000 in
theorem specComplE_any (rs : List Int) (ro : Option Addr) (rc : Nat) (w : World) (hr : IntsAt w ro rs) (hv : isGraphB rs.length rs = true) :
    Calls Tryz.prog 15 #[.agg #[.int .i64 rs.length, .slice ro rs.length rc]] w fun e w' => ∃ ao cap, e = .returned (.tuple #[.agg #[.int .i64 rs.length, .slice ao rs.length cap], .bool true]) ∧ Below w.heap.size w w' ∧ OwnE w' w.heap.size ao cap (compl rs) := by
  have g := (VG.of hv).2
  have hg1 := g.pos
  have hg2 := g.le
  have hrl : rs.length ≤ 1048576 := by omega
  obtain ⟨rb, rofs, rfl, hrb, hrc⟩ := hr.graph g
  go_enter Tryz.func15, Tryz.ntmps15
  go_wp2_with fail
  generalize hW : World.alloc _ _ = W1
  obtain ⟨hB, hs1, k0, k1⟩ := alloc2 hW
  replace hr := hr.below hB
  clear hW
  obtain ⟨m, hm0⟩ : ∃ m : Later W1, m.w = W1 := ⟨Later.refl _, rfl⟩
  refine (fun h => hm0 ▸ h) ?_
  clear hm0
  have hb0 := k0.lt
  have hc0 := k0.cell 0
  have hc1 := k0.cell 1
  simp at hc0 hc1
  have HhB := Lib.hid hB
  clear hB
  refine (Calls.later m (specIsGraph_any _ _ _ _ _ (hr.later m) hrl)).mono ?_
  rintro e w' ⟨rfl, m, rfl⟩
  rw [hv]
  have hbm := Nat.lt_of_lt_of_le hb0 m.size
  go_wp2_with fail
  generalize hW2 : World.alloc _ _ = W2
  obtain ⟨hB2, -, k2⟩ := alloc1 hW2
  have hB4 := below_more m.below hB2
  have hoW : W1.heap.size ≤ m.w.heap.size := m.size
  clear hW2 hB2
  have ho := k2.lt
  have hc0' := (hB4.cell (p := ⟨w.heap.size, 0, none⟩) hb0).trans hc0
  have hc1' := (hB4.cell (p := ⟨w.heap.size, 1, none⟩) hb0).trans hc1
  have kr := k1.below hB4 k1.lt
  have hrb1 : rb < W1.heap.size := by omega
  have hrc' : ∀ k, k < rs.length → W2.cell? ⟨rb, rofs + k, none⟩ = some (.int .i64 (gn rs k : Int)) := fun k hk => (hB4.cell (p := ⟨rb, rofs + k, none⟩) hrb1).trans ((HhB.out.cell (p := ⟨rb, rofs + k, none⟩) hrb).trans (hrc k hk))
  have hb02 : w.heap.size < W2.heap.size := Nat.lt_of_lt_of_le hb0 hB4.size
  have hrb2 : rb < W2.heap.size := Nat.lt_of_lt_of_le hrb1 hB4.size
  have hBw := below_more' HhB.out hB4
  clear hc0 hc1 hb0 hr k0 k1 hB4 hrc HhB hbm
  generalize m.w.heap.size = o at *
  clear m
  have HhBw := Lib.hid hBw
  clear hBw
  have Hhrc' := Lib.hid hrc'
  clear hrc'
  have Hkr := Lib.hid kr
  clear kr
  have hx0 : ¬(fun b => b = o) w.heap.size := fun e => by have e2 : w.heap.size = o := e; omega
  have hx2 : ¬(fun b => b = o) rb := fun e => by have e2 : rb = o := e; omega
  have hS' : ∀ k, k < rs.length → ∀ w', Only (fun b => b = o) W2.heap.size W2 w' → Only (fun b => b = o) W2.heap.size W2 w' ∧ w'.cell? ⟨w.heap.size, 0, none⟩ = some (.int .i64 rs.length) ∧ w'.cell? ⟨w.heap.size, 1, none⟩ = some (.slice (some ⟨rb, rofs, none⟩) rs.length rc) ∧ w'.cell? ⟨rb, rofs + k, none⟩ = some (.int .i64 (gn rs k : Int)) := fun k hk w' h =>
    ⟨h, (h.cell hb02 hx0).trans hc0', (h.cell hb02 hx0).trans hc1', (h.cell (p := ⟨rb, rofs + k, none⟩) hrb2 hx2).trans (Hhrc'.out k hk)⟩
  go_wp2_with fail
  go_loopw [5] (fun i wr => ∃ m : LateX (fun b => b = o) W2, wr = m.w ∧ ∃ (k : Nat) (ao : Option Addr) (cap : Nat), k ≤ rs.length ∧ i = .int .i64 k ∧ Blk m.w o #[.int .i64 rs.length, .slice ao (complTo rs k).length cap] 26 ∧ OwnE m.w W2.heap.size ao cap (complTo rs k)) (fun i _ => rs.length - (intOf i).toNat)
  case atStart => exact ⟨LateX.refl _ _, rfl, 0, none, 0, by omega, rfl, k2, .inl (OwnL.nil _ _)⟩
  case round =>
    obtain ⟨m, rfl, k, ao, cap, hk, rfl, hbk, hO⟩ := hrel
    have hkl : (complTo rs k).length ≤ 7 := by rw [complTo_len]; omega
    have hms := m.size
    have z1 := hbk.cell 1
    have z0 := hbk.cell 0
    have z2 := hbk.frozen 1
    simp at z0 z1
    have zl := hbk.lt
    have Hhbk := Lib.hid hbk
    clear hbk
    have HhO := Lib.hid hO
    clear hO
    by_cases hlt : k < rs.length
    · have hSk := hS' k hlt
      have HU := Lib.hid (complTo_succ rs k)
      have hsub := complRow_sub g hlt
      have hl := g.lt k hlt
      have hp2 := g.pow.1
      have hp3 := g.pow.2
      have q1 := pwN_small rs.length (by omega)
      have q2 := pwN_small k (by omega)
      have q3 : ((2 : Int) ^ rs.length) = ((2 ^ rs.length : Nat) : Int) := by simp
      have q4 : ((2 : Int) ^ k) = ((2 ^ k : Nat) : Int) := by simp
      have hk2 : 2 ^ k ≤ 64 := by have : 2 ^ k ≤ 2 ^ 6 := Nat.pow_le_pow_right (by decide) (by omega); omega
      generalize complRow rs k = D at *
      generalize 2 ^ rs.length = T at *
      generalize 2 ^ k = V at *
      have hy : IntKind.i64.wrap (IntKind.i64.wrap (IntKind.i64.wrap (IntKind.i64.wrap (T : Int) - 1) - (gn rs k : Int)) - IntKind.i64.wrap (V : Int)) = (D : Int) := by
        rw [IntKind_i64_in (T : Int) (by omega) (by omega), IntKind_i64_in ((T : Int) - 1) (by omega) (by omega), IntKind_i64_in ((T : Int) - 1 - (gn rs k : Int)) (by omega) (by omega), IntKind_i64_in (V : Int) (by omega) (by omega), IntKind_i64_in _ (by omega) (by omega)]
        exact hsub.symm
      have Hhsub := Lib.hid hsub
      clear hsub
      have Hhy := Lib.hid hy
      clear hy
      go_wp2_with fail
      have hwm : w.heap.size < m.w.heap.size := Nat.lt_of_lt_of_le hb02 hms
      have hrm : rb < m.w.heap.size := Nat.lt_of_lt_of_le hrb2 hms
      obtain ⟨-, x0, x1, x2⟩ := hSk m.w m.only
      go_region_law (refine step_append_e (by rfl) _ _ (by rfl) W2.heap.size cap ao (complTo rs k) _ m.w.heap.size (by rfl) (HhO.out.below ((Below.refl _ _).drew.alloc (Nat.le_refl _) _)) (by rfl) (cell_new (by simp)) (by simp; omega) (by omega) ?_; intro ao2 cap2 w2 hown2 hBw2; have hO2 : Only (fun b => b = o) W2.heap.size W2 w2 := (m.only.more (((Below.refl m.w.heap.size m.w).drew).alloc (Nat.le_refl _) _) m.size).more hBw2 (Nat.le_refl _); have kb2 := (Hhbk.out.below (((Below.refl m.w.heap.size m.w).drew).alloc (Nat.le_refl _) _) zl).below hBw2 ho; have y0 := kb2.cell 0; have y1 := kb2.cell 1; have y2 := kb2.frozen 1)
      all_goals
        rw [Hhy.out] at hown2
        have hOF := hO2.setCell (p := ⟨o, 1, none⟩) (.inl rfl) (.slice ao2 ((complTo rs k).length + 1) cap2)
        have hEF := hown2.setB (a := ⟨o, 1, none⟩) ho (.slice ao2 ((complTo rs k).length + 1) cap2)
        have hBF : Blk (w2.setCell ⟨o, 1, none⟩ (.slice ao2 ((complTo rs k).length + 1) cap2)) o #[.int .i64 rs.length, .slice ao2 (complTo rs k ++ [(D : Int)]).length cap2] 26 := by
          have := kb2.store 1 (.slice ao2 ((complTo rs k).length + 1) cap2)
          simpa using this
        clear hO2 hown2 kb2 hBw2 hS' hSk
        have HhOF := Lib.hid hOF
        clear hOF
        have HhEF := Lib.hid hEF
        clear hEF
        have HhBF := Lib.hid hBF
        clear hBF
        go_wp2_with fail
        go_roundw
        case rel => exact ⟨⟨_, HhOF.out⟩, rfl, k + 1, ao2, cap2, by omega, by go_num, by rw [HU.out]; exact HhBF.out, by rw [HU.out]; exact HhEF.out⟩
        case measure => simp [intOf]; omega
    · obtain rfl : k = rs.length := by omega
      rw [complTo_len] at z1
      have hI := HhO.out.ints
      rw [complTo_all] at hI
      have km := m.blk Hkr.out (fun h => by have h2 : w.heap.size + 1 = o := h; omega)
      have y0 := km.cell 0
      have y1 := km.cell 1
      have y2 := km.frozen 0
      have y3 := km.frozen 1
      have kml := km.lt
      simp at y0 y1
      have hF : Below w.heap.size w ((m.w.setCell ⟨w.heap.size + 1, 0, none⟩ (.int .i64 rs.length)).setCell ⟨w.heap.size + 1, 1, none⟩ (.slice ao rs.length cap)) :=
        ((HhBw.out.trans (m.only.below (Nat.le_of_lt hb02) fun b hb h => by have h2 : b = o := h; omega)).setCell (by simp) _).setCell (by simp) _
      have hIF : OwnE ((m.w.setCell ⟨w.heap.size + 1, 0, none⟩ (.int .i64 rs.length)).setCell ⟨w.heap.size + 1, 1, none⟩ (.slice ao rs.length cap)) w.heap.size ao cap (compl rs) := by
        have hE := ((HhO.out.setB (a := ⟨w.heap.size + 1, 0, none⟩) (by show w.heap.size + 1 < W2.heap.size; omega) (.int .i64 rs.length)).setB (a := ⟨w.heap.size + 1, 1, none⟩) (by show w.heap.size + 1 < W2.heap.size; omega) (.slice ao rs.length cap))
        rw [complTo_all] at hE
        exact hE.imp (fun h => h.mono (Nat.le_of_lt hb02)) id
      clear km hS' hI
      have HhF := Lib.hid hF
      clear hF
      have HhIF := Lib.hid hIF
      clear hIF
      go_wp2_with fail
      refine bodyPost_ret (v := .tuple #[.agg #[.int .i64 rs.length, .slice ao rs.length cap], .bool true]) (by simp [results, Tryz.results15, go_sem, y0, y1]) rfl ?_
      exact ⟨ao, cap, rfl, HhF.out, HhIF.out⟩
theorem specCompl_any (rs : List Int) (ro : Option Addr) (rc : Nat) (w : World) (hr : IntsAt w ro rs) (hv : isGraphB rs.length rs = true) :
    Calls Tryz.prog 15 #[.agg #[.int .i64 rs.length, .slice ro rs.length rc]] w fun e w' => ∃ ao cap, e = .returned (.tuple #[.agg #[.int .i64 rs.length, .slice ao rs.length cap], .bool true]) ∧ Below w.heap.size w w' ∧ IntsAt w' ao (compl rs) :=
  (specComplE_any rs ro rc w hr hv).mono fun _ _ ⟨ao, cap, h1, h2, h3⟩ => ⟨ao, cap, h1, h2, h3.ints⟩

end Go.Proofs.YtfkehmpckhmkbaaGreat

namespace Go.Proofs.YtfkehmpckhmkbaaGreat
open Go.RowKit

/-- What FindAntihole says. -/
def antiV (n : Int) (rs : List Int) : Option (List Int) := if isGraphB n rs = true then oddHoleV rs.length (compl rs) else none
theorem antiV_no {n : Int} {rs : List Int} (h : isGraphB n rs = false) : antiV n rs = none := by unfold antiV; rw [h]; rfl
theorem antiV_of {n : Int} {rs : List Int} (h : isGraphB n rs = true) : antiV n rs = oddHoleV rs.length (compl rs) := by unfold antiV; rw [if_pos h]
theorem antiV_len (n : Int) (rs : List Int) : ((antiV n rs).getD []).length ≤ 1048576 := by
  unfold antiV; split
  · exact oddHoleV_len _ _
  · simp
theorem oddHole_zero : oddHoleV 0 [] = none := by
  have : isGraphB 0 [] = false := by unfold isGraphB; simp
  unfold oddHoleV; rw [this]; rfl
/-- What PerfectObstacle says. -/
def obstV (n : Int) (rs : List Int) : Option (List Int) := match oddHoleV n rs with | some x => some x | none => antiV n rs
theorem obstV_len (n : Int) (rs : List Int) : ((obstV n rs).getD []).length ≤ 1048576 := by
  unfold obstV; split
  · rename_i x h; have := oddHoleV_len n rs; rw [h] at this; exact this
  · exact antiV_len n rs

set_option maxRecDepth 100000 in
set_option maxHeartbeats 1000000 in
theorem implAnti_any (n : Int) (rs : List Int) (ro : Option Addr) (rc : Nat) (w : World) (hr : IntsAt w ro rs) (hrl : rs.length ≤ 1048576) :
    Calls Tryz.prog 28 #[.agg #[.int .i64 n, .slice ro rs.length rc]] w (RetO w (antiV n rs)) := by
  go_enter Tryz.func28, Tryz.ntmps28
  go_wp2_with fail
  generalize hW : w.alloc _ = W1
  obtain ⟨hB, -, k0⟩ := alloc1 hW
  replace hr := hr.below hB
  have hb0 := k0.lt
  have hc0 := k0.cell 0
  have hc1 := k0.cell 1
  simp at hc0 hc1
  clear hW k0
  have HhB := Lib.hid hB
  clear hB
  cases hv : isGraphB n rs
  · have HE := Lib.hid (antiV_no hv)
    refine (implCompl_bad n rs ro rc W1 hr hrl hv).mono ?_
    rintro e w2 ⟨rfl, hB2⟩
    go_wp2_with fail
    generalize hW3 : World.alloc _ _ = W3
    obtain ⟨hB3, -, -⟩ := alloc1 hW3
    refine (implOddHole_any 0 [] none 0 W3 (fun h => absurd h (by simp)) (by simp)).mono ?_
    rintro e w4 ⟨ao, cap, rfl, hB4, hO⟩
    rw [oddHole_zero] at hO ⊢
    have hBB : Below w.heap.size w w4 := below_more' (below_more' (below_more' HhB.out hB2) hB3) hB4
    have hEE := hO.mono' (Nat.le_trans HhB.out.size (Nat.le_trans hB2.size hB3.size))
    clear hB2 hB3 hB4 hO hW3
    have HhBB := Lib.hid hBB
    clear hBB
    have HhEE := Lib.hid hEE
    clear hEE
    go_wp2_with fail
    go_ret2
    exact ⟨ao, cap, by rw [HE.out]; rfl, HhBB.out, by rw [HE.out]; exact HhEE.out⟩
  · obtain ⟨rfl, g⟩ := VG.of hv
    have HE := Lib.hid (antiV_of hv)
    refine (implCompl_any rs ro rc W1 hr hv).mono ?_
    rintro e w2 ⟨g1, c1, rfl, hB2, hI2⟩
    go_wp2_with fail
    generalize hW3 : World.alloc _ _ = W3
    obtain ⟨hB3, -, -⟩ := alloc1 hW3
    have hc := implOddHole_any rs.length (compl rs) (some ⟨g1, 0, none⟩) c1 W3 (hI2.below hB3) (by rw [compl_len]; exact hrl)
    rw [compl_len] at hc
    refine hc.mono ?_
    rintro e w4 ⟨ao, cap, rfl, hB4, hO⟩
    have hBB : Below w.heap.size w w4 := below_more' (below_more' (below_more' HhB.out hB2) hB3) hB4
    have hEE := hO.mono' (Nat.le_trans HhB.out.size (Nat.le_trans hB2.size hB3.size))
    rw [← HE.out] at hEE ⊢
    clear hB2 hB3 hB4 hO hW3 hI2 hc
    generalize antiV rs.length rs = O at *
    have HhBB := Lib.hid hBB
    clear hBB
    have HhEE := Lib.hid hEE
    clear hEE
    go_wp2_with fail
    go_ret2
    exact ⟨ao, cap, rfl, HhBB.out, HhEE.out⟩

set_option maxRecDepth 100000 in
set_option maxHeartbeats 1000000 in
theorem specAntiC_any (n : Int) (rs : List Int) (ro : Option Addr) (rc : Nat) (w : World) (hr : IntsAt w ro rs) (hrl : rs.length ≤ 1048576) :
    Calls Tryz.prog 29 #[.agg #[.int .i64 n, .slice ro rs.length rc]] w (RetIC w (antiV n rs)) := by
  go_enter Tryz.func29, Tryz.ntmps29
  go_wp2_with fail
  generalize hW : w.alloc _ = W1
  obtain ⟨hB, -, k0⟩ := alloc1 hW
  replace hr := hr.below hB
  have hb0 := k0.lt
  have hc0 := k0.cell 0
  have hc1 := k0.cell 1
  simp at hc0 hc1
  clear hW k0
  have HhB := Lib.hid hB
  clear hB
  cases hv : isGraphB n rs
  · have HE := Lib.hid (antiV_no hv)
    refine (specCompl_bad n rs ro rc W1 hr hrl hv).mono ?_
    rintro e w2 ⟨rfl, hB2⟩
    have hBB : Below w.heap.size w w2 := below_more' HhB.out hB2
    clear hB2
    have HhBB := Lib.hid hBB
    clear hBB
    go_wp2_with fail
    go_ret2
    exact ⟨_, _, by rw [HE.out]; rfl, (HhBB.out.alloc HhBB.out.size _).alloc (by have := HhBB.out.size; simp; omega) _, by rw [HE.out]; exact ⟨fun h => absurd h (by simp), by simp⟩⟩
  · obtain ⟨rfl, g⟩ := VG.of hv
    have HE := Lib.hid (antiV_of hv)
    refine (specCompl_any rs ro rc W1 hr hv).mono ?_
    rintro e w2 ⟨g1, c1, rfl, hB2, hI2⟩
    go_wp2_with fail
    generalize hW3 : World.alloc _ _ = W3
    obtain ⟨hB3, -, -⟩ := alloc1 hW3
    have hc := specOddHoleC_any rs.length (compl rs) g1 c1 W3 (hI2.below hB3) (by rw [compl_len]; exact hrl)
    rw [compl_len] at hc
    refine hc.mono ?_
    rintro e w4 ⟨ao, cap, rfl, hB4, hO⟩
    have hBB : Below w.heap.size w w4 := below_more' (below_more' (below_more' HhB.out hB2) hB3) hB4
    rw [← HE.out] at hO ⊢
    clear hB2 hB3 hB4 hW3 hI2 hc
    generalize antiV rs.length rs = O at *
    have HhBB := Lib.hid hBB
    clear hBB
    have HhO := Lib.hid hO
    clear hO
    go_wp2_with fail
    go_ret2
    exact ⟨ao, cap, rfl, HhBB.out, HhO.out⟩
theorem specAnti_any (n : Int) (rs : List Int) (ro : Option Addr) (rc : Nat) (w : World) (hr : IntsAt w ro rs) (hrl : rs.length ≤ 1048576) :
    Calls Tryz.prog 29 #[.agg #[.int .i64 n, .slice ro rs.length rc]] w (RetI w (antiV n rs)) :=
  (specAntiC_any n rs ro rc w hr hrl).mono fun _ _ h => h.ret

set_option maxRecDepth 100000 in
set_option maxHeartbeats 1000000 in
theorem implObst_any (n : Int) (rs : List Int) (ro : Option Addr) (rc : Nat) (w : World) (hr : IntsAt w ro rs) (hrl : rs.length ≤ 1048576) :
    Calls Tryz.prog 9 #[.agg #[.int .i64 n, .slice ro rs.length rc]] w (RetO w (obstV n rs)) := by
  go_enter Tryz.func9, Tryz.ntmps9
  go_wp2_with fail
  generalize hW : w.alloc _ = W1
  obtain ⟨hB, -, k0⟩ := alloc1 hW
  replace hr := hr.below hB
  have hb0 := k0.lt
  have hc0 := k0.cell 0
  have hc1 := k0.cell 1
  simp at hc0 hc1
  clear hW k0
  have HhB := Lib.hid hB
  clear hB
  have HE : Hid (obstV n rs = match oddHoleV n rs with | some x => some x | none => antiV n rs) := rfl
  refine (implOddHole_any n rs ro rc W1 hr hrl).mono ?_
  rintro e w2 ⟨ao, cap, rfl, hB2, hO⟩
  obtain ⟨m, rfl⟩ : ∃ m2 : Later W1, m2.w = w2 := ⟨⟨w2, hB2⟩, rfl⟩
  generalize oddHoleV n rs = O at *
  rcases O with _ | x
  · clear hO hB2
    go_wp2_with fail
    refine (implAnti_any n rs ro rc m.w (hr.later m) hrl).mono ?_
    rintro e w4 ⟨ao, cap, rfl, hB4, hO⟩
    have hBB : Below w.heap.size w w4 := below_more' (below_later HhB.out m) hB4
    have hEE := hO.mono' (below_later HhB.out m).size
    clear hB4 hO
    have HhBB := Lib.hid hBB
    clear hBB
    have HhEE := Lib.hid hEE
    clear hEE
    go_wp2_with fail
    go_ret2
    exact ⟨ao, cap, by rw [HE.out]; rfl, HhBB.out, by rw [HE.out]; exact HhEE.out⟩
  · have hEE := hO.mono' HhB.out.size
    clear hO hB2
    have HhEE := Lib.hid hEE
    clear hEE
    go_wp2_with fail
    go_ret2
    exact ⟨ao, cap, by rw [HE.out]; rfl, below_later HhB.out m, by rw [HE.out]; exact HhEE.out⟩

set_option maxRecDepth 100000 in
set_option maxHeartbeats 1000000 in
theorem specObstC_any (n : Int) (rs : List Int) (ro : Option Addr) (rc : Nat) (w : World) (hr : IntsAt w ro rs) (hrl : rs.length ≤ 1048576) :
    Calls Tryz.prog 10 #[.agg #[.int .i64 n, .slice ro rs.length rc]] w (RetIC w (obstV n rs)) := by
  go_enter Tryz.func10, Tryz.ntmps10
  go_wp2_with fail
  generalize hW : w.alloc _ = W1
  obtain ⟨hB, -, k0⟩ := alloc1 hW
  replace hr := hr.below hB
  have hb0 := k0.lt
  have hc0 := k0.cell 0
  have hc1 := k0.cell 1
  simp at hc0 hc1
  clear hW k0
  have HhB := Lib.hid hB
  clear hB
  have HE : Hid (obstV n rs = match oddHoleV n rs with | some x => some x | none => antiV n rs) := rfl
  refine (specOddHoleC_any n rs ro rc W1 hr hrl).mono ?_
  rintro e w2 ⟨ao, cap, rfl, hB2, hO⟩
  obtain ⟨m, rfl⟩ : ∃ m2 : Later W1, m2.w = w2 := ⟨⟨w2, hB2⟩, rfl⟩
  generalize oddHoleV n rs = O at *
  rcases O with _ | x
  · clear hO hB2
    go_wp2_with fail
    refine (specAntiC_any n rs ro rc m.w (hr.later m) hrl).mono ?_
    rintro e w4 ⟨ao, cap, rfl, hB4, hO⟩
    have hBB : Below w.heap.size w w4 := below_more' (below_later HhB.out m) hB4
    clear hB4
    have HhBB := Lib.hid hBB
    clear hBB
    have HhO := Lib.hid hO
    clear hO
    go_wp2_with fail
    go_ret2
    exact ⟨ao, cap, by rw [HE.out]; rfl, HhBB.out, by rw [HE.out]; exact HhO.out⟩
  · clear hB2
    have HhO := Lib.hid hO
    clear hO
    go_wp2_with fail
    go_ret2
    exact ⟨ao, cap, by rw [HE.out]; rfl, below_later HhB.out m, by rw [HE.out]; exact HhO.out⟩
theorem specObst_any (n : Int) (rs : List Int) (ro : Option Addr) (rc : Nat) (w : World) (hr : IntsAt w ro rs) (hrl : rs.length ≤ 1048576) :
    Calls Tryz.prog 10 #[.agg #[.int .i64 n, .slice ro rs.length rc]] w (RetI w (obstV n rs)) :=
  (specObstC_any n rs ro rc w hr hrl).mono fun _ _ h => h.ret

end Go.Proofs.YtfkehmpckhmkbaaGreat
