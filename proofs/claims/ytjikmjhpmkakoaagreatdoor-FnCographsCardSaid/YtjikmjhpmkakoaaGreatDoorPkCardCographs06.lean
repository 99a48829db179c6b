/-
  copyGraph and ComplementOf of the program. For at most 2^20 rows.
  The walks of slices.Index and slices.Contains at []int. For at most 2^20 elements.
  The walks of SetOf, l2Edge, l4Distinct (the reference) and areVertices (the program): lists of different vertices. For at most 2^20 rows and list elements.
-/
import Derived.Test.YtjikmjhpmkakoaaGreatDoorPkCardCographs04
import Derived.Test.YtjikmjhpmkakoaaGreatDoorPkCardCographs03
import Derived.Deep.RegionHeld3
import Derived.Test.YtjikmjhpmkakoaaGreatDoorPkCardCographs01
namespace Go.Proofs.YtjikmjhpmkakoaaGreatDoor
open Go.RowKit

theorem RowAt.otherCell {w : World} {g cap : Nat} {xs : List Int} (h : RowAt w g cap xs) {a : Addr} {v : Value} (hne : g ≠ a.block) : RowAt (w.setCell a v) g cap xs := by
  obtain ⟨cur, hb, hr⟩ := h
  exact ⟨cur, hb.other v hne, hr⟩

/-- The row of v in the complement. -/
def complRow (rs : List Int) (v : Nat) : Nat := nDiff (nDiff (2 ^ rs.length - 1) (gn rs v)) (2 ^ v)
def compl (rs : List Int) : List Int := (List.range rs.length).map fun v : Nat => (complRow rs v : Int)
theorem compl_len (rs : List Int) : (compl rs).length = rs.length := by simp [compl]
theorem compl_at {rs : List Int} {v : Nat} (h : v < rs.length) : gi (compl rs) v = (complRow rs v : Int) := by simp [compl, gi, h]

set_option maxRecDepth 100000 in
set_option maxHeartbeats 1000000 in
theorem copyGraph_any (n : Int) (rs : List Int) (ro : Option Addr) (rc : Nat) (w : World) (hr : IntsAt w ro rs) (hrl : rs.length ≤ 1048576) (h0 : 0 < rs.length) :
    Calls Tryz.prog 123 #[.agg #[.int .i64 n, .slice ro rs.length rc]] w fun e w' => ∃ g1 cap, e = .returned (.agg #[.int .i64 n, .slice (some ⟨g1, 0, none⟩) rs.length cap]) ∧ Below w.heap.size w w' ∧ w.heap.size ≤ g1 ∧ RowAt w' g1 cap rs := by
  obtain ⟨rb, rofs, rfl, hrb, -⟩ := hr h0
  go_enter Tryz.func123, Tryz.ntmps123
  go_wp2_with fail
  generalize hW : World.alloc _ _ = W1
  obtain ⟨hB, hs, k0, k1⟩ := alloc2 hW
  replace hr := hr.upto.below hB (Nat.le_refl _)
  have hS' : ∀ w', Below (w.heap.size + 1) W1 w' → Below (w.heap.size + 1) W1 w' ∧ w'.cell? ⟨w.heap.size, 0, none⟩ = some (.int .i64 n) ∧ w'.cell? ⟨w.heap.size, 1, none⟩ = some (.slice (some ⟨rb, rofs, none⟩) rs.length rc) := fun w' h => by
    have c0 := k0.cell 0
    have c1 := k0.cell 1
    simp at c0 c1
    exact ⟨h, (h.cell (by simp)).trans c0, (h.cell (by simp)).trans c1⟩
  clear hW
  have HhB := Lib.hid hB
  clear hB
  obtain ⟨m, hm0⟩ : ∃ m : Later W1, m.w = W1 := ⟨Later.refl _, rfl⟩
  refine (fun h => hm0 ▸ h) ?_
  clear hm0
  have hB0 : Below (w.heap.size + 1) W1 m.w := m.below.mono (by omega)
  go_region_held3 (fun w' => Below (w.heap.size + 1) W1 w' ∧ w'.cell? ⟨w.heap.size, 0, none⟩ = some (.int .i64 n) ∧ w'.cell? ⟨w.heap.size, 1, none⟩ = some (.slice (some ⟨rb, rofs, none⟩) rs.length rc))
    (exact hS' _ (by first | exact hB0.drew | assumption | exact Below.alloc (And.left (by assumption : Below (w.heap.size + 1) W1 _ ∧ _)) (Nat.le_trans (by omega) (And.left (by assumption : Below (w.heap.size + 1) W1 _ ∧ _)).size) _ | exact ((And.left (by assumption : Below (w.heap.size + 1) W1 _ ∧ _)).setCell (by simp) _).setCell (by simp) _))
    (first
      | ((refine step_append_copy (by rfl) _ _ (by rfl) W1.heap.size _ ⟨rb, rofs, none⟩ rs rc (by rfl) (by rfl) (hr.below (B' := w.heap.size + 1) (And.left (by assumption : Below (w.heap.size + 1) W1 _ ∧ _)) (Nat.le_succ _)).ints (And.left (by assumption : Below (w.heap.size + 1) W1 _ ∧ _)).size (by omega) ?_); intro ao1 cap1 w1 hne1 hown1 hBw1; have hB2 : Below W1.heap.size W1 w1 := ((m.below.drew).alloc m.size _).trans (hBw1.mono (Nat.le_trans m.size (Nat.le_of_lt (by simp)))); have hB3 : Below (w.heap.size + 1) W1 w1 := hB2.mono (by omega); have y1 := k1.below hB2 k1.lt; have y2 := y1.cell 0; have y3 := y1.cell 1; have y4 := y1.frozen 0; have y5 := y1.frozen 1))
  simp at y2 y3
  obtain ⟨g1, rfl, hg1, hR⟩ := hown1.row h0
  have hF : Below w.heap.size w ((w1.setCell ⟨w.heap.size + 1, 0, none⟩ (.int .i64 n)).setCell ⟨w.heap.size + 1, 1, none⟩ (.slice (some ⟨g1, 0, none⟩) rs.length cap1)) :=
    ((HhB.out.trans (hB2.mono HhB.out.size)).setCell (by simp) _).setCell (by simp) _
  have hRF : RowAt ((w1.setCell ⟨w.heap.size + 1, 0, none⟩ (.int .i64 n)).setCell ⟨w.heap.size + 1, 1, none⟩ (.slice (some ⟨g1, 0, none⟩) rs.length cap1)) g1 cap1 rs :=
    (hR.otherCell (by simp; omega)).otherCell (by simp; omega)
  have hgw : w.heap.size ≤ g1 := by omega
  have HhF := Lib.hid hF
  clear hF
  have HhRF := Lib.hid hRF
  clear hRF
  have HhR := Lib.hid hR
  clear hR
  have Hhown1 := Lib.hid hown1
  clear hown1
  have Hhgw := Lib.hid hgw
  clear hgw
  go_wp2_with fail
  refine bodyPost_ret (v := .agg #[.int .i64 n, .slice (some ⟨g1, 0, none⟩) rs.length cap1]) (by simp [results, Tryz.results123, go_sem, y2, y3]) rfl ?_
  exact ⟨g1, cap1, rfl, HhF.out, Hhgw.out, HhRF.out⟩

theorem RowAt.below {w w' : World} {g cap : Nat} {xs : List Int} (h : RowAt w g cap xs) (hb : Below w.heap.size w w') : RowAt w' g cap xs := by
  obtain ⟨cur, h1, h2⟩ := h
  exact ⟨cur, h1.below hb h1.lt, h2⟩
set_option maxRecDepth 100000 in
set_option maxHeartbeats 2000000 in
theorem implCompl_any (rs : List Int) (ro : Option Addr) (rc : Nat) (w : World) (hr : IntsAt w ro rs) (hv : isGraphB rs.length rs = true) :
    Calls Tryz.prog 76 #[.agg #[.int .i64 rs.length, .slice ro rs.length rc]] w fun e w' => ∃ g1 cap, e = .returned (.tuple #[.agg #[.int .i64 rs.length, .slice (some ⟨g1, 0, none⟩) rs.length cap], .bool true]) ∧ Below w.heap.size w w' ∧ IntsAt w' (some ⟨g1, 0, none⟩) (compl rs) := by
  have g := (VG.of hv).2
  have hg1 := g.pos
  have hg2 := g.le
  have hrl : rs.length ≤ 1048576 := by omega
  obtain ⟨rb, rofs, rfl, hrb, hrc⟩ := hr.graph g
  go_enter Tryz.func76, Tryz.ntmps76
  go_wp2_with fail
  generalize hW : World.alloc _ _ = W1
  obtain ⟨hB, hs1, k0, k1⟩ := alloc2 hW
  replace hr := hr.below hB
  clear hW
  obtain ⟨m, hm0⟩ : ∃ m : Later W1, m.w = W1 := ⟨Later.refl _, rfl⟩
  refine (fun h => hm0 ▸ h) ?_
  clear hm0
  have hb0 := k0.lt
  have hc0 := k0.cell 0
  have hc1 := k0.cell 1
  simp at hc0 hc1
  have HhB := Lib.hid hB
  clear hB
  refine (Calls.later m (implIsGraph_any _ _ _ _ _ (hr.later m) hrl)).mono ?_
  rintro e w' ⟨rfl, m, rfl⟩
  rw [hv]
  go_wp2_with fail
  refine (copyGraph_any _ rs _ rc m.w (hr.later m) hrl (by omega)).mono ?_
  rintro e w3 ⟨gb, cap, rfl, hB3, hgb, hR⟩
  have hms := m.size
  replace hB3 : Below W1.heap.size W1 w3 := below_more m.below hB3
  replace hgb := Nat.le_trans hms hgb
  clear hms
  clear m
  go_wp2_with fail
  generalize hW2 : World.alloc _ _ = W2
  obtain ⟨hB2, -, k2⟩ := alloc1 hW2
  have hR2 : RowAt W2 gb cap rs := by
    obtain ⟨cur, h1, h2⟩ := hR
    exact ⟨cur, h1.below hB2 h1.lt, h2⟩
  have hB4 := below_more hB3 hB2
  clear hW2 hB2 hR
  have hgl := hR2.lt
  have hne : gb ≠ w3.heap.size := fun e => by
    obtain ⟨cur, h1, _⟩ := hR2
    have := h1
    unfold Blk at this
    have h2 := k2
    unfold Blk at h2
    rw [e] at this
    rw [this] at h2
    simp at h2
  have ho := k2.lt
  have ho1 := k2.cell 1
  have ho0 := k2.cell 0
  simp at ho0 ho1
  have hc0' := (hB4.cell (p := ⟨w.heap.size, 0, none⟩) hb0).trans hc0
  have hc1' := (hB4.cell (p := ⟨w.heap.size, 1, none⟩) hb0).trans hc1
  have kr := k1.below hB4 k1.lt
  have hrb1 : rb < W1.heap.size := by omega
  have hrc' : ∀ k, k < rs.length → W2.cell? ⟨rb, rofs + k, none⟩ = some (.int .i64 (gn rs k : Int)) := fun k hk => (hB4.cell (p := ⟨rb, rofs + k, none⟩) hrb1).trans ((HhB.out.cell (p := ⟨rb, rofs + k, none⟩) hrb).trans (hrc k hk))
  have hb02 : w.heap.size < W2.heap.size := Nat.lt_of_lt_of_le hb0 hB4.size
  have hrb2 : rb < W2.heap.size := Nat.lt_of_lt_of_le hrb1 hB4.size
  have hBw := below_more' HhB.out hB4
  clear hc0 hc1 hb0 hr k0 k1 hB3 hB4 hrc HhB k2
  generalize w3.heap.size = o at *
  have HhBw := Lib.hid hBw
  clear hBw
  have Hhrc' := Lib.hid hrc'
  clear hrc'
  have Hkr := Lib.hid kr
  clear kr
  have hx0 : ¬(fun b => b = gb) w.heap.size := fun e => by have e2 : w.heap.size = gb := e; omega
  have hx1 : ¬(fun b => b = gb) o := fun e => hne (Eq.symm e)
  have hx2 : ¬(fun b => b = gb) rb := fun e => by have e2 : rb = gb := e; omega
  have hS' : ∀ k, k < rs.length → ∀ w', Only (fun b => b = gb) W2.heap.size W2 w' → Only (fun b => b = gb) W2.heap.size W2 w' ∧ w'.cell? ⟨w.heap.size, 0, none⟩ = some (.int .i64 rs.length) ∧ w'.cell? ⟨w.heap.size, 1, none⟩ = some (.slice (some ⟨rb, rofs, none⟩) rs.length rc) ∧ w'.cell? ⟨o, 1, none⟩ = some (.slice (some ⟨gb, 0, none⟩) rs.length cap) ∧ w'.cell? ⟨rb, rofs + k, none⟩ = some (.int .i64 (gn rs k : Int)) := fun k hk w' h =>
    ⟨h, (h.cell hb02 hx0).trans hc0', (h.cell hb02 hx0).trans hc1', (h.cell ho hx1).trans ho1, (h.cell (p := ⟨rb, rofs + k, none⟩) hrb2 hx2).trans (Hhrc'.out k hk)⟩
  go_wp2_with fail
  go_loopw [15] (fun i wr => ∃ m : LateX (fun b => b = gb) W2, wr = m.w ∧ ∃ (k : Nat) (ys : List Int), k ≤ rs.length ∧ i = .int .i64 k ∧ RowAt m.w gb cap ys ∧ ys.length = rs.length ∧ ∀ j, j < k → gi ys j = (complRow rs j : Int)) (fun i _ => rs.length - (intOf i).toNat)
  case atStart => exact ⟨LateX.refl _ _, rfl, 0, rs, by omega, rfl, hR2, rfl, fun j h => by omega⟩
  case round =>
    obtain ⟨m, rfl, k, ys, hk, rfl, hRy, hyl, hP⟩ := hrel
    have HhP := Lib.hid hP
    clear hP
    have Hhyl := Lib.hid hyl
    clear hyl
    by_cases hlt : k < rs.length
    · have hl := g.lt k hlt
      have hp2 : 2 ^ rs.length ≤ 128 := g.pow.1
      have q4 : bits .andNot .i64 (bits .andNot .i64 ((2 ^ rs.length - 1 : Nat) : Int) (gn rs k : Int)) ((2 : Int) ^ k) = (complRow rs k : Int) := by
        rw [show ((2 : Int) ^ k) = ((2 ^ k : Nat) : Int) by simp, bits_andNot_nat _ _ (by omega), bits_andNot_nat _ _ (by
          have := nDiff_lt (a := 2 ^ rs.length - 1) (b := gn rs k) (n := rs.length) (by have := Nat.two_pow_pos rs.length; omega)
          omega)]
        rfl
      have q5 : bits .andNot .i64 (bits .andNot .i64 ((2 ^ rs.length - 1 : Nat) : Int) (gn rs k : Int)) (pwN k) = (complRow rs k : Int) := by
        rw [pwN_small k (by omega), ← q4]; simp
      have hAll := fun w => implAll_any rs.length (.slice (some ⟨rb, rofs, none⟩) rs.length rc) hg2 w
      have z1 := hRy.cell k (by have := Hhyl.out; omega)
      have z2 := hRy.frozen k
      have zl := hRy.lt
      have hSk := hS' k hlt
      have HhRy := Lib.hid hRy
      clear hRy
      generalize hD : complRow rs k = D at *
      have HhD := Lib.hid hD
      clear hD
      generalize 2 ^ rs.length - 1 = T at *
      go_wp2_with fail
      go_region_held3 (fun w' => Only (fun b => b = gb) W2.heap.size W2 w' ∧ w'.cell? ⟨w.heap.size, 0, none⟩ = some (.int .i64 rs.length) ∧ w'.cell? ⟨w.heap.size, 1, none⟩ = some (.slice (some ⟨rb, rofs, none⟩) rs.length rc) ∧ w'.cell? ⟨o, 1, none⟩ = some (.slice (some ⟨gb, 0, none⟩) rs.length cap) ∧ w'.cell? ⟨rb, rofs + k, none⟩ = some (.int .i64 (gn rs k : Int)))
        (exact hSk _ (by first | exact m.only.more (Below.refl m.w.heap.size m.w).drew m.size | assumption | exact (And.left (by assumption : Only (fun b => b = gb) W2.heap.size W2 _ ∧ _)).setCell (p := ⟨gb, k, none⟩) (.inl rfl) _))
        (first
          | (go_at_call 46; go_must (refine (hAll _).mono ?_); rintro e w5 ⟨rfl, hB5⟩; have hB6 : Below m.w.heap.size m.w w5 := (Below.refl m.w.heap.size m.w).drew.trans hB5; have hO6 : Only (fun b => b = gb) W2.heap.size W2 w5 := m.only.more hB6 m.size; have y1 := (hB6.cell (p := ⟨gb, k, none⟩) zl).trans z1; have y2 := (hB6.frozen (p := ⟨gb, k, none⟩) zl).trans z2; dsimp only))
      have hRF := (HhRy.out.below hB6).store k (D : Int)
      have hOF := hO6.setCell (p := ⟨gb, k, none⟩) (.inl rfl) (.int .i64 (D : Int))
      have HhRF := Lib.hid hRF
      clear hRF
      have HhOF := Lib.hid hOF
      clear hOF
      go_wp2_with fail
      go_roundw
      case rel =>
        refine ⟨⟨_, HhOF.out⟩, rfl, k + 1, ys.set k (D : Int), by omega, by go_num, HhRF.out, by rw [List.length_set]; exact Hhyl.out, fun j hj => ?_⟩
        by_cases e : j = k
        · subst e; rw [HhD.out]; simp [gi, Hhyl.out, hlt]
        · have e' : k ≠ j := fun h => e h.symm
          rw [← HhP.out j (by omega)]; simp [gi, e']
      case measure => simp [intOf]; omega
    · obtain rfl : k = rs.length := by omega
      have e : ys = compl rs := by
        refine gi_ext (by rw [compl_len]; exact Hhyl.out) fun j hj => ?_
        have hj' : j < rs.length := by rw [← Hhyl.out]; exact hj
        rw [HhP.out j hj', compl_at hj']
      rw [e] at hRy
      have km := m.blk Hkr.out (fun h => by have h2 : w.heap.size + 1 = gb := h; omega)
      have y0 := km.cell 0
      have y1 := km.cell 1
      have y2 := km.frozen 0
      have y3 := km.frozen 1
      simp at y0 y1
      have hF : Below w.heap.size w ((m.w.setCell ⟨w.heap.size + 1, 0, none⟩ (.int .i64 rs.length)).setCell ⟨w.heap.size + 1, 1, none⟩ (.slice (some ⟨gb, 0, none⟩) rs.length cap)) :=
        ((HhBw.out.trans (m.only.below (Nat.le_of_lt hb02) fun b hb h => by have h2 : b = gb := h; omega)).setCell (by simp) _).setCell (by simp) _
      have hI : IntsAt ((m.w.setCell ⟨w.heap.size + 1, 0, none⟩ (.int .i64 rs.length)).setCell ⟨w.heap.size + 1, 1, none⟩ (.slice (some ⟨gb, 0, none⟩) rs.length cap)) (some ⟨gb, 0, none⟩) (compl rs) :=
        (RowAt.own (base := 0) ((hRy.otherCell (by simp; omega)).otherCell (by simp; omega)) (Nat.zero_le _)).ints
      clear km hRy hS'
      have HhF := Lib.hid hF
      clear hF
      have HhI := Lib.hid hI
      clear hI
      go_wp2_with fail
      refine bodyPost_ret (v := .tuple #[.agg #[.int .i64 rs.length, .slice (some ⟨gb, 0, none⟩) rs.length cap], .bool true]) (by simp [results, Tryz.results76, go_sem, y0, y1]) rfl ?_
      exact ⟨gb, cap, rfl, HhF.out, HhI.out⟩

end Go.Proofs.YtjikmjhpmkakoaaGreatDoor

namespace Go.Proofs.YtjikmjhpmkakoaaGreatDoor
open Go.RowKit

theorem retIB {a a' : Int} {b b' : Bool} (h1 : a = a') (h2 : b = b') : Ending.returned (.tuple #[.int .i64 a, .bool b]) = .returned (.tuple #[.int .i64 a', .bool b']) := by rw [h1, h2]

/-- The place of v in xs. -/
def idxN (xs : List Int) (v : Int) : Option Nat := firstB (fun j => v == gi xs j) xs.length
def idxV (o : Option Nat) : Int := match o with | none => -1 | some k => k
def inB (xs : List Int) (v : Int) : Bool := (idxN xs v).isSome
theorem idxV_hit {xs : List Int} {v : Int} {k : Nat} (hk : k < xs.length) (h : ∀ j, j < k → (v == gi xs j) = false) (hv : (v == gi xs k) = true) : (k : Int) = idxV (idxN xs v) := by
  unfold idxN; rw [firstB_hit hk h hv]; rfl
theorem idxV_none {xs : List Int} {v : Int} (h : ∀ j, j < xs.length → (v == gi xs j) = false) : -1 = idxV (idxN xs v) := by
  unfold idxN; rw [firstB_none h]; rfl
theorem idxV_nonneg (o : Option Nat) : decide (0 ≤ idxV o) = o.isSome := by cases o <;> simp [idxV]
theorem inB_true {xs : List Int} {v : Int} : inB xs v = true ↔ ∃ j, j < xs.length ∧ gi xs j = v := by
  unfold inB idxN firstB
  rw [List.find?_isSome]
  simp only [List.mem_range, beq_iff_eq]
  exact ⟨fun ⟨j, h1, h2⟩ => ⟨j, h1, h2.symm⟩, fun ⟨j, h1, h2⟩ => ⟨j, h1, h2.symm⟩⟩

set_option maxHeartbeats 400000 in
theorem index_any (xs : List Int) (v : Int) (ao : Option Addr) (n c : Nat) (w : World) (hx : IntsAt w ao xs) (hn : xs.length = n) (hl : n ≤ 1048576) :
    Calls Tryz.prog 170 #[.slice ao n c, .int .i64 v] w fun e w' => e = .returned (.int .i64 (idxV (idxN xs v))) ∧ Below w.heap.size w w' := by
  subst hn
  go_enter Tryz.func170, Tryz.ntmps170
  go_wp2_with fail
  go_loopw [8] (fun i wr => (∃ m : Later w, wr = m.w) ∧ ∃ k : Nat, k ≤ xs.length ∧ i = .int .i64 k ∧ ∀ j, j < k → (v == gi xs j) = false) (fun i _ => xs.length - (intOf i).toNat)
  case atStart => exact ⟨⟨Later.refl _, rfl⟩, 0, by omega, rfl, fun j h => by omega⟩
  case round =>
    obtain ⟨⟨m, rfl⟩, k, hk, rfl, hP⟩ := hrel
    have HhP := Lib.hid hP
    clear hP
    by_cases hlt : k < xs.length
    · obtain ⟨b, off, rfl, hbl, hc⟩ := hx (by omega)
      cases he : (v == gi xs k)
      all_goals
        go_wp2_with fail
      · go_roundw
        case rel => exact ⟨⟨m, rfl⟩, k + 1, by omega, by go_num, all_succ HhP.out he⟩
        case measure => simp [intOf]; omega
      · go_ret
        exact ⟨retI (idxV_hit hlt HhP.out he), m.below⟩
    · go_wp2_with fail
      go_ret
      exact ⟨retI (idxV_none (fun j h => HhP.out j (by omega))), m.below⟩

set_option maxHeartbeats 400000 in
theorem contains_list (xs : List Int) (v : Int) (ao : Option Addr) (n c : Nat) (w : World) (hx : IntsAt w ao xs) (hn : xs.length = n) (hl : n ≤ 1048576) :
    Calls Tryz.prog 155 #[.slice ao n c, .int .i64 v] w fun e w' => e = .returned (.bool (inB xs v)) ∧ Below w.heap.size w w' := by
  go_enter Tryz.func155, Tryz.ntmps155
  go_wp2_with fail
  refine (index_any _ _ _ _ _ _ hx hn hl).mono ?_
  rintro e w' ⟨rfl, hB⟩
  go_wp2_with fail
  go_ret
  exact ⟨retB (idxV_nonneg _), hB⟩

/-- The first i elements lie where the list lies. -/
theorem IntsAt.take {w : World} {ao : Option Addr} {xs : List Int} (h : IntsAt w ao xs) (i : Nat) : IntsAt w ao (xs.take i) := fun h0 => by
  have hl : (xs.take i).length = min i xs.length := List.length_take
  obtain ⟨b, off, h1, h2, h3⟩ := h (by omega)
  refine ⟨b, off, h1, h2, fun k hk => ?_⟩
  have hk1 : k < i := by omega
  have e : gi (xs.take i) k = gi xs k := by simp [gi, hk1]
  rw [e]; exact h3 k (by omega)
theorem gi_take {xs : List Int} {i k : Nat} (hk : k < i) : gi (xs.take i) k = gi xs k := by simp [gi, hk]

end Go.Proofs.YtjikmjhpmkakoaaGreatDoor

namespace Go.Proofs.YtjikmjhpmkakoaaGreatDoor
open Go.RowKit

/-! ### Lists of different vertices -/
/-- The set of the first k numbers, as the reference adds it up. -/
def setTo (l : List Int) : Nat → Nat
  | 0 => 0
  | k + 1 => setTo l k + 2 ^ (gi l k).toNat
/-- Number k is from 0 to 6 and not among those before it. -/
def diffAt (l : List Int) (k : Nat) : Bool := (decide (0 ≤ gi l k) && decide (gi l k ≤ 6)) && !(setTo l k).testBit (gi l k).toNat
def setOk (l : List Int) : Bool := decide (∀ k, k < l.length → diffAt l k = true)
def setV (l : List Int) : Int := if setOk l = true then setTo l l.length else 0
theorem setTo_bits {l : List Int} : ∀ {k : Nat}, (∀ j, j < k → diffAt l j = true) → (setTo l k < 128 ∧ ∀ v, (setTo l k).testBit v = true ↔ ∃ j, j < k ∧ (gi l j).toNat = v)
  | 0, _ => ⟨by simp [setTo], fun v => by simp [setTo]⟩
  | k + 1, h => by
    obtain ⟨h1, h2⟩ := setTo_bits (k := k) (fun j hj => h j (by omega))
    have hk := h k (by omega)
    unfold diffAt at hk
    simp only [Bool.and_eq_true, decide_eq_true_eq, Bool.not_eq_true'] at hk
    obtain ⟨⟨h3, h4⟩, h5⟩ := hk
    generalize hv : (gi l k).toNat = v at *
    have hv7 : v ≤ 6 := by omega
    have hp : 2 ^ v ≤ 2 ^ 6 := Nat.pow_le_pow_right (by decide) hv7
    have he : setTo l k + 2 ^ v = setTo l k ||| 2 ^ v := by
      have hd : setTo l k &&& 2 ^ v = 0 := by
        apply Nat.eq_of_testBit_eq; intro i
        rw [Nat.testBit_and, Nat.testBit_two_pow, Nat.zero_testBit]
        by_cases e : v = i
        · subst e; rw [h5]; rfl
        · simp [e]
      have := BitVec.add_eq_or_of_and_eq_zero (BitVec.ofNat 64 (setTo l k)) (BitVec.ofNat 64 (2 ^ v)) (by rw [← BitVec.ofNat_and, hd])
      have h2' := congrArg BitVec.toNat this
      simp only [BitVec.toNat_add, BitVec.toNat_or, BitVec.toNat_ofNat] at h2'
      rw [Nat.mod_eq_of_lt (a := setTo l k) (by omega), Nat.mod_eq_of_lt (a := 2 ^ v) (by omega), Nat.mod_eq_of_lt (by omega)] at h2'
      exact h2'
    have hs : setTo l (k + 1) = setTo l k ||| 2 ^ v := by show setTo l k + 2 ^ (gi l k).toNat = _; rw [hv, he]
    refine ⟨by rw [hs]; exact Nat.or_lt_two_pow (n := 7) h1 (by omega), fun u => ?_⟩
    rw [hs, Nat.testBit_or, Bool.or_eq_true, h2, Nat.testBit_two_pow, decide_eq_true_eq]
    constructor
    · rintro (⟨j, hj, e⟩ | e)
      · exact ⟨j, by omega, e⟩
      · exact ⟨k, by omega, by omega⟩
    · rintro ⟨j, hj, e⟩
      rcases Nat.lt_succ_iff_lt_or_eq.1 hj with hj | rfl
      · exact .inl ⟨j, hj, e⟩
      · exact .inr (by omega)
theorem setOk_bad {l : List Int} {k : Nat} (hk : k < l.length) (h : diffAt l k = false) : setOk l = false := by
  unfold setOk; rw [decide_eq_false_iff_not]; intro a; rw [a k hk] at h; cases h
theorem setV_bad {l : List Int} (h : setOk l = false) : setV l = 0 := by unfold setV; rw [h]; rfl
theorem setOk_all {l : List Int} (h : ∀ k, k < l.length → diffAt l k = true) : setOk l = true := by unfold setOk; rw [decide_eq_true_eq]; exact h
theorem setV_all {l : List Int} (h : setOk l = true) : setV l = setTo l l.length := by unfold setV; rw [if_pos h]

set_option maxHeartbeats 1000000 in
theorem specSetOf_any (l : List Int) (ao : Option Addr) (c : Nat) (w : World) (hl : IntsAt w ao l) (hll : l.length ≤ 1048576) :
    Calls Tryz.prog 112 #[.slice ao l.length c] w fun e w' => e = .returned (.tuple #[.int .i64 (setV l), .bool (setOk l)]) ∧ Below w.heap.size w w' := by
  go_enter Tryz.func112, Tryz.ntmps112
  go_wp2_with fail
  go_loopw [4, 5] (fun o i wr => (∃ m : Later w, wr = m.w) ∧ ∃ k : Nat, k ≤ l.length ∧ o = .int .i64 (setTo l k) ∧ i = .int .i64 k ∧ ∀ j, j < k → diffAt l j = true) (fun _ i _ => l.length - (intOf i).toNat)
  case atStart => exact ⟨⟨Later.refl _, rfl⟩, 0, by omega, rfl, rfl, fun j h => by omega⟩
  case round =>
    obtain ⟨⟨m, rfl⟩, k, hk, rfl, rfl, hP⟩ := hrel
    have HhP := Lib.hid hP
    clear hP
    have hs7 := (setTo_bits HhP.out).1
    by_cases hlt : k < l.length
    · obtain ⟨b, off, rfl, hb, hc⟩ := hl (by omega)
      have HQ : Hid (diffAt l k = ((decide (0 ≤ gi l k) && decide (gi l k ≤ 6)) && !(setTo l k).testBit (gi l k).toNat)) := rfl
      cases h1 : (decide (0 ≤ gi l k) && decide (gi l k ≤ 6))
      · have HE := Lib.hid (setOk_bad hlt (by rw [HQ.out, h1]; rfl))
        go_wp2_with (first | (go_at_call 54; refine (l1In_any _ _ _ _).mono ?_; rintro e w' ⟨rfl, rfl⟩))
        go_ret2
        exact ⟨retIB (by rw [setV_bad HE.out]) (by rw [HE.out]), m.below⟩
      · have h1' := h1
        simp only [Bool.and_eq_true, decide_eq_true_eq] at h1'
        obtain ⟨h2, h3⟩ := h1'
        obtain ⟨v, hv⟩ := Int.eq_ofNat_of_zero_le h2
        have HV := Lib.hid hv
        have HS : Hid (setTo l (k + 1) = setTo l k + 2 ^ v) := by show setTo l k + 2 ^ (gi l k).toNat = _; rw [hv]; rfl
        have hp : pwN v = ((2 ^ v : Nat) : Int) := pwN_small _ (by omega)
        have hp2 : 2 ^ v ≤ 2 ^ 6 := Nat.pow_le_pow_right (by decide) (by omega)
        have hcv := hc k hlt
        rw [hv] at hcv
        rw [hv] at h1
        have hv6 : v ≤ 6 := by omega
        clear hv hc h2 h3
        have HH : Hid (hasN (setTo l k : Int) v = (setTo l k).testBit v) := hasN_nat _ _
        generalize hS : setTo l k = S at *
        generalize 2 ^ v = C at *
        have HhS := Lib.hid hS
        clear hS
        cases hh : hasN (S : Int) v
        all_goals
          go_wp2_with (first | (go_at_call 54; refine (l1In_any _ _ _ _).mono ?_; rintro e w' ⟨rfl, rfl⟩))
        · go_roundw
          case rel =>
            refine ⟨⟨m, rfl⟩, k + 1, by omega, by rw [HS.out]; go_num, by go_num, all_succ HhP.out ?_⟩
            rw [HQ.out, HV.out, Int.toNat_natCast, ← HH.out, hh, h1]; rfl
          case measure => simp [intOf]; omega
        · go_ret2
          have HE := setOk_bad hlt (by rw [HQ.out, HV.out, Int.toNat_natCast, ← HH.out, hh]; simp)
          exact ⟨retIB (by rw [setV_bad HE]) (by rw [HE]), m.below⟩
    · have HE := Lib.hid (setOk_all (l := l) (fun j h => HhP.out j (by omega)))
      go_wp2_with fail
      go_ret2
      obtain rfl : k = l.length := by omega
      exact ⟨retIB (by rw [setV_all HE.out]) (by rw [HE.out]), m.below⟩

/-- A list of different vertices of a graph. -/
def vertsB (n : Int) (rs l : List Int) : Bool := isGraphB n rs && (setOk l && isSetB n rs (setV l))

theorem l4Distinct_any (n : Int) (rs l : List Int) (ro lo : Option Addr) (rc lc : Nat) (w : World) (hr : IntsAt w ro rs) (hrl : rs.length ≤ 1048576) (hl : IntsAt w lo l) (hll : l.length ≤ 1048576) :
    Calls Tryz.prog 172 #[.agg #[.int .i64 n, .slice ro rs.length rc], .slice lo l.length lc] w fun e w' => e = .returned (.bool (vertsB n rs l)) ∧ Below w.heap.size w w' := by
  have HE : Hid (vertsB n rs l = (isGraphB n rs && (setOk l && isSetB n rs (setV l)))) := rfl
  go_enter Tryz.func172, Tryz.ntmps172
  go_wp2_with fail
  generalize hW : w.alloc _ = W1
  obtain ⟨hB, -, k0⟩ := alloc1 hW
  replace hr := hr.below hB
  replace hl := hl.below hB
  have hb0 := k0.lt
  have hc0 := k0.cell 0
  have hc1 := k0.cell 1
  simp at hc0 hc1
  clear hW k0
  have HhB := Lib.hid hB
  clear hB
  obtain ⟨m, hm0⟩ : ∃ m : Later W1, m.w = W1 := ⟨Later.refl _, rfl⟩
  refine (fun h => hm0 ▸ h) ?_
  clear hm0
  cases h1 : isGraphB n rs
  all_goals
    cases h2 : setOk l
    all_goals
      go_wp2_with (first | (go_at_call 112; refine (Calls.later m (specSetOf_any _ _ _ _ (hl.later m) hll)).mono ?_; rintro e w' ⟨rfl, m, rfl⟩) | (go_at_call 12; refine (Calls.later m (specIsGraph_any _ _ _ _ _ (hr.later m) hrl)).mono ?_; rintro e w' ⟨rfl, m, rfl⟩) | (go_at_call 103; refine (Calls.later m (specIsSet_any _ _ _ _ _ _ (hr.later m) hrl)).mono ?_; rintro e w' ⟨rfl, m, rfl⟩))
      go_ret
      exact ⟨retB (by rw [HE.out, h1, h2]; rfl), below_later HhB.out m⟩

theorem vertsB_inv {n : Int} {rs l : List Int} (h : isGraphB n rs = false) : vertsB n rs l = false := by unfold vertsB; rw [h]; rfl
/-- What it says: different vertices of a graph that is right. -/
theorem vertsB_true {n : Int} {rs l : List Int} : vertsB n rs l = true ↔ isGraphB n rs = true ∧ ∀ j, j < l.length → (0 ≤ gi l j ∧ gi l j < rs.length) ∧ ∀ i, i < j → gi l i ≠ gi l j := by
  unfold vertsB
  simp only [Bool.and_eq_true]
  constructor
  · rintro ⟨hg, hs, hi⟩
    have hs' : ∀ k, k < l.length → diffAt l k = true := by unfold setOk at hs; simpa using hs
    obtain ⟨rfl, g, S, h1, h2⟩ := isSetB_true hi
    rw [setV_all hs] at h1
    have h1' : setTo l l.length = S := by omega
    have hb := (setTo_bits hs').2
    refine ⟨hg, fun j hj => ?_⟩
    have hd := hs' j hj
    unfold diffAt at hd
    simp only [Bool.and_eq_true, decide_eq_true_eq, Bool.not_eq_true'] at hd
    obtain ⟨⟨h3, h4⟩, h5⟩ := hd
    refine ⟨⟨h3, ?_⟩, fun i hi he => ?_⟩
    · have := testBit_lt (N := rs.length) (v := (gi l j).toNat) h2 (by rw [← h1']; exact (hb _).2 ⟨j, hj, rfl⟩)
      omega
    · have hbj := (setTo_bits (k := j) (fun i hi => hs' i (by omega))).2
      rw [(hbj (gi l j).toNat).2 ⟨i, hi, by rw [he]⟩] at h5
      cases h5
  · rintro ⟨hg, ha⟩
    obtain ⟨hn, g⟩ := VG.of hg
    have h7 := g.le
    have hd : ∀ k, k < l.length → diffAt l k = true := by
      intro k
      induction k using Nat.strongRecOn with
      | ind k ih =>
        intro hk
        have hb := (setTo_bits (l := l) (k := k) (fun j hj => ih j hj (by omega))).2
        obtain ⟨⟨h3, h4⟩, h5⟩ := ha k hk
        unfold diffAt
        rw [decide_eq_true h3, decide_eq_true (by omega), Bool.true_and, Bool.true_and, Bool.not_eq_true']
        cases hc : (setTo l k).testBit (gi l k).toNat with
        | false => rfl
        | true =>
          obtain ⟨j, hj, he⟩ := (hb _).1 hc
          have := (ha j (by omega)).1
          exact absurd (by omega) (h5 j hj)
    have hs := setOk_all hd
    refine ⟨hg, hs, ?_⟩
    rw [hn, setV_all hs]
    refine isSetB_mk (by rw [← hn]; exact hg) ?_
    apply Nat.lt_pow_two_of_testBit
    intro i hi
    cases hc : (setTo l l.length).testBit i with
    | false => rfl
    | true =>
      obtain ⟨j, hj, he⟩ := ((setTo_bits hd).2 i).1 hc
      have := (ha j hj).1
      omega

set_option maxHeartbeats 1000000 in
theorem areVertices_any (n : Int) (rs l : List Int) (ro lo : Option Addr) (rc lc : Nat) (w : World) (hr : IntsAt w ro rs) (hrl : rs.length ≤ 1048576) (hl : IntsAt w lo l) (hll : l.length ≤ 1048576) (hcap : l.length ≤ lc) :
    Calls Tryz.prog 171 #[.agg #[.int .i64 n, .slice ro rs.length rc], .slice lo l.length lc] w fun e w' => e = .returned (.bool (vertsB n rs l)) ∧ Below w.heap.size w w' := by
  go_enter Tryz.func171, Tryz.ntmps171
  go_wp2_with fail
  generalize hW : w.alloc _ = W1
  obtain ⟨hB, -, k0⟩ := alloc1 hW
  replace hr := hr.below hB
  replace hl := hl.below hB
  have hb0 := k0.lt
  have hc0 := k0.cell 0
  have hc1 := k0.cell 1
  simp at hc0 hc1
  clear hW k0
  have HhB := Lib.hid hB
  clear hB
  cases hv : isGraphB n rs
  · have HE := Lib.hid (vertsB_inv (l := l) hv)
    go_loopw [9] (fun i wr => (∃ m : Later W1, wr = m.w) ∧ ∃ k : Nat, k ≤ l.length ∧ i = .int .i64 k) (fun i _ => l.length - (intOf i).toNat)
    case atStart => exact ⟨⟨Later.refl _, rfl⟩, 0, by omega, rfl⟩
    case round =>
      obtain ⟨⟨m, rfl⟩, k, hk, rfl⟩ := hrel
      by_cases hlt : k < l.length
      · obtain ⟨lb, lofs, rfl, hlb, hlc⟩ := hl (by omega)
        have hlen : (l.take k).length = k := by rw [List.length_take]; omega
        have Hhlen := Lib.hid hlen
        clear hlen
        cases h1 : (decide (0 ≤ gi l k) && decide (gi l k ≤ wrap64 (n - 1)))
        · go_wp2_with (first | (go_at_call 59; refine (within_any _ _ _ _).mono ?_; rintro e w' ⟨rfl, rfl⟩))
          go_ret
          exact ⟨retB (by rw [HE.out]), below_later HhB.out m⟩
        · cases h2 : inB (l.take k) (gi l k)
          all_goals
            go_wp2_with (first | (go_at_call 59; refine (within_any _ _ _ _).mono ?_; rintro e w' ⟨rfl, rfl⟩) | (go_at_call 155; refine (Calls.later m (contains_list (l.take k) _ _ _ _ _ ((hl.later m).take k) Hhlen.out (by omega))).mono ?_; rintro e w' ⟨rfl, m, rfl⟩))
          · go_roundw
            case rel => exact ⟨⟨m, rfl⟩, k + 1, by omega, by go_num⟩
            case measure => simp [intOf]; omega
          · go_ret
            exact ⟨retB (by rw [HE.out]), below_later HhB.out m⟩
      · go_wp2_with (first | (go_at_call 45; refine (Calls.later m (implIsGraph_any _ _ _ _ _ (hr.later m) hrl)).mono ?_; rintro e w' ⟨rfl, m, rfl⟩))
        go_ret
        exact ⟨retB (by rw [HE.out]), below_later HhB.out m⟩
  · obtain ⟨rfl, g⟩ := VG.of hv
    have hg1 := g.pos
    have hg2 := g.le
    go_loopw [9] (fun i wr => (∃ m : Later W1, wr = m.w) ∧ ∃ k : Nat, k ≤ l.length ∧ i = .int .i64 k ∧ ∀ j, j < k → (0 ≤ gi l j ∧ gi l j < rs.length) ∧ ∀ i, i < j → gi l i ≠ gi l j) (fun i _ => l.length - (intOf i).toNat)
    case atStart => exact ⟨⟨Later.refl _, rfl⟩, 0, by omega, rfl, fun j h => by omega⟩
    case round =>
      obtain ⟨⟨m, rfl⟩, k, hk, rfl, hP⟩ := hrel
      have HhP := Lib.hid hP
      clear hP
      by_cases hlt : k < l.length
      · obtain ⟨lb, lofs, rfl, hlb, hlc⟩ := hl (by omega)
        have hlen : (l.take k).length = k := by rw [List.length_take]; omega
        have HI : Hid (inB (l.take k) (gi l k) = true ↔ ∃ i, i < k ∧ gi l i = gi l k) := by
          show _ ↔ _
          rw [inB_true, hlen]
          exact ⟨fun ⟨j, h1, h2⟩ => ⟨j, h1, by rw [← h2, gi_take h1]⟩, fun ⟨j, h1, h2⟩ => ⟨j, h1, by rw [gi_take h1, h2]⟩⟩
        have HN : Hid (∀ j, j < l.length → ¬ ((0 ≤ gi l j ∧ gi l j < rs.length) ∧ ∀ i, i < j → gi l i ≠ gi l j) → vertsB rs.length rs l = false) := fun j h1 h2 => by
          cases hc : vertsB rs.length rs l with
          | false => rfl
          | true => exact absurd ((vertsB_true.1 hc).2 j h1) h2
        have Hhlen := Lib.hid hlen
        clear hlen
        cases h1 : (decide (0 ≤ gi l k) && decide (gi l k ≤ (rs.length : Int) - 1))
        · go_wp2_with (first | (go_at_call 59; refine (within_any _ _ _ _).mono ?_; rintro e w' ⟨rfl, rfl⟩))
          go_ret
          refine ⟨retB ?_, below_later HhB.out m⟩
          rw [HN.out k hlt]
          rintro ⟨⟨a, b⟩, _⟩
          rw [decide_eq_true a, decide_eq_true (by omega)] at h1
          cases h1
        · cases h2 : inB (l.take k) (gi l k)
          all_goals
            go_wp2_with (first | (go_at_call 59; refine (within_any _ _ _ _).mono ?_; rintro e w' ⟨rfl, rfl⟩) | (go_at_call 155; refine (Calls.later m (contains_list (l.take k) _ _ _ _ _ ((hl.later m).take k) Hhlen.out (by omega))).mono ?_; rintro e w' ⟨rfl, m, rfl⟩))
          · go_roundw
            case rel =>
              refine ⟨⟨m, rfl⟩, k + 1, by omega, by go_num, all_succ HhP.out ⟨?_, fun i hi he => ?_⟩⟩
              · simp only [Bool.and_eq_true, decide_eq_true_eq] at h1; omega
              · rw [HI.out.2 ⟨i, hi, he⟩] at h2; cases h2
            case measure => simp [intOf]; omega
          · go_ret
            refine ⟨retB ?_, below_later HhB.out m⟩
            rw [HN.out k hlt]
            rintro ⟨_, b⟩
            obtain ⟨i, hi, he⟩ := HI.out.1 h2
            exact b i hi he
      · have HE := Lib.hid (vertsB_true.2 ⟨hv, fun j h => HhP.out j (by omega)⟩)
        go_wp2_with (first | (go_at_call 45; refine (Calls.later m (implIsGraph_any _ _ _ _ _ (hr.later m) hrl)).mono ?_; rintro e w' ⟨rfl, m, rfl⟩))
        go_ret
        exact ⟨retB (by rw [HE.out]), below_later HhB.out m⟩

/-- Whether v and w are neighbours. -/
theorem l2Edge_any (rs : List Int) (v w0 : Nat) (ro : Option Addr) (rc : Nat) (w : World) (hr : IntsAt w ro rs) (g : VG rs) (hv : v < rs.length) (hw : w0 < rs.length) :
    Calls Tryz.prog 101 #[.agg #[.int .i64 rs.length, .slice ro rs.length rc], .int .i64 v, .int .i64 w0] w fun e w' => e = .returned (.bool ((gn rs v).testBit w0)) ∧ Below w.heap.size w w' := by
  have hg2 := g.le
  have HH : Hid (hasN (gn rs v : Int) w0 = (gn rs v).testBit w0) := hasN_nat _ _
  obtain ⟨rb, rofs, rfl, hrb0, hrc0⟩ := hr.graph g
  go_enter Tryz.func101, Tryz.ntmps101
  go_wp2_with fail
  generalize hW : w.alloc _ = W1
  obtain ⟨hB, -, k0⟩ := alloc1 hW
  have hb0 := k0.lt
  have hc1 := k0.cell 1
  simp at hc1
  have hrc : ∀ k, k < rs.length → W1.cell? ⟨rb, rofs + k, none⟩ = some (.int .i64 (gn rs k : Int)) := fun k hk => (hB.cell (p := ⟨rb, rofs + k, none⟩) hrb0).trans (hrc0 k hk)
  clear hW k0 hrc0
  have HhB := Lib.hid hB
  clear hB
  go_wp2
  go_ret
  exact ⟨retB HH.out, HhB.out⟩

end Go.Proofs.YtjikmjhpmkakoaaGreatDoor
