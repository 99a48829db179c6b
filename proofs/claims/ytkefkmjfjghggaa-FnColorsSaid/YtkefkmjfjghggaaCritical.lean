/-
  IsCritical on both sides. For at most 2^20 rows.
-/
import Derived.Test.YtkefkmjfjghggaaIndI
import Derived.Test.YtkefkmjfjghggaaColorS
import Derived.Test.YtkefkmjfjghggaaVertex
import Derived.Test.YtkefkmjfjghggaaAdd
namespace Go.Proofs.Ytkefkmjfjghggaa
open Go.RowKit

theorem blk_after {w w' : World} {b B : Nat} {cs : Array Value} {T : TypeId} (hb : Below B w w') (h : Blk w b cs T) (hB : b < B) : Blk w' b cs T := h.below hb hB
/-- The graph is a smaller one's without v. -/
def without (rs : List Int) (v : Nat) : Nat := 2 ^ rs.length - 1 - 2 ^ v
def critN (rs : List Int) (v : Nat) : Bool := decide (chromV (cnt (without rs v)) (ind rs (without rs v)) < chromV rs.length rs)
def critB (n : Int) (rs : List Int) (v : Int) : Bool := isGraphB n rs && ((decide (0 ≤ v) && decide (v ≤ n - 1)) && (decide (1 < n) && critN rs v.toNat))
theorem critB_no {n : Int} {rs : List Int} {v : Int} (h : isGraphB n rs = false) : critB n rs v = false := by unfold critB; rw [h]; rfl
theorem critB_out {n : Int} {rs : List Int} {v : Int} (h : (decide (0 ≤ v) && decide (v ≤ n - 1)) = false) : critB n rs v = false := by unfold critB; rw [h]; simp
theorem critB_one {n : Int} {rs : List Int} {v : Int} (h : decide (1 < n) = false) : critB n rs v = false := by unfold critB; rw [h]; simp
theorem critB_of {n : Int} {rs : List Int} {v : Nat} (h : isGraphB n rs = true) (h1 : (decide (0 ≤ (v : Int)) && decide ((v : Int) ≤ n - 1)) = true) (h2 : decide (1 < n) = true) : critB n rs v = critN rs v := by
  unfold critB; rw [h, h1, h2]; rfl
theorem without_facts {rs : List Int} (g : VG rs) {v : Nat} (hv : v < rs.length) (h1 : 1 < rs.length) : without rs v < 2 ^ rs.length ∧ 0 < without rs v ∧ 2 ^ v ≤ 2 ^ rs.length - 1 ∧ nDiff (2 ^ rs.length - 1) (2 ^ v) = without rs v := by
  have h2 : 2 ^ v * 2 ≤ 2 ^ rs.length := by rw [← Nat.pow_succ]; exact Nat.pow_le_pow_right (by decide) (by omega)
  have h3 : 2 ^ 2 ≤ 2 ^ rs.length := Nat.pow_le_pow_right (by decide) (by omega)
  have hp := g.pow.1
  have h5 : (2 ^ rs.length - 1).testBit v = true := by simp [hv]
  have h6 := nDiff_add (a := 2 ^ rs.length - 1) (b := 2 ^ v) (by omega)
  have h7 : 2 ^ v &&& (2 ^ rs.length - 1) = 2 ^ v := by rw [Nat.and_two_pow_sub_one_eq_mod, Nat.mod_eq_of_lt (by have := Nat.two_pow_pos v; omega)]
  rw [h7] at h6
  have := Nat.two_pow_pos v
  unfold without
  omega

set_option maxRecDepth 100000 in
set_option maxHeartbeats 2000000 in
theorem specCrit_any (n : Int) (rs : List Int) (v : Int) (ro : Option Addr) (rc : Nat) (w : World) (hr : IntsAt w ro rs) (hrl : rs.length ≤ 1048576) :
    Calls Try.prog 30 #[.agg #[.int .i64 n, .slice ro rs.length rc], .int .i64 v] w fun e w' => e = .returned (.bool (critB n rs v)) ∧ Below w.heap.size w w' := by
  go_enter Try.func30, Try.ntmps30
  go_wp2_with fail
  generalize hW : w.alloc _ = W1
  obtain ⟨hB, -, k0⟩ := alloc1 hW
  replace hr := hr.below hB
  have hb0 := k0.lt
  have hc0 := k0.cell 0
  have hc1 := k0.cell 1
  simp at hc0 hc1
  clear hW k0
  have HhB := Lib.hid hB
  clear hB
  obtain ⟨m, hm0⟩ : ∃ m : Later W1, m.w = W1 := ⟨Later.refl _, rfl⟩
  refine (fun h => hm0 ▸ h) ?_
  clear hm0
  cases hv : isGraphB n rs
  · have HE := Lib.hid (critB_no (v := v) hv)
    go_wp2_with (first | (go_at_call 18; refine (Calls.later m (specIsGraph_any _ _ _ _ _ (hr.later m) hrl)).mono ?_; rintro e w' ⟨rfl, m, rfl⟩))
    go_ret
    exact ⟨retB (by rw [HE.out]), below_later HhB.out m⟩
  obtain ⟨rfl, g⟩ := VG.of hv
  have hg1 := g.pos
  have hg2 := g.le
  cases hw : (decide (0 ≤ v) && decide (v ≤ (rs.length : Int) - 1))
  · have HE := Lib.hid (critB_out (n := rs.length) (rs := rs) hw)
    go_wp2_with (first | (go_at_call 18; refine (Calls.later m (specIsGraph_any _ _ _ _ _ (hr.later m) hrl)).mono ?_; rintro e w' ⟨rfl, m, rfl⟩) | (go_at_call 80; refine (l1In_any _ _ _ _).mono ?_; rintro e w' ⟨rfl, rfl⟩))
    go_ret
    exact ⟨retB (by rw [HE.out]), below_later HhB.out m⟩
  have hw' := hw
  simp only [Bool.and_eq_true, decide_eq_true_eq] at hw'
  obtain ⟨v, rfl⟩ : ∃ v' : Nat, v = v' := ⟨v.toNat, by omega⟩
  have hvl : v < rs.length := by omega
  clear hw'
  by_cases h1 : 1 < rs.length
  · have d1 : ((rs.length : Int) == 1) = false := by rw [beq_eq_false_iff_ne]; omega
    have HE := Lib.hid (critB_of hv hw (decide_eq_true (by omega)))
    obtain ⟨q1, q2, q3, -⟩ := without_facts g hvl h1
    have hp1 := g.pow.1
    have hT : IntKind.i64.wrap (IntKind.i64.wrap (pwN rs.length - 1) - pwN v) = ((without rs v : Nat) : Int) := by
      have := Nat.two_pow_pos v
      rw [pwN_small _ (by omega), pwN_small _ (by omega), IntKind_i64_in (((2 ^ rs.length : Nat) : Int) - 1) (by omega) (by omega), IntKind_i64_in _ (by omega) (by omega)]
      unfold without
      omega
    have hI := fun (w : World) (h : IntsAt w ro rs) => specInd_any rs (without rs v) ro rc w h hv q1 q2
    have HQ : Hid (critN rs v = decide (chromV (cnt (without rs v)) (ind rs (without rs v)) < chromV rs.length rs)) := rfl
    have hil := ind_len rs (without rs v)
    generalize without rs v = T at *
    have hC := fun (ao : Option Addr) (cap : Nat) (w : World) (h : IntsAt w ao (ind rs T)) => specChrom_any (cnt T) (ind rs T) ao cap w h (by rw [hil]; have := cnt_le T; omega)
    rw [hil] at hC
    generalize ind rs T = is at *
    generalize hc2e : chromV rs.length rs = c2 at *
    generalize chromV (cnt T) is = c1 at *
    clear q1 q2 q3 hil
    go_wp2_with (first | (go_at_call 18; refine (Calls.later m (specIsGraph_any _ _ _ _ _ (hr.later m) hrl)).mono ?_; rintro e w' ⟨rfl, m, rfl⟩) | (go_at_call 80; refine (l1In_any _ _ _ _).mono ?_; rintro e w' ⟨rfl, rfl⟩))
    have HhC := Lib.hid hC
    clear hC
    have HI : Hid (∀ w, IntsAt w ro rs → Calls Try.prog 93 #[.agg #[.int .i64 rs.length, .slice ro rs.length rc], .int .i64 T] w fun e w' => ∃ ao cap, e = .returned (.tuple #[.agg #[.int .i64 (cnt T), .slice ao (cnt T) cap], .bool true]) ∧ Below w.heap.size w w' ∧ OwnE w' w.heap.size ao cap is) := fun w h => hI w h
    clear hI
    have x0 := (m.cell _ 0 hb0).trans hc0
    have x1 := (m.cell _ 1 hb0).trans hc1
    have xb := Nat.lt_of_lt_of_le hb0 m.size
    have hrm := hr.later m
    have hS' : ∀ w', Below W1.heap.size W1 w' → Below W1.heap.size W1 w' ∧ w'.cell? ⟨w.heap.size, 0, none⟩ = some (.int .i64 rs.length) ∧ w'.cell? ⟨w.heap.size, 1, none⟩ = some (.slice ro rs.length rc) := fun w' h => ⟨h, (h.cell hb0).trans hc0, (h.cell hb0).trans hc1⟩
    go_region_held3 (fun w' => Below W1.heap.size W1 w' ∧ w'.cell? ⟨w.heap.size, 0, none⟩ = some (.int .i64 rs.length) ∧ w'.cell? ⟨w.heap.size, 1, none⟩ = some (.slice ro rs.length rc))
      (exact hS' _ (by first | exact m.below.drew | assumption | exact Below.alloc (And.left (by assumption : Below W1.heap.size W1 _ ∧ _)) (And.left (by assumption : Below W1.heap.size W1 _ ∧ _)).size _ | exact Below.alloc (by assumption : Below W1.heap.size W1 _) (by assumption : Below W1.heap.size W1 _).size _ | exact Below.setCell (by assumption : Below W1.heap.size W1 _) m.size _ | exact Below.setCell (Below.setCell (by assumption : Below W1.heap.size W1 _) m.size _) m.size _))
      (first
        | (go_at_call 93; go_must (refine (HI.out _ (hr.below (And.left (by assumption : Below W1.heap.size W1 _ ∧ _)))).mono ?_); rintro e w3 ⟨ao, cap, rfl, hB3, hX⟩; have hB5 := below_more (And.left (by assumption : Below W1.heap.size W1 _ ∧ _)) hB3; try (have kb := blk_after hB3 (Blk.made m.w #[.int .i64 0, .slice none 0 0] 26 rfl) (by simp); have y0 := kb.cell 0; have y1 := kb.cell 1; have y2 := kb.frozen 0; have y3 := kb.frozen 1; simp at y0 y1); dsimp only))
    · have hXF := (hX.below ((Below.refl _ _).alloc (Nat.le_refl _) (.cells #[.int .i64 (cnt T), .slice ao (cnt T) cap] 26))).ints
      have kF := Blk.made w3 #[.int .i64 (cnt T), .slice ao (cnt T) cap] 26 rfl
      have hBF := hB5.alloc hB5.size (.cells #[.int .i64 (cnt T), .slice ao (cnt T) cap] 26)
      clear hX hB3 hB5
      generalize hW5 : World.alloc _ _ = WF at *
      generalize w3.heap.size = bF at *
      have x0 := kF.cell 0
      have x1 := kF.cell 1
      have xl := kF.lt
      simp at x0 x1
      have hrF := hr.below hBF
      have z0 := (hBF.cell (p := ⟨w.heap.size, 0, none⟩) hb0).trans hc0
      have z1 := (hBF.cell (p := ⟨w.heap.size, 1, none⟩) hb0).trans hc1
      have zb := Nat.lt_of_lt_of_le hb0 hBF.size
      have HhBF := Lib.hid (below_more' HhB.out hBF)
      have C1 := fun m : Later WF => HhC.out ao cap m.w (hXF.later m)
      have C2 := fun m : Later WF => specChrom_any rs.length rs ro rc m.w (hrF.later m) hrl
      rw [hc2e] at C2
      clear hBF kF hS' hrm
      obtain ⟨m, hm0⟩ : ∃ m : Later WF, m.w = WF := ⟨Later.refl _, rfl⟩
      refine (fun h => hm0 ▸ h) ?_
      clear hm0
      cases hd : decide (c1 < c2)
      all_goals
        go_wp2_with fail
        refine wp_region_later m rfl (by kernel_rfl) (by kernel_rfl) ?_
        repeat (go_big_quiet_step ((first | (go_at_call 9; with_reducible exact Calls.later _ (C1 _)) | (go_at_call 9; with_reducible exact Calls.later _ (C2 _)))))
        refine wpQuiet_nil ?_
        rintro _ ⟨m, rfl⟩
        go_wp2_with fail
        go_ret
        exact ⟨retB (by rw [HE.out, HQ.out, hd]), below_later HhBF.out m⟩
    · have hXF := ((hX.setB2 (a := ⟨m.w.heap.size, 0, none⟩) (by simp) (.int .i64 (cnt T))).setB2 (a := ⟨m.w.heap.size, 1, none⟩) (by simp) (.slice ao (cnt T) cap)).ints
      have kF := (kb.store 0 (.int .i64 (cnt T))).store 1 (.slice ao (cnt T) cap)
      simp at kF
      have hBF := (hB5.setCell (p := ⟨m.w.heap.size, 0, none⟩) m.size (.int .i64 (cnt T))).setCell (p := ⟨m.w.heap.size, 1, none⟩) m.size (.slice ao (cnt T) cap)
      clear hX hB3 hB5 kb y0 y1 y2 y3
      generalize hW5 : World.setCell _ _ (.slice ao (cnt T) cap) = WF at *
      generalize m.w.heap.size = bF at *
      have x0 := kF.cell 0
      have x1 := kF.cell 1
      have xl := kF.lt
      simp at x0 x1
      have hrF := hr.below hBF
      have z0 := (hBF.cell (p := ⟨w.heap.size, 0, none⟩) hb0).trans hc0
      have z1 := (hBF.cell (p := ⟨w.heap.size, 1, none⟩) hb0).trans hc1
      have zb := Nat.lt_of_lt_of_le hb0 hBF.size
      have HhBF := Lib.hid (below_more' HhB.out hBF)
      have C1 := fun m : Later WF => HhC.out ao cap m.w (hXF.later m)
      have C2 := fun m : Later WF => specChrom_any rs.length rs ro rc m.w (hrF.later m) hrl
      rw [hc2e] at C2
      clear hBF kF hS' hrm
      obtain ⟨m, hm0⟩ : ∃ m : Later WF, m.w = WF := ⟨Later.refl _, rfl⟩
      refine (fun h => hm0 ▸ h) ?_
      clear hm0
      cases hd : decide (c1 < c2)
      all_goals
        go_wp2_with fail
        refine wp_region_later m rfl (by kernel_rfl) (by kernel_rfl) ?_
        repeat (go_big_quiet_step ((first | (go_at_call 9; with_reducible exact Calls.later _ (C1 _)) | (go_at_call 9; with_reducible exact Calls.later _ (C2 _)))))
        refine wpQuiet_nil ?_
        rintro _ ⟨m, rfl⟩
        go_wp2_with fail
        go_ret
        exact ⟨retB (by rw [HE.out, HQ.out, hd]), below_later HhBF.out m⟩
  · have d1 : ((rs.length : Int) == 1) = true := by rw [beq_iff_eq]; omega
    have HE : Hid (critB rs.length rs v = false) := Lib.hid (critB_one (decide_eq_false (by omega)))
    go_wp2_with (first | (go_at_call 18; refine (Calls.later m (specIsGraph_any _ _ _ _ _ (hr.later m) hrl)).mono ?_; rintro e w' ⟨rfl, m, rfl⟩) | (go_at_call 80; refine (l1In_any _ _ _ _).mono ?_; rintro e w' ⟨rfl, rfl⟩))
    go_ret
    exact ⟨retB (by rw [HE.out]), below_later HhB.out m⟩

end Go.Proofs.Ytkefkmjfjghggaa
