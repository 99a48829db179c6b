/-
  FnExactCutArcs: for every input the law returns true, and its arguments read as they did. No conditions.
-/
import Derived.Test.YtfjljfjnooieoaaConvArcs
import Derived.Test.YtfjljfjnooieoaaArcsAt
import Derived.Test.YtfjljfjnooieoaaMarkX
import Derived.Test.YtfjljfjnooieoaaCutI
import Derived.Test.YtfjljfjnooieoaaOpen
import Derived.Deep.RegionHeld3
namespace Go.Proofs.Ytfjljfjnooieoaa.lawCutArcs
open Go.Proofs.Ytfjljfjnooieoaa Go.RowKit

set_option maxRecDepth 100000 in
set_option maxHeartbeats 4000000 in
theorem law_any (x : Int) (f l : List Int) (fc lc : Nat) (fo lo : Option Addr) (a1 : Int) (w : World) (hf : IntsAt w fo f) (hl : IntsAt w lo l) (hn : f.length ≤ 9223372036854775807) (hm : l.length ≤ 9223372036854775807) :
    Calls Try.prog 3 #[.agg #[.int .i64 x, .slice fo f.length fc, .slice lo l.length lc], .int .i64 a1] w fun e w' => e = .returned (.bool true) ∧ Below w.heap.size w w' := by
  by_cases hsz : 1048576 < f.length + l.length
  · have hs : szTwo f.length l.length = -1 := by unfold szTwo; rw [if_pos hsz]
    go_enter Try.func3, Try.ntmps3
    go_wp2_with fail
    generalize hW : w.alloc _ = W1
    obtain ⟨hB, -, k0⟩ := alloc1 hW
    replace hf := hf.below hB
    replace hl := hl.below hB
    have hb0 := k0.lt
    have hc0 := k0.cell 0
    have hc1 := k0.cell 1
    have hc2 := k0.cell 2
    simp at hc0 hc1 hc2
    clear hW k0
    have HhB := Lib.hid hB
    clear hB
    obtain ⟨m, hm0⟩ : ∃ m : Later W1, m.w = W1 := ⟨Later.refl _, rfl⟩
    refine (fun h => hm0 ▸ h) ?_
    clear hm0
    refine (Calls.later m (szArcs_any _ _ _ _ _ _ _ (by omega) (by omega) _)).mono ?_
    rintro e w' ⟨rfl, m, rfl⟩
    go_wp2_with fail
    go_ret
    exact ⟨rfl, below_later HhB.out m⟩
  have hs : (szTwo f.length l.length < 0) = False := by unfold szTwo; rw [if_neg hsz]; simp; omega
  replace hn : f.length ≤ 1048576 := by omega
  replace hm : l.length ≤ 1048576 := by omega
  clear hsz
  have hS := fun (ao bo : Option Addr) (c1 c2 : Nat) (w : World) (h1 : IntsAt w ao f) (h2 : IntsAt w bo l) => specCut_any x a1 f l ao bo c1 c2 w h1 h2 hn hm
  have hM := fun (ao bo : Option Addr) (c1 c2 : Nat) (w : World) (h1 : IntsAt w ao f) (h2 : IntsAt w bo l) => implCut_any x a1 f l ao bo c1 c2 w h1 h2 hn hm
  have hlen := cutV_len x f l a1
  generalize cutLV x f l a1 = R at hS hM hlen
  generalize cutRV x f l a1 = R2 at hS hM hlen
  generalize cutOk x f l a1 = ok at hS hM hlen
  have hok : (ok != ok) = false := by simp
  have HhS := Lib.hid hS
  clear hS
  have HhM := Lib.hid hM
  clear hM
  replace hf := hf.upto
  replace hl := hl.upto
  go_enter Try.func3, Try.ntmps3
  go_wp2_with fail
  generalize hW : w.alloc _ = W1
  obtain ⟨hB, -, k0⟩ := alloc1 hW
  replace hf := hf.below hB (Nat.le_refl _)
  replace hl := hl.below hB (Nat.le_refl _)
  have hb0 := k0.lt
  have hc0 := k0.cell 0
  have hc1 := k0.cell 1
  have hc2 := k0.cell 2
  simp at hc0 hc1 hc2
  clear hW k0
  have HhB := Lib.hid hB
  clear hB
  obtain ⟨m, hm0⟩ : ∃ m : Later W1, m.w = W1 := ⟨Later.refl _, rfl⟩
  refine (fun h => hm0 ▸ h) ?_
  clear hm0
  refine (Calls.later m (szArcs_any _ _ _ _ _ _ _ (by omega) (by omega) _)).mono ?_
  rintro e w' ⟨rfl, m, rfl⟩
  go_wp2_with fail
  refine (toArcs_any _ _ _ _ _ _ _ _ (hf.later m).ints (hl.later m).ints hn hm).mono ?_
  rintro e w2 ⟨b1, b2, rfl, hB2, hg1, hg2, hx12, hO1, hO2⟩
  obtain ⟨m, rfl⟩ : ∃ m2 : Later W1, m2.w = w2 := ⟨m.on hB2, rfl⟩
  clear hB2
  go_wp2_with fail
  refine (HhS.out _ _ _ _ m.w hO1.ints hO2.ints).mono ?_
  rintro e w2 ⟨va, vb, vc, vd, rfl, hB2, vE, vF, vD⟩
  replace hB2 := below_more m.below hB2
  replace vE := vE.ints
  replace vF := vF.ints
  clear hO1 hO2 hg1 hg2 hx12
  clear vD
  clear m
  have q1 := Nat.lt_of_lt_of_le hb0 hB2.size
  replace hf := hf.below hB2 (Nat.le_of_lt hb0)
  replace hl := hl.below hB2 (Nat.le_of_lt hb0)
  replace hc0 := (hB2.cell (p := ⟨w.heap.size, 0, none⟩) hb0).trans hc0
  replace hc1 := (hB2.cell (p := ⟨w.heap.size, 1, none⟩) hb0).trans hc1
  replace hc2 := (hB2.cell (p := ⟨w.heap.size, 2, none⟩) hb0).trans hc2
  replace hb0 := Nat.lt_of_lt_of_le hb0 hB2.size
  replace HhB := Lib.hid (below_more' HhB.out hB2)
  clear hB2
  go_wp2_with fail
  generalize hW : World.alloc _ _ = W2
  obtain ⟨hB2, -, k0⟩ := alloc1 hW
  replace hf := hf.below hB2 (Nat.le_of_lt hb0)
  replace hl := hl.below hB2 (Nat.le_of_lt hb0)
  replace hc0 := (hB2.cell (p := ⟨w.heap.size, 0, none⟩) hb0).trans hc0
  replace hc1 := (hB2.cell (p := ⟨w.heap.size, 1, none⟩) hb0).trans hc1
  replace hc2 := (hB2.cell (p := ⟨w.heap.size, 2, none⟩) hb0).trans hc2
  replace hb0 := Nat.lt_of_lt_of_le hb0 hB2.size
  replace HhB := Lib.hid (below_more' HhB.out hB2)
  replace vE := vE.upto.below hB2 (Nat.le_refl _)
  replace vF := vF.upto.below hB2 (Nat.le_refl _)
  have bw := k0.lt
  have hw0 := k0.cell 0
  have hw1 := k0.cell 1
  simp at hw0 hw1
  clear hW k0 hB2
  generalize w2.heap.size = BW at *
  obtain ⟨m, hm0⟩ : ∃ m : Later W2, m.w = W2 := ⟨Later.refl _, rfl⟩
  refine (fun h => hm0 ▸ h) ?_
  clear hm0
  refine (toArcs_any _ _ _ _ _ _ _ _ (hf.later m).ints (hl.later m).ints hn hm).mono ?_
  rintro e w2 ⟨b1, b2, rfl, hB2, hg1, hg2, hx12, hO1, hO2⟩
  have q2 := Nat.lt_of_lt_of_le bw m.size
  have qb0 : BW < b1 := Nat.lt_of_lt_of_le q2 hg1
  have qb1 : BW < b2 := Nat.lt_of_lt_of_le q2 hg2
  replace hB2 := below_more m.below hB2
  clear hg1 hg2
  clear q2
  clear m
  replace hf := hf.below hB2 (Nat.le_of_lt hb0)
  replace hl := hl.below hB2 (Nat.le_of_lt hb0)
  replace hc0 := (hB2.cell (p := ⟨w.heap.size, 0, none⟩) hb0).trans hc0
  replace hc1 := (hB2.cell (p := ⟨w.heap.size, 1, none⟩) hb0).trans hc1
  replace hc2 := (hB2.cell (p := ⟨w.heap.size, 2, none⟩) hb0).trans hc2
  replace vE := vE.below hB2 (Nat.le_of_lt bw)
  replace vF := vF.below hB2 (Nat.le_of_lt bw)
  replace hw0 := (hB2.cell (p := ⟨BW, 0, none⟩) bw).trans hw0
  replace hw1 := (hB2.cell (p := ⟨BW, 1, none⟩) bw).trans hw1
  replace hb0 := Nat.lt_of_lt_of_le hb0 hB2.size
  replace bw := Nat.lt_of_lt_of_le bw hB2.size
  replace HhB := Lib.hid (below_more' HhB.out hB2)
  have ql0 := hO1.lt
  have ql1 := hO2.lt
  clear hB2
  go_wp2_with fail
  generalize hW : World.alloc _ _ = W3
  obtain ⟨hB2, -, k0⟩ := alloc1 hW
  replace hf := hf.below hB2 (Nat.le_of_lt hb0)
  replace hl := hl.below hB2 (Nat.le_of_lt hb0)
  replace hc0 := (hB2.cell (p := ⟨w.heap.size, 0, none⟩) hb0).trans hc0
  replace hc1 := (hB2.cell (p := ⟨w.heap.size, 1, none⟩) hb0).trans hc1
  replace hc2 := (hB2.cell (p := ⟨w.heap.size, 2, none⟩) hb0).trans hc2
  replace vE := vE.below hB2 (Nat.le_of_lt bw)
  replace vF := vF.below hB2 (Nat.le_of_lt bw)
  replace hw0 := (hB2.cell (p := ⟨BW, 0, none⟩) bw).trans hw0
  replace hw1 := (hB2.cell (p := ⟨BW, 1, none⟩) bw).trans hw1
  replace hb0 := Nat.lt_of_lt_of_le hb0 hB2.size
  replace bw := Nat.lt_of_lt_of_le bw hB2.size
  replace HhB := Lib.hid (below_more' HhB.out hB2)
  replace hO1 := hO1.below hB2 hO1.lt
  replace hO2 := hO2.below hB2 hO2.lt
  have bx := k0.lt
  have hd0 := k0.cell 0
  have hd1 := k0.cell 1
  have hd2 := k0.cell 2
  simp at hd0 hd1 hd2
  clear hW k0 hB2
  generalize w2.heap.size = BX at *
  obtain ⟨m, hm0⟩ : ∃ m : Later W3, m.w = W3 := ⟨Later.refl _, rfl⟩
  refine (fun h => hm0 ▸ h) ?_
  clear hm0
  refine (HhM.out _ _ _ _ m.w (hO1.later m).ints (hO2.later m).ints).mono ?_
  rintro e w2 ⟨ga, gb, gc, gd, rfl, hB2, gE, gF, gD⟩
  replace gE := gE.mono' m.size
  replace gF := gF.mono' m.size
  replace hB2 := below_more m.below hB2
  clear m
  have hXr : ∀ b, XR ga R b ∨ XR gb R2 b → W3.heap.size ≤ b ∧ b < w2.heap.size := fun b e => e.elim gE.xr gF.xr
  have q3 := bx
  replace hf := hf.below hB2 (Nat.le_of_lt hb0)
  replace hl := hl.below hB2 (Nat.le_of_lt hb0)
  replace hc0 := (hB2.cell (p := ⟨w.heap.size, 0, none⟩) hb0).trans hc0
  replace hc1 := (hB2.cell (p := ⟨w.heap.size, 1, none⟩) hb0).trans hc1
  replace hc2 := (hB2.cell (p := ⟨w.heap.size, 2, none⟩) hb0).trans hc2
  replace vE := vE.below hB2 (Nat.le_of_lt bw)
  replace vF := vF.below hB2 (Nat.le_of_lt bw)
  replace hw0 := (hB2.cell (p := ⟨BW, 0, none⟩) bw).trans hw0
  replace hw1 := (hB2.cell (p := ⟨BW, 1, none⟩) bw).trans hw1
  replace hO1 := hO1.below hB2 hO1.lt
  replace hO2 := hO2.below hB2 hO2.lt
  replace hd0 := (hB2.cell (p := ⟨BX, 0, none⟩) bx).trans hd0
  replace hd1 := (hB2.cell (p := ⟨BX, 1, none⟩) bx).trans hd1
  replace hd2 := (hB2.cell (p := ⟨BX, 2, none⟩) bx).trans hd2
  replace hb0 := Nat.lt_of_lt_of_le hb0 hB2.size
  replace bw := Nat.lt_of_lt_of_le bw hB2.size
  replace bx := Nat.lt_of_lt_of_le bx hB2.size
  replace HhB := Lib.hid (below_more' HhB.out hB2)
  have q4 := bx
  clear hB2
  go_wp2_with fail
  generalize hW : World.alloc _ _ = W4
  obtain ⟨hB2, -, k0⟩ := alloc1 hW
  replace hf := hf.below hB2 (Nat.le_of_lt hb0)
  replace hl := hl.below hB2 (Nat.le_of_lt hb0)
  replace hc0 := (hB2.cell (p := ⟨w.heap.size, 0, none⟩) hb0).trans hc0
  replace hc1 := (hB2.cell (p := ⟨w.heap.size, 1, none⟩) hb0).trans hc1
  replace hc2 := (hB2.cell (p := ⟨w.heap.size, 2, none⟩) hb0).trans hc2
  replace vE := vE.below hB2 (Nat.le_of_lt bw)
  replace vF := vF.below hB2 (Nat.le_of_lt bw)
  replace hw0 := (hB2.cell (p := ⟨BW, 0, none⟩) bw).trans hw0
  replace hw1 := (hB2.cell (p := ⟨BW, 1, none⟩) bw).trans hw1
  replace hO1 := hO1.below hB2 hO1.lt
  replace hO2 := hO2.below hB2 hO2.lt
  replace hd0 := (hB2.cell (p := ⟨BX, 0, none⟩) bx).trans hd0
  replace hd1 := (hB2.cell (p := ⟨BX, 1, none⟩) bx).trans hd1
  replace hd2 := (hB2.cell (p := ⟨BX, 2, none⟩) bx).trans hd2
  replace hb0 := Nat.lt_of_lt_of_le hb0 hB2.size
  replace bw := Nat.lt_of_lt_of_le bw hB2.size
  replace bx := Nat.lt_of_lt_of_le bx hB2.size
  replace HhB := Lib.hid (below_more' HhB.out hB2)
  replace gE := gE.below hB2
  replace gF := gF.below hB2
  have bg := k0.lt
  have hg0 := k0.cell 0
  have hg1 := k0.cell 1
  simp at hg0 hg1
  clear hW k0 hB2
  generalize w2.heap.size = BG at *
  generalize W3.heap.size = BE at *
  have HhXr := Lib.hid hXr
  clear hXr
  obtain ⟨m, hm0⟩ : ∃ m : Later W4, m.w = W4 := ⟨Later.refl _, rfl⟩
  refine (fun h => hm0 ▸ h) ?_
  clear hm0
  go_wp2_with fail
  refine (Calls.later m (eqIvl_same _ _ _ _ _ _ _ _ _ _ _ (gE.later m).ints (gF.later m).ints (vE.later m).ints (vF.later m).ints (by omega) (by omega))).mono ?_
  rintro e w' ⟨rfl, m, rfl⟩
  go_wp2_with fail
  have hSS : ∀ w', Below W4.heap.size W4 w' → Below W4.heap.size W4 w' ∧ w'.cell? ⟨w.heap.size, 0, none⟩ = some (.int .i64 x) ∧ w'.cell? ⟨w.heap.size, 1, none⟩ = some (.slice fo f.length fc) ∧ w'.cell? ⟨w.heap.size, 2, none⟩ = some (.slice lo l.length lc) ∧ w'.cell? ⟨BX, 0, none⟩ = some (.int .i64 x) ∧ w'.cell? ⟨BX, 1, none⟩ = some (.slice (some ⟨b1, 0, none⟩) f.length f.length) ∧ w'.cell? ⟨BX, 2, none⟩ = some (.slice (some ⟨b2, 0, none⟩) l.length l.length) := fun w' h =>
    ⟨h, (h.cell hb0).trans hc0, (h.cell hb0).trans hc1, (h.cell hb0).trans hc2, (h.cell bx).trans hd0, (h.cell bx).trans hd1, (h.cell bx).trans hd2⟩
  go_region_held3 (fun w' => Below W4.heap.size W4 w' ∧ w'.cell? ⟨w.heap.size, 0, none⟩ = some (.int .i64 x) ∧ w'.cell? ⟨w.heap.size, 1, none⟩ = some (.slice fo f.length fc) ∧ w'.cell? ⟨w.heap.size, 2, none⟩ = some (.slice lo l.length lc) ∧ w'.cell? ⟨BX, 0, none⟩ = some (.int .i64 x) ∧ w'.cell? ⟨BX, 1, none⟩ = some (.slice (some ⟨b1, 0, none⟩) f.length f.length) ∧ w'.cell? ⟨BX, 2, none⟩ = some (.slice (some ⟨b2, 0, none⟩) l.length l.length))
    (exact hSS _ (by first | exact m.below.drew | assumption))
    (first
      | (go_at_call 7; go_must (refine (toArcs_any _ _ _ _ _ _ _ _ (hf.below (And.left (by assumption : Below W4.heap.size W4 _ ∧ _)) (Nat.le_of_lt hb0)).ints (hl.below (And.left (by assumption : Below W4.heap.size W4 _ ∧ _)) (Nat.le_of_lt hb0)).ints hn hm).mono ?_); rintro e w4 ⟨b3, b4, rfl, hB4, -, -, -, hO3, hO4⟩; have hB5 := below_more (And.left (by assumption : Below W4.heap.size W4 _ ∧ _)) hB4)
      | (go_at_call 10; go_must (refine (eqArcs_same _ _ _ _ _ _ _ _ _ _ _ _ (hO1.below hB5 hO1.lt).ints (hO2.below hB5 hO2.lt).ints hO3.ints hO4.ints hn hm).mono ?_); rintro e w5 ⟨rfl, hB6⟩; have hB7 := below_more hB5 hB6))
  replace hf := hf.below hB7 (Nat.le_of_lt hb0)
  replace hl := hl.below hB7 (Nat.le_of_lt hb0)
  replace hc0 := (hB7.cell (p := ⟨w.heap.size, 0, none⟩) hb0).trans hc0
  replace hc1 := (hB7.cell (p := ⟨w.heap.size, 1, none⟩) hb0).trans hc1
  replace hc2 := (hB7.cell (p := ⟨w.heap.size, 2, none⟩) hb0).trans hc2
  replace vE := vE.below hB7 (Nat.le_of_lt bw)
  replace vF := vF.below hB7 (Nat.le_of_lt bw)
  replace hw0 := (hB7.cell (p := ⟨BW, 0, none⟩) bw).trans hw0
  replace hw1 := (hB7.cell (p := ⟨BW, 1, none⟩) bw).trans hw1
  replace hO1 := hO1.below hB7 hO1.lt
  replace hO2 := hO2.below hB7 hO2.lt
  replace hd0 := (hB7.cell (p := ⟨BX, 0, none⟩) bx).trans hd0
  replace hd1 := (hB7.cell (p := ⟨BX, 1, none⟩) bx).trans hd1
  replace hd2 := (hB7.cell (p := ⟨BX, 2, none⟩) bx).trans hd2
  replace gE := gE.below hB7
  replace gF := gF.below hB7
  replace hg0 := (hB7.cell (p := ⟨BG, 0, none⟩) bg).trans hg0
  replace hg1 := (hB7.cell (p := ⟨BG, 1, none⟩) bg).trans hg1
  replace hb0 := Nat.lt_of_lt_of_le hb0 hB7.size
  replace bw := Nat.lt_of_lt_of_le bw hB7.size
  replace bx := Nat.lt_of_lt_of_le bx hB7.size
  replace bg := Nat.lt_of_lt_of_le bg hB7.size
  replace HhB := Lib.hid (below_more' HhB.out hB7)
  clear hSS hB7 hB6 hB5 hB4 hO3 hO4
  go_wp2_with fail
  refine (markArcs_any _ _ _ _ _ _ hO1 hO2 hx12 hn hm).mono ?_
  rintro e w6 ⟨rfl, hO6⟩
  clear hO1 hO2 hd0 hd1 hd2
  replace hf := hf.only hO6 (fun b hb e => by rcases e with e | e <;> (try dsimp only at e) <;> omega)
  replace hl := hl.only hO6 (fun b hb e => by rcases e with e | e <;> (try dsimp only at e) <;> omega)
  replace hc0 := (hO6.cell (p := ⟨w.heap.size, 0, none⟩) hb0 (fun e => by rcases e with e | e <;> (try dsimp only at e) <;> omega)).trans hc0
  replace hc1 := (hO6.cell (p := ⟨w.heap.size, 1, none⟩) hb0 (fun e => by rcases e with e | e <;> (try dsimp only at e) <;> omega)).trans hc1
  replace hc2 := (hO6.cell (p := ⟨w.heap.size, 2, none⟩) hb0 (fun e => by rcases e with e | e <;> (try dsimp only at e) <;> omega)).trans hc2
  replace vE := vE.only hO6 (fun b hb e => by rcases e with e | e <;> (try dsimp only at e) <;> omega)
  replace vF := vF.only hO6 (fun b hb e => by rcases e with e | e <;> (try dsimp only at e) <;> omega)
  replace hw0 := (hO6.cell (p := ⟨BW, 0, none⟩) bw (fun e => by rcases e with e | e <;> (try dsimp only at e) <;> omega)).trans hw0
  replace hw1 := (hO6.cell (p := ⟨BW, 1, none⟩) bw (fun e => by rcases e with e | e <;> (try dsimp only at e) <;> omega)).trans hw1
  replace gE := gE.onlyX hO6 (fun b e => by rcases e with e | e <;> (try dsimp only at e) <;> omega)
  replace gF := gF.onlyX hO6 (fun b e => by rcases e with e | e <;> (try dsimp only at e) <;> omega)
  replace hg0 := (hO6.cell (p := ⟨BG, 0, none⟩) bg (fun e => by rcases e with e | e <;> (try dsimp only at e) <;> omega)).trans hg0
  replace hg1 := (hO6.cell (p := ⟨BG, 1, none⟩) bg (fun e => by rcases e with e | e <;> (try dsimp only at e) <;> omega)).trans hg1
  replace HhB := Lib.hid (HhB.out.trans (hO6.below HhB.out.size (fun b hb e => by rcases e with e | e <;> (try dsimp only at e) <;> omega)))
  replace hb0 := Nat.lt_of_lt_of_le hb0 hO6.size
  replace bw := Nat.lt_of_lt_of_le bw hO6.size
  replace bg := Nat.lt_of_lt_of_le bg hO6.size
  clear hO6 bx
  obtain ⟨m, hm0⟩ : ∃ m : Later w6, m.w = w6 := ⟨Later.refl _, rfl⟩
  refine (fun h => hm0 ▸ h) ?_
  clear hm0
  go_wp2_with fail
  refine (Calls.later m (eqIvl_same _ _ _ _ _ _ _ _ _ _ _ (gE.later m).ints (gF.later m).ints (vE.later m).ints (vF.later m).ints (by omega) (by omega))).mono ?_
  rintro e w' ⟨rfl, m, rfl⟩
  go_wp2_with fail
  replace hc0 : m.w.cell? _ = _ := (m.cell _ _ hb0).trans hc0
  replace hc1 : m.w.cell? _ = _ := (m.cell _ _ hb0).trans hc1
  replace hc2 : m.w.cell? _ = _ := (m.cell _ _ hb0).trans hc2
  replace hw0 : m.w.cell? _ = _ := (m.cell _ _ bw).trans hw0
  replace hw1 : m.w.cell? _ = _ := (m.cell _ _ bw).trans hw1
  replace hg0 : m.w.cell? _ = _ := (m.cell _ _ bg).trans hg0
  replace hg1 : m.w.cell? _ = _ := (m.cell _ _ bg).trans hg1
  replace hf := hf.later m
  replace hl := hl.later m
  replace hb0 := Nat.lt_of_lt_of_le hb0 m.size
  replace vE := vE.later m
  replace vF := vF.later m
  replace bw := Nat.lt_of_lt_of_le bw m.size
  replace gE := gE.later m
  replace gF := gF.later m
  replace bg := Nat.lt_of_lt_of_le bg m.size
  replace HhB := Lib.hid (below_later HhB.out m)
  generalize m.w = W6 at *
  clear m
  refine (markIvlE_any _ _ _ _ _ _ _ _ gE gF gD (by omega) (by omega)).mono ?_
  rintro e w7 ⟨rfl, hMk, hMl, hO7⟩
  clear gE gF
  replace hf := hf.only hO7 (fun b hb e => by have hq := HhXr.out _ e; (try dsimp only at hq); omega)
  replace hl := hl.only hO7 (fun b hb e => by have hq := HhXr.out _ e; (try dsimp only at hq); omega)
  replace hc0 := (hO7.cell (p := ⟨w.heap.size, 0, none⟩) hb0 (fun e => by have hq := HhXr.out _ e; (try dsimp only at hq); omega)).trans hc0
  replace hc1 := (hO7.cell (p := ⟨w.heap.size, 1, none⟩) hb0 (fun e => by have hq := HhXr.out _ e; (try dsimp only at hq); omega)).trans hc1
  replace hc2 := (hO7.cell (p := ⟨w.heap.size, 2, none⟩) hb0 (fun e => by have hq := HhXr.out _ e; (try dsimp only at hq); omega)).trans hc2
  replace vE := vE.only hO7 (fun b hb e => by have hq := HhXr.out _ e; (try dsimp only at hq); omega)
  replace vF := vF.only hO7 (fun b hb e => by have hq := HhXr.out _ e; (try dsimp only at hq); omega)
  replace hw0 := (hO7.cell (p := ⟨BW, 0, none⟩) bw (fun e => by have hq := HhXr.out _ e; (try dsimp only at hq); omega)).trans hw0
  replace hw1 := (hO7.cell (p := ⟨BW, 1, none⟩) bw (fun e => by have hq := HhXr.out _ e; (try dsimp only at hq); omega)).trans hw1
  replace hg0 := (hO7.cell (p := ⟨BG, 0, none⟩) bg (fun e => by have hq := HhXr.out _ e; (try dsimp only at hq); omega)).trans hg0
  replace hg1 := (hO7.cell (p := ⟨BG, 1, none⟩) bg (fun e => by have hq := HhXr.out _ e; (try dsimp only at hq); omega)).trans hg1
  replace HhB := Lib.hid (HhB.out.trans (hO7.below HhB.out.size (fun b hb e => by have hq := HhXr.out _ e; (try dsimp only at hq); omega)))
  replace hb0 := Nat.lt_of_lt_of_le hb0 hO7.size
  replace bw := Nat.lt_of_lt_of_le bw hO7.size
  replace bg := Nat.lt_of_lt_of_le bg hO7.size
  clear hO7
  obtain ⟨m, hm0⟩ : ∃ m : Later w7, m.w = w7 := ⟨Later.refl _, rfl⟩
  refine (fun h => hm0 ▸ h) ?_
  clear hm0
  go_wp2_with fail
  refine (Calls.later m (heldIvlE_any _ _ _ _ _ _ _ (hMk.later m) (hMl.later m) (by omega) (by omega))).mono ?_
  rintro e w' ⟨rfl, m, rfl⟩
  go_wp2_with fail
  refine (toArcs_any _ _ _ _ _ _ _ _ (hf.later m).ints (hl.later m).ints hn hm).mono ?_
  rintro e w2 ⟨b1, b2, rfl, hB2, hg1, hg2, hx12, hO1, hO2⟩
  obtain ⟨m, rfl⟩ : ∃ m2 : Later w7, m2.w = w2 := ⟨m.on hB2, rfl⟩
  clear hB2
  go_wp2_with fail
  refine (HhM.out _ _ _ _ m.w hO1.ints hO2.ints).mono ?_
  rintro e w2 ⟨ha, hb, hc, hd, rfl, hB2, hE, hF, hD⟩
  replace hB2 := below_more m.below hB2
  clear hO1 hO2 hg1 hg2 hx12
  clear hD
  replace hE := hE.ints
  replace hF := hF.ints
  clear m
  replace hf := hf.below hB2 (Nat.le_of_lt hb0)
  replace hl := hl.below hB2 (Nat.le_of_lt hb0)
  replace hc0 := (hB2.cell (p := ⟨w.heap.size, 0, none⟩) hb0).trans hc0
  replace hc1 := (hB2.cell (p := ⟨w.heap.size, 1, none⟩) hb0).trans hc1
  replace hc2 := (hB2.cell (p := ⟨w.heap.size, 2, none⟩) hb0).trans hc2
  replace vE := vE.below hB2 (Nat.le_of_lt bw)
  replace vF := vF.below hB2 (Nat.le_of_lt bw)
  replace hw0 := (hB2.cell (p := ⟨BW, 0, none⟩) bw).trans hw0
  replace hw1 := (hB2.cell (p := ⟨BW, 1, none⟩) bw).trans hw1
  replace hg0 := (hB2.cell (p := ⟨BG, 0, none⟩) bg).trans hg0
  replace hg1 := (hB2.cell (p := ⟨BG, 1, none⟩) bg).trans hg1
  replace hb0 := Nat.lt_of_lt_of_le hb0 hB2.size
  replace bw := Nat.lt_of_lt_of_le bw hB2.size
  replace bg := Nat.lt_of_lt_of_le bg hB2.size
  replace HhB := Lib.hid (below_more' HhB.out hB2)
  replace hMk := hMk.below hB2
  replace hMl := hMl.below hB2
  clear hB2
  go_wp2_with fail
  generalize hW : World.alloc _ _ = W8
  obtain ⟨hB2, -, k0⟩ := alloc1 hW
  replace hf := hf.below hB2 (Nat.le_of_lt hb0)
  replace hl := hl.below hB2 (Nat.le_of_lt hb0)
  replace hc0 := (hB2.cell (p := ⟨w.heap.size, 0, none⟩) hb0).trans hc0
  replace hc1 := (hB2.cell (p := ⟨w.heap.size, 1, none⟩) hb0).trans hc1
  replace hc2 := (hB2.cell (p := ⟨w.heap.size, 2, none⟩) hb0).trans hc2
  replace vE := vE.below hB2 (Nat.le_of_lt bw)
  replace vF := vF.below hB2 (Nat.le_of_lt bw)
  replace hw0 := (hB2.cell (p := ⟨BW, 0, none⟩) bw).trans hw0
  replace hw1 := (hB2.cell (p := ⟨BW, 1, none⟩) bw).trans hw1
  replace hg0 := (hB2.cell (p := ⟨BG, 0, none⟩) bg).trans hg0
  replace hg1 := (hB2.cell (p := ⟨BG, 1, none⟩) bg).trans hg1
  replace hb0 := Nat.lt_of_lt_of_le hb0 hB2.size
  replace bw := Nat.lt_of_lt_of_le bw hB2.size
  replace bg := Nat.lt_of_lt_of_le bg hB2.size
  replace HhB := Lib.hid (below_more' HhB.out hB2)
  replace hMk := hMk.below hB2
  replace hMl := hMl.below hB2
  replace hE := hE.below hB2
  replace hF := hF.below hB2
  have bh := k0.lt
  have hh0 := k0.cell 0
  have hh1 := k0.cell 1
  simp at hh0 hh1
  clear hW k0 hB2
  generalize w2.heap.size = BH at *
  obtain ⟨m, hm0⟩ : ∃ m : Later W8, m.w = W8 := ⟨Later.refl _, rfl⟩
  refine (fun h => hm0 ▸ h) ?_
  clear hm0
  go_wp2_with fail
  refine (Calls.later m (eqIvl_same _ _ _ _ _ _ _ _ _ _ _ (hE.later m) (hF.later m) (vE.later m).ints (vF.later m).ints (by omega) (by omega))).mono ?_
  rintro e w' ⟨rfl, m, rfl⟩
  go_wp2_with fail
  refine (Calls.later m (heldIvlE_any _ _ _ _ _ _ _ (hMk.later m) (hMl.later m) (by omega) (by omega))).mono ?_
  rintro e w' ⟨rfl, m, rfl⟩
  go_wp2_with fail
  go_ret
  exact ⟨rfl, below_later HhB.out m⟩

open Go.ChangeShapes Go.WideShapes Go.ChangeAt
theorem cells_laws : Try.prog.cellsOf 24 = 3 := by kernel_rfl

set_option maxRecDepth 100000 in
theorem lifted (os : Os) (started : os.Started) (H : Type) (enc : TypeId × Value → H) :
    ReturnsInHanded {} Try.checked os 3 .any (Rows.fnExactCutArcsSpec.pre6 enc Try.prog Try.f3 Rows.fnExactCutArcsRow.domain false) (Rows.fnExactCutArcsSpec.post enc Try.prog Try.f3 false true false false) := by
  refine returnsInHanded_of_change (C := Try.checked) own started (by kernel_rfl) Try.func3
    (ChangeSpec.witness6 (enc := enc) (C := Try.checked) false ⟨#[], #[.agg #[.int .i64 0, .slice none 0 0, .slice none 0 0], .int .i64 0], []⟩ 8 (by kernel_rfl) (by kernel_rfl) (by kernel_rfl) (by kernel_rfl)) ?_
  intro W base args ds gs before hval0 hW hcnd _
  have hval : ∀ (j : Nat) t v, Try.f3.params[j]? = some t → args[j]? = some v → Value.okWide Try.prog W .any base t v := hval0
  have hW' := hW
  obtain ⟨p, q, hA0, hV, rfl, hfz, hnd⟩ := hW
  have hA : DataW.TrodAll enc Try.prog W 0 (fun _ => true) true Try.f3.params.toList args.toList ds p := hA0
  rw [Try.params3] at hA hval
  obtain ⟨v0, vs0, d0, ds0, p0, q0, hargs, rfl, rfl, h0, r0⟩ := trodAll_cons hA
  obtain ⟨v1, vs1, d1, ds1, p1, q1, rfl, rfl, rfl, h1, r1⟩ := trodAll_cons r0
  obtain ⟨rfl, rfl, rfl⟩ := trodAll_nil r1
  obtain rfl : args = #[v0, v1] := by cases args; simp_all
  obtain ⟨rfl, rfl⟩ := trodVars_none hV
  have k0 := h0
  have lt0 : ∀ x ∈ p0, x.block < W.heap.size := by obtain ⟨m, hm⟩ := k0; exact DataW.trod_lt m _ _ _ hm
  have k1 := h1
  have lt1 : ∀ x ∈ p1, x.block < W.heap.size := by obtain ⟨m, hm⟩ := k1; exact DataW.trod_lt m _ _ _ hm
  obtain ⟨c0, c1, c2, y0, y1, y2, m, rfl, -, -, hy0, hy1, hy2⟩ := Joins.open_agg3 Try.underlying24 (by kernel_rfl) cells_laws (hval 0 24 v0 rfl rfl) h0
  obtain ⟨x, e0, -, -⟩ := DataW.trod_int Try.underlying3 hy0
  obtain ⟨fo, f, fc, rfl, hf, hn⟩ := ints_of_trod hy1
  obtain ⟨lo, l, lc, rfl, hl, hm⟩ := ints_of_trod hy2
  simp at e0
  subst e0
  obtain ⟨a1, rfl, -, -, -⟩ := open_int Try.underlying3 (hval 1 3 v1 rfl rfl) h1
  clear hA0 hval0
  refine (law_any x f l fc lc fo lo a1 W hf hl hn hm).mono fun e W' ⟨he, bel⟩ => ?_
  subst he
  exact ⟨_, rfl, _, _, _, [], _, [], hW', trodAll_mk1 (shut_bool Try.underlying4 _), (trodAll_cons_mk (Below.trod laidOut (by kernel_rfl) (of_decide_eq_true (by kernel_rfl)) k0 bel lt0) (trodAll_cons_mk (Below.trod laidOut (by kernel_rfl) (of_decide_eq_true (by kernel_rfl)) k1 bel lt1) trodAll_mk0)), rfl, bel.frame _, fun h => by cases h⟩

theorem holds : Rows.FnExactCutArcsSaid :=
  OpenClaim.holds_of_wide 3 Try.f3 rfl rfl rfl rfl rfl rfl rfl ⟨rfl, rfl, rfl, rfl, rfl⟩ rfl rfl rfl rfl rfl (by kernel_rfl) Try.func3 (by kernel_rfl)
    (of_decide_eq_true (by kernel_rfl)) (by unfold Func.isWrapper; first | (rw [if_pos (by decide +kernel)]; kernel_rfl) | (rw [if_neg (by decide +kernel)]; exact ⟨rfl, rfl⟩))
    (fun os started H enc _ => lifted os started H enc)
#print axioms holds

end Go.Proofs.Ytfjljfjnooieoaa.lawCutArcs
