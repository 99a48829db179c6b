/-
  FnExactPruneOrder: for every input the law returns true, and its arguments read as they did. No conditions.
-/
import Derived.Test.YtdbaflimcbidjaaConvGraph
import Derived.Test.YtdbaflimcbidjaaMarkX
import Derived.Test.YtdbaflimcbidjaaPruneI
import Derived.Test.YtdbaflimcbidjaaConvPrune
import Derived.Test.YtdbaflimcbidjaaOpen
import Derived.Deep.RegionHeld3
namespace Go.Proofs.Ytdbaflimcbidjaa.lawPruneOrder
open Go.Proofs.Ytdbaflimcbidjaa Go.RowKit

set_option maxRecDepth 100000 in
set_option maxHeartbeats 4000000 in
theorem law_any (x : Int) (f : List Int) (fc : Nat) (fo : Option Addr) (w : World) (hf : IntsAt w fo f) (hn : f.length ≤ 9223372036854775807) :
    Calls Try.prog 8 #[.agg #[.int .i64 x, .slice fo f.length fc]] w fun e w' => e = .returned (.bool true) ∧ Below w.heap.size w w' := by
  by_cases hsz : 1048576 < f.length
  · have hs : szOne f.length = -1 := by unfold szOne; rw [if_pos hsz]
    go_enter Try.func8, Try.ntmps8
    go_wp2_with fail
    generalize hW : w.alloc _ = W1
    obtain ⟨hB, -, k0⟩ := alloc1 hW
    replace hf := hf.below hB
    have hb0 := k0.lt
    have hc0 := k0.cell 0
    have hc1 := k0.cell 1
    simp at hc0 hc1
    clear hW k0
    have HhB := Lib.hid hB
    clear hB
    obtain ⟨m, hm0⟩ : ∃ m : Later W1, m.w = W1 := ⟨Later.refl _, rfl⟩
    refine (fun h => hm0 ▸ h) ?_
    clear hm0
    refine (Calls.later m (szGraph_any _ _ _ _ (by omega) _)).mono ?_
    rintro e w' ⟨rfl, m, rfl⟩
    go_wp2_with fail
    go_ret
    exact ⟨rfl, below_later HhB.out m⟩
  have hs : (szOne f.length < 0) = False := by unfold szOne; rw [if_neg hsz]; simp; omega
  replace hn : f.length ≤ 1048576 := by omega
  clear hsz
  have hS := fun (ao : Option Addr) (c1 : Nat) (w : World) (h1 : IntsAt w ao f) => specPrunes_ret x f ao c1 w h1 hn
  have hM := fun (ao : Option Addr) (c1 : Nat) (w : World) (h1 : IntsAt w ao f) => implPrunes_ret x f ao c1 w h1 hn
  have hlen := prunesV_len x f
  generalize (prunesV x f).getD [] = R at hS hM hlen
  generalize (prunesV x f).isSome = ok at hS hM hlen
  have hok : (ok != ok) = false := by simp
  have HhS := Lib.hid hS
  clear hS
  have HhM := Lib.hid hM
  clear hM
  replace hf := hf.upto
  go_enter Try.func8, Try.ntmps8
  go_wp2_with fail
  generalize hW : w.alloc _ = W1
  obtain ⟨hB, -, k0⟩ := alloc1 hW
  replace hf := hf.below hB (Nat.le_refl _)
  have hb0 := k0.lt
  have hc0 := k0.cell 0
  have hc1 := k0.cell 1
  simp at hc0 hc1
  clear hW k0
  have HhB := Lib.hid hB
  clear hB
  obtain ⟨m, hm0⟩ : ∃ m : Later W1, m.w = W1 := ⟨Later.refl _, rfl⟩
  refine (fun h => hm0 ▸ h) ?_
  clear hm0
  refine (Calls.later m (szGraph_any _ _ _ _ (by omega) _)).mono ?_
  rintro e w' ⟨rfl, m, rfl⟩
  go_wp2_with fail
  refine (toGraph_any _ _ _ _ _ (hf.later m).ints hn).mono ?_
  rintro e w2 ⟨b1, rfl, hB2, hg1, hO1⟩
  obtain ⟨m, rfl⟩ : ∃ m2 : Later W1, m2.w = w2 := ⟨m.on hB2, rfl⟩
  clear hB2
  go_wp2_with fail
  refine (HhS.out _ _ m.w hO1.ints).mono ?_
  rintro e w2 ⟨va, vc, rfl, hB2, vE⟩
  replace hB2 := below_more m.below hB2
  replace vE := vE.ints
  clear hO1 hg1
  clear m
  have q1 := Nat.lt_of_lt_of_le hb0 hB2.size
  replace hf := hf.below hB2 (Nat.le_of_lt hb0)
  replace hc0 := (hB2.cell (p := ⟨w.heap.size, 0, none⟩) hb0).trans hc0
  replace hc1 := (hB2.cell (p := ⟨w.heap.size, 1, none⟩) hb0).trans hc1
  replace hb0 := Nat.lt_of_lt_of_le hb0 hB2.size
  replace HhB := Lib.hid (below_more' HhB.out hB2)
  clear hB2
  go_wp2_with fail
  obtain ⟨BW, hq⟩ : ∃ B, B = w2.heap.size := ⟨_, rfl⟩
  have lw : BW ≤ w2.heap.size := Nat.le_of_eq hq
  rw [← hq] at q1
  replace vE := vE.upto
  rw [← hq] at vE
  clear hq
  generalize w2 = W2 at *
  obtain ⟨m, hm0⟩ : ∃ m : Later W2, m.w = W2 := ⟨Later.refl _, rfl⟩
  refine (fun h => hm0 ▸ h) ?_
  clear hm0
  refine (toGraph_any _ _ _ _ _ (hf.later m).ints hn).mono ?_
  rintro e w2 ⟨b1, rfl, hB2, hg1, hO1⟩
  have q2 := Nat.le_trans lw m.size
  have qb0 : BW ≤ b1 := Nat.le_trans q2 hg1
  replace hB2 := below_more m.below hB2
  clear hg1
  clear q2
  clear m
  replace hf := hf.below hB2 (Nat.le_of_lt hb0)
  replace hc0 := (hB2.cell (p := ⟨w.heap.size, 0, none⟩) hb0).trans hc0
  replace hc1 := (hB2.cell (p := ⟨w.heap.size, 1, none⟩) hb0).trans hc1
  replace vE := vE.below hB2 lw
  replace hb0 := Nat.lt_of_lt_of_le hb0 hB2.size
  replace lw := Nat.le_trans lw hB2.size
  replace HhB := Lib.hid (below_more' HhB.out hB2)
  have ql0 := hO1.lt
  clear hB2
  go_wp2_with fail
  generalize hW : World.alloc _ _ = W3
  obtain ⟨hB2, -, k0⟩ := alloc1 hW
  replace hf := hf.below hB2 (Nat.le_of_lt hb0)
  replace hc0 := (hB2.cell (p := ⟨w.heap.size, 0, none⟩) hb0).trans hc0
  replace hc1 := (hB2.cell (p := ⟨w.heap.size, 1, none⟩) hb0).trans hc1
  replace vE := vE.below hB2 lw
  replace hb0 := Nat.lt_of_lt_of_le hb0 hB2.size
  replace lw := Nat.le_trans lw hB2.size
  replace HhB := Lib.hid (below_more' HhB.out hB2)
  replace hO1 := hO1.below hB2 hO1.lt
  have bx := k0.lt
  have hd0 := k0.cell 0
  have hd1 := k0.cell 1
  simp at hd0 hd1
  clear hW k0 hB2
  generalize w2.heap.size = BX at *
  obtain ⟨m, hm0⟩ : ∃ m : Later W3, m.w = W3 := ⟨Later.refl _, rfl⟩
  refine (fun h => hm0 ▸ h) ?_
  clear hm0
  refine (HhM.out _ _ m.w (hO1.later m).ints).mono ?_
  rintro e w2 ⟨ga, gc, rfl, hB2, gE⟩
  replace gE := gE.mono' m.size
  replace hB2 := below_more m.below hB2
  clear m
  have hXr : ∀ b, XR ga (flatP R) b → W3.heap.size ≤ b ∧ b < w2.heap.size := fun b e => gE.xr e
  have q3 := bx
  replace hf := hf.below hB2 (Nat.le_of_lt hb0)
  replace hc0 := (hB2.cell (p := ⟨w.heap.size, 0, none⟩) hb0).trans hc0
  replace hc1 := (hB2.cell (p := ⟨w.heap.size, 1, none⟩) hb0).trans hc1
  replace vE := vE.below hB2 lw
  replace hO1 := hO1.below hB2 hO1.lt
  replace hd0 := (hB2.cell (p := ⟨BX, 0, none⟩) bx).trans hd0
  replace hd1 := (hB2.cell (p := ⟨BX, 1, none⟩) bx).trans hd1
  replace hb0 := Nat.lt_of_lt_of_le hb0 hB2.size
  replace lw := Nat.le_trans lw hB2.size
  replace bx := Nat.lt_of_lt_of_le bx hB2.size
  replace HhB := Lib.hid (below_more' HhB.out hB2)
  have q4 := bx
  clear hB2
  go_wp2_with fail
  obtain ⟨BG, hq⟩ : ∃ B, B = w2.heap.size := ⟨_, rfl⟩
  have lg : BG ≤ w2.heap.size := Nat.le_of_eq hq
  rw [← hq] at hXr
  clear hq
  generalize w2 = W4 at *
  generalize W3.heap.size = BE at *
  have HhXr := Lib.hid hXr
  clear hXr
  obtain ⟨m, hm0⟩ : ∃ m : Later W4, m.w = W4 := ⟨Later.refl _, rfl⟩
  refine (fun h => hm0 ▸ h) ?_
  clear hm0
  go_wp2_with fail
  refine (Calls.later m (eqPruneS_same _ (flatP R) (flatP_len R) _ _ _ _ _ (gE.later m).ints (vE.later m).ints (by omega))).mono ?_
  rintro e w' ⟨rfl, m, rfl⟩
  go_wp2_with fail
  have hSS : ∀ w', Below W4.heap.size W4 w' → Below W4.heap.size W4 w' ∧ w'.cell? ⟨w.heap.size, 0, none⟩ = some (.int .i64 x) ∧ w'.cell? ⟨w.heap.size, 1, none⟩ = some (.slice fo f.length fc) ∧ w'.cell? ⟨BX, 0, none⟩ = some (.int .i64 x) ∧ w'.cell? ⟨BX, 1, none⟩ = some (.slice (some ⟨b1, 0, none⟩) f.length f.length) := fun w' h =>
    ⟨h, (h.cell hb0).trans hc0, (h.cell hb0).trans hc1, (h.cell bx).trans hd0, (h.cell bx).trans hd1⟩
  go_region_held3 (fun w' => Below W4.heap.size W4 w' ∧ w'.cell? ⟨w.heap.size, 0, none⟩ = some (.int .i64 x) ∧ w'.cell? ⟨w.heap.size, 1, none⟩ = some (.slice fo f.length fc) ∧ w'.cell? ⟨BX, 0, none⟩ = some (.int .i64 x) ∧ w'.cell? ⟨BX, 1, none⟩ = some (.slice (some ⟨b1, 0, none⟩) f.length f.length))
    (exact hSS _ (by first | exact m.below.drew | assumption))
    (first
      | (go_at_call 28; go_must (refine (toGraph_any _ _ _ _ _ (hf.below (And.left (by assumption : Below W4.heap.size W4 _ ∧ _)) (Nat.le_of_lt hb0)).ints hn).mono ?_); rintro e w4 ⟨b3, rfl, hB4, -, hO3⟩; have hB5 := below_more (And.left (by assumption : Below W4.heap.size W4 _ ∧ _)) hB4)
      | (go_at_call 23; go_must (refine (eqGraph_same _ _ _ _ _ _ _ (hO1.below hB5 hO1.lt).ints hO3.ints hn).mono ?_); rintro e w5 ⟨rfl, hB6⟩; have hB7 := below_more hB5 hB6))
  replace hf := hf.below hB7 (Nat.le_of_lt hb0)
  replace hc0 := (hB7.cell (p := ⟨w.heap.size, 0, none⟩) hb0).trans hc0
  replace hc1 := (hB7.cell (p := ⟨w.heap.size, 1, none⟩) hb0).trans hc1
  replace vE := vE.below hB7 lw
  replace hO1 := hO1.below hB7 hO1.lt
  replace hd0 := (hB7.cell (p := ⟨BX, 0, none⟩) bx).trans hd0
  replace hd1 := (hB7.cell (p := ⟨BX, 1, none⟩) bx).trans hd1
  replace gE := gE.below hB7
  replace hb0 := Nat.lt_of_lt_of_le hb0 hB7.size
  replace lw := Nat.le_trans lw hB7.size
  replace bx := Nat.lt_of_lt_of_le bx hB7.size
  replace lg := Nat.le_trans lg hB7.size
  replace HhB := Lib.hid (below_more' HhB.out hB7)
  clear hSS hB7 hB6 hB5 hB4 hO3
  go_wp2_with fail
  refine (markGraph_any x f b1 _ hO1 hn).mono ?_
  rintro e w6 ⟨rfl, hO6⟩
  clear hO1 hd0 hd1
  replace hf := hf.only hO6 (fun b hb e => by (try dsimp only at e) <;> omega)
  replace hc0 := (hO6.cell (p := ⟨w.heap.size, 0, none⟩) hb0 (fun e => by (try dsimp only at e) <;> omega)).trans hc0
  replace hc1 := (hO6.cell (p := ⟨w.heap.size, 1, none⟩) hb0 (fun e => by (try dsimp only at e) <;> omega)).trans hc1
  replace vE := vE.only hO6 (fun b hb e => by (try dsimp only at e) <;> omega)
  replace gE := gE.onlyX hO6 (fun b e => by (try dsimp only at e) <;> omega)
  replace HhB := Lib.hid (HhB.out.trans (hO6.below HhB.out.size (fun b hb e => by (try dsimp only at e) <;> omega)))
  replace hb0 := Nat.lt_of_lt_of_le hb0 hO6.size
  replace lw := Nat.le_trans lw hO6.size
  replace lg := Nat.le_trans lg hO6.size
  clear hO6 bx
  obtain ⟨m, hm0⟩ : ∃ m : Later w6, m.w = w6 := ⟨Later.refl _, rfl⟩
  refine (fun h => hm0 ▸ h) ?_
  clear hm0
  go_wp2_with fail
  refine (Calls.later m (eqPruneS_same _ (flatP R) (flatP_len R) _ _ _ _ _ (gE.later m).ints (vE.later m).ints (by omega))).mono ?_
  rintro e w' ⟨rfl, m, rfl⟩
  go_wp2_with fail
  replace hc0 : m.w.cell? _ = _ := (m.cell _ _ hb0).trans hc0
  replace hc1 : m.w.cell? _ = _ := (m.cell _ _ hb0).trans hc1
  replace hf := hf.later m
  replace hb0 := Nat.lt_of_lt_of_le hb0 m.size
  replace lw := Nat.le_trans lw m.size
  replace vE := vE.later m
  replace lg := Nat.le_trans lg m.size
  replace gE := gE.later m
  replace HhB := Lib.hid (below_later HhB.out m)
  generalize m.w = W6 at *
  clear m
  refine (markPruneE_any _ _ _ _ _ gE (by omega)).mono ?_
  rintro e w7 ⟨rfl, hMk, hO7⟩
  clear gE
  replace hf := hf.only hO7 (fun b hb e => by have hq := HhXr.out _ e; (try dsimp only at hq); omega)
  replace hc0 := (hO7.cell (p := ⟨w.heap.size, 0, none⟩) hb0 (fun e => by have hq := HhXr.out _ e; (try dsimp only at hq); omega)).trans hc0
  replace hc1 := (hO7.cell (p := ⟨w.heap.size, 1, none⟩) hb0 (fun e => by have hq := HhXr.out _ e; (try dsimp only at hq); omega)).trans hc1
  replace vE := vE.only hO7 (fun b hb e => by have hq := HhXr.out _ e; (try dsimp only at hq); omega)
  replace HhB := Lib.hid (HhB.out.trans (hO7.below HhB.out.size (fun b hb e => by have hq := HhXr.out _ e; (try dsimp only at hq); omega)))
  replace hb0 := Nat.lt_of_lt_of_le hb0 hO7.size
  replace lw := Nat.le_trans lw hO7.size
  replace lg := Nat.le_trans lg hO7.size
  clear hO7
  obtain ⟨m, hm0⟩ : ∃ m : Later w7, m.w = w7 := ⟨Later.refl _, rfl⟩
  refine (fun h => hm0 ▸ h) ?_
  clear hm0
  go_wp2_with fail
  refine (heldPrune_any _ _ _ _ (hMk.later m) (by omega)).mono ?_
  rintro e w' ⟨rfl, rfl⟩
  go_wp2_with fail
  refine (toGraph_any _ _ _ _ _ (hf.later m).ints hn).mono ?_
  rintro e w2 ⟨b1, rfl, hB2, hg1, hO1⟩
  obtain ⟨m, rfl⟩ : ∃ m2 : Later w7, m2.w = w2 := ⟨m.on hB2, rfl⟩
  clear hB2
  go_wp2_with fail
  refine (HhM.out _ _ m.w hO1.ints).mono ?_
  rintro e w2 ⟨ha, hc, rfl, hB2, hE⟩
  replace hB2 := below_more m.below hB2
  clear hO1 hg1
  replace hE := hE.ints
  clear m
  replace hf := hf.below hB2 (Nat.le_of_lt hb0)
  replace hc0 := (hB2.cell (p := ⟨w.heap.size, 0, none⟩) hb0).trans hc0
  replace hc1 := (hB2.cell (p := ⟨w.heap.size, 1, none⟩) hb0).trans hc1
  replace vE := vE.below hB2 lw
  replace hb0 := Nat.lt_of_lt_of_le hb0 hB2.size
  replace lw := Nat.le_trans lw hB2.size
  replace lg := Nat.le_trans lg hB2.size
  replace HhB := Lib.hid (below_more' HhB.out hB2)
  replace hMk := hMk.below hB2
  clear hB2
  go_wp2_with fail
  generalize w2 = W8 at *
  obtain ⟨m, hm0⟩ : ∃ m : Later W8, m.w = W8 := ⟨Later.refl _, rfl⟩
  refine (fun h => hm0 ▸ h) ?_
  clear hm0
  go_wp2_with fail
  refine (Calls.later m (eqPruneS_same _ (flatP R) (flatP_len R) _ _ _ _ _ (hE.later m) (vE.later m).ints (by omega))).mono ?_
  rintro e w' ⟨rfl, m, rfl⟩
  go_wp2_with fail
  refine (heldPrune_any _ _ _ _ (hMk.later m) (by omega)).mono ?_
  rintro e w' ⟨rfl, rfl⟩
  go_wp2_with fail
  go_ret
  exact ⟨rfl, below_later HhB.out m⟩

open Go.ChangeShapes Go.WideShapes Go.ChangeAt
theorem cells_laws : Try.prog.cellsOf 44 = 2 := by kernel_rfl

set_option maxRecDepth 100000 in
theorem lifted (os : Os) (started : os.Started) (H : Type) (enc : TypeId × Value → H) :
    ReturnsInHanded {} Try.checked os 8 .any (Rows.fnExactPruneOrderSpec.pre6 enc Try.prog Try.f8 Rows.fnExactPruneOrderRow.domain false) (Rows.fnExactPruneOrderSpec.post enc Try.prog Try.f8 false true false false) := by
  refine returnsInHanded_of_change (C := Try.checked) own started (by kernel_rfl) Try.func8
    (ChangeSpec.witness6 (enc := enc) (C := Try.checked) false ⟨#[], #[.agg #[.int .i64 0, .slice none 0 0]], []⟩ 8 (by kernel_rfl) (by kernel_rfl) (by kernel_rfl) (by kernel_rfl)) ?_
  intro W base args ds gs before hval0 hW hcnd _
  have hval : ∀ (j : Nat) t v, Try.f8.params[j]? = some t → args[j]? = some v → Value.okWide Try.prog W .any base t v := hval0
  have hW' := hW
  obtain ⟨p, q, hA0, hV, rfl, hfz, hnd⟩ := hW
  have hA : DataW.TrodAll enc Try.prog W 0 (fun _ => true) true Try.f8.params.toList args.toList ds p := hA0
  rw [Try.params8] at hA hval
  obtain ⟨v0, vs0, d0, ds0, p0, q0, hargs, rfl, rfl, h0, r0⟩ := trodAll_cons hA
  obtain ⟨rfl, rfl, rfl⟩ := trodAll_nil r0
  obtain rfl : args = #[v0] := by cases args; simp_all
  obtain ⟨rfl, rfl⟩ := trodVars_none hV
  have k0 := h0
  have lt0 : ∀ x ∈ p0, x.block < W.heap.size := by obtain ⟨m, hm⟩ := k0; exact DataW.trod_lt m _ _ _ hm
  obtain ⟨c0, c1, y0, y1, m, rfl, -, -, hy0, hy1⟩ := Joins.open_agg2 Try.underlying44 (by kernel_rfl) cells_laws (hval 0 44 v0 rfl rfl) h0
  obtain ⟨x, e0, -, -⟩ := DataW.trod_int Try.underlying3 hy0
  obtain ⟨fo, f, fc, rfl, hf, hn⟩ := ints_of_trod hy1
  simp at e0
  subst e0
  clear hA0 hval0
  refine (law_any x f fc fo W hf hn).mono fun e W' ⟨he, bel⟩ => ?_
  subst he
  exact ⟨_, rfl, _, _, _, [], _, [], hW', trodAll_mk1 (shut_bool Try.underlying4 _), (trodAll_cons_mk (Below.trod laidOut (by kernel_rfl) (of_decide_eq_true (by kernel_rfl)) k0 bel lt0) trodAll_mk0), rfl, bel.frame _, fun h => by cases h⟩

theorem holds : Rows.FnExactPruneOrderSaid :=
  OpenClaim.holds_of_wide 8 Try.f8 rfl rfl rfl rfl rfl rfl rfl ⟨rfl, rfl, rfl, rfl, rfl⟩ rfl rfl rfl rfl rfl (by kernel_rfl) Try.func8 (by kernel_rfl)
    (of_decide_eq_true (by kernel_rfl)) (by unfold Func.isWrapper; first | (rw [if_pos (by decide +kernel)]; kernel_rfl) | (rw [if_neg (by decide +kernel)]; exact ⟨rfl, rfl⟩))
    (fun os started H enc _ => lifted os started H enc)
#print axioms holds

end Go.Proofs.Ytdbaflimcbidjaa.lawPruneOrder
