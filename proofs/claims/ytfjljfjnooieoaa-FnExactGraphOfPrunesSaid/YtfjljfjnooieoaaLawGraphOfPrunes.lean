/-
  FnExactGraphOfPrunes: for every input the law returns true, and its arguments read as they did. No conditions.
-/
import Derived.Test.YtfjljfjnooieoaaToPrune
import Derived.Test.YtfjljfjnooieoaaMarkX
import Derived.Test.YtfjljfjnooieoaaPutS
import Derived.Test.YtfjljfjnooieoaaOpen
import Derived.Deep.RegionHeld3
namespace Go.Proofs.Ytfjljfjnooieoaa.lawGraphOfPrunes
open Go.Proofs.Ytfjljfjnooieoaa Go.RowKit

set_option maxRecDepth 100000 in
set_option maxHeartbeats 4000000 in
theorem law_any (l : List Int) (K lc : Nat) (lo : Option Addr) (w : World) (hl : IntsAt w lo l) (hk : l.length = K * 3) (hn : K ≤ 9223372036854775807) :
    Calls Try.prog 4 #[.slice lo K lc] w fun e w' => e = .returned (.bool true) ∧ Below w.heap.size w w' := by
  by_cases hsz : 1048576 < K
  · have hs : szOne K = -1 := by unfold szOne; rw [if_pos hsz]
    have Hhk := Lib.hid hk
    clear hk
    go_enter Try.func4, Try.ntmps4
    go_wp2_with fail
    refine (szPruneS_any _ _ _ (by omega) _).mono ?_
    rintro e w' ⟨rfl, rfl⟩
    go_wp2_with fail
    go_ret
    exact ⟨rfl, Below.refl _ _⟩
  have hs : (szOne K < 0) = False := by unfold szOne; rw [if_neg hsz]; simp; omega
  replace hn : K ≤ 1048576 := by omega
  clear hsz
  have hS := fun (ao : Option Addr) (c1 : Nat) (w : World) (h1 : IntsAt w ao l) => specPut_any l K ao c1 w h1 hk hn
  have hM := fun (ao : Option Addr) (c1 : Nat) (w : World) (h1 : IntsAt w ao l) => implPut_any l K ao c1 w h1 hk hn
  have hlen := putV_len l K
  generalize (putV l K).getD [] = R at hS hM hlen
  generalize (putV l K).isSome = ok at hS hM hlen
  have hok : (ok != ok) = false := by simp
  have HhS := Lib.hid hS
  clear hS
  have HhM := Lib.hid hM
  clear hM
  replace hl := hl.upto
  have Hhk := Lib.hid hk
  clear hk
  go_enter Try.func4, Try.ntmps4
  go_wp2_with fail
  refine (szPruneS_any _ _ _ (by omega) _).mono ?_
  rintro e w' ⟨rfl, rfl⟩
  go_wp2_with fail
  have hB : Below w.heap.size w w := Below.refl _ _
  have hb0 : w.heap.size ≤ w.heap.size := Nat.le_refl _
  have HhB := Lib.hid hB
  clear hB
  refine (toPruneS_any _ _ _ _ _ hl.ints Hhk.out hn).mono ?_
  rintro e w2 ⟨b1, rfl, hB2, hg1, hO1⟩
  obtain ⟨m, rfl⟩ : ∃ m2 : Later w, m2.w = w2 := ⟨⟨w2, hB2⟩, rfl⟩
  clear hB2
  go_wp2_with fail
  refine (HhS.out _ _ m.w hO1.ints).mono ?_
  rintro e w2 ⟨va, vc, rfl, hB2, vE⟩
  replace hB2 := below_more m.below hB2
  replace vE := vE.ints
  clear hO1 hg1
  clear m
  have q1 := Nat.le_trans hb0 hB2.size
  replace hl := hl.below hB2 hb0
  replace hb0 := Nat.le_trans hb0 hB2.size
  replace HhB := Lib.hid (below_more' HhB.out hB2)
  clear hB2
  go_wp2_with fail
  generalize hW : World.alloc _ _ = W2
  obtain ⟨hB2, -, k0⟩ := alloc1 hW
  replace hl := hl.below hB2 hb0
  replace hb0 := Nat.le_trans hb0 hB2.size
  replace HhB := Lib.hid (below_more' HhB.out hB2)
  replace vE := vE.upto.below hB2 (Nat.le_refl _)
  have bw := k0.lt
  have hw0 := k0.cell 0
  have hw1 := k0.cell 1
  simp at hw0 hw1
  clear hW k0 hB2
  generalize w2.heap.size = BW at *
  obtain ⟨m, hm0⟩ : ∃ m : Later W2, m.w = W2 := ⟨Later.refl _, rfl⟩
  refine (fun h => hm0 ▸ h) ?_
  clear hm0
  refine (toPruneS_any _ _ _ _ _ (hl.later m).ints Hhk.out hn).mono ?_
  rintro e w2 ⟨b1, rfl, hB2, hg1, hO1⟩
  have q2 := Nat.lt_of_lt_of_le bw m.size
  have qb0 : BW < b1 := Nat.lt_of_lt_of_le q2 hg1
  replace hB2 := below_more m.below hB2
  clear hg1
  clear q2
  clear m
  replace hl := hl.below hB2 hb0
  replace vE := vE.below hB2 (Nat.le_of_lt bw)
  replace hw0 := (hB2.cell (p := ⟨BW, 0, none⟩) bw).trans hw0
  replace hw1 := (hB2.cell (p := ⟨BW, 1, none⟩) bw).trans hw1
  replace hb0 := Nat.le_trans hb0 hB2.size
  replace bw := Nat.lt_of_lt_of_le bw hB2.size
  replace HhB := Lib.hid (below_more' HhB.out hB2)
  have ql0 := hO1.lt
  clear hB2
  go_wp2_with fail
  generalize w2 = W3 at *
  obtain ⟨m, hm0⟩ : ∃ m : Later W3, m.w = W3 := ⟨Later.refl _, rfl⟩
  refine (fun h => hm0 ▸ h) ?_
  clear hm0
  refine (HhM.out _ _ m.w (hO1.later m).ints).mono ?_
  rintro e w2 ⟨ga, gc, rfl, hB2, gE⟩
  replace gE := gE.mono' m.size
  replace hB2 := below_more m.below hB2
  clear m
  have hXr : ∀ b, XR ga R b → W3.heap.size ≤ b ∧ b < w2.heap.size := fun b e => gE.xr e
  have q3 := hO1.lt
  replace hl := hl.below hB2 hb0
  replace vE := vE.below hB2 (Nat.le_of_lt bw)
  replace hw0 := (hB2.cell (p := ⟨BW, 0, none⟩) bw).trans hw0
  replace hw1 := (hB2.cell (p := ⟨BW, 1, none⟩) bw).trans hw1
  replace hO1 := hO1.below hB2 hO1.lt
  replace hb0 := Nat.le_trans hb0 hB2.size
  replace bw := Nat.lt_of_lt_of_le bw hB2.size
  replace HhB := Lib.hid (below_more' HhB.out hB2)
  have q4 := hO1.lt
  clear hB2
  go_wp2_with fail
  generalize hW : World.alloc _ _ = W4
  obtain ⟨hB2, -, k0⟩ := alloc1 hW
  replace hl := hl.below hB2 hb0
  replace vE := vE.below hB2 (Nat.le_of_lt bw)
  replace hw0 := (hB2.cell (p := ⟨BW, 0, none⟩) bw).trans hw0
  replace hw1 := (hB2.cell (p := ⟨BW, 1, none⟩) bw).trans hw1
  replace hO1 := hO1.below hB2 hO1.lt
  replace hb0 := Nat.le_trans hb0 hB2.size
  replace bw := Nat.lt_of_lt_of_le bw hB2.size
  replace HhB := Lib.hid (below_more' HhB.out hB2)
  replace gE := gE.below hB2
  have bg := k0.lt
  have hg0 := k0.cell 0
  have hg1 := k0.cell 1
  simp at hg0 hg1
  clear hW k0 hB2
  generalize w2.heap.size = BG at *
  generalize W3.heap.size = BE at *
  have HhXr := Lib.hid hXr
  clear hXr
  obtain ⟨m, hm0⟩ : ∃ m : Later W4, m.w = W4 := ⟨Later.refl _, rfl⟩
  refine (fun h => hm0 ▸ h) ?_
  clear hm0
  go_wp2_with fail
  refine (Calls.later m (eqGraph_same _ _ _ _ _ _ _ (gE.later m).ints (vE.later m).ints (by omega))).mono ?_
  rintro e w' ⟨rfl, m, rfl⟩
  go_wp2_with fail
  refine (toPruneS_any _ _ _ _ _ (hl.later m).ints Hhk.out hn).mono ?_
  rintro e w2 ⟨b9, rfl, hB2, hg1, hO9⟩
  obtain ⟨m, rfl⟩ : ∃ m2 : Later W4, m2.w = w2 := ⟨m.on hB2, rfl⟩
  clear hB2
  go_wp2_with fail
  refine (Calls.later m (eqPruneS_same _ _ Hhk.out _ _ _ _ _ (hO1.later m).ints hO9.ints hn)).mono ?_
  rintro e w' ⟨rfl, m, rfl⟩
  clear hg1 hO9
  replace hw0 : m.w.cell? _ = _ := (m.cell _ _ bw).trans hw0
  replace hw1 : m.w.cell? _ = _ := (m.cell _ _ bw).trans hw1
  replace hg0 : m.w.cell? _ = _ := (m.cell _ _ bg).trans hg0
  replace hg1 : m.w.cell? _ = _ := (m.cell _ _ bg).trans hg1
  replace hl := hl.later m
  replace hb0 := Nat.le_trans hb0 m.size
  replace vE := vE.later m
  replace bw := Nat.lt_of_lt_of_le bw m.size
  replace hO1 := hO1.later m
  replace gE := gE.later m
  replace bg := Nat.lt_of_lt_of_le bg m.size
  replace HhB := Lib.hid (below_later HhB.out m)
  generalize m.w = W5 at *
  clear m
  go_wp2_with fail
  refine (markOwnPr_any _ _ _ _ hO1 Hhk.out hn).mono ?_
  rintro e w6 ⟨rfl, hO6⟩
  clear hO1
  replace hl := hl.only hO6 (fun b hb e => by (try dsimp only at e) <;> omega)
  replace vE := vE.only hO6 (fun b hb e => by (try dsimp only at e) <;> omega)
  replace hw0 := (hO6.cell (p := ⟨BW, 0, none⟩) bw (fun e => by (try dsimp only at e) <;> omega)).trans hw0
  replace hw1 := (hO6.cell (p := ⟨BW, 1, none⟩) bw (fun e => by (try dsimp only at e) <;> omega)).trans hw1
  replace gE := gE.onlyX hO6 (fun b e => by (try dsimp only at e) <;> omega)
  replace hg0 := (hO6.cell (p := ⟨BG, 0, none⟩) bg (fun e => by (try dsimp only at e) <;> omega)).trans hg0
  replace hg1 := (hO6.cell (p := ⟨BG, 1, none⟩) bg (fun e => by (try dsimp only at e) <;> omega)).trans hg1
  replace HhB := Lib.hid (HhB.out.trans (hO6.below HhB.out.size (fun b hb e => by (try dsimp only at e) <;> omega)))
  replace hb0 := Nat.le_trans hb0 hO6.size
  replace bw := Nat.lt_of_lt_of_le bw hO6.size
  replace bg := Nat.lt_of_lt_of_le bg hO6.size
  clear hO6
  obtain ⟨m, hm0⟩ : ∃ m : Later w6, m.w = w6 := ⟨Later.refl _, rfl⟩
  refine (fun h => hm0 ▸ h) ?_
  clear hm0
  go_wp2_with fail
  refine (Calls.later m (eqGraph_same _ _ _ _ _ _ _ (gE.later m).ints (vE.later m).ints (by omega))).mono ?_
  rintro e w' ⟨rfl, m, rfl⟩
  go_wp2_with fail
  replace hw0 : m.w.cell? _ = _ := (m.cell _ _ bw).trans hw0
  replace hw1 : m.w.cell? _ = _ := (m.cell _ _ bw).trans hw1
  replace hg0 : m.w.cell? _ = _ := (m.cell _ _ bg).trans hg0
  replace hg1 : m.w.cell? _ = _ := (m.cell _ _ bg).trans hg1
  replace hl := hl.later m
  replace hb0 := Nat.le_trans hb0 m.size
  replace vE := vE.later m
  replace bw := Nat.lt_of_lt_of_le bw m.size
  replace gE := gE.later m
  replace bg := Nat.lt_of_lt_of_le bg m.size
  replace HhB := Lib.hid (below_later HhB.out m)
  generalize m.w = W6 at *
  clear m
  refine (markGraphE_any _ _ _ _ _ _ gE (by omega)).mono ?_
  rintro e w7 ⟨rfl, hMk, hO7⟩
  clear gE
  replace hl := hl.only hO7 (fun b hb e => by have hq := HhXr.out _ e; (try dsimp only at hq); omega)
  replace vE := vE.only hO7 (fun b hb e => by have hq := HhXr.out _ e; (try dsimp only at hq); omega)
  replace hw0 := (hO7.cell (p := ⟨BW, 0, none⟩) bw (fun e => by have hq := HhXr.out _ e; (try dsimp only at hq); omega)).trans hw0
  replace hw1 := (hO7.cell (p := ⟨BW, 1, none⟩) bw (fun e => by have hq := HhXr.out _ e; (try dsimp only at hq); omega)).trans hw1
  replace hg0 := (hO7.cell (p := ⟨BG, 0, none⟩) bg (fun e => by have hq := HhXr.out _ e; (try dsimp only at hq); omega)).trans hg0
  replace hg1 := (hO7.cell (p := ⟨BG, 1, none⟩) bg (fun e => by have hq := HhXr.out _ e; (try dsimp only at hq); omega)).trans hg1
  replace HhB := Lib.hid (HhB.out.trans (hO7.below HhB.out.size (fun b hb e => by have hq := HhXr.out _ e; (try dsimp only at hq); omega)))
  replace hb0 := Nat.le_trans hb0 hO7.size
  replace bw := Nat.lt_of_lt_of_le bw hO7.size
  replace bg := Nat.lt_of_lt_of_le bg hO7.size
  clear hO7
  obtain ⟨m, hm0⟩ : ∃ m : Later w7, m.w = w7 := ⟨Later.refl _, rfl⟩
  refine (fun h => hm0 ▸ h) ?_
  clear hm0
  go_wp2_with fail
  refine (Calls.later m (heldGraphE_any _ _ _ _ _ (hMk.later m) (by omega))).mono ?_
  rintro e w' ⟨rfl, m, rfl⟩
  go_wp2_with fail
  refine (toPruneS_any _ _ _ _ _ (hl.later m).ints Hhk.out hn).mono ?_
  rintro e w2 ⟨b1, rfl, hB2, hg1, hO1⟩
  obtain ⟨m, rfl⟩ : ∃ m2 : Later w7, m2.w = w2 := ⟨m.on hB2, rfl⟩
  clear hB2
  go_wp2_with fail
  refine (HhM.out _ _ m.w hO1.ints).mono ?_
  rintro e w2 ⟨ha, hc, rfl, hB2, hE⟩
  replace hB2 := below_more m.below hB2
  clear hO1 hg1
  replace hE := hE.ints
  clear m
  replace hl := hl.below hB2 hb0
  replace vE := vE.below hB2 (Nat.le_of_lt bw)
  replace hw0 := (hB2.cell (p := ⟨BW, 0, none⟩) bw).trans hw0
  replace hw1 := (hB2.cell (p := ⟨BW, 1, none⟩) bw).trans hw1
  replace hg0 := (hB2.cell (p := ⟨BG, 0, none⟩) bg).trans hg0
  replace hg1 := (hB2.cell (p := ⟨BG, 1, none⟩) bg).trans hg1
  replace hb0 := Nat.le_trans hb0 hB2.size
  replace bw := Nat.lt_of_lt_of_le bw hB2.size
  replace bg := Nat.lt_of_lt_of_le bg hB2.size
  replace HhB := Lib.hid (below_more' HhB.out hB2)
  replace hMk := hMk.below hB2
  clear hB2
  go_wp2_with fail
  generalize hW : World.alloc _ _ = W8
  obtain ⟨hB2, -, k0⟩ := alloc1 hW
  replace hl := hl.below hB2 hb0
  replace vE := vE.below hB2 (Nat.le_of_lt bw)
  replace hw0 := (hB2.cell (p := ⟨BW, 0, none⟩) bw).trans hw0
  replace hw1 := (hB2.cell (p := ⟨BW, 1, none⟩) bw).trans hw1
  replace hg0 := (hB2.cell (p := ⟨BG, 0, none⟩) bg).trans hg0
  replace hg1 := (hB2.cell (p := ⟨BG, 1, none⟩) bg).trans hg1
  replace hb0 := Nat.le_trans hb0 hB2.size
  replace bw := Nat.lt_of_lt_of_le bw hB2.size
  replace bg := Nat.lt_of_lt_of_le bg hB2.size
  replace HhB := Lib.hid (below_more' HhB.out hB2)
  replace hMk := hMk.below hB2
  replace hE := hE.below hB2
  have bh := k0.lt
  have hh0 := k0.cell 0
  have hh1 := k0.cell 1
  simp at hh0 hh1
  clear hW k0 hB2
  generalize w2.heap.size = BH at *
  obtain ⟨m, hm0⟩ : ∃ m : Later W8, m.w = W8 := ⟨Later.refl _, rfl⟩
  refine (fun h => hm0 ▸ h) ?_
  clear hm0
  go_wp2_with fail
  refine (Calls.later m (eqGraph_same _ _ _ _ _ _ _ (hE.later m) (vE.later m).ints (by omega))).mono ?_
  rintro e w' ⟨rfl, m, rfl⟩
  go_wp2_with fail
  refine (Calls.later m (heldGraphE_any _ _ _ _ _ (hMk.later m) (by omega))).mono ?_
  rintro e w' ⟨rfl, m, rfl⟩
  go_wp2_with fail
  go_ret
  exact ⟨rfl, below_later HhB.out m⟩

open Go.ChangeShapes Go.WideShapes Go.ChangeAt
set_option maxRecDepth 100000 in
theorem lifted (os : Os) (started : os.Started) (H : Type) (enc : TypeId × Value → H) :
    ReturnsInHanded {} Try.checked os 4 .any (Rows.fnExactGraphOfPrunesSpec.pre6 enc Try.prog Try.f4 Rows.fnExactGraphOfPrunesRow.domain false) (Rows.fnExactGraphOfPrunesSpec.post enc Try.prog Try.f4 false true false false) := by
  refine returnsInHanded_of_change (C := Try.checked) own started (by kernel_rfl) Try.func4
    (ChangeSpec.witness6 (enc := enc) (C := Try.checked) false ⟨#[], #[.slice none 0 0], []⟩ 8 (by kernel_rfl) (by kernel_rfl) (by kernel_rfl) (by kernel_rfl)) ?_
  intro W base args ds gs before hval0 hW hcnd _
  have hval : ∀ (j : Nat) t v, Try.f4.params[j]? = some t → args[j]? = some v → Value.okWide Try.prog W .any base t v := hval0
  have hW' := hW
  obtain ⟨p, q, hA0, hV, rfl, hfz, hnd⟩ := hW
  have hA : DataW.TrodAll enc Try.prog W 0 (fun _ => true) true Try.f4.params.toList args.toList ds p := hA0
  rw [Try.params4] at hA hval
  obtain ⟨v0, vs0, d0, ds0, p0, q0, hargs, rfl, rfl, h0, r0⟩ := trodAll_cons hA
  obtain ⟨rfl, rfl, rfl⟩ := trodAll_nil r0
  obtain rfl : args = #[v0] := by cases args; simp_all
  obtain ⟨rfl, rfl⟩ := trodVars_none hV
  have k0 := h0
  have lt0 : ∀ x ∈ p0, x.block < W.heap.size := by obtain ⟨m, hm⟩ := k0; exact DataW.trod_lt m _ _ _ hm
  obtain ⟨lo, l, K, lc, hl, hk, hn, rfl⟩ : ∃ lo l K lc, IntsAt W lo l ∧ l.length = K * 3 ∧ K ≤ 9223372036854775807 ∧ v0 = .slice lo K lc := by
    obtain ⟨p, n, c, rfl⟩ := okWide_slice Try.underlying37 (hval 0 37 v0 rfl rfl)
    obtain ⟨fuel, hfu⟩ := h0
    obtain ⟨lo, l, K, lc, e, h1, h2, h3⟩ := prunes_of_trod hfu
    exact ⟨lo, l, K, lc, h1, h2, h3, e⟩
  clear hA0 hval0
  refine (law_any l K lc lo W hl hk hn).mono fun e W' ⟨he, bel⟩ => ?_
  subst he
  exact ⟨_, rfl, _, _, _, [], _, [], hW', trodAll_mk1 (shut_bool Try.underlying4 _), (trodAll_cons_mk (Below.trod laidOut (by kernel_rfl) (of_decide_eq_true (by kernel_rfl)) k0 bel lt0) trodAll_mk0), rfl, bel.frame _, fun h => by cases h⟩

theorem holds : Rows.FnExactGraphOfPrunesSaid :=
  OpenClaim.holds_of_wide 4 Try.f4 rfl rfl rfl rfl rfl rfl rfl ⟨rfl, rfl, rfl, rfl, rfl⟩ rfl rfl rfl rfl rfl (by kernel_rfl) Try.func4 (by kernel_rfl)
    (of_decide_eq_true (by kernel_rfl)) (by unfold Func.isWrapper; first | (rw [if_pos (by decide +kernel)]; kernel_rfl) | (rw [if_neg (by decide +kernel)]; exact ⟨rfl, rfl⟩))
    (fun os started H enc _ => lifted os started H enc)
#print axioms holds

end Go.Proofs.Ytfjljfjnooieoaa.lawGraphOfPrunes
