/-
  FnExactFormatArcs: for every input the law returns true, and its arguments read as they did. No conditions.
-/
import Derived.Test.YtfjljfjnooieoaaDoorConvArcs
import Derived.Test.YtfjljfjnooieoaaDoorFmtA
import Derived.Test.YtfjljfjnooieoaaDoorOpen
import Derived.Deep.RegionHeld3
import Derived.Test.YtfjljfjnooieoaaDoorCards
import Derived.Test.YtfjljfjnooieoaaDoorTie
import Derived.LaidMore
import Derived.Stop.Joined
import Derived.SevenTiedAt
namespace Go.Proofs.YtfjljfjnooieoaaDoor.cardFormatArcs
open Go.Proofs.YtfjljfjnooieoaaDoor Go.RowKit

set_option maxHeartbeats 1000000 in
theorem law_any (x : Int) (f l : List Int) (fc lc : Nat) (fo lo : Option Addr) (w : World) (hf : IntsAt w fo f) (hl : IntsAt w lo l) (hn : f.length ≤ 9223372036854775807) (hm : l.length ≤ 9223372036854775807) :
    Calls Tryd.prog 3 #[.agg #[.int .i64 x, .slice fo f.length fc, .slice lo l.length lc]] w fun e w' => e = .returned (.bool true) ∧ Below w.heap.size w w' := by
  by_cases hsz : 1048576 < f.length + l.length
  · have hs : szTwo f.length l.length = -1 := by unfold szTwo; rw [if_pos hsz]
    go_enter Tryd.func3, Tryd.ntmps3
    go_wp2_with fail
    generalize hW : w.alloc _ = W1
    obtain ⟨hB, -, k0⟩ := alloc1 hW
    replace hf := hf.below hB
    replace hl := hl.below hB
    have hb0 := k0.lt
    have hc0 := k0.cell 0
    have hc1 := k0.cell 1
    have hc2 := k0.cell 2
    simp at hc0 hc1 hc2
    clear hW k0
    have HhB := Lib.hid hB
    clear hB
    obtain ⟨m, hm0⟩ : ∃ m : Later W1, m.w = W1 := ⟨Later.refl _, rfl⟩
    refine (fun h => hm0 ▸ h) ?_
    clear hm0
    refine (Calls.later m (szArcs_any _ _ _ _ _ _ _ (by omega) (by omega) _)).mono ?_
    rintro e w' ⟨rfl, m, rfl⟩
    go_wp2_with fail
    go_ret
    exact ⟨rfl, below_later HhB.out m⟩
  · have hs : (szTwo f.length l.length < 0) = False := by unfold szTwo; rw [if_neg hsz]; simp; omega
    replace hn : f.length ≤ 1048576 := by omega
    replace hm : l.length ≤ 1048576 := by omega
    clear hsz
    go_enter Tryd.func3, Tryd.ntmps3
    go_wp2_with fail
    generalize hW : w.alloc _ = W1
    obtain ⟨hB, -, k0⟩ := alloc1 hW
    replace hf := hf.below hB
    replace hl := hl.below hB
    have hb0 := k0.lt
    have hc0 := k0.cell 0
    have hc1 := k0.cell 1
    have hc2 := k0.cell 2
    simp at hc0 hc1 hc2
    clear hW k0
    have HhB := Lib.hid hB
    clear hB
    obtain ⟨m, hm0⟩ : ∃ m : Later W1, m.w = W1 := ⟨Later.refl _, rfl⟩
    refine (fun h => hm0 ▸ h) ?_
    clear hm0
    refine (Calls.later m (szArcs_any _ _ _ _ _ _ _ (by omega) (by omega) _)).mono ?_
    rintro e w' ⟨rfl, m, rfl⟩
    go_wp2_with fail
    refine (toArcs_any _ _ _ _ _ _ _ _ (hf.later m) (hl.later m) hn hm).mono ?_
    rintro e w2 ⟨b1, b2, rfl, hB2, -, -, -, hO1, hO2⟩
    obtain ⟨m, rfl⟩ : ∃ m2 : Later W1, m2.w = w2 := ⟨m.on hB2, rfl⟩
    clear hB2
    go_wp2_with fail
    refine (Calls.later m (specFmtArcs_any _ _ _ _ _ _ _ _ hO1.ints hO2.ints hn hm)).mono ?_
    rintro e w' ⟨rfl, m, rfl⟩
    clear hO1 hO2
    go_wp2_with fail
    refine (toArcs_any _ _ _ _ _ _ _ _ (hf.later m) (hl.later m) hn hm).mono ?_
    rintro e w2 ⟨b1, b2, rfl, hB2, -, -, -, hO1, hO2⟩
    obtain ⟨m, rfl⟩ : ∃ m2 : Later W1, m2.w = w2 := ⟨m.on hB2, rfl⟩
    clear hB2
    go_wp2_with fail
    generalize hW2 : m.w.alloc _ = W2
    obtain ⟨hB2, -, k1⟩ := alloc1 hW2
    have hB := below_later HhB.out m
    replace hf := (hf.later m).below hB2
    replace hl := (hl.later m).below hB2
    replace hO1 := hO1.below hB2 hO1.lt
    replace hO2 := hO2.below hB2 hO2.lt
    have hlt : w.heap.size < m.w.heap.size := Nat.lt_of_lt_of_le hb0 m.size
    replace hc0 : W2.cell? ⟨w.heap.size, 0, none⟩ = _ := (hB2.cell hlt).trans ((m.cell _ _ hb0).trans hc0)
    replace hc1 : W2.cell? ⟨w.heap.size, 1, none⟩ = _ := (hB2.cell hlt).trans ((m.cell _ _ hb0).trans hc1)
    replace hc2 : W2.cell? ⟨w.heap.size, 2, none⟩ = _ := (hB2.cell hlt).trans ((m.cell _ _ hb0).trans hc2)
    replace hb0 := Nat.lt_of_lt_of_le hlt hB2.size
    have hb1 := k1.lt
    have hd0 := k1.cell 0
    have hd1 := k1.cell 1
    have hd2 := k1.cell 2
    simp at hd0 hd1 hd2
    replace HhB := Lib.hid (hB.trans (hB2.mono (Nat.le_of_lt hlt)))
    clear hB hB2 hlt hW2 k1
    generalize m.w.heap.size = B2 at *
    clear m
    obtain ⟨m, hm0⟩ : ∃ m : Later W2, m.w = W2 := ⟨Later.refl _, rfl⟩
    refine (fun h => hm0 ▸ h) ?_
    clear hm0
    refine (Calls.later m (implFmtArcs_any _ _ _ _ _ _ _ _ (hO1.later m).ints (hO2.later m).ints hn hm)).mono ?_
    rintro e w' ⟨rfl, m, rfl⟩
    go_wp2_with fail
    have hS : ∀ w', Below W2.heap.size W2 w' → Below W2.heap.size W2 w' ∧ w'.cell? ⟨w.heap.size, 0, none⟩ = some (.int .i64 x) ∧ w'.cell? ⟨w.heap.size, 1, none⟩ = some (.slice fo f.length fc) ∧ w'.cell? ⟨w.heap.size, 2, none⟩ = some (.slice lo l.length lc) ∧ w'.cell? ⟨B2, 0, none⟩ = some (.int .i64 x) ∧ w'.cell? ⟨B2, 1, none⟩ = some (.slice (some ⟨b1, 0, none⟩) f.length f.length) ∧ w'.cell? ⟨B2, 2, none⟩ = some (.slice (some ⟨b2, 0, none⟩) l.length l.length) := fun w' h =>
      ⟨h, (h.cell hb0).trans hc0, (h.cell hb0).trans hc1, (h.cell hb0).trans hc2, (h.cell hb1).trans hd0, (h.cell hb1).trans hd1, (h.cell hb1).trans hd2⟩
    go_region_held3 (fun w' => Below W2.heap.size W2 w' ∧ w'.cell? ⟨w.heap.size, 0, none⟩ = some (.int .i64 x) ∧ w'.cell? ⟨w.heap.size, 1, none⟩ = some (.slice fo f.length fc) ∧ w'.cell? ⟨w.heap.size, 2, none⟩ = some (.slice lo l.length lc) ∧ w'.cell? ⟨B2, 0, none⟩ = some (.int .i64 x) ∧ w'.cell? ⟨B2, 1, none⟩ = some (.slice (some ⟨b1, 0, none⟩) f.length f.length) ∧ w'.cell? ⟨B2, 2, none⟩ = some (.slice (some ⟨b2, 0, none⟩) l.length l.length))
      (exact hS _ (by first | exact m.below.drew | assumption))
      (first
        | (go_at_call 7; go_must (refine (toArcs_any _ _ _ _ _ _ _ _ (hf.below (And.left (by assumption : Below W2.heap.size W2 _ ∧ _))) (hl.below (And.left (by assumption : Below W2.heap.size W2 _ ∧ _))) hn hm).mono ?_); rintro e w3 ⟨b3, b4, rfl, hB3, -, -, -, hO3, hO4⟩; have hB4 := below_more (And.left (by assumption : Below W2.heap.size W2 _ ∧ _)) hB3)
        | (go_at_call 9; go_must (refine (eqArcs_same _ _ _ _ _ _ _ _ _ _ _ _ (hO1.below hB4 hO1.lt).ints (hO2.below hB4 hO2.lt).ints hO3.ints hO4.ints hn hm).mono ?_); rintro e w5 ⟨rfl, hB5⟩; have hB6 := below_more hB4 hB5))
    go_wp2_with fail
    go_ret
    exact ⟨rfl, below_more' HhB.out hB6⟩

open Go.ChangeShapes Go.WideShapes Go.ChangeAt
theorem cells_laws : Tryd.prog.cellsOf 24 = 3 := by kernel_rfl

theorem door_met (os : Os) (args : Array Value) : laidMetH Tryd.prog Rows.fnExactFormatArcsRow.laid ((World.doorLaid Tryd.prog 400 os).forCall (fun _ _ => 0) ⟨#[], args, []⟩).memory :=
  laidMetH_of_parts3 (fuel := 8) (laidMet_of_run' 8 (by kernel_rfl) (by kernel_rfl)) (by kernel_rfl) (by kernel_rfl)

set_option maxRecDepth 100000 in
theorem lifted (os : Os) (started : os.Started) (H : Type) (enc : TypeId × Value → H) :
    ReturnsInHanded {} Tryd.checked os 3 .any (fun w args => (Rows.fnExactFormatArcsSpec.pre enc Tryd.prog Tryd.f3 Rows.fnExactFormatArcsRow.domain false w args ∧ laidMetH Tryd.prog Rows.fnExactFormatArcsRow.laid w) ∧ sizedMet enc Tryd.prog Tryd.f3 (OpenSpec.ofChange Rows.fnExactFormatArcsSpec) false w args)
      (Rows.fnExactFormatArcsSpec.post enc Tryd.prog Tryd.f3 false true false false) := by
  refine returnsInHanded_of_change_and (C := Tryd.checked) (X := fun w _ => laidMetH Tryd.prog Rows.fnExactFormatArcsRow.laid w) (fun _ _ _ hh h => h.of_heap hh) own started (by kernel_rfl) Tryd.func3
    (ChangeSpec.witness_shaped (enc := enc) (C := Tryd.checked) (os := os) (X := fun w _ => laidMetH Tryd.prog Rows.fnExactFormatArcsRow.laid w) false (World.doorLaid Tryd.prog 400 os) #[.agg #[.int .i64 0, .slice none 0 0, .slice none 0 0]] 8 rfl (World.shaped_of_RefB (by kernel_rfl) (by kernel_rfl)) (by kernel_rfl) (by kernel_rfl) (by kernel_rfl) (door_met os _)) ?_
  intro W base args ds gs before hval0 hW hcnd _ _ _
  have hval : ∀ (j : Nat) t v, Tryd.f3.params[j]? = some t → args[j]? = some v → Value.okWide Tryd.prog W .any base t v := hval0
  have hW' := hW
  obtain ⟨p, q, hA0, hV, rfl, hfz, hnd⟩ := hW
  have hA : DataW.TrodAll enc Tryd.prog W 0 (fun _ => true) true Tryd.f3.params.toList args.toList ds p := hA0
  rw [Tryd.params3] at hA hval
  obtain ⟨v0, vs0, d0, ds0, p0, q0, hargs, rfl, rfl, h0, r0⟩ := trodAll_cons hA
  obtain ⟨rfl, rfl, rfl⟩ := trodAll_nil r0
  obtain rfl : args = #[v0] := by cases args; simp_all
  obtain ⟨rfl, rfl⟩ := trodVars_none hV
  have k0 := h0
  have lt0 : ∀ x ∈ p0, x.block < W.heap.size := by obtain ⟨m, hm⟩ := k0; exact DataW.trod_lt m _ _ _ hm
  obtain ⟨c0, c1, c2, y0, y1, y2, m, rfl, -, -, hy0, hy1, hy2⟩ := Joins.open_agg3 Tryd.underlying24 (by kernel_rfl) cells_laws (hval 0 24 v0 rfl rfl) h0
  obtain ⟨x, e0, -, -⟩ := DataW.trod_int Tryd.underlying3 hy0
  obtain ⟨fo, f, fc, rfl, hf, hn⟩ := ints_of_trod hy1
  obtain ⟨lo, l, lc, rfl, hl, hm⟩ := ints_of_trod hy2
  simp at e0
  subst e0
  clear hA0 hval0
  refine (law_any x f l fc lc fo lo W hf hl hn hm).mono fun e W' ⟨he, bel⟩ => ?_
  subst he
  exact ⟨_, rfl, _, _, _, [], _, [], hW', trodAll_mk1 (shut_bool Tryd.underlying4 _), (trodAll_cons_mk (Below.trod laidOut (by kernel_rfl) (of_decide_eq_true (by kernel_rfl)) k0 bel lt0) trodAll_mk0), rfl, bel.frame _, fun h => by cases h⟩

theorem row_holds : Rows.FnExactFormatArcsSaid :=
  OpenClaim.holds_of_wide 3 Tryd.f3 rfl rfl rfl rfl rfl rfl rfl ⟨rfl, rfl, rfl, rfl, rfl⟩ rfl rfl rfl rfl rfl (by kernel_rfl) Tryd.func3 (by kernel_rfl)
    (of_decide_eq_true (by kernel_rfl)) (by unfold Func.isWrapper; first | (rw [if_pos (by decide +kernel)]; kernel_rfl) | (rw [if_neg (by decide +kernel)]; exact ⟨rfl, rfl⟩))
    (fun os started H enc _ => lifted os started H enc)

theorem holds : Rows.FnExactFormatArcsCardSaid :=
  Claim7.holds_tied_plain_at .later [] [.data, .data, .data] true Rows.fnExactFormatArcsCard.stood.harness false
    row_holds (fun _ h => by cases h) (by kernel_rfl) (fun _ h => by cases h) fnExactFormatArcs_row_tie rfl ⟨rfl, rfl⟩ (by kernel_rfl) rfl
    (fun f fn hf hfn => by
      obtain rfl : f = 3 := Option.some.inj ((show Tryd.prog.funcNamed "loop.example/g02081/laws.FnExactFormatArcs" = some 3 by kernel_rfl).symm.trans hf) |>.symm
      obtain rfl : fn = Tryd.f3 := (Option.some.inj (Tryd.func3.symm.trans hfn)).symm
      exact ⟨by kernel_rfl, fun j t ht => by
        have hall : (Tryd.f3.params.toList.all fun u => !Tryd.prog.wantsStandIn u) = true := by kernel_rfl
        have hm : t ∈ Tryd.f3.params.toList := by simpa using Array.mem_of_getElem? ht
        exact (show Tryd.prog.wantsStandIn t = false by simpa using List.all_eq_true.1 hall t hm)⟩)
    (by kernel_rfl)
#print axioms holds

end Go.Proofs.YtfjljfjnooieoaaDoor.cardFormatArcs
