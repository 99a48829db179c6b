/-
  FnExactFormatPrunes: for every input the law returns true, and its arguments read as they did. No conditions.
-/
import Derived.Test.YtgklgheaojoimaaDoorToPrune
import Derived.Test.YtgklgheaojoimaaDoorFmtP
import Derived.Test.YtgklgheaojoimaaDoorFmtJ
import Derived.Test.YtgklgheaojoimaaDoorOpen
import Derived.Deep.RegionHeld3
import Derived.Test.YtgklgheaojoimaaDoorCards
import Derived.Test.YtgklgheaojoimaaDoorTie
import Derived.LaidMore
import Derived.Stop.Joined
import Derived.SevenTiedAt
namespace Go.Proofs.YtgklgheaojoimaaDoor.cardFormatPrunes
open Go.Proofs.YtgklgheaojoimaaDoor Go.RowKit

set_option maxRecDepth 100000 in
set_option maxHeartbeats 1000000 in
theorem law_any (l : List Int) (K lc : Nat) (lo : Option Addr) (w : World) (hl : IntsAt w lo l) (hk : l.length = K * 3) (hn : K ≤ 9223372036854775807) :
    Calls Tryd.prog 4 #[.slice lo K lc] w fun e w' => e = .returned (.bool true) ∧ Below w.heap.size w w' := by
  by_cases hsz : 1048576 < K
  · have hs : szOne K = -1 := by unfold szOne; rw [if_pos hsz]
    have Hhk := Lib.hid hk
    clear hk
    go_enter Tryd.func4, Tryd.ntmps4
    go_wp2_with fail
    refine (szPruneS_any _ _ _ (by omega) _).mono ?_
    rintro e w' ⟨rfl, rfl⟩
    go_wp2_with fail
    go_ret
    exact ⟨rfl, Below.refl _ _⟩
  have hs : (szOne K < 0) = False := by unfold szOne; rw [if_neg hsz]; simp; omega
  replace hn : K ≤ 1048576 := by omega
  clear hsz
  have hS := fun (ao : Option Addr) (c1 : Nat) (w : World) (h1 : IntsAt w ao l) => specFmtPr_any l ao K c1 w h1 hk hn
  have hM := fun (ao : Option Addr) (c1 : Nat) (w : World) (h1 : IntsAt w ao l) => implFmtPr_any l ao K c1 w h1 hk hn
  generalize fmtPr l K = F at hS hM
  have HhS := Lib.hid hS
  clear hS
  have HhM := Lib.hid hM
  clear hM
  have Hhk := Lib.hid hk
  clear hk
  go_enter Tryd.func4, Tryd.ntmps4
  go_wp2_with fail
  refine (szPruneS_any _ _ _ (by omega) _).mono ?_
  rintro e w' ⟨rfl, rfl⟩
  go_wp2_with fail
  refine (toPruneS_any _ _ _ _ _ hl Hhk.out hn).mono ?_
  rintro e w2 ⟨b1, rfl, hB2, -, hO1⟩
  obtain ⟨m, rfl⟩ : ∃ m2 : Later w, m2.w = w2 := ⟨⟨w2, hB2⟩, rfl⟩
  clear hB2
  go_wp2_with fail
  refine (Calls.later m (HhS.out _ _ _ hO1.ints)).mono ?_
  rintro e w' ⟨rfl, m, rfl⟩
  clear hO1
  go_wp2_with fail
  refine (toPruneS_any _ _ _ _ _ (hl.later m) Hhk.out hn).mono ?_
  rintro e w2 ⟨b5, rfl, hB2, -, hO5⟩
  obtain ⟨m, rfl⟩ : ∃ m2 : Later w, m2.w = w2 := ⟨m.on hB2, rfl⟩
  clear hB2
  go_wp2_with fail
  refine (HhM.out _ _ _ hO5.ints).mono ?_
  rintro e w2 ⟨rfl, hB2⟩
  replace hO5 := hO5.below hB2 hO5.lt
  obtain ⟨m, rfl⟩ : ∃ m2 : Later w, m2.w = w2 := ⟨m.on hB2, rfl⟩
  clear hB2
  go_wp2_with fail
  refine (toPruneS_any _ _ _ _ _ (hl.later m) Hhk.out hn).mono ?_
  rintro e w2 ⟨b9, rfl, hB2, -, hO9⟩
  replace hO5 := hO5.below hB2 hO5.lt
  obtain ⟨m, rfl⟩ : ∃ m2 : Later w, m2.w = w2 := ⟨m.on hB2, rfl⟩
  clear hB2
  go_wp2_with fail
  refine (Calls.later m (eqPruneS_same _ _ Hhk.out _ _ _ _ _ hO5.ints hO9.ints hn)).mono ?_
  rintro e w' ⟨rfl, m, rfl⟩
  go_wp2_with fail
  go_ret
  exact ⟨rfl, m.below⟩

open Go.ChangeShapes Go.WideShapes Go.ChangeAt
theorem door_met (os : Os) (args : Array Value) : laidMetH Tryd.prog Rows.fnExactFormatPrunesRow.laid ((World.doorLaid Tryd.prog 400 os).forCall (fun _ _ => 0) ⟨#[], args, []⟩).memory :=
  laidMetH_of_parts3 (fuel := 8) (laidMet_of_run' 8 (by kernel_rfl) (by kernel_rfl)) (by kernel_rfl) (by kernel_rfl)

set_option maxRecDepth 100000 in
theorem lifted (os : Os) (started : os.Started) (H : Type) (enc : TypeId × Value → H) :
    ReturnsInHanded {} Tryd.checked os 4 .any (fun w args => (Rows.fnExactFormatPrunesSpec.pre enc Tryd.prog Tryd.f4 Rows.fnExactFormatPrunesRow.domain false w args ∧ laidMetH Tryd.prog Rows.fnExactFormatPrunesRow.laid w) ∧ sizedMet enc Tryd.prog Tryd.f4 (OpenSpec.ofChange Rows.fnExactFormatPrunesSpec) false w args)
      (Rows.fnExactFormatPrunesSpec.post enc Tryd.prog Tryd.f4 false true false false) := by
  refine returnsInHanded_of_change_and (C := Tryd.checked) (X := fun w _ => laidMetH Tryd.prog Rows.fnExactFormatPrunesRow.laid w) (fun _ _ _ hh h => h.of_heap hh) own started (by kernel_rfl) Tryd.func4
    (ChangeSpec.witness_shaped (enc := enc) (C := Tryd.checked) (os := os) (X := fun w _ => laidMetH Tryd.prog Rows.fnExactFormatPrunesRow.laid w) false (World.doorLaid Tryd.prog 400 os) #[.slice none 0 0] 8 rfl (World.shaped_of_RefB (by kernel_rfl) (by kernel_rfl)) (by kernel_rfl) (by kernel_rfl) (by kernel_rfl) (door_met os _)) ?_
  intro W base args ds gs before hval0 hW hcnd _ _ _
  have hval : ∀ (j : Nat) t v, Tryd.f4.params[j]? = some t → args[j]? = some v → Value.okWide Tryd.prog W .any base t v := hval0
  have hW' := hW
  obtain ⟨p, q, hA0, hV, rfl, hfz, hnd⟩ := hW
  have hA : DataW.TrodAll enc Tryd.prog W 0 (fun _ => true) true Tryd.f4.params.toList args.toList ds p := hA0
  rw [Tryd.params4] at hA hval
  obtain ⟨v0, vs0, d0, ds0, p0, q0, hargs, rfl, rfl, h0, r0⟩ := trodAll_cons hA
  obtain ⟨rfl, rfl, rfl⟩ := trodAll_nil r0
  obtain rfl : args = #[v0] := by cases args; simp_all
  obtain ⟨rfl, rfl⟩ := trodVars_none hV
  have k0 := h0
  have lt0 : ∀ x ∈ p0, x.block < W.heap.size := by obtain ⟨m, hm⟩ := k0; exact DataW.trod_lt m _ _ _ hm
  obtain ⟨lo, l, K, lc, hl, hk, hn, rfl⟩ : ∃ lo l K lc, IntsAt W lo l ∧ l.length = K * 3 ∧ K ≤ 9223372036854775807 ∧ v0 = .slice lo K lc := by
    obtain ⟨p, n, c, rfl⟩ := okWide_slice Tryd.underlying48 (hval 0 48 v0 rfl rfl)
    obtain ⟨fuel, hfu⟩ := h0
    obtain ⟨lo, l, K, lc, e, h1, h2, h3⟩ := prunes_of_trod hfu
    exact ⟨lo, l, K, lc, h1, h2, h3, e⟩
  clear hA0 hval0
  refine (law_any l K lc lo W hl hk hn).mono fun e W' ⟨he, bel⟩ => ?_
  subst he
  exact ⟨_, rfl, _, _, _, [], _, [], hW', trodAll_mk1 (shut_bool Tryd.underlying4 _), (trodAll_cons_mk (Below.trod laidOut (by kernel_rfl) (of_decide_eq_true (by kernel_rfl)) k0 bel lt0) trodAll_mk0), rfl, bel.frame _, fun h => by cases h⟩

theorem row_holds : Rows.FnExactFormatPrunesSaid :=
  OpenClaim.holds_of_wide 4 Tryd.f4 rfl rfl rfl rfl rfl rfl rfl ⟨rfl, rfl, rfl, rfl, rfl⟩ rfl rfl rfl rfl rfl (by kernel_rfl) Tryd.func4 (by kernel_rfl)
    (of_decide_eq_true (by kernel_rfl)) (by unfold Func.isWrapper; first | (rw [if_pos (by decide +kernel)]; kernel_rfl) | (rw [if_neg (by decide +kernel)]; exact ⟨rfl, rfl⟩))
    (fun os started H enc _ => lifted os started H enc)

theorem holds : Rows.FnExactFormatPrunesCardSaid :=
  Claim7.holds_tied_plain_at .later [] [.data, .data, .data] true Rows.fnExactFormatPrunesCard.stood.harness false
    row_holds (fun _ h => by cases h) (by kernel_rfl) (fun _ h => by cases h) fnExactFormatPrunes_row_tie rfl ⟨rfl, rfl⟩ (by kernel_rfl) rfl
    (fun f fn hf hfn => by
      obtain rfl : f = 4 := Option.some.inj ((show Tryd.prog.funcNamed "loop.example/g02081/laws.FnExactFormatPrunes" = some 4 by kernel_rfl).symm.trans hf) |>.symm
      obtain rfl : fn = Tryd.f4 := (Option.some.inj (Tryd.func4.symm.trans hfn)).symm
      exact ⟨by kernel_rfl, fun j t ht => by
        have hall : (Tryd.f4.params.toList.all fun u => !Tryd.prog.wantsStandIn u) = true := by kernel_rfl
        have hm : t ∈ Tryd.f4.params.toList := by simpa using Array.mem_of_getElem? ht
        exact (show Tryd.prog.wantsStandIn t = false by simpa using List.all_eq_true.1 hall t hm)⟩)
    (by kernel_rfl)
#print axioms holds

end Go.Proofs.YtgklgheaojoimaaDoor.cardFormatPrunes
