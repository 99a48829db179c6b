/-
  FnExactIsHereditary: for every input the law returns true, and its arguments read as they did. No conditions.
-/
import Derived.Test.YtdbaflimcbidjaaConvGraph
import Derived.Test.YtdbaflimcbidjaaPruneS
import Derived.Test.YtdbaflimcbidjaaPruneI
import Derived.Test.YtdbaflimcbidjaaOpen
import Derived.Deep.RegionHeld3
namespace Go.Proofs.Ytdbaflimcbidjaa.lawIsHereditary
open Go.Proofs.Ytdbaflimcbidjaa Go.RowKit

set_option maxHeartbeats 1000000 in
theorem law_any (x : Int) (f : List Int) (fc : Nat) (fo : Option Addr) (w : World) (hf : IntsAt w fo f) (hn : f.length ≤ 9223372036854775807) :
    Calls Try.prog 5 #[.agg #[.int .i64 x, .slice fo f.length fc]] w fun e w' => e = .returned (.bool true) ∧ Below w.heap.size w w' := by
  by_cases hsz : 1048576 < f.length
  · have hs : szOne f.length = -1 := by unfold szOne; rw [if_pos hsz]
    go_enter Try.func5, Try.ntmps5
    go_wp2_with fail
    generalize hW : w.alloc _ = W1
    obtain ⟨hB, -, k0⟩ := alloc1 hW
    replace hf := hf.below hB
    have hb0 := k0.lt
    have hc0 := k0.cell 0
    have hc1 := k0.cell 1
    simp at hc0 hc1
    clear hW k0
    have HhB := Lib.hid hB
    clear hB
    obtain ⟨m, hm0⟩ : ∃ m : Later W1, m.w = W1 := ⟨Later.refl _, rfl⟩
    refine (fun h => hm0 ▸ h) ?_
    clear hm0
    refine (Calls.later m (szGraph_any _ _ _ _ (by omega) _)).mono ?_
    rintro e w' ⟨rfl, m, rfl⟩
    go_wp2_with fail
    go_ret
    exact ⟨rfl, below_later HhB.out m⟩
  · have hs : (szOne f.length < 0) = False := by unfold szOne; rw [if_neg hsz]; simp; omega
    replace hn : f.length ≤ 1048576 := by omega
    clear hsz
    go_enter Try.func5, Try.ntmps5
    go_wp2_with fail
    generalize hW : w.alloc _ = W1
    obtain ⟨hB, -, k0⟩ := alloc1 hW
    replace hf := hf.below hB
    have hb0 := k0.lt
    have hc0 := k0.cell 0
    have hc1 := k0.cell 1
    simp at hc0 hc1
    clear hW k0
    have HhB := Lib.hid hB
    clear hB
    obtain ⟨m, hm0⟩ : ∃ m : Later W1, m.w = W1 := ⟨Later.refl _, rfl⟩
    refine (fun h => hm0 ▸ h) ?_
    clear hm0
    refine (Calls.later m (szGraph_any _ _ _ _ (by omega) _)).mono ?_
    rintro e w' ⟨rfl, m, rfl⟩
    go_wp2_with fail
    refine (toGraph_any _ _ _ _ _ (hf.later m) hn).mono ?_
    rintro e w2 ⟨b1, rfl, hB2, -, hO1⟩
    obtain ⟨m, rfl⟩ : ∃ m2 : Later W1, m2.w = w2 := ⟨m.on hB2, rfl⟩
    clear hB2
    go_wp2_with fail
    refine (Calls.later m (specHered_any _ _ _ _ _ hO1.ints hn)).mono ?_
    rintro e w' ⟨rfl, m, rfl⟩
    clear hO1
    go_wp2_with fail
    refine (toGraph_any _ _ _ _ _ (hf.later m) hn).mono ?_
    rintro e w2 ⟨b1, rfl, hB2, -, hO1⟩
    obtain ⟨m, rfl⟩ : ∃ m2 : Later W1, m2.w = w2 := ⟨m.on hB2, rfl⟩
    clear hB2
    go_wp2_with fail
    generalize hW2 : m.w.alloc _ = W2
    obtain ⟨hB2, -, k1⟩ := alloc1 hW2
    have hB := below_later HhB.out m
    replace hf := (hf.later m).below hB2
    replace hO1 := hO1.below hB2 hO1.lt
    have hlt : w.heap.size < m.w.heap.size := Nat.lt_of_lt_of_le hb0 m.size
    replace hc0 : W2.cell? ⟨w.heap.size, 0, none⟩ = _ := (hB2.cell hlt).trans ((m.cell _ _ hb0).trans hc0)
    replace hc1 : W2.cell? ⟨w.heap.size, 1, none⟩ = _ := (hB2.cell hlt).trans ((m.cell _ _ hb0).trans hc1)
    replace hb0 := Nat.lt_of_lt_of_le hlt hB2.size
    have hb1 := k1.lt
    have hd0 := k1.cell 0
    have hd1 := k1.cell 1
    simp at hd0 hd1
    replace HhB := Lib.hid (hB.trans (hB2.mono (Nat.le_of_lt hlt)))
    clear hB hB2 hlt hW2 k1
    generalize m.w.heap.size = B2 at *
    clear m
    obtain ⟨m, hm0⟩ : ∃ m : Later W2, m.w = W2 := ⟨Later.refl _, rfl⟩
    refine (fun h => hm0 ▸ h) ?_
    clear hm0
    refine (Calls.later m (implHered_any _ _ _ _ _ (hO1.later m).ints hn)).mono ?_
    rintro e w' ⟨rfl, m, rfl⟩
    go_wp2_with fail
    have hS : ∀ w', Below W2.heap.size W2 w' → Below W2.heap.size W2 w' ∧ w'.cell? ⟨w.heap.size, 0, none⟩ = some (.int .i64 x) ∧ w'.cell? ⟨w.heap.size, 1, none⟩ = some (.slice fo f.length fc) ∧ w'.cell? ⟨B2, 0, none⟩ = some (.int .i64 x) ∧ w'.cell? ⟨B2, 1, none⟩ = some (.slice (some ⟨b1, 0, none⟩) f.length f.length) := fun w' h =>
      ⟨h, (h.cell hb0).trans hc0, (h.cell hb0).trans hc1, (h.cell hb1).trans hd0, (h.cell hb1).trans hd1⟩
    go_region_held3 (fun w' => Below W2.heap.size W2 w' ∧ w'.cell? ⟨w.heap.size, 0, none⟩ = some (.int .i64 x) ∧ w'.cell? ⟨w.heap.size, 1, none⟩ = some (.slice fo f.length fc) ∧ w'.cell? ⟨B2, 0, none⟩ = some (.int .i64 x) ∧ w'.cell? ⟨B2, 1, none⟩ = some (.slice (some ⟨b1, 0, none⟩) f.length f.length))
      (exact hS _ (by first | exact m.below.drew | assumption))
      (first
        | (go_at_call 28; go_must (refine (toGraph_any _ _ _ _ _ (hf.below (And.left (by assumption : Below W2.heap.size W2 _ ∧ _))) hn).mono ?_); rintro e w3 ⟨b3, rfl, hB3, -, hO3⟩; have hB4 := below_more (And.left (by assumption : Below W2.heap.size W2 _ ∧ _)) hB3)
        | (go_at_call 23; go_must (refine (eqGraph_same _ _ _ _ _ _ _ (hO1.below hB4 hO1.lt).ints hO3.ints hn).mono ?_); rintro e w5 ⟨rfl, hB5⟩; have hB6 := below_more hB4 hB5))
    go_wp2_with fail
    go_ret
    exact ⟨rfl, below_more' HhB.out hB6⟩

open Go.ChangeShapes Go.WideShapes Go.ChangeAt
theorem cells_laws : Try.prog.cellsOf 44 = 2 := by kernel_rfl

set_option maxRecDepth 100000 in
theorem lifted (os : Os) (started : os.Started) (H : Type) (enc : TypeId × Value → H) :
    ReturnsInHanded {} Try.checked os 5 .any (Rows.fnExactIsHereditarySpec.pre6 enc Try.prog Try.f5 Rows.fnExactIsHereditaryRow.domain false) (Rows.fnExactIsHereditarySpec.post enc Try.prog Try.f5 false true false false) := by
  refine returnsInHanded_of_change (C := Try.checked) own started (by kernel_rfl) Try.func5
    (ChangeSpec.witness6 (enc := enc) (C := Try.checked) false ⟨#[], #[.agg #[.int .i64 0, .slice none 0 0]], []⟩ 8 (by kernel_rfl) (by kernel_rfl) (by kernel_rfl) (by kernel_rfl)) ?_
  intro W base args ds gs before hval0 hW hcnd _
  have hval : ∀ (j : Nat) t v, Try.f5.params[j]? = some t → args[j]? = some v → Value.okWide Try.prog W .any base t v := hval0
  have hW' := hW
  obtain ⟨p, q, hA0, hV, rfl, hfz, hnd⟩ := hW
  have hA : DataW.TrodAll enc Try.prog W 0 (fun _ => true) true Try.f5.params.toList args.toList ds p := hA0
  rw [Try.params5] at hA hval
  obtain ⟨v0, vs0, d0, ds0, p0, q0, hargs, rfl, rfl, h0, r0⟩ := trodAll_cons hA
  obtain ⟨rfl, rfl, rfl⟩ := trodAll_nil r0
  obtain rfl : args = #[v0] := by cases args; simp_all
  obtain ⟨rfl, rfl⟩ := trodVars_none hV
  have k0 := h0
  have lt0 : ∀ x ∈ p0, x.block < W.heap.size := by obtain ⟨m, hm⟩ := k0; exact DataW.trod_lt m _ _ _ hm
  obtain ⟨c0, c1, y0, y1, m, rfl, -, -, hy0, hy1⟩ := Joins.open_agg2 Try.underlying44 (by kernel_rfl) cells_laws (hval 0 44 v0 rfl rfl) h0
  obtain ⟨x, e0, -, -⟩ := DataW.trod_int Try.underlying3 hy0
  obtain ⟨fo, f, fc, rfl, hf, hn⟩ := ints_of_trod hy1
  simp at e0
  subst e0
  clear hA0 hval0
  refine (law_any x f fc fo W hf hn).mono fun e W' ⟨he, bel⟩ => ?_
  subst he
  exact ⟨_, rfl, _, _, _, [], _, [], hW', trodAll_mk1 (shut_bool Try.underlying4 _), (trodAll_cons_mk (Below.trod laidOut (by kernel_rfl) (of_decide_eq_true (by kernel_rfl)) k0 bel lt0) trodAll_mk0), rfl, bel.frame _, fun h => by cases h⟩

theorem holds : Rows.FnExactIsHereditarySaid :=
  OpenClaim.holds_of_wide 5 Try.f5 rfl rfl rfl rfl rfl rfl rfl ⟨rfl, rfl, rfl, rfl, rfl⟩ rfl rfl rfl rfl rfl (by kernel_rfl) Try.func5 (by kernel_rfl)
    (of_decide_eq_true (by kernel_rfl)) (by unfold Func.isWrapper; first | (rw [if_pos (by decide +kernel)]; kernel_rfl) | (rw [if_neg (by decide +kernel)]; exact ⟨rfl, rfl⟩))
    (fun os started H enc _ => lifted os started H enc)
#print axioms holds

end Go.Proofs.Ytdbaflimcbidjaa.lawIsHereditary
