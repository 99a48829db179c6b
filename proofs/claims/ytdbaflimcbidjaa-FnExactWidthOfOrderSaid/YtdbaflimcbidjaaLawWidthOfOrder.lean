/-
  FnExactWidthOfOrder: for every input the law returns true, and its arguments read as they did. No conditions.
-/
import Derived.Test.YtdbaflimcbidjaaConvGraph
import Derived.Test.YtdbaflimcbidjaaFillS
import Derived.Test.YtdbaflimcbidjaaWidthI
import Derived.Test.YtdbaflimcbidjaaOpen
import Derived.Deep.RegionHeld3
namespace Go.Proofs.Ytdbaflimcbidjaa.lawWidthOfOrder
open Go.Proofs.Ytdbaflimcbidjaa Go.RowKit

set_option maxHeartbeats 1000000 in
theorem law_any (x : Int) (f : List Int) (fc : Nat) (fo : Option Addr) (a1 : List Int) (ac1 : Nat) (ao1 : Option Addr) (w : World) (hf : IntsAt w fo f) (hn : f.length ≤ 9223372036854775807) (ha1 : IntsAt w ao1 a1) (hk1 : a1.length ≤ 9223372036854775807) :
    Calls Try.prog 9 #[.agg #[.int .i64 x, .slice fo f.length fc], .slice ao1 a1.length ac1] w fun e w' => e = .returned (.bool true) ∧ Below w.heap.size w w' := by
  by_cases hbig1 : (1048576 : Int) < a1.length
  · go_enter Try.func9, Try.ntmps9
    go_wp2_with fail
    go_ret
    exact ⟨rfl, (Below.refl _ _).alloc (Nat.le_refl _) _⟩
  replace hk1 : a1.length ≤ 1048576 := by omega
  by_cases hsz : 1048576 < f.length
  · have hs : szOne f.length = -1 := by unfold szOne; rw [if_pos hsz]
    go_enter Try.func9, Try.ntmps9
    go_wp2_with fail
    generalize hW : w.alloc _ = W1
    obtain ⟨hB, -, k0⟩ := alloc1 hW
    replace hf := hf.below hB
    replace ha1 := ha1.below hB
    have hb0 := k0.lt
    have hc0 := k0.cell 0
    have hc1 := k0.cell 1
    simp at hc0 hc1
    clear hW k0
    have HhB := Lib.hid hB
    clear hB
    obtain ⟨m, hm0⟩ : ∃ m : Later W1, m.w = W1 := ⟨Later.refl _, rfl⟩
    refine (fun h => hm0 ▸ h) ?_
    clear hm0
    refine (Calls.later m (szGraph_any _ _ _ _ (by omega) _)).mono ?_
    rintro e w' ⟨rfl, m, rfl⟩
    go_wp2_with fail
    go_ret
    exact ⟨rfl, below_later HhB.out m⟩
  · have hs : (szOne f.length < 0) = False := by unfold szOne; rw [if_neg hsz]; simp; omega
    replace hn : f.length ≤ 1048576 := by omega
    clear hsz
    go_enter Try.func9, Try.ntmps9
    go_wp2_with fail
    generalize hW : w.alloc _ = W1
    obtain ⟨hB, -, k0⟩ := alloc1 hW
    replace hf := hf.below hB
    replace ha1 := ha1.below hB
    have hb0 := k0.lt
    have hc0 := k0.cell 0
    have hc1 := k0.cell 1
    simp at hc0 hc1
    clear hW k0
    have HhB := Lib.hid hB
    clear hB
    obtain ⟨m, hm0⟩ : ∃ m : Later W1, m.w = W1 := ⟨Later.refl _, rfl⟩
    refine (fun h => hm0 ▸ h) ?_
    clear hm0
    refine (Calls.later m (szGraph_any _ _ _ _ (by omega) _)).mono ?_
    rintro e w' ⟨rfl, m, rfl⟩
    go_wp2_with fail
    refine (toGraph_any _ _ _ _ _ (hf.later m) hn).mono ?_
    rintro e w2 ⟨b1, rfl, hB2, -, hO1⟩
    obtain ⟨m, rfl⟩ : ∃ m2 : Later W1, m2.w = w2 := ⟨m.on hB2, rfl⟩
    clear hB2
    go_wp2_with fail
    refine (toIntS_any _ _ _ _ (ha1.later m) hk1).mono ?_
    rintro e w2 ⟨rfl, hA1, hB2⟩
    replace hO1 := hO1.below hB2 hO1.lt
    obtain ⟨ab1, hab⟩ : ∃ b, b = m.w.heap.size := ⟨_, rfl⟩
    rw [← hab] at hA1 ⊢
    clear hab
    obtain ⟨m, rfl⟩ : ∃ m2 : Later W1, m2.w = w2 := ⟨m.on hB2, rfl⟩
    clear hB2
    go_wp2_with fail
    refine (Calls.later m (specWidth_any _ _ _ _ _ _ _ _ hO1.ints hn hA1.ints hk1)).mono ?_
    rintro e w' ⟨rfl, m, rfl⟩
    clear hO1 hA1
    go_wp2_with fail
    refine (toGraph_any _ _ _ _ _ (hf.later m) hn).mono ?_
    rintro e w2 ⟨b1, rfl, hB2, -, hO1⟩
    obtain ⟨m, rfl⟩ : ∃ m2 : Later W1, m2.w = w2 := ⟨m.on hB2, rfl⟩
    clear hB2
    go_wp2_with fail
    generalize hW2 : m.w.alloc _ = W2
    obtain ⟨hB2, -, k1⟩ := alloc1 hW2
    have hB := below_later HhB.out m
    replace hf := (hf.later m).below hB2
    replace ha1 := (ha1.later m).below hB2
    replace hO1 := hO1.below hB2 hO1.lt
    have hlt : w.heap.size < m.w.heap.size := Nat.lt_of_lt_of_le hb0 m.size
    replace hc0 : W2.cell? ⟨w.heap.size, 0, none⟩ = _ := (hB2.cell hlt).trans ((m.cell _ _ hb0).trans hc0)
    replace hc1 : W2.cell? ⟨w.heap.size, 1, none⟩ = _ := (hB2.cell hlt).trans ((m.cell _ _ hb0).trans hc1)
    replace hb0 := Nat.lt_of_lt_of_le hlt hB2.size
    have hb1 := k1.lt
    have hd0 := k1.cell 0
    have hd1 := k1.cell 1
    simp at hd0 hd1
    replace HhB := Lib.hid (hB.trans (hB2.mono (Nat.le_of_lt hlt)))
    clear hB hB2 hlt hW2 k1
    generalize m.w.heap.size = B2 at *
    clear m
    obtain ⟨m, hm0⟩ : ∃ m : Later W2, m.w = W2 := ⟨Later.refl _, rfl⟩
    refine (fun h => hm0 ▸ h) ?_
    clear hm0
    refine (toIntS_any _ _ _ _ (ha1.later m) hk1).mono ?_
    rintro e w2 ⟨rfl, hA1, hB2⟩
    obtain ⟨ab1, hab⟩ : ∃ b, b = m.w.heap.size := ⟨_, rfl⟩
    rw [← hab] at hA1 ⊢
    clear hab
    obtain ⟨m, rfl⟩ : ∃ m2 : Later W2, m2.w = w2 := ⟨m.on hB2, rfl⟩
    clear hB2
    go_wp2_with fail
    replace hf := hf.later m
    replace ha1 := ha1.later m
    replace hO1 := hO1.later m
    replace hc0 : m.w.cell? _ = _ := (m.cell _ _ hb0).trans hc0
    replace hd0 : m.w.cell? _ = _ := (m.cell _ _ hb1).trans hd0
    replace hc1 : m.w.cell? _ = _ := (m.cell _ _ hb0).trans hc1
    replace hd1 : m.w.cell? _ = _ := (m.cell _ _ hb1).trans hd1
    replace hb0 := Nat.lt_of_lt_of_le hb0 m.size
    replace hb1 := Nat.lt_of_lt_of_le hb1 m.size
    replace HhB := Lib.hid (below_later HhB.out m)
    generalize m.w = W3 at *
    clear m
    obtain ⟨m, hm0⟩ : ∃ m : Later W3, m.w = W3 := ⟨Later.refl _, rfl⟩
    refine (fun h => hm0 ▸ h) ?_
    clear hm0
    refine (Calls.later m (implWidth_any _ _ _ _ _ _ _ _ (hO1.later m).ints hn (hA1.later m).ints hk1 (Nat.le_refl _))).mono ?_
    rintro e w' ⟨rfl, m, rfl⟩
    go_wp2_with fail
    have hS : ∀ w', Below W3.heap.size W3 w' → Below W3.heap.size W3 w' ∧ w'.cell? ⟨w.heap.size, 0, none⟩ = some (.int .i64 x) ∧ w'.cell? ⟨w.heap.size, 1, none⟩ = some (.slice fo f.length fc) ∧ w'.cell? ⟨B2, 0, none⟩ = some (.int .i64 x) ∧ w'.cell? ⟨B2, 1, none⟩ = some (.slice (some ⟨b1, 0, none⟩) f.length f.length) := fun w' h =>
      ⟨h, (h.cell hb0).trans hc0, (h.cell hb0).trans hc1, (h.cell hb1).trans hd0, (h.cell hb1).trans hd1⟩
    go_region_held3 (fun w' => Below W3.heap.size W3 w' ∧ w'.cell? ⟨w.heap.size, 0, none⟩ = some (.int .i64 x) ∧ w'.cell? ⟨w.heap.size, 1, none⟩ = some (.slice fo f.length fc) ∧ w'.cell? ⟨B2, 0, none⟩ = some (.int .i64 x) ∧ w'.cell? ⟨B2, 1, none⟩ = some (.slice (some ⟨b1, 0, none⟩) f.length f.length))
      (exact hS _ (by first | exact m.below.drew | assumption))
      (first
        | (go_at_call 28; go_must (refine (toGraph_any _ _ _ _ _ (hf.below (And.left (by assumption : Below W3.heap.size W3 _ ∧ _))) hn).mono ?_); rintro e w3 ⟨b3, rfl, hB3, -, hO3⟩; have hB4 := below_more (And.left (by assumption : Below W3.heap.size W3 _ ∧ _)) hB3)
        | (go_at_call 23; go_must (refine (eqGraph_same _ _ _ _ _ _ _ (hO1.below hB4 hO1.lt).ints hO3.ints hn).mono ?_); rintro e w5 ⟨rfl, hB5⟩; have hB6 := below_more hB4 hB5))
    go_wp2_with fail
    refine (toIntS_any _ _ _ _ (ha1.below hB6) hk1).mono ?_
    rintro e w6 ⟨rfl, hA, hB7⟩
    replace hB7 := below_more hB6 hB7
    go_wp2_with fail
    have hr := sameInts_refl a1
    refine (eqIntS_any _ _ _ _ _ _ _ (hA1.below hB7 hA1.lt).ints hA.ints (by omega) (by omega)).mono ?_
    rintro e w7 ⟨rfl, hB8⟩
    replace hB6 := below_more hB7 hB8
    go_wp2_with fail
    go_ret
    exact ⟨rfl, below_more' HhB.out hB6⟩

open Go.ChangeShapes Go.WideShapes Go.ChangeAt
theorem cells_laws : Try.prog.cellsOf 44 = 2 := by kernel_rfl

set_option maxRecDepth 100000 in
theorem lifted (os : Os) (started : os.Started) (H : Type) (enc : TypeId × Value → H) :
    ReturnsInHanded {} Try.checked os 9 .any (Rows.fnExactWidthOfOrderSpec.pre6 enc Try.prog Try.f9 Rows.fnExactWidthOfOrderRow.domain false) (Rows.fnExactWidthOfOrderSpec.post enc Try.prog Try.f9 false true false false) := by
  refine returnsInHanded_of_change (C := Try.checked) own started (by kernel_rfl) Try.func9
    (ChangeSpec.witness6 (enc := enc) (C := Try.checked) false ⟨#[], #[.agg #[.int .i64 0, .slice none 0 0], .slice none 0 0], []⟩ 8 (by kernel_rfl) (by kernel_rfl) (by kernel_rfl) (by kernel_rfl)) ?_
  intro W base args ds gs before hval0 hW hcnd _
  have hval : ∀ (j : Nat) t v, Try.f9.params[j]? = some t → args[j]? = some v → Value.okWide Try.prog W .any base t v := hval0
  have hW' := hW
  obtain ⟨p, q, hA0, hV, rfl, hfz, hnd⟩ := hW
  have hA : DataW.TrodAll enc Try.prog W 0 (fun _ => true) true Try.f9.params.toList args.toList ds p := hA0
  rw [Try.params9] at hA hval
  obtain ⟨v0, vs0, d0, ds0, p0, q0, hargs, rfl, rfl, h0, r0⟩ := trodAll_cons hA
  obtain ⟨v1, vs1, d1, ds1, p1, q1, rfl, rfl, rfl, h1, r1⟩ := trodAll_cons r0
  obtain ⟨rfl, rfl, rfl⟩ := trodAll_nil r1
  obtain rfl : args = #[v0, v1] := by cases args; simp_all
  obtain ⟨rfl, rfl⟩ := trodVars_none hV
  have k0 := h0
  have lt0 : ∀ x ∈ p0, x.block < W.heap.size := by obtain ⟨m, hm⟩ := k0; exact DataW.trod_lt m _ _ _ hm
  have k1 := h1
  have lt1 : ∀ x ∈ p1, x.block < W.heap.size := by obtain ⟨m, hm⟩ := k1; exact DataW.trod_lt m _ _ _ hm
  obtain ⟨c0, c1, y0, y1, m, rfl, -, -, hy0, hy1⟩ := Joins.open_agg2 Try.underlying44 (by kernel_rfl) cells_laws (hval 0 44 v0 rfl rfl) h0
  obtain ⟨x, e0, -, -⟩ := DataW.trod_int Try.underlying3 hy0
  obtain ⟨fo, f, fc, rfl, hf, hn⟩ := ints_of_trod hy1
  simp at e0
  subst e0
  obtain ⟨ao1, ac1, a1, ha1, hk1, rfl⟩ : ∃ ao ac a, IntsAt W ao a ∧ a.length ≤ 9223372036854775807 ∧ v1 = .slice ao a.length ac := by
    obtain ⟨p, n, c, rfl⟩ := okWide_slice Try.underlying22 (hval 1 22 v1 rfl rfl)
    obtain ⟨fuel, hfu⟩ := h1
    obtain ⟨ao, a, ac, e, h1, h2⟩ := ints_of_trod hfu
    exact ⟨ao, ac, a, h1, h2, e⟩
  clear hA0 hval0
  refine (law_any x f fc fo a1 ac1 ao1 W hf hn ha1 hk1).mono fun e W' ⟨he, bel⟩ => ?_
  subst he
  exact ⟨_, rfl, _, _, _, [], _, [], hW', trodAll_mk1 (shut_bool Try.underlying4 _), (trodAll_cons_mk (Below.trod laidOut (by kernel_rfl) (of_decide_eq_true (by kernel_rfl)) k0 bel lt0) (trodAll_cons_mk (Below.trod laidOut (by kernel_rfl) (of_decide_eq_true (by kernel_rfl)) k1 bel lt1) trodAll_mk0)), rfl, bel.frame _, fun h => by cases h⟩

theorem holds : Rows.FnExactWidthOfOrderSaid :=
  OpenClaim.holds_of_wide 9 Try.f9 rfl rfl rfl rfl rfl rfl rfl ⟨rfl, rfl, rfl, rfl, rfl⟩ rfl rfl rfl rfl rfl (by kernel_rfl) Try.func9 (by kernel_rfl)
    (of_decide_eq_true (by kernel_rfl)) (by unfold Func.isWrapper; first | (rw [if_pos (by decide +kernel)]; kernel_rfl) | (rw [if_neg (by decide +kernel)]; exact ⟨rfl, rfl⟩))
    (fun os started H enc _ => lifted os started H enc)
#print axioms holds

end Go.Proofs.Ytdbaflimcbidjaa.lawWidthOfOrder
