/-
  FnExactBestBand: for every input the law returns true, and its arguments read as they did. No conditions.
-/
import Derived.Test.YtdbaflimcbidjaaConvGraph
import Derived.Test.YtdbaflimcbidjaaMark
import Derived.Test.YtdbaflimcbidjaaBestBandS
import Derived.Test.YtdbaflimcbidjaaBandP
import Derived.Test.YtdbaflimcbidjaaOpen
import Derived.Deep.RegionHeld3
namespace Go.Proofs.Ytdbaflimcbidjaa.lawBestBand
open Go.Proofs.Ytdbaflimcbidjaa Go.RowKit

set_option maxRecDepth 100000 in
set_option maxHeartbeats 2000000 in
theorem law_any (x : Int) (f : List Int) (fc : Nat) (fo : Option Addr) (w : World) (hf : IntsAt w fo f) (hn : f.length ≤ 9223372036854775807) :
    Calls Try.prog 6 #[.agg #[.int .i64 x, .slice fo f.length fc]] w fun e w' => e = .returned (.bool true) ∧ Below w.heap.size w w' := by
  by_cases hsz : 1048576 < f.length
  · have hs : szOne f.length = -1 := by unfold szOne; rw [if_pos hsz]
    go_enter Try.func6, Try.ntmps6
    go_wp2_with fail
    generalize hW : w.alloc _ = W1
    obtain ⟨hB, -, k0⟩ := alloc1 hW
    replace hf := hf.below hB
    have hb0 := k0.lt
    have hc0 := k0.cell 0
    have hc1 := k0.cell 1
    simp at hc0 hc1
    clear hW k0
    have HhB := Lib.hid hB
    clear hB
    obtain ⟨m, hm0⟩ : ∃ m : Later W1, m.w = W1 := ⟨Later.refl _, rfl⟩
    refine (fun h => hm0 ▸ h) ?_
    clear hm0
    refine (Calls.later m (szGraph_any _ _ _ _ (by omega) _)).mono ?_
    rintro e w' ⟨rfl, m, rfl⟩
    go_wp2_with fail
    go_ret
    exact ⟨rfl, below_later HhB.out m⟩
  have hs : (szOne f.length < 0) = False := by unfold szOne; rw [if_neg hsz]; simp; omega
  replace hn : f.length ≤ 1048576 := by omega
  clear hsz
  have hS := fun (ao : Option Addr) (c : Nat) (w : World) (h : IntsAt w ao f) => specBestBand_any x f ao c w h hn
  have hM := fun (ao : Option Addr) (c : Nat) (w : World) (h : IntsAt w ao f) => implBestBand_any x f ao c w h hn
  have hlen := bestBandV_len x f
  generalize bestBandV x f = O at hS hM hlen
  have hr1 := sameInts_refl (O.getD [])
  have HhS := Lib.hid hS
  clear hS
  have HhM := Lib.hid hM
  clear hM
  replace hf := hf.upto
  go_enter Try.func6, Try.ntmps6
  go_wp2_with fail
  generalize hW : w.alloc _ = W1
  obtain ⟨hB, -, k0⟩ := alloc1 hW
  replace hf := hf.below hB (Nat.le_refl _)
  have hb0 := k0.lt
  have hc0 := k0.cell 0
  have hc1 := k0.cell 1
  simp at hc0 hc1
  clear hW k0
  have HhB := Lib.hid hB
  clear hB
  obtain ⟨m, hm0⟩ : ∃ m : Later W1, m.w = W1 := ⟨Later.refl _, rfl⟩
  refine (fun h => hm0 ▸ h) ?_
  clear hm0
  refine (Calls.later m (szGraph_any _ _ _ _ (by omega) _)).mono ?_
  rintro e w' ⟨rfl, m, rfl⟩
  go_wp2_with fail
  refine (toGraph_any _ _ _ _ _ (hf.later m).ints hn).mono ?_
  rintro e w2 ⟨b1, rfl, hB2, -, hO1⟩
  obtain ⟨m, rfl⟩ : ∃ m2 : Later W1, m2.w = w2 := ⟨m.on hB2, rfl⟩
  clear hB2
  go_wp2_with fail
  refine (HhS.out _ _ _ hO1.ints).mono ?_
  rintro e w2 ⟨aw, cw, rfl, hB2, hI⟩
  obtain ⟨m, rfl⟩ : ∃ m2 : Later W1, m2.w = w2 := ⟨m.on hB2, rfl⟩
  clear hB2 hO1
  replace hI := hI.upto
  go_wp2_with fail
  refine (toGraph_any _ _ _ _ _ (hf.later m).ints hn).mono ?_
  rintro e w2 ⟨b1, rfl, hB2, hb1, hO1⟩
  replace hI := (hI.below hB2 (Nat.le_refl _)).mono hb1
  have hb2 : w.heap.size < b1 := Nat.lt_of_lt_of_le hb0 (Nat.le_trans m.size hb1)
  obtain ⟨m, rfl⟩ : ∃ m2 : Later W1, m2.w = w2 := ⟨m.on hB2, rfl⟩
  clear hB2 hb1
  go_wp2_with fail
  generalize hW2 : m.w.alloc _ = W2
  obtain ⟨hB2, -, k1⟩ := alloc1 hW2
  have hlt := hO1.lt
  replace hf := (hf.later m).below hB2 (Nat.le_of_lt (Nat.lt_trans hb2 hlt))
  replace hI := hI.below hB2 (Nat.le_of_lt hlt)
  replace hO1 := hO1.below hB2 hlt
  have hBB := below_later HhB.out m
  have hlt0 : w.heap.size < m.w.heap.size := Nat.lt_of_lt_of_le hb0 m.size
  replace hc0 : W2.cell? ⟨w.heap.size, 0, none⟩ = _ := (hB2.cell hlt0).trans ((m.cell _ _ hb0).trans hc0)
  replace hc1 : W2.cell? ⟨w.heap.size, 1, none⟩ = _ := (hB2.cell hlt0).trans ((m.cell _ _ hb0).trans hc1)
  replace hb0 := Nat.lt_of_lt_of_le hlt0 hB2.size
  have hx0 := k1.lt
  have hd0 := k1.cell 0
  have hd1 := k1.cell 1
  simp at hd0 hd1
  replace HhB := Lib.hid (hBB.trans (hB2.mono (Nat.le_of_lt hlt0)))
  clear hBB hB2 hlt0 hW2 k1
  generalize m.w.heap.size = B2 at *
  clear m
  obtain ⟨m, hm0⟩ : ∃ m : Later W2, m.w = W2 := ⟨Later.refl _, rfl⟩
  refine (fun h => hm0 ▸ h) ?_
  clear hm0
  refine (HhM.out _ _ _ (hO1.later m).ints).mono ?_
  rintro e w3 ⟨ao, cap, rfl, hB3, hE⟩
  replace hE := hE.mono' m.size
  replace hB3 := below_more m.below hB3
  clear m
  replace hf := hf.below hB3 (Nat.le_of_lt (Nat.lt_of_lt_of_le hb2 (Nat.le_of_lt (Nat.lt_trans hlt hx0))))
  replace hI := hI.below hB3 (Nat.le_of_lt (Nat.lt_trans hlt hx0))
  replace hO1 := hO1.below hB3 hO1.lt
  replace hc0 := (hB3.cell (p := ⟨w.heap.size, 0, none⟩) hb0).trans hc0
  replace hd0 := (hB3.cell (p := ⟨B2, 0, none⟩) hx0).trans hd0
  replace hc1 := (hB3.cell (p := ⟨w.heap.size, 1, none⟩) hb0).trans hc1
  replace hd1 := (hB3.cell (p := ⟨B2, 1, none⟩) hx0).trans hd1
  have hBs : b1 < W2.heap.size := Nat.lt_trans hlt hx0
  have hBw : w.heap.size < W2.heap.size := hb0
  have hBx : B2 ≠ b1 := by omega
  replace hb0 := Nat.lt_of_lt_of_le hb0 hB3.size
  replace hx0 := Nat.lt_of_lt_of_le hx0 hB3.size
  have hB3s := hB3.size
  replace HhB := Lib.hid (below_more' HhB.out hB3)
  clear hB3
  generalize W2.heap.size = BE at *
  obtain ⟨m, hm0⟩ : ∃ m : Later w3, m.w = w3 := ⟨Later.refl _, rfl⟩
  refine (fun h => hm0 ▸ h) ?_
  clear hm0
  go_wp2_with fail
  refine (Calls.later m (eqIntS_any _ _ _ _ _ _ _ (hE.later m).ints (hI.later m).ints (by omega) (by omega))).mono ?_
  rintro e w' ⟨rfl, m, rfl⟩
  go_wp2_with fail
  have hSS : ∀ w', Below w3.heap.size w3 w' → Below w3.heap.size w3 w' ∧ w'.cell? ⟨w.heap.size, 0, none⟩ = some (.int .i64 x) ∧ w'.cell? ⟨w.heap.size, 1, none⟩ = some (.slice fo f.length fc) ∧ w'.cell? ⟨B2, 0, none⟩ = some (.int .i64 x) ∧ w'.cell? ⟨B2, 1, none⟩ = some (.slice (some ⟨b1, 0, none⟩) f.length f.length) := fun w' h =>
    ⟨h, (h.cell hb0).trans hc0, (h.cell hb0).trans hc1, (h.cell hx0).trans hd0, (h.cell hx0).trans hd1⟩
  go_region_held3 (fun w' => Below w3.heap.size w3 w' ∧ w'.cell? ⟨w.heap.size, 0, none⟩ = some (.int .i64 x) ∧ w'.cell? ⟨w.heap.size, 1, none⟩ = some (.slice fo f.length fc) ∧ w'.cell? ⟨B2, 0, none⟩ = some (.int .i64 x) ∧ w'.cell? ⟨B2, 1, none⟩ = some (.slice (some ⟨b1, 0, none⟩) f.length f.length))
    (exact hSS _ (by first | exact m.below.drew | assumption))
    (first
      | (go_at_call 28; go_must (refine (toGraph_any _ _ _ _ _ (hf.ints.below (And.left (by assumption : Below w3.heap.size w3 _ ∧ _))) hn).mono ?_); rintro e w4 ⟨b3, rfl, hB4, -, hO3⟩; have hB5 := below_more (And.left (by assumption : Below w3.heap.size w3 _ ∧ _)) hB4)
      | (go_at_call 23; go_must (refine (eqGraph_same _ _ _ _ _ _ _ (hO1.below hB5 hO1.lt).ints hO3.ints hn).mono ?_); rintro e w5 ⟨rfl, hB6⟩; have hB7 := below_more hB5 hB6))
  replace hf := hf.below hB7 (Nat.le_of_lt hb0)
  replace hI := hI.below hB7 (Nat.le_of_lt hO1.lt)
  replace hE := hE.below hB7
  replace hO1 := hO1.below hB7 hO1.lt
  replace hc0 := (hB7.cell (p := ⟨w.heap.size, 0, none⟩) hb0).trans hc0
  replace hd0 := (hB7.cell (p := ⟨B2, 0, none⟩) hx0).trans hd0
  replace hc1 := (hB7.cell (p := ⟨w.heap.size, 1, none⟩) hb0).trans hc1
  replace hd1 := (hB7.cell (p := ⟨B2, 1, none⟩) hx0).trans hd1
  replace hb0 := Nat.lt_of_lt_of_le hb0 hB7.size
  replace hx0 := Nat.lt_of_lt_of_le hx0 hB7.size
  replace hB3s := Nat.le_trans hB3s hB7.size
  replace HhB := Lib.hid (below_more' HhB.out hB7)
  clear hSS hB7 hB6 hB5 hB4 hO3
  go_wp2_with fail
  refine (markGraph_any x f b1 w5 hO1 hn).mono ?_
  rintro e w6 ⟨rfl, hO6⟩
  replace hf := hf.only hO6 (fun b hb e => by omega)
  replace hI := hI.only hO6 (fun b hb e => by omega)
  replace hE := hE.onlyOne hO6 hBs
  replace hc0 := (hO6.cell (p := ⟨w.heap.size, 0, none⟩) hb0 (fun e => by have e2 : w.heap.size = b1 := e; omega)).trans hc0
  replace hc1 := (hO6.cell (p := ⟨w.heap.size, 1, none⟩) hb0 (fun e => by have e2 : w.heap.size = b1 := e; omega)).trans hc1
  replace HhB := Lib.hid (HhB.out.trans (hO6.below (Nat.le_of_lt hb0) (fun b hb e => by omega)))
  replace hb0 := Nat.lt_of_lt_of_le hb0 hO6.size
  replace hB3s := Nat.le_trans hB3s hO6.size
  clear hO6 hO1 hd0 hd1 hx0
  obtain ⟨m, hm0⟩ : ∃ m : Later w6, m.w = w6 := ⟨Later.refl _, rfl⟩
  refine (fun h => hm0 ▸ h) ?_
  clear hm0
  go_wp2_with fail
  refine (Calls.later m (eqIntS_any _ _ _ _ _ _ _ (hE.later m).ints (hI.later m).ints (by omega) (by omega))).mono ?_
  rintro e w' ⟨rfl, m, rfl⟩
  go_wp2_with fail
  refine (markE_any BE cap ao (O.getD []) m.w (hE.later m) (Nat.le_trans hB3s m.size) hlen).mono ?_
  rintro e w7 ⟨rfl, hMk, hB8⟩
  replace hf := (hf.later m).below hB8 (Nat.le_of_lt hBw)
  replace hI := (hI.later m).below hB8 (Nat.le_of_lt hBs)
  replace hc0 := (hB8.cell (p := ⟨w.heap.size, 0, none⟩) hBw).trans ((m.cell _ _ hb0).trans hc0)
  replace hc1 := (hB8.cell (p := ⟨w.heap.size, 1, none⟩) hBw).trans ((m.cell _ _ hb0).trans hc1)
  replace HhB := Lib.hid ((below_later HhB.out m).trans (hB8.mono (Nat.le_of_lt hBw)))
  replace hb0 := Nat.lt_of_lt_of_le hb0 (Nat.le_trans m.size hB8.size)
  clear hE hB8 hB3s
  clear m
  obtain ⟨m, hm0⟩ : ∃ m : Later w7, m.w = w7 := ⟨Later.refl _, rfl⟩
  refine (fun h => hm0 ▸ h) ?_
  clear hm0
  go_wp2_with fail
  refine (held_any _ _ _ _ (hMk.later m) hlen).mono ?_
  rintro e w' ⟨rfl, rfl⟩
  go_wp2_with fail
  refine (toGraph_any _ _ _ _ _ (hf.later m).ints hn).mono ?_
  rintro e w2 ⟨b4, rfl, hB2, -, hO1⟩
  obtain ⟨m, rfl⟩ : ∃ m2 : Later w7, m2.w = w2 := ⟨m.on hB2, rfl⟩
  clear hB2
  go_wp2_with fail
  refine (HhM.out _ _ _ hO1.ints).mono ?_
  rintro e w2 ⟨ah, ch, rfl, hB2, hE⟩
  obtain ⟨m, rfl⟩ : ∃ m2 : Later w7, m2.w = w2 := ⟨m.on hB2, rfl⟩
  clear hB2 hO1
  go_wp2_with fail
  refine (Calls.later m (eqIntS_any _ _ _ _ _ _ _ hE.ints (hI.later m).ints (by omega) (by omega))).mono ?_
  rintro e w' ⟨rfl, m, rfl⟩
  go_wp2_with fail
  refine (held_any _ _ _ _ (hMk.later m) hlen).mono ?_
  rintro e w' ⟨rfl, rfl⟩
  go_wp2_with fail
  go_ret
  exact ⟨rfl, below_later HhB.out m⟩

open Go.ChangeShapes Go.WideShapes Go.ChangeAt
theorem cells_laws : Try.prog.cellsOf 44 = 2 := by kernel_rfl

set_option maxRecDepth 100000 in
theorem lifted (os : Os) (started : os.Started) (H : Type) (enc : TypeId × Value → H) :
    ReturnsInHanded {} Try.checked os 6 .any (Rows.fnExactBestBandSpec.pre6 enc Try.prog Try.f6 Rows.fnExactBestBandRow.domain false) (Rows.fnExactBestBandSpec.post enc Try.prog Try.f6 false true false false) := by
  refine returnsInHanded_of_change (C := Try.checked) own started (by kernel_rfl) Try.func6
    (ChangeSpec.witness6 (enc := enc) (C := Try.checked) false ⟨#[], #[.agg #[.int .i64 0, .slice none 0 0]], []⟩ 8 (by kernel_rfl) (by kernel_rfl) (by kernel_rfl) (by kernel_rfl)) ?_
  intro W base args ds gs before hval0 hW hcnd _
  have hval : ∀ (j : Nat) t v, Try.f6.params[j]? = some t → args[j]? = some v → Value.okWide Try.prog W .any base t v := hval0
  have hW' := hW
  obtain ⟨p, q, hA0, hV, rfl, hfz, hnd⟩ := hW
  have hA : DataW.TrodAll enc Try.prog W 0 (fun _ => true) true Try.f6.params.toList args.toList ds p := hA0
  rw [Try.params6] at hA hval
  obtain ⟨v0, vs0, d0, ds0, p0, q0, hargs, rfl, rfl, h0, r0⟩ := trodAll_cons hA
  obtain ⟨rfl, rfl, rfl⟩ := trodAll_nil r0
  obtain rfl : args = #[v0] := by cases args; simp_all
  obtain ⟨rfl, rfl⟩ := trodVars_none hV
  have k0 := h0
  have lt0 : ∀ x ∈ p0, x.block < W.heap.size := by obtain ⟨m, hm⟩ := k0; exact DataW.trod_lt m _ _ _ hm
  obtain ⟨c0, c1, y0, y1, m, rfl, -, -, hy0, hy1⟩ := Joins.open_agg2 Try.underlying44 (by kernel_rfl) cells_laws (hval 0 44 v0 rfl rfl) h0
  obtain ⟨x, e0, -, -⟩ := DataW.trod_int Try.underlying3 hy0
  obtain ⟨fo, f, fc, rfl, hf, hn⟩ := ints_of_trod hy1
  simp at e0
  subst e0
  clear hA0 hval0
  refine (law_any x f fc fo W hf hn).mono fun e W' ⟨he, bel⟩ => ?_
  subst he
  exact ⟨_, rfl, _, _, _, [], _, [], hW', trodAll_mk1 (shut_bool Try.underlying4 _), (trodAll_cons_mk (Below.trod laidOut (by kernel_rfl) (of_decide_eq_true (by kernel_rfl)) k0 bel lt0) trodAll_mk0), rfl, bel.frame _, fun h => by cases h⟩

theorem holds : Rows.FnExactBestBandSaid :=
  OpenClaim.holds_of_wide 6 Try.f6 rfl rfl rfl rfl rfl rfl rfl ⟨rfl, rfl, rfl, rfl, rfl⟩ rfl rfl rfl rfl rfl (by kernel_rfl) Try.func6 (by kernel_rfl)
    (of_decide_eq_true (by kernel_rfl)) (by unfold Func.isWrapper; first | (rw [if_pos (by decide +kernel)]; kernel_rfl) | (rw [if_neg (by decide +kernel)]; exact ⟨rfl, rfl⟩))
    (fun os started H enc _ => lifted os started H enc)
#print axioms holds

end Go.Proofs.Ytdbaflimcbidjaa.lawBestBand
