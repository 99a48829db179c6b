/-
  flip of the program, where the edge is missing: it is laid. The graph is right.
-/
import Derived.Test.YtfjljfjnooieoaaAddE
namespace Go.Proofs.Ytfjljfjnooieoaa
open Go.RowKit

theorem xor_pow {a k : Nat} (ha : a < 128) (hk : k ≤ 6) (h : a.testBit k = false) : bits .xor .i64 (a : Int) (pwN k) = ((a + 2 ^ k : Nat) : Int) := by
  have hp : 2 ^ k ≤ 2 ^ 6 := Nat.pow_le_pow_right (by decide) hk
  have hd : a &&& 2 ^ k = 0 := by
    apply Nat.eq_of_testBit_eq
    intro j
    rw [Nat.testBit_and, Nat.testBit_two_pow, Nat.zero_testBit]
    by_cases e : k = j
    · subst e; rw [h]; rfl
    · rw [decide_eq_false e, Bool.and_false]
  rw [pwN_small k (by omega), bits_xor_nat _ _ (by omega) (by omega), add_disj (by omega) (by omega) hd]
  congr 1
  apply Nat.eq_of_testBit_eq
  intro j
  rw [Nat.testBit_xor, Nat.testBit_or, Nat.testBit_two_pow]
  by_cases e : k = j
  · subst e; rw [h]; simp
  · rw [decide_eq_false e]; simp

set_option maxRecDepth 100000 in
set_option maxHeartbeats 1000000 in
theorem flip_any (ys : List Int) (a b g1 cap N : Nat) (w : World) (hN : ys.length = N) (hR : RowAt w g1 cap ys) (g : VG ys) (ha : a < N) (hb : b < N) (hab : a ≠ b) (he : eb ys a b = false) :
    Calls Try.prog 41 #[.agg #[.int .i64 N, .slice (some ⟨g1, 0, none⟩) N cap], .int .i64 a, .int .i64 b] w fun e w' => e = .returned (.tuple #[]) ∧ Only (fun x => x = g1) w.heap.size w w' ∧ RowAt w' g1 cap (addE ys a b) := by
  subst hN
  have HS := Lib.hid (addE_set g ha hb hab he)
  have he2 := he
  rw [eb_sym g ha hb] at he2
  have hga := g.lt128 ha
  have hgb := g.lt128 hb
  have hl7 := g.le
  have HX1 := Lib.hid (xor_pow hga (k := b) (by omega) he)
  have HX2 := Lib.hid (xor_pow hgb (k := a) (by omega) he2)
  have z1 := hR.cell a ha
  rw [g.row a ha] at z1
  have z2 := hR.frozen a
  have zl := hR.lt
  have x4 : gi (ys.set a ((gn ys a + 2 ^ b : Nat) : Int)) b = (gn ys b : Int) := by rw [← g.row b hb]; simp [gi, hab]
  clear he he2
  go_enter Try.func41, Try.ntmps41
  go_wp2_with fail
  generalize hW : World.alloc _ _ = W1
  obtain ⟨hB, -, k0⟩ := alloc1 hW
  replace z1 := (hB.cell (p := ⟨g1, a, none⟩) zl).trans z1
  replace z2 := (hB.frozen (p := ⟨g1, a, none⟩) zl).trans z2
  have hR1 := hR.below hB
  have hb0 := k0.lt
  have hc1 := k0.cell 1
  simp at hc1
  have hl1 := hR1.lt
  clear hW
  have HhB := Lib.hid hB
  clear hB
  have HhR1 := Lib.hid hR1
  clear hR1
  have HhR := Lib.hid hR
  clear hR
  have Hx4 := Lib.hid x4
  clear x4
  have Hk0 := Lib.hid k0
  clear k0
  obtain ⟨m, hm0⟩ : ∃ m : Later W1, m.w = W1 := ⟨Later.refl _, rfl⟩
  refine (fun h => hm0 ▸ h) ?_
  clear hm0
  go_wp2_with fail
  go_still_tail 8, (by kernel_rfl)
  refine wpList_drew_on m fun m => ?_
  go_wp2_with fail
  generalize hW3 : World.setCell _ _ _ = W3
  rw [HX1.out] at hW3
  have hO3 : Only (fun x => x = g1) W1.heap.size W1 W3 := hW3 ▸ (Only.of (X := fun x => x = g1) m.below).setCell (p := ⟨g1, a, none⟩) (.inl rfl) _
  have hR3 : RowAt W3 g1 cap (ys.set a ((gn ys a + 2 ^ b : Nat) : Int)) := hW3 ▸ (HhR1.out.below m.below).store a _
  have hne : ¬ w.heap.size = g1 := by omega
  have x1 := (hO3.cell (p := ⟨w.heap.size, 1, none⟩) hb0 hne).trans hc1
  have x2 := hR3.frozen b
  have x3 := hR3.cell b (by simpa using hb)
  rw [Hx4.out] at x3
  have b1 := Nat.lt_of_lt_of_le hb0 hO3.size
  have b2 := hR3.lt
  clear hW3 z1 z2 hc1 hb0 hl1 m
  have HhR3 := Lib.hid hR3
  clear hR3
  have HhO3 := Lib.hid hO3
  clear hO3
  obtain ⟨m, hm0⟩ : ∃ m : Later W3, m.w = W3 := ⟨Later.refl _, rfl⟩
  refine (fun h => hm0 ▸ h) ?_
  clear hm0
  go_wp2_with fail
  go_still_tail 8, (by kernel_rfl)
  refine wpList_drew_on m fun m => ?_
  go_wp2_with fail
  go_end0
  rw [HX2.out]
  refine ⟨rfl, ?_, ?_⟩
  · exact (((Only.of (X := fun x => x = g1) HhB.out).trans (HhO3.out.mono HhB.out.size fun b _ h => h)).more m.below (Nat.le_trans HhB.out.size HhO3.out.size)).setCell (p := ⟨g1, b, none⟩) (.inl rfl) _
  · rw [← HS.out]; exact (HhR3.out.below m.below).store b _

end Go.Proofs.Ytfjljfjnooieoaa
