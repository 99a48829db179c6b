/-
  flip of the program, where the edge is missing: it is laid. The graph is right.
  graphOf of the program, for whatever test of two vertices: the graph of the pairs that pass. For 1 to 7 vertices.
-/
import Derived.Test.YtfkehmpckhmkbaaDoorPkCardArcs11
namespace Go.Proofs.YtfkehmpckhmkbaaDoor
open Go.RowKit

theorem xor_pow {a k : Nat} (ha : a < 128) (hk : k ≤ 6) (h : a.testBit k = false) : bits .xor .i64 (a : Int) (pwN k) = ((a + 2 ^ k : Nat) : Int) := by
  have hp : 2 ^ k ≤ 2 ^ 6 := Nat.pow_le_pow_right (by decide) hk
  have hd : a &&& 2 ^ k = 0 := by
    apply Nat.eq_of_testBit_eq
    intro j
    rw [Nat.testBit_and, Nat.testBit_two_pow, Nat.zero_testBit]
    by_cases e : k = j
    · subst e; rw [h]; rfl
    · rw [decide_eq_false e, Bool.and_false]
  rw [pwN_small k (by omega), bits_xor_nat _ _ (by omega) (by omega), add_disj (by omega) (by omega) hd]
  congr 1
  apply Nat.eq_of_testBit_eq
  intro j
  rw [Nat.testBit_xor, Nat.testBit_or, Nat.testBit_two_pow]
  by_cases e : k = j
  · subst e; rw [h]; simp
  · rw [decide_eq_false e]; simp

set_option maxRecDepth 100000 in
set_option maxHeartbeats 1000000 in
theorem flip_any (ys : List Int) (a b g1 cap N : Nat) (w : World) (hN : ys.length = N) (hR : RowAt w g1 cap ys) (g : VG ys) (ha : a < N) (hb : b < N) (hab : a ≠ b) (he : eb ys a b = false) :
    Calls Tryd.prog 45 #[.agg #[.int .i64 N, .slice (some ⟨g1, 0, none⟩) N cap], .int .i64 a, .int .i64 b] w fun e w' => e = .returned (.tuple #[]) ∧ Only (fun x => x = g1) w.heap.size w w' ∧ RowAt w' g1 cap (addE ys a b) := by
  subst hN
  have HS := Lib.hid (addE_set g ha hb hab he)
  have he2 := he
  rw [eb_sym g ha hb] at he2
  have hga := g.lt128 ha
  have hgb := g.lt128 hb
  have hl7 := g.le
  have HX1 := Lib.hid (xor_pow hga (k := b) (by omega) he)
  have HX2 := Lib.hid (xor_pow hgb (k := a) (by omega) he2)
  have z1 := hR.cell a ha
  rw [g.row a ha] at z1
  have z2 := hR.frozen a
  have zl := hR.lt
  have x4 : gi (ys.set a ((gn ys a + 2 ^ b : Nat) : Int)) b = (gn ys b : Int) := by rw [← g.row b hb]; simp [gi, hab]
  clear he he2
  go_enter Tryd.func45, Tryd.ntmps45
  go_wp2_with fail
  generalize hW : World.alloc _ _ = W1
  obtain ⟨hB, -, k0⟩ := alloc1 hW
  replace z1 := (hB.cell (p := ⟨g1, a, none⟩) zl).trans z1
  replace z2 := (hB.frozen (p := ⟨g1, a, none⟩) zl).trans z2
  have hR1 := hR.below hB
  have hb0 := k0.lt
  have hc1 := k0.cell 1
  simp at hc1
  have hl1 := hR1.lt
  clear hW
  have HhB := Lib.hid hB
  clear hB
  have HhR1 := Lib.hid hR1
  clear hR1
  have HhR := Lib.hid hR
  clear hR
  have Hx4 := Lib.hid x4
  clear x4
  have Hk0 := Lib.hid k0
  clear k0
  obtain ⟨m, hm0⟩ : ∃ m : Later W1, m.w = W1 := ⟨Later.refl _, rfl⟩
  refine (fun h => hm0 ▸ h) ?_
  clear hm0
  go_wp2_with fail
  go_still_tail 8, (by kernel_rfl)
  refine wpList_drew_on m fun m => ?_
  go_wp2_with fail
  generalize hW3 : World.setCell _ _ _ = W3
  rw [HX1.out] at hW3
  have hO3 : Only (fun x => x = g1) W1.heap.size W1 W3 := hW3 ▸ (Only.of (X := fun x => x = g1) m.below).setCell (p := ⟨g1, a, none⟩) (.inl rfl) _
  have hR3 : RowAt W3 g1 cap (ys.set a ((gn ys a + 2 ^ b : Nat) : Int)) := hW3 ▸ (HhR1.out.below m.below).store a _
  have hne : ¬ w.heap.size = g1 := by omega
  have x1 := (hO3.cell (p := ⟨w.heap.size, 1, none⟩) hb0 hne).trans hc1
  have x2 := hR3.frozen b
  have x3 := hR3.cell b (by simpa using hb)
  rw [Hx4.out] at x3
  have b1 := Nat.lt_of_lt_of_le hb0 hO3.size
  have b2 := hR3.lt
  clear hW3 z1 z2 hc1 hb0 hl1 m
  have HhR3 := Lib.hid hR3
  clear hR3
  have HhO3 := Lib.hid hO3
  clear hO3
  obtain ⟨m, hm0⟩ : ∃ m : Later W3, m.w = W3 := ⟨Later.refl _, rfl⟩
  refine (fun h => hm0 ▸ h) ?_
  clear hm0
  go_wp2_with fail
  go_still_tail 8, (by kernel_rfl)
  refine wpList_drew_on m fun m => ?_
  go_wp2_with fail
  go_end0
  rw [HX2.out]
  refine ⟨rfl, ?_, ?_⟩
  · exact (((Only.of (X := fun x => x = g1) HhB.out).trans (HhO3.out.mono HhB.out.size fun b _ h => h)).more m.below (Nat.le_trans HhB.out.size HhO3.out.size)).setCell (p := ⟨g1, b, none⟩) (.inl rfl) _
  · rw [← HS.out]; exact (HhR3.out.below m.below).store b _

end Go.Proofs.YtfkehmpckhmkbaaDoor

namespace Go.Proofs.YtfkehmpckhmkbaaDoor
open Go.RowKit

/-- Is the pair of i and j, the lesser first, one that passes? -/
def gE (p : Nat → Nat → Bool) (i j : Nat) : Bool := (decide (i < j) && p i j) || (decide (j < i) && p j i)
/-- Has the pair of i and j come up before w and v, w below v? -/
def gDone (v w i j : Nat) : Bool := decide (max i j < v ∨ (max i j = v ∧ min i j < w))
def gPart (N : Nat) (p : Nat → Nat → Bool) (v w : Nat) : List Int := rowsOf N fun i j => gE p i j && gDone v w i j
def gOf (N : Nat) (p : Nat → Nat → Bool) : List Int := rowsOf N (gE p)
theorem gPart_len (N : Nat) (p : Nat → Nat → Bool) (v w : Nat) : (gPart N p v w).length = N := rowsOf_len _ _
theorem gE_sym (p : Nat → Nat → Bool) (i j : Nat) : gE p i j = gE p j i := by unfold gE; rw [Bool.or_comm]
theorem gDone_sym (v w i j : Nat) : gDone v w i j = gDone v w j i := by unfold gDone; rw [Nat.max_comm, Nat.min_comm]
theorem gE_irr (p : Nat → Nat → Bool) (i : Nat) : gE p i i = false := by simp [gE]
theorem gPart_VG {N : Nat} {p : Nat → Nat → Bool} {v w : Nat} (h1 : 1 ≤ N) (h7 : N ≤ 7) : VG (gPart N p v w) :=
  rowsOf_VG h1 h7 (fun i _ => by rw [gE_irr]; rfl) (fun i _ j _ => by rw [gE_sym, gDone_sym])
theorem gOf_VG {N : Nat} {p : Nat → Nat → Bool} (h1 : 1 ≤ N) (h7 : N ≤ 7) : VG (gOf N p) := rowsOf_VG h1 h7 (fun i _ => gE_irr p i) (fun i _ j _ => gE_sym p i j)
theorem gOf_len (N : Nat) (p : Nat → Nat → Bool) : (gOf N p).length = N := rowsOf_len _ _
theorem gPart_zero (N : Nat) (p : Nat → Nat → Bool) : gPart N p 0 0 = List.replicate N 0 := by
  refine gi_ext (by rw [gPart_len, List.length_replicate]) fun i hi => ?_
  rw [gPart_len] at hi
  unfold gPart
  rw [rowsOf_at hi]
  have : accB (fun j => gE p i j && gDone 0 0 i j) N = 0 := by
    apply Nat.eq_of_testBit_eq
    intro j
    rw [accB_bit, Nat.zero_testBit]
    simp [gDone]
  rw [this]; simp [gi, hi]
theorem gPart_next (N : Nat) (p : Nat → Nat → Bool) (v : Nat) : gPart N p v v = gPart N p (v + 1) 0 := by
  apply rowsOf_congr
  intro i _ j _
  by_cases e : i = j
  · subst e; rw [gE_irr]; rfl
  · congr 1
    unfold gDone
    rw [Bool.eq_iff_iff]; simp only [decide_eq_true_eq]; omega
theorem gPart_end (N : Nat) (p : Nat → Nat → Bool) : gPart N p N 0 = gOf N p := by
  apply rowsOf_congr
  intro i hi j hj
  unfold gDone
  rw [decide_eq_true (by omega), Bool.and_true]
theorem gPart_no {N : Nat} {p : Nat → Nat → Bool} {v w : Nat} (hw : w < v) (h : p w v = false) : gPart N p v (w + 1) = gPart N p v w := by
  apply rowsOf_congr
  intro i _ j _
  by_cases e : (i = w ∧ j = v) ∨ (i = v ∧ j = w)
  · have : gE p i j = false := by
      rcases e with ⟨rfl, rfl⟩ | ⟨rfl, rfl⟩
      · unfold gE; rw [h, decide_eq_false (by omega : ¬ j < i)]; simp
      · unfold gE; rw [h, decide_eq_false (by omega : ¬ i < j)]; simp
    rw [this]; rfl
  · congr 1
    unfold gDone
    rw [Bool.eq_iff_iff]; simp only [decide_eq_true_eq]; omega
theorem gPart_yes {N : Nat} {p : Nat → Nat → Bool} {v w : Nat} (hw : w < v) (h : p w v = true) : gPart N p v (w + 1) = addE (gPart N p v w) w v := by
  unfold addE
  rw [gPart_len]
  apply rowsOf_congr
  intro i hi j hj
  rw [show eb (gPart N p v w) i j = _ from eb_rowsOf hi hj]
  by_cases e : (i = w ∧ j = v) ∨ (i = v ∧ j = w)
  · have h1 : isE w v i j = true := isE_true.2 e
    have h2 : gE p i j = true := by
      rcases e with ⟨rfl, rfl⟩ | ⟨rfl, rfl⟩
      · unfold gE; rw [h, decide_eq_true hw]; rfl
      · unfold gE; rw [h, decide_eq_true hw]; simp
    have h3 : gDone v (w + 1) i j = true := by unfold gDone; rw [decide_eq_true_eq]; omega
    rw [h1, h2, h3]; simp
  · have h1 : isE w v i j = false := by rw [Bool.eq_false_iff]; exact fun h => e (isE_true.1 h)
    rw [h1, Bool.or_false]
    congr 1
    unfold gDone
    rw [Bool.eq_iff_iff]; simp only [decide_eq_true_eq]; omega
theorem gPart_miss {N : Nat} {p : Nat → Nat → Bool} {v w : Nat} (hw : w < v) (hv : v < N) : eb (gPart N p v w) w v = false := by
  rw [show eb (gPart N p v w) w v = _ from eb_rowsOf (by omega) hv]
  unfold gDone
  rw [decide_eq_false (by omega), Bool.and_false]

/-- A function value that tells of two vertices whether the pair passes. -/
def PredOf (K : Nat) (caps : Array Value) (W : World) (N : Nat) (p : Nat → Nat → Bool) : Prop :=
  ∀ (v w : Nat) (w0 : World), w < v → v < N → Below W.heap.size W w0 → Calls Tryd.prog K (#[.int .i64 w, .int .i64 v] ++ caps) w0 fun e w' => e = .returned (.bool (p w v)) ∧ Below w0.heap.size w0 w'

set_option maxRecDepth 100000 in
set_option maxHeartbeats 2000000 in
theorem graphOf_any (N K : Nat) (caps : Array Value) (p : Nat → Nat → Bool) (w : World) (h1 : 1 ≤ N) (h7 : N ≤ 7) (hE : ∀ args w, Sem.run Tryd.prog (callFunc K args) w = .ok (.enter K args) w) (hP : PredOf K caps w N p) :
    Calls Tryd.prog 28 #[.int .i64 N, .func (.func K) #[] caps] w fun e w' => ∃ g1, e = .returned (.agg #[.int .i64 N, .slice (some ⟨g1, 0, none⟩) N N]) ∧ Below w.heap.size w w' ∧ w.heap.size ≤ g1 ∧ RowAt w' g1 N (gOf N p) := by
  have hmk := run_make_ints N (by omega)
  go_enter Tryd.func28, Tryd.ntmps28
  go_wp2_with fail
  clear hmk
  generalize hW : World.alloc _ _ = W1
  obtain ⟨hB, hs, k0, kY, k1⟩ := alloc3 hW
  have hR : RowAt W1 (w.heap.size + 1) N (gPart N p 0 0) := by
    rw [gPart_zero]
    have := RowAt.of (w := W1) (b := w.heap.size + 1) (xs := List.replicate N 0) kY (by simp; omega)
    simpa using this
  have oz := k1.lt
  have x0 := k1.cell 0
  have x1 := k1.cell 1
  simp at x0 x1
  have HMiss := Lib.hid (fun v w (hw : w < v) (hv : v < N) => gPart_miss (p := p) hw hv)
  have HYes := Lib.hid (fun v w (hw : w < v) h => gPart_yes (N := N) (p := p) (v := v) (w := w) hw h)
  have HNo := Lib.hid (fun v w (hw : w < v) h => gPart_no (N := N) (p := p) (v := v) (w := w) hw h)
  have HNx := Lib.hid (fun v => gPart_next N p v)
  have HEn := Lib.hid (gPart_end N p)
  have HLn := Lib.hid (fun v w => gPart_len N p v w)
  have HVG := Lib.hid (fun v w => gPart_VG (p := p) (v := v) (w := w) h1 h7)
  have hne : ¬ w.heap.size + 1 + 1 = w.heap.size + 1 := by omega
  clear hW kY k1
  generalize hy : w.heap.size + 1 = y at *
  have hyw : w.heap.size < y := by omega
  have HhB := Lib.hid hB
  clear hB
  have Hhs := Lib.hid hs
  clear hs
  have Hk0 := Lib.hid k0
  clear k0
  have HhR := Lib.hid hR
  clear hR
  have HhP := Lib.hid hP
  clear hP
  have Hx0 := Lib.hid x0
  clear x0
  have Hx1 := Lib.hid x1
  clear x1
  have Hhne := Lib.hid hne
  clear hne
  have Hhy := Lib.hid hy
  clear hy
  go_wp2_with fail
  go_loopw [13] (fun i wr => Only (fun b => b = y) W1.heap.size W1 wr ∧ ∃ v : Nat, v ≤ N ∧ i = .int .i64 v ∧ RowAt wr y N (gPart N p v 0)) (fun i _ => N - (intOf i).toNat)
  case atStart => exact ⟨Only.refl _ _ _, 0, by omega, rfl, HhR.out⟩
  case round =>
    obtain ⟨hO, v, hv, rfl, hR⟩ := hrel
    by_cases hlt : v < N
    · have HhO := Lib.hid hO
      clear hO
      have HhR := Lib.hid hR
      clear hR
      go_wp2_with fail
      go_loopw [17] (fun i wr => Only (fun b => b = y) W1.heap.size W1 wr ∧ ∃ t : Nat, t ≤ v ∧ i = .int .i64 t ∧ RowAt wr y N (gPart N p v t)) (fun i _ => v - (intOf i).toNat)
      case atStart => exact ⟨HhO.out, 0, by omega, rfl, HhR.out⟩
      case round =>
        clear HhO HhR
        obtain ⟨hO, t, ht, rfl, hR⟩ := hrel
        by_cases htt : t < v
        · have hBr : Below w.heap.size w wr := HhB.out.trans (hO.below HhB.out.size fun b hb e => by have e2 : b = y := e; omega)
          have hC := HhP.out v t wr htt hlt hBr
          have y0 := (hO.cell (p := ⟨y + 1, 0, none⟩) oz Hhne.out).trans Hx0.out
          have y1 := (hO.cell (p := ⟨y + 1, 1, none⟩) oz Hhne.out).trans Hx1.out
          have oz2 := Nat.lt_of_lt_of_le oz hO.size
          clear hBr
          cases hpb : p t v
          · rw [hpb] at hC
            have hE2 := HNo.out v t htt hpb
            have HhO := Lib.hid hO
            clear hO
            have HhR := Lib.hid hR
            clear hR
            have HhE2 := Lib.hid hE2
            clear hE2
            clear hpb
            go_wp2_with fail
            refine hC.mono ?_
            rintro e w3 ⟨rfl, hB3⟩
            have hO3 := HhO.out.more hB3 HhO.out.size
            have hR3 := HhR.out.below hB3
            clear hC hB3 y0 y1
            have HhO3 := Lib.hid hO3
            clear hO3
            have HhR3 := Lib.hid hR3
            clear hR3
            go_wp2_with fail
            go_roundw
            case rel => exact ⟨HhO3.out, t + 1, by omega, by go_num, by rw [HhE2.out]; exact HhR3.out⟩
            case measure => simp [intOf]; omega
          · rw [hpb] at hC
            have hE2 := HYes.out v t htt hpb
            have HhO := Lib.hid hO
            clear hO
            have HhR := Lib.hid hR
            clear hR
            have HhE2 := Lib.hid hE2
            clear hE2
            clear hpb
            go_wp2_with fail
            refine hC.mono ?_
            rintro e w3 ⟨rfl, hB3⟩
            have hO3 := HhO.out.more hB3 HhO.out.size
            have hR3 := HhR.out.below hB3
            replace y0 := (hB3.cell (p := ⟨y + 1, 0, none⟩) oz2).trans y0
            replace y1 := (hB3.cell (p := ⟨y + 1, 1, none⟩) oz2).trans y1
            have oz3 := Nat.lt_of_lt_of_le oz2 hB3.size
            have hF := flip_any (gPart N p v t) t v y N N w3 (HLn.out v t) hR3 (HVG.out v t) (by omega) hlt (by omega) (HMiss.out v t htt hlt)
            rw [← HhE2.out] at hF
            clear hC hB3 HhO HhR hR3
            have HhO3 := Lib.hid hO3
            clear hO3
            go_wp2_with fail
            refine hF.mono ?_
            rintro e w4 ⟨rfl, hO4, hR4⟩
            have hO5 := HhO3.out.trans (hO4.mono HhO3.out.size fun b _ h => h)
            clear hF hO4 y0 y1 HhO3
            have HhO5 := Lib.hid hO5
            clear hO5
            have HhR4 := Lib.hid hR4
            clear hR4
            go_wp2_with fail
            go_roundw
            case rel => exact ⟨HhO5.out, t + 1, by omega, by go_num, HhR4.out⟩
            case measure => simp [intOf]; omega
        · obtain rfl : t = v := by omega
          rw [HNx.out] at hR
          have HhO := Lib.hid hO
          clear hO
          have HhR := Lib.hid hR
          clear hR
          go_wp2_with fail
          go_roundw
          case rel => exact ⟨HhO.out, t + 1, by omega, by go_num, HhR.out⟩
          case measure => simp [intOf]; omega
    · obtain rfl : v = N := by omega
      rw [HEn.out] at hR
      have y0 := (hO.cell (p := ⟨y + 1, 0, none⟩) oz Hhne.out).trans Hx0.out
      have y1 := (hO.cell (p := ⟨y + 1, 1, none⟩) oz Hhne.out).trans Hx1.out
      have oz2 := Nat.lt_of_lt_of_le oz hO.size
      have kr := hO.blk Hk0.out (by have := Hhs.out; omega) (fun e => by have e2 : w.heap.size = y := e; omega)
      have z0 := kr.cell 0
      have z1 := kr.cell 1
      have z2 := kr.frozen 0
      have z3 := kr.frozen 1
      have z4 := kr.lt
      simp at z0 z1
      have hF : Below w.heap.size w ((wr.setCell ⟨w.heap.size, 0, none⟩ (.int .i64 v)).setCell ⟨w.heap.size, 1, none⟩ (.slice (some ⟨y, 0, none⟩) v v)) :=
        ((HhB.out.trans (hO.below HhB.out.size fun b hb e => by have e2 : b = y := e; omega)).setCell (by simp) _).setCell (by simp) _
      have hFR : RowAt ((wr.setCell ⟨w.heap.size, 0, none⟩ (.int .i64 v)).setCell ⟨w.heap.size, 1, none⟩ (.slice (some ⟨y, 0, none⟩) v v)) y v (gOf v p) := (hR.otherCell (by simp; omega)).otherCell (by simp; omega)
      clear kr hR hO
      have HhF := Lib.hid hF
      clear hF
      have HhFR := Lib.hid hFR
      clear hFR
      go_wp2_with fail
      refine bodyPost_ret (v := .agg #[.int .i64 v, .slice (some ⟨y, 0, none⟩) v v]) (by simp [results, Tryd.results28, go_sem, z0, z1]) rfl ?_
      exact ⟨y, rfl, HhF.out, Nat.le_of_lt hyw, HhFR.out⟩

end Go.Proofs.YtfkehmpckhmkbaaDoor
