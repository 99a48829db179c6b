/-
  GraphOfArcs on both sides. For lists of at most 2^20 elements.
-/
import Derived.Test.YtfkehmpckhmkbaaDoorPkCardArcs29
import Derived.Test.YtfkehmpckhmkbaaDoorPkCardArcs26
import Derived.Test.YtfkehmpckhmkbaaDoorPkCardArcs31
import Derived.Laws.EntriesVeiled
namespace Go.Proofs.YtfkehmpckhmkbaaDoor
open Go.RowKit

theorem addE_comm (rs : List Int) (v w : Nat) : addE rs v w = addE rs w v := by
  unfold addE
  apply rowsOf_congr
  intro i _ j _
  congr 1
  unfold isE; rw [Bool.or_comm]
/-- Do two arcs meet? -/
def arcP (c : Int) (f l : List Int) (i j : Nat) : Bool := onB c f l j (gi f i) || onB c f l i (gi f j)
def arcG (c : Int) (f l : List Int) : List Int := gOf f.length (arcP c f l)

set_option maxRecDepth 100000 in
set_option maxHeartbeats 2000000 in
theorem arcClosure {c : Int} {f l : List Int} {fa la : Option Addr} {fc lc h : Nat} {W : World} (hv : isArcsB c f l = true) (k0 : Blk W h #[.int .i64 c, .slice fa f.length fc, .slice la l.length lc] 26) (hf : IntsAt W fa f) (hl : IntsAt W la l) :
    PredOf 29 #[.pointer (some ⟨h, 0, none⟩)] W f.length (arcP c f l) := by
  intro v w w0 hwv hvN hB
  show Calls Tryd.prog 29 #[.int .i64 w, .int .i64 v, .pointer (some ⟨h, 0, none⟩)] w0 _
  obtain ⟨h1, h2, h3, h4, -, h6⟩ := isArcsB_true hv
  have hwN : w < f.length := by omega
  have hfw := (h6 w hwN).1
  have hfv := (h6 v hvN).1
  have HP : Hid (arcP c f l w v = (onB c f l v (gi f w) || onB c f l w (gi f v))) := rfl
  replace hf := hf.below hB
  replace hl := hl.below hB
  have k1 := k0.below hB k0.lt
  have hh := k1.lt
  have y0 := k1.cell 0
  have y1 := k1.cell 1
  have y2 := k1.cell 2
  simp at y0 y1 y2
  have hC1 := fun m : Later w0 => contains_any c f l fa la fc lc w (gi f v) m.w (hf.later m) (hl.later m) hv hwN (by omega) (by omega)
  have hC2 := fun m : Later w0 => contains_any c f l fa la fc lc v (gi f w) m.w (hf.later m) (hl.later m) hv hvN (by omega) (by omega)
  obtain ⟨fb, fo, rfl, hfb, hfc⟩ := hf (by omega)
  have z1 := hfc w hwN
  have z2 := hfc v hvN
  clear h6 k0 k1 hB hl hfc hfw hfv hv hf
  generalize gi f w = fw at *
  generalize gi f v = fv at *
  generalize arcP c f l w v = R at *
  generalize onB c f l w fv = A at *
  generalize onB c f l v fw = B at *
  go_enter Tryd.func29, Tryd.ntmps29
  go_wp2_with fail
  cases A
  all_goals
    refine wp_region_later (Later.refl w0) rfl (by kernel_rfl) (by kernel_rfl) ?_
    repeat (go_big_quiet_step ((first | (go_at_call 30; with_reducible exact Calls.later _ (hC1 _)) | (go_at_call 30; with_reducible exact Calls.later _ (hC2 _)))))
    refine wpQuiet_nil ?_
    rintro _ ⟨m, rfl⟩
    go_wp2_with fail
    go_ret
    exact ⟨retB (by rw [HP.out]; simp), m.below⟩

set_option maxRecDepth 100000 in
set_option maxHeartbeats 1000000 in
theorem implArcG_bad (c : Int) (f l : List Int) (fa la : Option Addr) (fc lc : Nat) (w : World) (hv : isArcsB c f l = false) (hf : IntsAt w fa f) (hl : IntsAt w la l) (hfl : f.length ≤ 1048576) (hll : l.length ≤ 1048576) :
    Calls Tryd.prog 6 #[.agg #[.int .i64 c, .slice fa f.length fc, .slice la l.length lc]] w fun e w' => e = .returned (.tuple #[.agg #[.int .i64 0, .slice none 0 0], .bool false]) ∧ Below w.heap.size w w' := by
  go_enter Tryd.func6, Tryd.ntmps6
  go_wp2_with fail
  generalize hW : World.alloc _ _ = W1
  obtain ⟨hB, -, -, k1⟩ := alloc2 hW
  replace hf := hf.below hB
  replace hl := hl.below hB
  clear hW
  obtain ⟨m, hm0⟩ : ∃ m : Later W1, m.w = W1 := ⟨Later.refl _, rfl⟩
  refine (fun h => hm0 ▸ h) ?_
  clear hm0
  have hG := fun m : Later W1 => implIsArcs_any c f l fa la fc lc m.w (hf.later m) (hl.later m) hfl hll
  rw [hv] at hG
  refine (Calls.later _ (hG m)).mono ?_
  rintro e w' ⟨rfl, m, rfl⟩
  clear hG
  have k1' := k1.later m
  have y0 := k1'.cell 0
  have y1 := k1'.cell 1
  have y2 := k1'.frozen 0
  have y3 := k1'.frozen 1
  simp at y0 y1
  have hF : Below w.heap.size w ((m.w.setCell ⟨w.heap.size + 1, 0, none⟩ (.int .i64 0)).setCell ⟨w.heap.size + 1, 1, none⟩ (.slice none 0 0)) := ((below_later hB m).setCell (by simp) _).setCell (by simp) _
  clear k1 k1'
  have HhB := Lib.hid hB
  clear hB
  have HhF := Lib.hid hF
  clear hF
  go_wp2_with fail
  refine bodyPost_ret (v := .tuple #[.agg #[.int .i64 0, .slice none 0 0], .bool false]) (by simp [results, Tryd.results6, go_sem, y0, y1]) rfl ?_
  exact ⟨rfl, HhF.out⟩

set_option maxRecDepth 100000 in
set_option maxHeartbeats 1000000 in
theorem implArcG_any (c : Int) (f l : List Int) (fa la : Option Addr) (fc lc : Nat) (w : World) (hv : isArcsB c f l = true) (hf : IntsAt w fa f) (hl : IntsAt w la l) :
    Calls Tryd.prog 6 #[.agg #[.int .i64 c, .slice fa f.length fc, .slice la l.length lc]] w fun e w' => ∃ g1 cap, e = .returned (.tuple #[.agg #[.int .i64 f.length, .slice (some ⟨g1, 0, none⟩) f.length cap], .bool true]) ∧ Below w.heap.size w w' ∧ w.heap.size ≤ g1 ∧ RowAt w' g1 cap (arcG c f l) := by
  obtain ⟨h1, h2, h3, h4, h5, -⟩ := isArcsB_true hv
  have hfl : f.length ≤ 1048576 := by omega
  have hll : l.length ≤ 1048576 := by omega
  have Hh5 := Lib.hid h5
  clear h5
  go_enter Tryd.func6, Tryd.ntmps6
  go_wp2_with fail
  generalize hW : World.alloc _ _ = W1
  obtain ⟨hB, -, k0, k1⟩ := alloc2 hW
  replace hf := hf.below hB
  replace hl := hl.below hB
  clear hW
  obtain ⟨m, hm0⟩ : ∃ m : Later W1, m.w = W1 := ⟨Later.refl _, rfl⟩
  refine (fun h => hm0 ▸ h) ?_
  clear hm0
  have hG := fun m : Later W1 => implIsArcs_any c f l fa la fc lc m.w (hf.later m) (hl.later m) hfl hll
  rw [hv] at hG
  refine (Calls.later _ (hG m)).mono ?_
  rintro e w' ⟨rfl, m, rfl⟩
  have k0' := k0.later m
  have y0 := k0'.cell 0
  have y1 := k0'.cell 1
  have y2 := k0'.cell 2
  have yl := k0'.lt
  simp at y0 y1 y2
  have hX := graphOf_any f.length 29 #[.pointer (some ⟨w.heap.size, 0, none⟩)] (arcP c f l) m.w h3 h4 (fun _ _ => rfl) (arcClosure hv k0' (hf.later m) (hl.later m))
  clear k0 k0' hG
  have HhB := Lib.hid hB
  clear hB
  have Hk1 := Lib.hid k1
  clear k1
  go_wp2_with fail
  refine hX.mono ?_
  rintro e w3 ⟨g1, rfl, hB3, hg1, hR⟩
  have kr := (Hk1.out.later m).below hB3 (Hk1.out.later m).lt
  have hmw := m.size
  have z0 := kr.cell 0
  have z1 := kr.cell 1
  have z2 := kr.frozen 0
  have z3 := kr.frozen 1
  have z4 := kr.lt
  have hkl := Hk1.out.lt
  simp at z0 z1
  have hF : Below w.heap.size w ((w3.setCell ⟨w.heap.size + 1, 0, none⟩ (.int .i64 f.length)).setCell ⟨w.heap.size + 1, 1, none⟩ (.slice (some ⟨g1, 0, none⟩) f.length f.length)) :=
    ((below_more' (below_later HhB.out m) hB3).setCell (by simp) _).setCell (by simp) _
  have hFR : RowAt ((w3.setCell ⟨w.heap.size + 1, 0, none⟩ (.int .i64 f.length)).setCell ⟨w.heap.size + 1, 1, none⟩ (.slice (some ⟨g1, 0, none⟩) f.length f.length)) g1 f.length (gOf f.length (arcP c f l)) := (hR.otherCell (by simp; omega)).otherCell (by simp; omega)
  have hgw : w.heap.size ≤ g1 := by have := HhB.out.size; omega
  clear kr hR hX hB3 hg1 y0 y1 y2
  have HhF := Lib.hid hF
  clear hF
  have HhFR := Lib.hid hFR
  clear hFR
  have Hhgw := Lib.hid hgw
  clear hgw
  go_wp2_with fail
  refine bodyPost_ret (v := .tuple #[.agg #[.int .i64 f.length, .slice (some ⟨g1, 0, none⟩) f.length f.length], .bool true]) (by simp [results, Tryd.results6, go_sem, z0, z1]) rfl ?_
  exact ⟨g1, f.length, rfl, HhF.out, Hhgw.out, HhFR.out⟩

set_option maxRecDepth 100000 in
set_option maxHeartbeats 1000000 in
theorem specArcG_bad (c : Int) (f l : List Int) (fa la : Option Addr) (fc lc : Nat) (w : World) (hv : isArcsB c f l = false) (hf : IntsAt w fa f) (hl : IntsAt w la l) (hfl : f.length ≤ 1048576) (hll : l.length ≤ 1048576) :
    Calls Tryd.prog 7 #[.agg #[.int .i64 c, .slice fa f.length fc, .slice la l.length lc]] w fun e w' => e = .returned (.tuple #[.agg #[.int .i64 0, .slice none 0 0], .bool false]) ∧ Below w.heap.size w w' := by
  go_enter Tryd.func7, Tryd.ntmps7
  go_wp2_with fail
  generalize hW : World.alloc _ _ = W1
  obtain ⟨hB, -, -, k1⟩ := alloc2 hW
  replace hf := hf.below hB
  replace hl := hl.below hB
  clear hW
  obtain ⟨m, hm0⟩ : ∃ m : Later W1, m.w = W1 := ⟨Later.refl _, rfl⟩
  refine (fun h => hm0 ▸ h) ?_
  clear hm0
  have hG := fun m : Later W1 => specIsArcs_any c f l fa la fc lc m.w (hf.later m) (hl.later m) hfl hll
  rw [hv] at hG
  refine (Calls.later _ (hG m)).mono ?_
  rintro e w' ⟨rfl, m, rfl⟩
  clear hG
  have k1' := k1.later m
  have y0 := k1'.cell 0
  have y1 := k1'.cell 1
  have y2 := k1'.frozen 0
  have y3 := k1'.frozen 1
  simp at y0 y1
  have hF : Below w.heap.size w ((m.w.setCell ⟨w.heap.size + 1, 0, none⟩ (.int .i64 0)).setCell ⟨w.heap.size + 1, 1, none⟩ (.slice none 0 0)) := ((below_later hB m).setCell (by simp) _).setCell (by simp) _
  clear k1 k1'
  have HhB := Lib.hid hB
  clear hB
  have HhF := Lib.hid hF
  clear hF
  go_wp2_with fail
  refine bodyPost_ret (v := .tuple #[.agg #[.int .i64 0, .slice none 0 0], .bool false]) (by simp [results, Tryd.results7, go_sem, y0, y1]) rfl ?_
  exact ⟨rfl, HhF.out⟩

set_option maxRecDepth 100000 in
set_option maxHeartbeats 2000000 in
theorem specArcG_any (c : Int) (f l : List Int) (fa la : Option Addr) (fc lc : Nat) (w : World) (hv : isArcsB c f l = true) (hf : IntsAt w fa f) (hl : IntsAt w la l) :
    Calls Tryd.prog 7 #[.agg #[.int .i64 c, .slice fa f.length fc, .slice la l.length lc]] w fun e w' => ∃ g1 cap, e = .returned (.tuple #[.agg #[.int .i64 f.length, .slice (some ⟨g1, 0, none⟩) f.length cap], .bool true]) ∧ Below w.heap.size w w' ∧ w.heap.size ≤ g1 ∧ RowAt w' g1 cap (arcG c f l) := by
  obtain ⟨h1, h2, h3, h4, h5, h6⟩ := isArcsB_true hv
  have hfl : f.length ≤ 1048576 := by omega
  have hll : l.length ≤ 1048576 := by omega
  have H6 := Lib.hid h6
  clear h6
  have Hh5 := Lib.hid h5
  clear h5
  have hmk := run_make_ints f.length (by omega)
  go_enter Tryd.func7, Tryd.ntmps7
  go_wp2_with fail
  generalize hW : World.alloc _ _ = W1
  obtain ⟨hB, hs1, k0, k1⟩ := alloc2 hW
  replace hf := hf.below hB
  replace hl := hl.below hB
  have b0 := k0.lt
  have c0 := k0.cell 0
  have c1 := k0.cell 1
  have c2 := k0.cell 2
  simp at c0 c1 c2
  have hsW : w.heap.size + 2 ≤ W1.heap.size := by omega
  clear hW hs1
  obtain ⟨m, hm0⟩ : ∃ m : Later W1, m.w = W1 := ⟨Later.refl _, rfl⟩
  refine (fun h => hm0 ▸ h) ?_
  clear hm0
  have hG := fun m : Later W1 => specIsArcs_any c f l fa la fc lc m.w (hf.later m) (hl.later m) hfl hll
  rw [hv] at hG
  refine (Calls.later _ (hG m)).mono ?_
  rintro e w' ⟨rfl, m, rfl⟩
  have hmw := m.size
  go_wp2_with fail
  clear hmk
  generalize hW2 : World.alloc _ _ = W2
  obtain ⟨hB2, hs2, kY, k2⟩ := alloc2 hW2
  have hBW := below_more m.below hB2
  have hBw := below_more' hB hBW
  have hR : RowAt W2 m.w.heap.size f.length (gPart f.length (arcP c f l) 0 0) := by
    rw [gPart_zero]
    have := RowAt.of (w := W2) (b := m.w.heap.size) (xs := List.replicate f.length 0) kY (by simp; omega)
    simpa using this
  have hfu := hf.upto.below hBW (Nat.le_refl _)
  have hlu := hl.upto.below hBW (Nat.le_refl _)
  replace c0 := (hBW.cell (p := ⟨w.heap.size, 0, none⟩) b0).trans c0
  replace c1 := (hBW.cell (p := ⟨w.heap.size, 1, none⟩) b0).trans c1
  replace c2 := (hBW.cell (p := ⟨w.heap.size, 2, none⟩) b0).trans c2
  replace k1 := k1.below hBW k1.lt
  have b02 := Nat.lt_of_lt_of_le b0 hBW.size
  have hmw := m.size
  have hyw2 : m.w.heap.size ≠ m.w.heap.size + 1 := by omega
  have oz := k2.lt
  have x0 := k2.cell 0
  have x1 := k2.cell 1
  simp at x0 x1
  clear hW2 hB2 hs2 kY hBW hf hl k0 hG b0
  generalize m.w.heap.size = y at *
  clear m
  have ho0 : ¬ w.heap.size = y + 1 := by omega
  have HNo := Lib.hid (fun v w (hw : w < v) h => gPart_no (N := f.length) (p := arcP c f l) (v := v) (w := w) hw h)
  have HYes := Lib.hid (fun v w (hw : w < v) h => gPart_yes (N := f.length) (p := arcP c f l) (v := v) (w := w) hw h)
  have HNx := Lib.hid (fun v => gPart_next f.length (arcP c f l) v)
  have HEn := Lib.hid (gPart_end f.length (arcP c f l))
  have HLn := Lib.hid (fun v w => gPart_len f.length (arcP c f l) v w)
  have HVG := Lib.hid (fun v w => gPart_VG (p := arcP c f l) (v := v) (w := w) h3 h4)
  have HhB := Lib.hid hB
  clear hB
  have HhBw := Lib.hid hBw
  clear hBw
  have HhR := Lib.hid hR
  clear hR
  have Hk1 := Lib.hid k1
  clear k1
  have Hk2 := Lib.hid k2
  clear k2
  have Hc0 := Lib.hid c0
  clear c0
  have Hc1 := Lib.hid c1
  clear c1
  have Hc2 := Lib.hid c2
  clear c2
  have Hho0 := Lib.hid ho0
  clear ho0
  have Hhfu := Lib.hid hfu
  clear hfu
  have Hhlu := Lib.hid hlu
  clear hlu
  have Hhyw2 := Lib.hid hyw2
  clear hyw2
  have Hx0 := Lib.hid x0
  clear x0
  have Hx1 := Lib.hid x1
  clear x1
  go_wp2_with fail
  go_loopw [6] (fun i wr => Only (fun b => b = y + 1) W2.heap.size W2 wr ∧ ∃ v gb cp : Nat, v ≤ f.length ∧ i = .int .i64 v ∧ gb ≠ y + 1 ∧ y ≤ gb ∧ Blk wr (y + 1) #[.int .i64 f.length, .slice (some ⟨gb, 0, none⟩) f.length cp] 29 ∧ RowAt wr gb cp (gPart f.length (arcP c f l) v 0)) (fun i _ => f.length - (intOf i).toNat)
  case atStart => exact ⟨Only.refl _ _ _, 0, y, f.length, by omega, rfl, Hhyw2.out, Nat.le_refl _, Hk2.out, HhR.out⟩
  case round =>
    obtain ⟨hO, v, gb, cp, hvl, rfl, hne, hgy, kb, hRk⟩ := hrel
    by_cases hlt : v < f.length
    · have HhO := Lib.hid hO
      clear hO
      have Hhne := Lib.hid hne
      clear hne
      have Hkb := Lib.hid kb
      clear kb
      have HhRk := Lib.hid hRk
      clear hRk
      go_wp2_with fail
      go_loopw [7] (fun i wr => Only (fun b => b = y + 1) W2.heap.size W2 wr ∧ ∃ t gb cp : Nat, t ≤ v ∧ i = .int .i64 t ∧ gb ≠ y + 1 ∧ y ≤ gb ∧ Blk wr (y + 1) #[.int .i64 f.length, .slice (some ⟨gb, 0, none⟩) f.length cp] 29 ∧ RowAt wr gb cp (gPart f.length (arcP c f l) v t)) (fun i _ => v - (intOf i).toNat)
      case atStart => exact ⟨HhO.out, 0, gb, cp, by omega, rfl, Hhne.out, hgy, Hkb.out, HhRk.out⟩
      case round =>
        clear HhO Hhne Hkb HhRk
        obtain ⟨hO, t, gb, cp, ht, rfl, hne, hgy, kb, hRk⟩ := hrel
        by_cases htt : t < v
        · have ozr := kb.lt
          have x0 := kb.cell 0
          have x1 := kb.cell 1
          simp at x0 x1
          have y0 := (hO.cell (p := ⟨w.heap.size, 0, none⟩) b02 Hho0.out).trans Hc0.out
          have y1 := (hO.cell (p := ⟨w.heap.size, 1, none⟩) b02 Hho0.out).trans Hc1.out
          have y2 := (hO.cell (p := ⟨w.heap.size, 2, none⟩) b02 Hho0.out).trans Hc2.out
          have b03 := Nat.lt_of_lt_of_le b02 hO.size
          have hfw := (Hhfu.out.only hO (fun b hb e => by have e2 : b = y + 1 := e; omega)).ints
          have hlw := (Hhlu.out.only hO (fun b hb e => by have e2 : b = y + 1 := e; omega)).ints
          have hft := (H6.out t (by omega)).1
          have hfv := (H6.out v hlt).1
          have hC1 := fun m : Later wr => l23On_any c f l fa la fc lc v (gi f t) m.w (hfw.later m) (hlw.later m) hv hlt (by omega) (by omega)
          have hC2 := fun m : Later wr => l23On_any c f l fa la fc lc t (gi f v) m.w (hfw.later m) (hlw.later m) hv (by omega) (by omega) (by omega)
          obtain ⟨fb, fo, rfl, hfb, hfc⟩ := hfw (by omega)
          have z1 := hfc t (by omega)
          have z2 := hfc v hlt
          have HP : Hid (arcP c f l t v = (onB c f l v (gi f t) || onB c f l t (gi f v))) := rfl
          have hAd : ∀ w5, RowAt w5 gb cp (gPart f.length (arcP c f l) v t) → arcP c f l t v = true → Calls Tryd.prog 33 #[.agg #[.int .i64 f.length, .slice (some ⟨gb, 0, none⟩) f.length cp], .int .i64 v, .int .i64 t] w5 fun e w' => ∃ g1 cap, e = .returned (.tuple #[.agg #[.int .i64 f.length, .slice (some ⟨g1, 0, none⟩) f.length cap], .bool (addOk f.length (gPart f.length (arcP c f l) v t) v t)]) ∧ Below w5.heap.size w5 w' ∧ w5.heap.size ≤ g1 ∧ RowAt w' g1 cap (gPart f.length (arcP c f l) v (t + 1)) := fun w5 hR5 hp => by
            have hA := specAddEdge_any f.length (gPart f.length (arcP c f l) v t) v t _ cp w5 hR5.ints (by rw [HLn.out]; omega) (by rw [HLn.out]; omega)
            have hok := pair_ok (HVG.out v t) (a := v) (b := t) (by rw [HLn.out]; exact hlt) (by rw [HLn.out]; omega) (by omega)
            rw [HLn.out] at hok
            have hV : addV f.length (gPart f.length (arcP c f l) v t) v t = gPart f.length (arcP c f l) v (t + 1) := by
              unfold addV; rw [if_pos hok, Int.toNat_natCast, Int.toNat_natCast, addE_comm, ← HYes.out v t htt hp]
            rw [HLn.out, hV] at hA
            exact hA
          have HAd := Lib.hid hAd
          have HNo2 := Lib.hid (fun h => HNo.out v t htt h)
          clear hAd hfc hfw hlw hft hfv
          generalize arcP c f l t v = R at *
          generalize addOk f.length (gPart f.length (arcP c f l) v t) v t = BB at *
          generalize gi f t = ft at *
          generalize gi f v = fv at *
          generalize onB c f l v ft = A at *
          generalize onB c f l t fv = B at *
          have HhO := Lib.hid hO
          clear hO
          have Hhne := Lib.hid hne
          clear hne
          have Hkb := Lib.hid kb
          clear kb
          have HhRk := Lib.hid hRk
          clear hRk
          obtain ⟨m, hm0⟩ : ∃ m : Later wr, m.w = wr := ⟨Later.refl _, rfl⟩
          refine (fun h => hm0 ▸ h) ?_
          clear hm0
          go_wp2_with fail
          have HW : Hid (∀ m : Later wr, Only (fun b => b = y + 1) W2.heap.size W2 m.w) := Lib.hid fun m => HhO.out.more m.below HhO.out.size
          by_cases hab : A = false ∧ B = false
          · obtain ⟨rfl, rfl⟩ := hab
            have hE2 := HNo2.out (HP.out)
            clear HAd
            have HhE2 := Lib.hid hE2
            clear hE2
            refine wp_region_later m rfl (by kernel_rfl) (by kernel_rfl) ?_
            repeat (go_big_quiet_step ((first | (go_at_call 32; with_reducible exact Calls.later _ (hC1 _)) | (go_at_call 32; with_reducible exact Calls.later _ (hC2 _)))))
            refine wpQuiet_nil ?_
            rintro _ ⟨m, rfl⟩
            go_wp2_with fail
            go_roundw
            case rel => exact ⟨HW.out m, t + 1, gb, cp, by omega, by go_num, Hhne.out, hgy, Hkb.out.later m, by rw [HhE2.out]; exact HhRk.out.below m.below⟩
            case measure => simp [intOf]; omega
          · have hRt : R = true := by rw [HP.out]; cases A <;> cases B <;> simp_all
            have HRt := Lib.hid hRt
            clear hRt HNo2
            cases A
            all_goals cases B
            all_goals first | exact absurd ⟨rfl, rfl⟩ hab | skip
            all_goals
              clear hab
              refine wp_region_later m rfl (by kernel_rfl) (by kernel_rfl) ?_
              repeat (go_big_quiet_step ((first | (go_at_call 32; with_reducible exact Calls.later _ (hC1 _)) | (go_at_call 32; with_reducible exact Calls.later _ (hC2 _)))))
              refine wpQuiet_nil ?_
              rintro _ ⟨m, rfl⟩
              go_wp2_with fail
              refine (HAd.out m.w (HhRk.out.below m.below) HRt.out).mono ?_
              rintro e w5 ⟨g5, cp5, rfl, hB5, hg5, hR5⟩
              have k5 := (Hkb.out.later m).below hB5 (Hkb.out.later m).lt
              have hmz := m.size
              have hwo := HhO.out.size
              have hne6 : g5 ≠ y + 1 := by omega
              have q0 := k5.cell 0
              have q1 := k5.cell 1
              have q2 := k5.frozen 0
              have q3 := k5.frozen 1
              have q4 := k5.lt
              simp at q0 q1
              have hO6 : Only (fun b => b = y + 1) W2.heap.size W2 ((w5.setCell ⟨y + 1, 0, none⟩ (.int .i64 f.length)).setCell ⟨y + 1, 1, none⟩ (.slice (some ⟨g5, 0, none⟩) f.length cp5)) :=
                (((HW.out m).more hB5 (HW.out m).size).setCell (p := ⟨y + 1, 0, none⟩) (.inl rfl) _).setCell (p := ⟨y + 1, 1, none⟩) (.inl rfl) _
              have k6 : Blk ((w5.setCell ⟨y + 1, 0, none⟩ (.int .i64 f.length)).setCell ⟨y + 1, 1, none⟩ (.slice (some ⟨g5, 0, none⟩) f.length cp5)) (y + 1) #[.int .i64 f.length, .slice (some ⟨g5, 0, none⟩) f.length cp5] 29 := by
                have := (k5.store 0 (.int .i64 f.length)).store 1 (.slice (some ⟨g5, 0, none⟩) f.length cp5)
                simpa using this
              have hR6 : RowAt ((w5.setCell ⟨y + 1, 0, none⟩ (.int .i64 f.length)).setCell ⟨y + 1, 1, none⟩ (.slice (some ⟨g5, 0, none⟩) f.length cp5)) g5 cp5 (gPart f.length (arcP c f l) v (t + 1)) := (hR5.otherCell (by simp; omega)).otherCell (by simp; omega)
              have hgy6 : y ≤ g5 := by omega
              clear k5 hR5 hB5 hg5 x0 x1 y0 y1 y2 z1 z2 hC1 hC2
              have HhO6 := Lib.hid hO6
              clear hO6
              have Hk6 := Lib.hid k6
              clear k6
              have HhR6 := Lib.hid hR6
              clear hR6
              have Hhne6 := Lib.hid hne6
              clear hne6
              go_wp2_with fail
              go_roundw
              case rel => exact ⟨HhO6.out, t + 1, g5, cp5, by omega, by go_num, Hhne6.out, hgy6, Hk6.out, HhR6.out⟩
              case measure => simp [intOf]; omega
        · obtain rfl : t = v := by omega
          rw [HNx.out] at hRk
          have HhO := Lib.hid hO
          clear hO
          have Hhne := Lib.hid hne
          clear hne
          have Hkb := Lib.hid kb
          clear kb
          have HhRk := Lib.hid hRk
          clear hRk
          go_wp2_with fail
          go_roundw
          case rel => exact ⟨HhO.out, t + 1, gb, cp, by omega, by go_num, Hhne.out, hgy, Hkb.out, HhRk.out⟩
          case measure => simp [intOf]; omega
    · obtain rfl : v = f.length := by omega
      rw [HEn.out] at hRk
      have x0 := kb.cell 0
      have x1 := kb.cell 1
      simp at x0 x1
      have ozr := kb.lt
      have k9 := hO.blk Hk1.out (by have := Hk1.out.lt; omega) (fun e => by have e2 : w.heap.size + 1 = y + 1 := e; omega)
      have y0 := k9.cell 0
      have y1 := k9.cell 1
      have y2 := k9.frozen 0
      have y3 := k9.frozen 1
      have y4 := k9.lt
      simp at y0 y1
      have hF : Below w.heap.size w ((wr.setCell ⟨w.heap.size + 1, 0, none⟩ (.int .i64 f.length)).setCell ⟨w.heap.size + 1, 1, none⟩ (.slice (some ⟨gb, 0, none⟩) f.length cp)) :=
        ((HhBw.out.trans (hO.below HhBw.out.size fun b hb h => by have h2 : b = y + 1 := h; omega)).setCell (by simp) _).setCell (by simp) _
      have hFR : RowAt ((wr.setCell ⟨w.heap.size + 1, 0, none⟩ (.int .i64 f.length)).setCell ⟨w.heap.size + 1, 1, none⟩ (.slice (some ⟨gb, 0, none⟩) f.length cp)) gb cp (gOf f.length (arcP c f l)) := (hRk.otherCell (by simp; omega)).otherCell (by simp; omega)
      have hgw : w.heap.size ≤ gb := by omega
      clear k9 hRk kb
      have HhF := Lib.hid hF
      clear hF
      have HhFR := Lib.hid hFR
      clear hFR
      have HhO := Lib.hid hO
      clear hO
      have Hhgw := Lib.hid hgw
      clear hgw
      go_wp2_with fail
      refine bodyPost_ret (v := .tuple #[.agg #[.int .i64 f.length, .slice (some ⟨gb, 0, none⟩) f.length cp], .bool true]) (by simp [results, Tryd.results7, go_sem, y0, y1]) rfl ?_
      exact ⟨gb, cp, rfl, HhF.out, Hhgw.out, HhFR.out⟩

end Go.Proofs.YtfkehmpckhmkbaaDoor
