/-
  CutArcs of the program. For at most 2^20 arcs.
-/
import Derived.Test.YtfkehmpckhmkbaaDoorPkCardArcs37
namespace Go.Proofs.YtfkehmpckhmkbaaDoor
open Go.RowKit

theorem cell_newD {w : World} {b : Nat} {v : Value} {t : TypeId} (hb : b = w.heap.size) : (w.alloc (.cells #[v] t)).drew.cell? ⟨b, 0, none⟩ = some v := cell_new hb
theorem cell_newD2 {w : World} {b : Nat} {v : Value} {t : TypeId} {o : Obj} (hb : b = w.heap.size) : ((w.alloc (.cells #[v] t)).alloc o).drew.cell? ⟨b, 0, none⟩ = some v := cell_new2 hb

set_option maxRecDepth 100000 in
set_option maxHeartbeats 4000000 in
theorem implCut_any (c x : Int) (f l : List Int) (fa la : Option Addr) (fc lc : Nat) (w : World) (hf : IntsAt w fa f) (hl : IntsAt w la l) (hfl : f.length ≤ 1048576) (hll : l.length ≤ 1048576) :
    Calls Tryd.prog 14 #[.agg #[.int .i64 c, .slice fa f.length fc, .slice la l.length lc], .int .i64 x] w (RetIv w (cutLV c f l x) (cutRV c f l x) (cutOk c f l x)) := by
  go_enter Tryd.func14, Tryd.ntmps14
  go_wp2_with fail
  generalize hW : World.alloc _ _ = W1
  obtain ⟨hB, hs1, k0, k1⟩ := alloc2 hW
  replace hf := hf.below hB
  replace hl := hl.below hB
  have b0 := k0.lt
  have c0 := k0.cell 0
  have c1 := k0.cell 1
  have c2 := k0.cell 2
  simp at c0 c1 c2
  have b1 := k1.lt
  have d0 := k1.cell 0
  have d1 := k1.cell 1
  have e0 := k1.frozen 0
  have e1 := k1.frozen 1
  simp at d0 d1
  clear hW hs1
  have HhB := Lib.hid hB
  clear hB
  have Hk1 := Lib.hid k1
  clear k1
  obtain ⟨m, hm0⟩ : ∃ m : Later W1, m.w = W1 := ⟨Later.refl _, rfl⟩
  refine (fun h => hm0 ▸ h) ?_
  clear hm0
  have hG := fun m : Later W1 => implIsArcs_any c f l fa la fc lc m.w (hf.later m) (hl.later m) hfl hll
  have hA := fun m : Later W1 => implArcsAt_any c f l fa la fc lc x m.w (hf.later m) (hl.later m) hfl hll
  have HN := Lib.hid (fun h => cutOk_no (c := c) (f := f) (l := l) (x := x) h)
  have HO := Lib.hid (fun h => cutOk_out (c := c) (f := f) (l := l) (x := x) h)
  have HT := Lib.hid (fun h => cutOk_hit (c := c) (f := f) (l := l) (x := x) h)
  have hfin : ∀ m : Later W1, cutOk c f l x = false → Hid (∀ e, e = .returned (.tuple #[.agg #[.slice none 0 0, .slice none 0 0], .bool false]) → RetIv w (cutLV c f l x) (cutRV c f l x) (cutOk c f l x) e ((m.w.setCell ⟨w.heap.size + 1, 0, none⟩ (.slice none 0 0)).setCell ⟨w.heap.size + 1, 1, none⟩ (.slice none 0 0))) := fun m h => Lib.hid fun e he =>
    RetIv.no h he (((below_later HhB.out m).setCell (by simp) _).setCell (by simp) _)
  have HF := Lib.hid hfin
  clear hfin
  cases hv : isArcsB c f l
  · rw [hv] at hG
    have HR := fun m => HF.out m (HN.out hv)
    clear hv hA
    go_wp2_with (first | (go_at_call 11; refine (Calls.later m (hG _)).mono ?_; rintro e w' ⟨rfl, m, rfl⟩))
    refine bodyPost_ret (v := .tuple #[.agg #[.slice none 0 0, .slice none 0 0], .bool false]) (by simp [results, Tryd.results14, go_sem, b1, d0, d1]) rfl ?_
    exact (HR m).out _ rfl
  obtain ⟨h3, h30, h1, h7, h5, h6⟩ := isArcsB_true hv
  rw [hv] at hG
  have hl7 : l.length ≤ 7 := by omega
  have hlf : f.length ≤ l.length := by omega
  have Hv := Lib.hid hv
  have H6 := Lib.hid h6
  clear hv h6 h5
  have hI := fun w => within_any x 0 (c - 1) w
  have HY := Lib.hid (fun h1 h2 => cutOk_yes (c := c) (f := f) (l := l) (x := x) Hv.out h1 h2)
  cases hb : (decide (0 ≤ x) && decide (x ≤ c - 1))
  · rw [hb] at hI
    have HR := fun m => HF.out m (HO.out hb)
    clear hb hA
    go_wp2_with (first | (go_at_call 11; refine (Calls.later m (hG _)).mono ?_; rintro e w' ⟨rfl, m, rfl⟩) | (go_at_call 34; refine (hI _).mono ?_; rintro e w' ⟨rfl, rfl⟩))
    refine bodyPost_ret (v := .tuple #[.agg #[.slice none 0 0, .slice none 0 0], .bool false]) (by simp [results, Tryd.results14, go_sem, b1, d0, d1]) rfl ?_
    exact (HR m).out _ rfl
  rw [hb] at hI
  have HY2 := Lib.hid (fun h => HY.out hb h)
  have hx : 0 ≤ x ∧ x ≤ c - 1 := by simpa using hb
  obtain ⟨hx0, hx1⟩ := hx
  clear hb
  by_cases ha : arcsAtV c f l x = 0
  case neg =>
    have HR := fun m => HF.out m (HT.out ha)
    generalize arcsAtV c f l x = V at *
    have hn1 : (V != 0) = true := by simpa using ha
    clear ha
    go_wp2_with (first | (go_at_call 11; refine (Calls.later m (hG _)).mono ?_; rintro e w' ⟨rfl, m, rfl⟩) | (go_at_call 34; refine (hI _).mono ?_; rintro e w' ⟨rfl, rfl⟩) | (go_at_call 18; refine (Calls.later m (hA _)).mono ?_; rintro e w' ⟨rfl, m, rfl⟩))
    refine bodyPost_ret (v := .tuple #[.agg #[.slice none 0 0, .slice none 0 0], .bool false]) (by simp [results, Tryd.results14, go_sem, b1, d0, d1]) rfl ?_
    exact (HR m).out _ rfl
  have HE := Lib.hid (HY2.out ha)
  rw [ha] at hA
  clear ha HF HN HO HT HY HY2
  go_wp2_with (first | (go_at_call 11; refine (Calls.later m (hG _)).mono ?_; rintro e w' ⟨rfl, m, rfl⟩) | (go_at_call 34; refine (hI _).mono ?_; rintro e w' ⟨rfl, rfl⟩) | (go_at_call 18; refine (Calls.later m (hA m)).mono ?_; rintro e w' ⟨rfl, m, rfl⟩; have hmz := Nat.lt_of_lt_of_le b0 m.size; have hmc := (m.cell _ _ b0).trans c1))
  clear hG hA hI hmz hmc
  generalize hW2 : World.alloc _ _ = W2
  obtain ⟨hB2, hs2, k2⟩ := alloc1 hW2
  have hBW := below_more m.below hB2
  have hBw := below_more' HhB.out hBW
  have hfu := hf.upto.below hBW (Nat.le_refl _)
  have hlu := hl.upto.below hBW (Nat.le_refl _)
  replace c0 := (hBW.cell (p := ⟨w.heap.size, 0, none⟩) b0).trans c0
  replace c1 := (hBW.cell (p := ⟨w.heap.size, 1, none⟩) b0).trans c1
  replace c2 := (hBW.cell (p := ⟨w.heap.size, 2, none⟩) b0).trans c2
  have k1 := Hk1.out.below hBW Hk1.out.lt
  have hmw := m.size
  have b02 := Nat.lt_of_lt_of_le b0 hBW.size
  have hmb := k2.lt
  have hm0 : ¬w.heap.size = m.w.heap.size := by omega
  have hww : w.heap.size ≤ m.w.heap.size := by omega
  have hm1 : ¬w.heap.size + 1 = m.w.heap.size := by omega
  clear hW2 hB2 hs2 hf hl k0 b0 Hk1 HhB hBW b1 d0 d1 e0 e1
  generalize m.w.heap.size = mb at *
  clear m
  have HhBw := Lib.hid hBw
  clear hBw
  have Hk1 := Lib.hid k1
  clear k1
  have Hk2 := Lib.hid k2
  clear k2
  have Hc0 := Lib.hid c0
  clear c0
  have Hc1 := Lib.hid c1
  clear c1
  have Hc2 := Lib.hid c2
  clear c2
  have Hhm0 := Lib.hid hm0
  clear hm0
  have Hhm1 := Lib.hid hm1
  clear hm1
  have Hhfu := Lib.hid hfu
  clear hfu
  have Hhlu := Lib.hid hlu
  clear hlu
  go_wp2_with fail
  go_loopw [32] (fun i wr => Only (fun b => b = mb) W2.heap.size W2 wr ∧ ∃ (k : Nat) (ga gb : Option Addr) (ca cb : Nat), k ≤ f.length ∧ i = .int .i64 k ∧ Blk wr mb #[.slice ga k ca, .slice gb k cb] 38 ∧ TwoL wr W2.heap.size (.slice ga k ca) (.slice gb k cb) (cutLs c f x k) (cutRs c f l x k)) (fun i _ => f.length - (intOf i).toNat)
  case atStart => exact ⟨Only.refl _ _ _, 0, none, none, 0, 0, by omega, rfl, Hk2.out, TwoL.nil _ _⟩
  case round =>
    obtain ⟨hO, k, ga, gb, ca, cb, hk, rfl, kb, hT⟩ := hrel
    have y0 := (hO.cell (p := ⟨w.heap.size, 0, none⟩) b02 Hhm0.out).trans Hc0.out
    have y2 := (hO.cell (p := ⟨w.heap.size, 2, none⟩) b02 Hhm0.out).trans Hc2.out
    have b03 := Nat.lt_of_lt_of_le b02 hO.size
    have z0 := kb.cell 0
    have z1 := kb.cell 1
    have z2 := kb.frozen 0
    have z3 := kb.frozen 1
    have z4 := kb.lt
    simp at z0 z1
    by_cases hlt : k < f.length
    · obtain ⟨h8, h9⟩ := H6.out k hlt
      obtain ⟨fb, fo, rfl, hfb0, hfb, hfc⟩ := (Hhfu.out.only hO (fun b hb e => by have e2 : b = mb := e; omega)) (by omega)
      obtain ⟨lb, lo, rfl, hlb0, hlb, hlc⟩ := (Hhlu.out.only hO (fun b hb e => by have e2 : b = mb := e; omega)) (by omega)
      have x0 := hfc k hlt
      have x1 := hlc k (by omega)
      have HL1 : Hid (cutT c f x k = (gi f k - x) % c) := rfl
      have HS1 := Lib.hid (cutLs_succ c f x k)
      have HS2 := Lib.hid (cutRs_succ c f l x k)
      have hlo := cutT_lo c f x k (by omega)
      have HLn := Lib.hid (cutLs_len c f x k)
      have HRn := Lib.hid (cutRs_len c f l x k)
      have hll2 : (cutLs c f x k).length ≤ 1048576 := by have := HLn.out; omega
      have hrr2 : (cutRs c f l x k).length ≤ 1048576 := by have := HRn.out; omega
      clear hfc hlc
      generalize gi f k = F at *
      generalize gi l k = G at *
      have hlo2 := HL1.out ▸ hlo
      obtain ⟨hlo3, hlo4⟩ := hlo2
      rw [HL1.out] at HS1 HS2
      clear hlo HL1
      have HhO := Lib.hid hO
      clear hO
      have Hkb := Lib.hid kb
      clear kb
      have HhT := Lib.hid hT
      clear hT
      go_wp2_with fail
      have hlk : k < l.length := by omega
      have hw1 : IntKind.i64.wrap (((F - x) % c) + G) = ((F - x) % c) + G := IntKind_i64_in _ (by omega) (by omega)
      have hw2 : IntKind.i64.wrap (((F - x) % c) + G - 1) = ((F - x) % c) + G - 1 := IntKind_i64_in _ (by omega) (by omega)
      have hTT : ∀ w', Only (fun b => b = mb) W2.heap.size wr w' → (Only (fun b => b = mb) W2.heap.size wr w' ∧ w'.cell? ⟨w.heap.size, 2, none⟩ = some (.slice (some ⟨lb, lo, none⟩) l.length lc) ∧ w'.cell? ⟨lb, lo + k, none⟩ = some (.int .i64 G)) := fun w' h =>
        ⟨h, (h.cell (p := ⟨w.heap.size, 2, none⟩) b02 Hhm0.out).trans y2, (h.cell (p := ⟨lb, lo + k, none⟩) (by show lb < _; omega) (fun e => by have e2 : lb = mb := e; omega)).trans x1⟩
      refine wp_region_B (fun w' => Only (fun b => b = mb) W2.heap.size wr w' ∧ w'.cell? ⟨w.heap.size, 2, none⟩ = some (.slice (some ⟨lb, lo, none⟩) l.length lc) ∧ w'.cell? ⟨lb, lo + k, none⟩ = some (.int .i64 G)) (fun w' => w'.cell? ⟨mb, 0, none⟩ = some (.slice ga k ca) ∧ w'.cell? ⟨mb, 1, none⟩ = some (.slice gb k cb)) [18, 20] (by kernel_rfl) (hTT _ (Only.of (Below.refl _ _).drew)) (⟨z0, z1⟩) (fun hM => ?_)
      refine wpAnyB_take (i := 0) (v := ?_) false rfl (by kernel_rfl) (by kernel_rfl) (by kernel_rfl) (by kernel_rfl) (by kernel_rfl) (fun _ _ _ h => h) (Or.inl ⟨by rfl, ?_⟩) hM (fun hM2 => ?_)
      rotate_left
      · (intro w hSw; replace hSw := hSw.1; (try dsimp only at hSw); go_simp; try with_reducible rfl)
      replace hM := hM2
      clear hM2
      try simp only [List.getElem_toArray, List.getElem_cons_zero, Act.put, List.setIfInBounds_toArray, List.set_cons_zero, List.set_cons_succ]
      refine wpAnyB_take (i := 1) (v := ?_) true rfl (by kernel_rfl) (by kernel_rfl) (by kernel_rfl) (by kernel_rfl) (by kernel_rfl) (fun _ _ _ h => h) (Or.inl ⟨by rfl, ?_⟩) hM (fun hM2 => ?_)
      rotate_left
      · (intro w hSw; have hSl := hSw.2 rfl; replace hSw := hSw.1; (try dsimp only at hSl); (try dsimp only at hSw); go_simp; try with_reducible rfl)
      replace hM := hM2
      clear hM2
      try simp only [List.getElem_toArray, List.getElem_cons_succ, List.getElem_cons_zero, Act.put, List.setIfInBounds_toArray, List.set_cons_zero, List.set_cons_succ]
      refine wpAnyB_take (i := 2) (v := ?_) false rfl (by kernel_rfl) (by kernel_rfl) (by kernel_rfl) (by kernel_rfl) (by kernel_rfl) (fun _ _ _ h => h) (Or.inl ⟨by rfl, ?_⟩) hM (fun hM2 => ?_)
      rotate_left
      · (intro w hSw; replace hSw := hSw.1; (try dsimp only at hSw); go_simp; try with_reducible rfl)
      replace hM := hM2
      clear hM2
      try simp only [List.getElem_toArray, List.getElem_cons_succ, List.getElem_cons_zero, Act.put, List.setIfInBounds_toArray, List.set_cons_zero, List.set_cons_succ]
      refine wpAnyB_take (i := 5) (v := ?_) false rfl (by kernel_rfl) (by kernel_rfl) (by kernel_rfl) (by kernel_rfl) (by kernel_rfl) (fun _ _ _ h => h) (Or.inl ⟨by rfl, ?_⟩) hM (fun hM2 => ?_)
      rotate_left
      · (intro w hSw; replace hSw := hSw.1; (try dsimp only at hSw); go_simp; try with_reducible rfl)
      replace hM := hM2
      clear hM2
      try simp only [List.getElem_toArray, List.getElem_cons_succ, List.getElem_cons_zero, Act.put, List.setIfInBounds_toArray, List.set_cons_zero, List.set_cons_succ]
      refine wpAnyB_take (i := 6) (v := ?_) true rfl (by kernel_rfl) (by kernel_rfl) (by kernel_rfl) (by kernel_rfl) (by kernel_rfl) (fun _ _ _ h => h) (Or.inl ⟨by rfl, ?_⟩) hM (fun hM2 => ?_)
      rotate_left
      · (intro w hSw; have hSl := hSw.2 rfl; replace hSw := hSw.1; (try dsimp only at hSl); (try dsimp only at hSw); go_simp; try with_reducible rfl)
      replace hM := hM2
      clear hM2
      try simp only [List.getElem_toArray, List.getElem_cons_succ, List.getElem_cons_zero, Act.put, List.setIfInBounds_toArray, List.set_cons_zero, List.set_cons_succ]
      refine wpAnyB_take (i := 7) (v := ?_) false rfl (by kernel_rfl) (by kernel_rfl) (by kernel_rfl) (by kernel_rfl) (by kernel_rfl) (fun _ _ _ h => h) (Or.inl ⟨by rfl, ?_⟩) hM (fun hM2 => ?_)
      rotate_left
      · (intro w hSw; replace hSw := hSw.1; (try dsimp only at hSw); go_simp; try with_reducible rfl)
      replace hM := hM2
      clear hM2
      try simp only [List.getElem_toArray, List.getElem_cons_succ, List.getElem_cons_zero, Act.put, List.setIfInBounds_toArray, List.set_cons_zero, List.set_cons_succ]
      refine wpAnyB_take (i := 8) (v := ?_) false rfl (by kernel_rfl) (by kernel_rfl) (by kernel_rfl) (by kernel_rfl) (by kernel_rfl) (fun _ _ _ h => h) (Or.inl ⟨by rfl, ?_⟩) hM (fun hM2 => ?_)
      rotate_left
      · (intro w hSw; replace hSw := hSw.1; (try dsimp only at hSw); go_simp; try with_reducible rfl)
      replace hM := hM2
      clear hM2
      try simp only [List.getElem_toArray, List.getElem_cons_succ, List.getElem_cons_zero, Act.put, List.setIfInBounds_toArray, List.set_cons_zero, List.set_cons_succ]
      refine wpAnyB_take (i := 9) (v := ?_) false rfl (by kernel_rfl) (by kernel_rfl) (by kernel_rfl) (by kernel_rfl) (by kernel_rfl) (fun _ _ _ h => h) (Or.inl ⟨by rfl, ?_⟩) hM (fun hM2 => ?_)
      rotate_left
      · (intro w hSw; replace hSw := hSw.1; (try dsimp only at hSw); go_simp; try with_reducible rfl)
      replace hM := hM2
      clear hM2
      try simp only [List.getElem_toArray, List.getElem_cons_succ, List.getElem_cons_zero, Act.put, List.setIfInBounds_toArray, List.set_cons_zero, List.set_cons_succ]
      refine wpAnyB_take (i := 10) (v := ?_) false rfl (by kernel_rfl) (by kernel_rfl) (by kernel_rfl) (by kernel_rfl) (by kernel_rfl) (fun _ _ _ h => h) (Or.inl ⟨by rfl, ?_⟩) hM (fun hM2 => ?_)
      rotate_left
      · (intro w hSw; replace hSw := hSw.1; (try dsimp only at hSw); go_simp; try with_reducible rfl)
      replace hM := hM2
      clear hM2
      try simp only [List.getElem_toArray, List.getElem_cons_succ, List.getElem_cons_zero, Act.put, List.setIfInBounds_toArray, List.set_cons_zero, List.set_cons_succ]
      refine wpAnyB_take (i := 11) (v := ?_) false rfl (by kernel_rfl) (by kernel_rfl) (by kernel_rfl) (by kernel_rfl) (by kernel_rfl) (fun _ _ _ h => h) (Or.inl ⟨by rfl, ?_⟩) hM (fun hM2 => ?_)
      rotate_left
      · (intro w hSw; replace hSw := hSw.1; (try dsimp only at hSw); go_simp; try with_reducible rfl)
      replace hM := hM2
      clear hM2
      try simp only [List.getElem_toArray, List.getElem_cons_succ, List.getElem_cons_zero, Act.put, List.setIfInBounds_toArray, List.set_cons_zero, List.set_cons_succ]
      refine wpAnyB_take (i := 12) (v := ?_) false rfl (by kernel_rfl) (by kernel_rfl) (by kernel_rfl) (by kernel_rfl) (by kernel_rfl) (fun _ _ _ h => h) (Or.inl ⟨by rfl, ?_⟩) hM (fun hM2 => ?_)
      rotate_left
      · (intro w hSw; replace hSw := hSw.1; (try dsimp only at hSw); go_simp; try with_reducible rfl)
      replace hM := hM2
      clear hM2
      try simp only [List.getElem_toArray, List.getElem_cons_succ, List.getElem_cons_zero, Act.put, List.setIfInBounds_toArray, List.set_cons_zero, List.set_cons_succ]
      refine wpAnyB_take (i := 13) (v := ?_) false rfl (by kernel_rfl) (by kernel_rfl) (by kernel_rfl) (by kernel_rfl) (by kernel_rfl) (fun _ _ _ h => h) (Or.inl ⟨by rfl, ?_⟩) hM (fun hM2 => ?_)
      rotate_left
      · (intro w hSw; replace hSw := hSw.1; (try dsimp only at hSw); go_simp; try with_reducible rfl)
      replace hM := hM2
      clear hM2
      try simp only [List.getElem_toArray, List.getElem_cons_succ, List.getElem_cons_zero, Act.put, List.setIfInBounds_toArray, List.set_cons_zero, List.set_cons_succ]
      refine wpAnyB_take (i := 14) (v := ?_) false rfl (by kernel_rfl) (by kernel_rfl) (by kernel_rfl) (by kernel_rfl) (by kernel_rfl) (fun _ _ _ h => h) (Or.inl ⟨by rfl, ?_⟩) hM (fun hM2 => ?_)
      rotate_left
      · (intro w hSw; replace hSw := hSw.1; (try dsimp only at hSw); go_simp; try with_reducible rfl)
      replace hM := hM2
      clear hM2
      try simp only [List.getElem_toArray, List.getElem_cons_succ, List.getElem_cons_zero, Act.put, List.setIfInBounds_toArray, List.set_cons_zero, List.set_cons_succ]
      clear hw1 hw2
      have hsz := HhO.out.size
      have hv1 : ∀ b, wr.heap.size ≤ b → (Value.slice ga k ca).ownBlock ≠ some b := fun b hb e => by have := (HhT.out.o1.lt e).2; omega
      have hA1 : ∀ cs : Array Value, Below W2.heap.size wr (wr.alloc (.cells cs 3)).drew := fun cs => ((Below.refl _ _).alloc hsz _).drew
      have hA2 : ∀ cs ds : Array Value, Below W2.heap.size wr ((wr.alloc (.cells cs 3)).alloc (.cells ds 3)).drew := fun cs ds => (((Below.refl _ _).alloc hsz _).alloc (by simp; omega) _).drew
      refine wpAnyB_two (i := 3) (j := 15) (by kernel_rfl) rfl rfl (fun K hK => ?_) (fun K hK => ?_)
      · go_simp
        refine hK.out _ _ (meetB.both (hTT _ (Only.of (hA1 _))) ⟨(((hA1 _)).cell (p := ⟨mb, 0, none⟩) hmb).trans z0, (((hA1 _)).cell (p := ⟨mb, 1, none⟩) hmb).trans z1⟩) (fun hM2 => ?_)
        clear hK K
        replace hM := hM2
        clear hM2
        try simp only [List.getElem_toArray, List.getElem_cons_succ, List.getElem_cons_zero, Act.put, List.setIfInBounds_toArray, List.set_cons_zero, List.set_cons_succ]
        refine wpAnyB_two (i := 4) (j := 15) (by kernel_rfl) rfl rfl (fun K hK => ?_) (fun K hK => ?_)
        · (refine step_append_1 (by rfl) _ _ (by rfl) W2.heap.size (.slice ga k ca) (.slice gb k cb) (cutLs c f x k) (cutRs c f l x k) ((F - x) % c) _ (by rfl) ((HhT.out.alloc _).drew) (by rfl) (cell_newD rfl) (by have := HhO.out.size; simp; omega) hll2 k HLn.out ?_; intro g3 c3 w6 hT6 hB6 hW6; have hB7 := (hA1 #[.int .i64 ((F - x) % c)]).trans hB6)
          refine hK.out _ _ (meetB.both (hTT _ (Only.of (hB7))) ⟨(((hB7)).cell (p := ⟨mb, 0, none⟩) hmb).trans z0, (((hB7)).cell (p := ⟨mb, 1, none⟩) hmb).trans z1⟩) (fun hM2 => ?_)
          clear hK K
          replace hM := hM2
          clear hM2
          try simp only [List.getElem_toArray, List.getElem_cons_succ, List.getElem_cons_zero, Act.put, List.setIfInBounds_toArray, List.set_cons_zero, List.set_cons_succ]
          refine wpAnyB_take (i := 17) (v := ?_) false rfl (by kernel_rfl) (by kernel_rfl) (by kernel_rfl) (by kernel_rfl) (by kernel_rfl) (fun _ _ _ h => h) (Or.inl ⟨by rfl, ?_⟩) hM (fun hM2 => ?_)
          rotate_left
          · (intro w hSw; replace hSw := hSw.1; (try dsimp only at hSw); go_simp; try with_reducible rfl)
          replace hM := hM2
          clear hM2
          try simp only [List.getElem_toArray, List.getElem_cons_succ, List.getElem_cons_zero, Act.put, List.setIfInBounds_toArray, List.set_cons_zero, List.set_cons_succ]
          have hB8 : ∀ cs : Array Value, Below W2.heap.size wr (w6.alloc (.cells cs 3)) := fun cs => hB7.alloc (Nat.le_trans hsz hB7.size) _
          refine wpAnyB_one (i := 15) (by kernel_rfl) rfl (fun K hK => ?_)
          go_simp
          refine hK.out _ _ (meetB.both (hTT _ (Only.of (hB8 _))) ⟨(((hB8 _)).cell (p := ⟨mb, 0, none⟩) hmb).trans z0, (((hB8 _)).cell (p := ⟨mb, 1, none⟩) hmb).trans z1⟩) (fun hM2 => ?_)
          clear hK K
          replace hM := hM2
          clear hM2
          try simp only [List.getElem_toArray, List.getElem_cons_succ, List.getElem_cons_zero, Act.put, List.setIfInBounds_toArray, List.set_cons_zero, List.set_cons_succ]
          refine wpAnyB_one (i := 16) (by kernel_rfl) rfl (fun K hK => ?_)
          (refine step_append_2 (by rfl) _ _ (by rfl) W2.heap.size (.slice (some ⟨g3, 0, none⟩) (k + 1) c3) (.slice gb k cb) (cutLs c f x k ++ [((F - x) % c)]) (cutRs c f l x k) (((F - x) % c) + G - 1) _ (by rfl) (hT6.alloc _) (by rfl) (cell_new rfl) (by have h1 := (hA1 #[.int .i64 ((F - x) % c)]).size; have h2 := hB6.size; simp at h1 h2 ⊢; omega) hrr2 k HRn.out ?_; intro g4 c4 wz hTZ hBZ0; have hBZ := (hB8 #[.int .i64 (((F - x) % c) + G - 1)]).trans hBZ0)
          refine hK.out _ _ (meetB.both (hTT _ (Only.of (hBZ))) ⟨(((hBZ)).cell (p := ⟨mb, 0, none⟩) hmb).trans z0, (((hBZ)).cell (p := ⟨mb, 1, none⟩) hmb).trans z1⟩) (fun hM2 => ?_)
          clear hK K
          replace hM := hM2
          clear hM2
          try simp only [List.getElem_toArray, List.getElem_cons_succ, List.getElem_cons_zero, Act.put, List.setIfInBounds_toArray, List.set_cons_zero, List.set_cons_succ]
          have kb6 := Hkb.out.below hBZ hmb
          have q0 := kb6.cell 0
          have q1 := kb6.cell 1
          have q2 := kb6.frozen 0
          have q3 := kb6.frozen 1
          have q4 := kb6.lt
          simp at q0 q1
          have hO8 : Only (fun b => b = mb) W2.heap.size wr (wz.setCell ⟨mb, 0, none⟩ (.slice (some ⟨g3, 0, none⟩) (k + 1) c3)) := (Only.of (X := fun b => b = mb) hBZ).setCell (p := ⟨mb, 0, none⟩) (.inl rfl) _
          have hO8' : Only (fun b => b = mb) W2.heap.size wr ((wz.setCell ⟨mb, 0, none⟩ (.slice (some ⟨g3, 0, none⟩) (k + 1) c3)).setCell ⟨mb, 1, none⟩ (.slice (some ⟨g4, 0, none⟩) (k + 1) c4)) := hO8.setCell (p := ⟨mb, 1, none⟩) (.inl rfl) _
          refine wpAnyB_one (i := 18) (by kernel_rfl) rfl (fun K hK => ?_)
          go_simp
          refine hK.out _ _ (meetB.late (hTT _ hO8) (by kernel_rfl)) (fun hM2 => ?_)
          clear hK K
          replace hM := hM2
          clear hM2
          try simp only [List.getElem_toArray, List.getElem_cons_succ, List.getElem_cons_zero, Act.put, List.setIfInBounds_toArray, List.set_cons_zero, List.set_cons_succ]
          refine wpAnyB_take (i := 19) (v := ?_) false rfl (by kernel_rfl) (by kernel_rfl) (by kernel_rfl) (by kernel_rfl) (by kernel_rfl) (fun _ _ _ h => h) (Or.inl ⟨by rfl, ?_⟩) hM (fun hM2 => ?_)
          rotate_left
          · (intro w hSw; replace hSw := hSw.1; (try dsimp only at hSw); go_simp; try with_reducible rfl)
          replace hM := hM2
          clear hM2
          try simp only [List.getElem_toArray, List.getElem_cons_succ, List.getElem_cons_zero, Act.put, List.setIfInBounds_toArray, List.set_cons_zero, List.set_cons_succ]
          refine wpAnyB_one (i := 20) (by kernel_rfl) rfl (fun K hK => ?_)
          go_simp
          refine hK.out _ _ (meetB.late (hTT _ hO8') (by kernel_rfl)) (fun hM2 => ?_)
          clear hK K
          replace hM := hM2
          clear hM2
          try simp only [List.getElem_toArray, List.getElem_cons_succ, List.getElem_cons_zero, Act.put, List.setIfInBounds_toArray, List.set_cons_zero, List.set_cons_succ]
          refine wpAnyB_done (by kernel_rfl) ?_ _
          have hO9 := HhO.out.trans (hO8'.mono (Nat.le_refl _) fun _ _ h => h)
          have kb9 : Blk ((wz.setCell ⟨mb, 0, none⟩ (.slice (some ⟨g3, 0, none⟩) (k + 1) c3)).setCell ⟨mb, 1, none⟩ (.slice (some ⟨g4, 0, none⟩) (k + 1) c4)) mb #[.slice (some ⟨g3, 0, none⟩) (k + 1) c3, .slice (some ⟨g4, 0, none⟩) (k + 1) c4] 38 := by simpa using (kb6.store 0 (.slice (some ⟨g3, 0, none⟩) (k + 1) c3)).store 1 (.slice (some ⟨g4, 0, none⟩) (k + 1) c4)
          have hT9 := (hTZ.store (a := ⟨mb, 0, none⟩) hmb (.slice (some ⟨g3, 0, none⟩) (k + 1) c3)).store (a := ⟨mb, 1, none⟩) hmb (.slice (some ⟨g4, 0, none⟩) (k + 1) c4)
          rw [← HS1.out, ← HS2.out] at hT9
          clear hO8 hO8' kb6 hTZ hBZ q0 q1 q2 q3 q4 hM hTT
          generalize World.setCell _ _ _ = W9 at *
          have HhO9 := Lib.hid hO9
          clear hO9
          have Hkb9 := Lib.hid kb9
          clear kb9
          have HhT9 := Lib.hid hT9
          clear hT9
          go_wp2_with fail
          go_roundw
          case rel => exact ⟨HhO9.out, k + 1, _, _, _, _, by omega, by go_num, Hkb9.out, HhT9.out⟩
          case measure => first | (simp [intOf]; done) | (simp [intOf]; omega)
        · go_simp
          refine hK.out _ _ (meetB.both (hTT _ (Only.of (hA2 _ _))) ⟨(((hA2 _ _)).cell (p := ⟨mb, 0, none⟩) hmb).trans z0, (((hA2 _ _)).cell (p := ⟨mb, 1, none⟩) hmb).trans z1⟩) (fun hM2 => ?_)
          clear hK K
          replace hM := hM2
          clear hM2
          try simp only [List.getElem_toArray, List.getElem_cons_succ, List.getElem_cons_zero, Act.put, List.setIfInBounds_toArray, List.set_cons_zero, List.set_cons_succ]
          refine wpAnyB_one (i := 4) (by kernel_rfl) rfl (fun K hK => ?_)
          (refine step_append_1 (by rfl) _ _ (by rfl) W2.heap.size (.slice ga k ca) (.slice gb k cb) (cutLs c f x k) (cutRs c f l x k) ((F - x) % c) _ (by rfl) (((HhT.out.alloc _).alloc _).drew) (by rfl) (cell_newD2 rfl) (by have := HhO.out.size; simp; omega) hll2 k HLn.out ?_; intro g3 c3 w6 hT6 hB6 hW6; have hB7 := (hA2 #[.int .i64 ((F - x) % c)] #[.int .i64 (((F - x) % c) + G - 1)]).trans hB6)
          refine hK.out _ _ (meetB.both (hTT _ (Only.of (hB7))) ⟨(((hB7)).cell (p := ⟨mb, 0, none⟩) hmb).trans z0, (((hB7)).cell (p := ⟨mb, 1, none⟩) hmb).trans z1⟩) (fun hM2 => ?_)
          clear hK K
          replace hM := hM2
          clear hM2
          try simp only [List.getElem_toArray, List.getElem_cons_succ, List.getElem_cons_zero, Act.put, List.setIfInBounds_toArray, List.set_cons_zero, List.set_cons_succ]
          refine wpAnyB_take (i := 17) (v := ?_) false rfl (by kernel_rfl) (by kernel_rfl) (by kernel_rfl) (by kernel_rfl) (by kernel_rfl) (fun _ _ _ h => h) (Or.inl ⟨by rfl, ?_⟩) hM (fun hM2 => ?_)
          rotate_left
          · (intro w hSw; replace hSw := hSw.1; (try dsimp only at hSw); go_simp; try with_reducible rfl)
          replace hM := hM2
          clear hM2
          try simp only [List.getElem_toArray, List.getElem_cons_succ, List.getElem_cons_zero, Act.put, List.setIfInBounds_toArray, List.set_cons_zero, List.set_cons_succ]
          have hcB : w6.cell? ⟨wr.heap.size + 1, 0, none⟩ = some (.int .i64 (((F - x) % c) + G - 1)) := (World.cell?_of_block (a := ⟨wr.heap.size + 1, 0, none⟩) (hW6 (wr.heap.size + 1) (by simp; try omega) (hv1 _ (by omega)))).trans (cell_newD (by simp))
          refine wpAnyB_one (i := 16) (by kernel_rfl) rfl (fun K hK => ?_)
          (refine step_append_2 (by rfl) _ _ (by rfl) W2.heap.size (.slice (some ⟨g3, 0, none⟩) (k + 1) c3) (.slice gb k cb) (cutLs c f x k ++ [((F - x) % c)]) (cutRs c f l x k) (((F - x) % c) + G - 1) _ (by rfl) hT6 (by rfl) hcB (by have h2 := hB6.size; simp at h2; omega) hrr2 k HRn.out ?_; intro g4 c4 wz hTZ hBZ0; have hBZ := hB7.trans hBZ0)
          refine hK.out _ _ (meetB.both (hTT _ (Only.of (hBZ))) ⟨(((hBZ)).cell (p := ⟨mb, 0, none⟩) hmb).trans z0, (((hBZ)).cell (p := ⟨mb, 1, none⟩) hmb).trans z1⟩) (fun hM2 => ?_)
          clear hK K
          replace hM := hM2
          clear hM2
          try simp only [List.getElem_toArray, List.getElem_cons_succ, List.getElem_cons_zero, Act.put, List.setIfInBounds_toArray, List.set_cons_zero, List.set_cons_succ]
          have kb6 := Hkb.out.below hBZ hmb
          have q0 := kb6.cell 0
          have q1 := kb6.cell 1
          have q2 := kb6.frozen 0
          have q3 := kb6.frozen 1
          have q4 := kb6.lt
          simp at q0 q1
          have hO8 : Only (fun b => b = mb) W2.heap.size wr (wz.setCell ⟨mb, 0, none⟩ (.slice (some ⟨g3, 0, none⟩) (k + 1) c3)) := (Only.of (X := fun b => b = mb) hBZ).setCell (p := ⟨mb, 0, none⟩) (.inl rfl) _
          have hO8' : Only (fun b => b = mb) W2.heap.size wr ((wz.setCell ⟨mb, 0, none⟩ (.slice (some ⟨g3, 0, none⟩) (k + 1) c3)).setCell ⟨mb, 1, none⟩ (.slice (some ⟨g4, 0, none⟩) (k + 1) c4)) := hO8.setCell (p := ⟨mb, 1, none⟩) (.inl rfl) _
          refine wpAnyB_one (i := 18) (by kernel_rfl) rfl (fun K hK => ?_)
          go_simp
          refine hK.out _ _ (meetB.late (hTT _ hO8) (by kernel_rfl)) (fun hM2 => ?_)
          clear hK K
          replace hM := hM2
          clear hM2
          try simp only [List.getElem_toArray, List.getElem_cons_succ, List.getElem_cons_zero, Act.put, List.setIfInBounds_toArray, List.set_cons_zero, List.set_cons_succ]
          refine wpAnyB_take (i := 19) (v := ?_) false rfl (by kernel_rfl) (by kernel_rfl) (by kernel_rfl) (by kernel_rfl) (by kernel_rfl) (fun _ _ _ h => h) (Or.inl ⟨by rfl, ?_⟩) hM (fun hM2 => ?_)
          rotate_left
          · (intro w hSw; replace hSw := hSw.1; (try dsimp only at hSw); go_simp; try with_reducible rfl)
          replace hM := hM2
          clear hM2
          try simp only [List.getElem_toArray, List.getElem_cons_succ, List.getElem_cons_zero, Act.put, List.setIfInBounds_toArray, List.set_cons_zero, List.set_cons_succ]
          refine wpAnyB_one (i := 20) (by kernel_rfl) rfl (fun K hK => ?_)
          go_simp
          refine hK.out _ _ (meetB.late (hTT _ hO8') (by kernel_rfl)) (fun hM2 => ?_)
          clear hK K
          replace hM := hM2
          clear hM2
          try simp only [List.getElem_toArray, List.getElem_cons_succ, List.getElem_cons_zero, Act.put, List.setIfInBounds_toArray, List.set_cons_zero, List.set_cons_succ]
          refine wpAnyB_done (by kernel_rfl) ?_ _
          have hO9 := HhO.out.trans (hO8'.mono (Nat.le_refl _) fun _ _ h => h)
          have kb9 : Blk ((wz.setCell ⟨mb, 0, none⟩ (.slice (some ⟨g3, 0, none⟩) (k + 1) c3)).setCell ⟨mb, 1, none⟩ (.slice (some ⟨g4, 0, none⟩) (k + 1) c4)) mb #[.slice (some ⟨g3, 0, none⟩) (k + 1) c3, .slice (some ⟨g4, 0, none⟩) (k + 1) c4] 38 := by simpa using (kb6.store 0 (.slice (some ⟨g3, 0, none⟩) (k + 1) c3)).store 1 (.slice (some ⟨g4, 0, none⟩) (k + 1) c4)
          have hT9 := (hTZ.store (a := ⟨mb, 0, none⟩) hmb (.slice (some ⟨g3, 0, none⟩) (k + 1) c3)).store (a := ⟨mb, 1, none⟩) hmb (.slice (some ⟨g4, 0, none⟩) (k + 1) c4)
          rw [← HS1.out, ← HS2.out] at hT9
          clear hO8 hO8' kb6 hTZ hBZ q0 q1 q2 q3 q4 hM hTT
          generalize World.setCell _ _ _ = W9 at *
          have HhO9 := Lib.hid hO9
          clear hO9
          have Hkb9 := Lib.hid kb9
          clear kb9
          have HhT9 := Lib.hid hT9
          clear hT9
          go_wp2_with fail
          go_roundw
          case rel => exact ⟨HhO9.out, k + 1, _, _, _, _, by omega, by go_num, Hkb9.out, HhT9.out⟩
          case measure => first | (simp [intOf]; done) | (simp [intOf]; omega)
      · go_simp
        refine hK.out _ _ (meetB.both (hTT _ (Only.of (hA1 _))) ⟨(((hA1 _)).cell (p := ⟨mb, 0, none⟩) hmb).trans z0, (((hA1 _)).cell (p := ⟨mb, 1, none⟩) hmb).trans z1⟩) (fun hM2 => ?_)
        clear hK K
        replace hM := hM2
        clear hM2
        try simp only [List.getElem_toArray, List.getElem_cons_succ, List.getElem_cons_zero, Act.put, List.setIfInBounds_toArray, List.set_cons_zero, List.set_cons_succ]
        refine wpAnyB_one (i := 3) (by kernel_rfl) rfl (fun K hK => ?_)
        go_simp
        refine hK.out _ _ (meetB.both (hTT _ (Only.of (hA2 _ _))) ⟨(((hA2 _ _)).cell (p := ⟨mb, 0, none⟩) hmb).trans z0, (((hA2 _ _)).cell (p := ⟨mb, 1, none⟩) hmb).trans z1⟩) (fun hM2 => ?_)
        clear hK K
        replace hM := hM2
        clear hM2
        try simp only [List.getElem_toArray, List.getElem_cons_succ, List.getElem_cons_zero, Act.put, List.setIfInBounds_toArray, List.set_cons_zero, List.set_cons_succ]
        refine wpAnyB_one (i := 4) (by kernel_rfl) rfl (fun K hK => ?_)
        (refine step_append_1 (by rfl) _ _ (by rfl) W2.heap.size (.slice ga k ca) (.slice gb k cb) (cutLs c f x k) (cutRs c f l x k) ((F - x) % c) _ (by rfl) (((HhT.out.alloc _).alloc _).drew) (by rfl) (cell_newD (by simp)) (by have := HhO.out.size; simp; omega) hll2 k HLn.out ?_; intro g3 c3 w6 hT6 hB6 hW6; have hB7 := (hA2 #[.int .i64 (((F - x) % c) + G - 1)] #[.int .i64 ((F - x) % c)]).trans hB6)
        refine hK.out _ _ (meetB.both (hTT _ (Only.of (hB7))) ⟨(((hB7)).cell (p := ⟨mb, 0, none⟩) hmb).trans z0, (((hB7)).cell (p := ⟨mb, 1, none⟩) hmb).trans z1⟩) (fun hM2 => ?_)
        clear hK K
        replace hM := hM2
        clear hM2
        try simp only [List.getElem_toArray, List.getElem_cons_succ, List.getElem_cons_zero, Act.put, List.setIfInBounds_toArray, List.set_cons_zero, List.set_cons_succ]
        refine wpAnyB_take (i := 17) (v := ?_) false rfl (by kernel_rfl) (by kernel_rfl) (by kernel_rfl) (by kernel_rfl) (by kernel_rfl) (fun _ _ _ h => h) (Or.inl ⟨by rfl, ?_⟩) hM (fun hM2 => ?_)
        rotate_left
        · (intro w hSw; replace hSw := hSw.1; (try dsimp only at hSw); go_simp; try with_reducible rfl)
        replace hM := hM2
        clear hM2
        try simp only [List.getElem_toArray, List.getElem_cons_succ, List.getElem_cons_zero, Act.put, List.setIfInBounds_toArray, List.set_cons_zero, List.set_cons_succ]
        have hcB : w6.cell? ⟨wr.heap.size, 0, none⟩ = some (.int .i64 (((F - x) % c) + G - 1)) := (World.cell?_of_block (a := ⟨wr.heap.size, 0, none⟩) (hW6 wr.heap.size (by simp; omega) (hv1 _ (by omega)))).trans (cell_newD2 rfl)
        refine wpAnyB_one (i := 16) (by kernel_rfl) rfl (fun K hK => ?_)
        (refine step_append_2 (by rfl) _ _ (by rfl) W2.heap.size (.slice (some ⟨g3, 0, none⟩) (k + 1) c3) (.slice gb k cb) (cutLs c f x k ++ [((F - x) % c)]) (cutRs c f l x k) (((F - x) % c) + G - 1) _ (by rfl) hT6 (by rfl) hcB (by have h2 := hB6.size; simp at h2; omega) hrr2 k HRn.out ?_; intro g4 c4 wz hTZ hBZ0; have hBZ := hB7.trans hBZ0)
        refine hK.out _ _ (meetB.both (hTT _ (Only.of (hBZ))) ⟨(((hBZ)).cell (p := ⟨mb, 0, none⟩) hmb).trans z0, (((hBZ)).cell (p := ⟨mb, 1, none⟩) hmb).trans z1⟩) (fun hM2 => ?_)
        clear hK K
        replace hM := hM2
        clear hM2
        try simp only [List.getElem_toArray, List.getElem_cons_succ, List.getElem_cons_zero, Act.put, List.setIfInBounds_toArray, List.set_cons_zero, List.set_cons_succ]
        have kb6 := Hkb.out.below hBZ hmb
        have q0 := kb6.cell 0
        have q1 := kb6.cell 1
        have q2 := kb6.frozen 0
        have q3 := kb6.frozen 1
        have q4 := kb6.lt
        simp at q0 q1
        have hO8 : Only (fun b => b = mb) W2.heap.size wr (wz.setCell ⟨mb, 0, none⟩ (.slice (some ⟨g3, 0, none⟩) (k + 1) c3)) := (Only.of (X := fun b => b = mb) hBZ).setCell (p := ⟨mb, 0, none⟩) (.inl rfl) _
        have hO8' : Only (fun b => b = mb) W2.heap.size wr ((wz.setCell ⟨mb, 0, none⟩ (.slice (some ⟨g3, 0, none⟩) (k + 1) c3)).setCell ⟨mb, 1, none⟩ (.slice (some ⟨g4, 0, none⟩) (k + 1) c4)) := hO8.setCell (p := ⟨mb, 1, none⟩) (.inl rfl) _
        refine wpAnyB_one (i := 18) (by kernel_rfl) rfl (fun K hK => ?_)
        go_simp
        refine hK.out _ _ (meetB.late (hTT _ hO8) (by kernel_rfl)) (fun hM2 => ?_)
        clear hK K
        replace hM := hM2
        clear hM2
        try simp only [List.getElem_toArray, List.getElem_cons_succ, List.getElem_cons_zero, Act.put, List.setIfInBounds_toArray, List.set_cons_zero, List.set_cons_succ]
        refine wpAnyB_take (i := 19) (v := ?_) false rfl (by kernel_rfl) (by kernel_rfl) (by kernel_rfl) (by kernel_rfl) (by kernel_rfl) (fun _ _ _ h => h) (Or.inl ⟨by rfl, ?_⟩) hM (fun hM2 => ?_)
        rotate_left
        · (intro w hSw; replace hSw := hSw.1; (try dsimp only at hSw); go_simp; try with_reducible rfl)
        replace hM := hM2
        clear hM2
        try simp only [List.getElem_toArray, List.getElem_cons_succ, List.getElem_cons_zero, Act.put, List.setIfInBounds_toArray, List.set_cons_zero, List.set_cons_succ]
        refine wpAnyB_one (i := 20) (by kernel_rfl) rfl (fun K hK => ?_)
        go_simp
        refine hK.out _ _ (meetB.late (hTT _ hO8') (by kernel_rfl)) (fun hM2 => ?_)
        clear hK K
        replace hM := hM2
        clear hM2
        try simp only [List.getElem_toArray, List.getElem_cons_succ, List.getElem_cons_zero, Act.put, List.setIfInBounds_toArray, List.set_cons_zero, List.set_cons_succ]
        refine wpAnyB_done (by kernel_rfl) ?_ _
        have hO9 := HhO.out.trans (hO8'.mono (Nat.le_refl _) fun _ _ h => h)
        have kb9 : Blk ((wz.setCell ⟨mb, 0, none⟩ (.slice (some ⟨g3, 0, none⟩) (k + 1) c3)).setCell ⟨mb, 1, none⟩ (.slice (some ⟨g4, 0, none⟩) (k + 1) c4)) mb #[.slice (some ⟨g3, 0, none⟩) (k + 1) c3, .slice (some ⟨g4, 0, none⟩) (k + 1) c4] 38 := by simpa using (kb6.store 0 (.slice (some ⟨g3, 0, none⟩) (k + 1) c3)).store 1 (.slice (some ⟨g4, 0, none⟩) (k + 1) c4)
        have hT9 := (hTZ.store (a := ⟨mb, 0, none⟩) hmb (.slice (some ⟨g3, 0, none⟩) (k + 1) c3)).store (a := ⟨mb, 1, none⟩) hmb (.slice (some ⟨g4, 0, none⟩) (k + 1) c4)
        rw [← HS1.out, ← HS2.out] at hT9
        clear hO8 hO8' kb6 hTZ hBZ q0 q1 q2 q3 q4 hM hTT
        generalize World.setCell _ _ _ = W9 at *
        have HhO9 := Lib.hid hO9
        clear hO9
        have Hkb9 := Lib.hid kb9
        clear kb9
        have HhT9 := Lib.hid hT9
        clear hT9
        go_wp2_with fail
        go_roundw
        case rel => exact ⟨HhO9.out, k + 1, _, _, _, _, by omega, by go_num, Hkb9.out, HhT9.out⟩
        case measure => first | (simp [intOf]; done) | (simp [intOf]; omega)
    · have hk0 : k = f.length := by omega
      subst hk0
      have k9 := hO.blk Hk1.out Hk1.out.lt (fun e => Hhm1.out e)
      have q0 := k9.cell 0
      have q1 := k9.cell 1
      have q2 := k9.frozen 0
      have q3 := k9.frozen 1
      have q4 := k9.lt
      simp at q0 q1
      have hF : Below w.heap.size w ((wr.setCell ⟨w.heap.size + 1, 0, none⟩ (.slice ga f.length ca)).setCell ⟨w.heap.size + 1, 1, none⟩ (.slice gb f.length cb)) :=
        ((HhBw.out.trans (hO.below HhBw.out.size fun b hb h => by have h2 : b = mb := h; omega)).setCell (by simp) _).setCell (by simp) _
      have hT2 := (hT.store (a := ⟨w.heap.size + 1, 0, none⟩) Hk1.out.lt (.slice ga f.length ca)).store (a := ⟨w.heap.size + 1, 1, none⟩) Hk1.out.lt (.slice gb f.length cb)
      have hb9 := HhBw.out.size
      clear k9 hT kb
      have HhF := Lib.hid hF
      clear hF
      have HhT2 := Lib.hid hT2
      clear hT2
      have HhO := Lib.hid hO
      clear hO
      go_wp2_with fail
      refine bodyPost_ret (v := .tuple #[.agg #[.slice ga f.length ca, .slice gb f.length cb], .bool true]) (by simp [results, Tryd.results14, go_sem, q0, q1]) rfl ?_
      exact RetIv.yes HE.out rfl HhF.out HhT2.out hb9

end Go.Proofs.YtfkehmpckhmkbaaDoor
