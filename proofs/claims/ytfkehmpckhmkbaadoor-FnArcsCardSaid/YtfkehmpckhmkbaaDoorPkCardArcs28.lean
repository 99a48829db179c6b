/-
  What FnArcs draws: arcs, arcs and a number. For texts of at most 2^20 bytes.
-/
import Derived.Test.YtfkehmpckhmkbaaDoorPkCardArcs24
import Derived.Test.YtfkehmpckhmkbaaDoorPkCardArcs27
namespace Go.Proofs.YtfkehmpckhmkbaaDoor
open Go.RowKit

/-- Arcs have been drawn, by a call of its own cursor. -/
def RetArN (w : World) (e : Ending) (w' : World) : Prop :=
  ∃ (C : Int) (f l : List Int) (fo lo : Option Addr) (fc lc : Nat), f.length ≤ 6 ∧ l.length ≤ 6 ∧ e = .returned (.agg #[.int .i64 C, .slice fo f.length fc, .slice lo l.length lc]) ∧ IntsAt w' fo f ∧ IntsAt w' lo l ∧ Below w.heap.size w w'
/-- Arcs and a number. -/
def RetArZ (w : World) (e : Ending) (w' : World) : Prop :=
  ∃ (C z : Int) (f l : List Int) (fo lo : Option Addr) (fc lc : Nat), f.length ≤ 6 ∧ l.length ≤ 6 ∧ e = .returned (.tuple #[.agg #[.int .i64 C, .slice fo f.length fc, .slice lo l.length lc], .int .i64 z]) ∧ FrI w' (w.heap.size + 1) fo f ∧ FrI w' (w.heap.size + 1) lo l ∧ Below w.heap.size w w'

set_option maxRecDepth 100000 in
set_option maxHeartbeats 4000000 in
theorem DrawGraphOfArcs_any (n c : Nat) (bo : Option Addr) (w : World) (h : BytesU w.heap.size w bo n) (hn : n ≤ 1048576) :
    Calls Tryd.prog 5 #[.slice bo n c] w (RetArN w) := by
  go_enter Tryd.func5, Tryd.ntmps5
  go_wp2_with fail
  generalize hW : World.alloc _ _ = W1
  obtain ⟨hB, hs, k0⟩ := alloc1 hW
  have hs1 : w.heap.size < W1.heap.size := by omega
  have hb1 : BytesU W1.heap.size W1 bo n := (h.only (Only.of (X := fun _ => False) hB) fun _ _ h => h).mono (by omega)
  clear hW hs
  refine (l1New_any n c bo W1 hb1 hn).mono ?_
  rintro e w1 ⟨cb, rfl, hB1, hcb, hC⟩
  replace k0 := k0.below hB1 hs1
  have hs2 := hB1.size
  replace hB := hB.trans (hB1.mono (by omega))
  have HhB := Lib.hid hB
  clear hB
  have Hk0 := Lib.hid k0
  clear k0
  clear hb1 hB1 h
  go_wp2_with fail
  refine (l23Arcs_any cb n c bo w1 hC).mono ?_
  rintro e w2 ⟨C, f, l, fo, lo, fc, lc, hf, hl, rfl, hF, hL, hD⟩
  have k9 := hD.blk Hk0.out (by omega)
  have y0 := k9.cell 0
  have y1 := k9.cell 1
  have y2 := k9.cell 2
  have y3 := k9.frozen 0
  have y4 := k9.frozen 1
  have y5 := k9.frozen 2
  have y6 := k9.lt
  simp at y0 y1 y2
  have HE := Lib.hid (show RetArN w (.returned (.agg #[.int .i64 C, .slice fo f.length fc, .slice lo l.length lc])) (((w2.setCell ⟨w.heap.size, 0, none⟩ (.int .i64 C)).setCell ⟨w.heap.size, 1, none⟩ (.slice fo f.length fc)).setCell ⟨w.heap.size, 2, none⟩ (.slice lo l.length lc)) from
    ⟨C, f, l, fo, lo, fc, lc, hf, hl, rfl, (((hF.store (a := ⟨w.heap.size, 0, none⟩) (by show w.heap.size < _; omega) _).store (a := ⟨w.heap.size, 1, none⟩) (by show w.heap.size < _; omega) _).store (a := ⟨w.heap.size, 2, none⟩) (by show w.heap.size < _; omega) _).1,
      (((hL.store (a := ⟨w.heap.size, 0, none⟩) (by show w.heap.size < _; omega) _).store (a := ⟨w.heap.size, 1, none⟩) (by show w.heap.size < _; omega) _).store (a := ⟨w.heap.size, 2, none⟩) (by show w.heap.size < _; omega) _).1,
      (((HhB.out.trans (hD.only.below (by omega) fun b hb e => by have e2 : b = cb := e; omega)).setCell (by simp) _).setCell (by simp) _).setCell (by simp) _⟩)
  clear k9 hD hF hL HhB Hk0 hC
  go_wp2_with fail
  refine bodyPost_ret (v := .agg #[.int .i64 C, .slice fo f.length fc, .slice lo l.length lc]) (by simp [results, Tryd.results5, go_sem, y0, y1, y2]) rfl ?_
  exact HE.out

set_option maxRecDepth 100000 in
set_option maxHeartbeats 4000000 in
theorem l23Both_any (n c : Nat) (bo : Option Addr) (w : World) (h : BytesU w.heap.size w bo n) (hn : n ≤ 1048576) :
    Calls Tryd.prog 40 #[.slice bo n c] w (RetArZ w) := by
  go_enter Tryd.func40, Tryd.ntmps40
  go_wp2_with fail
  generalize hW : World.alloc _ _ = W1
  obtain ⟨hB, hs, k0⟩ := alloc1 hW
  have hs1 : w.heap.size + 1 ≤ W1.heap.size := by omega
  have hb1 : BytesU W1.heap.size W1 bo n := (h.only (Only.of (X := fun _ => False) hB) fun _ _ h => h).mono (by omega)
  clear hW hs
  refine (l1New_any n c bo W1 hb1 hn).mono ?_
  rintro e w1 ⟨cb, rfl, hB1, hcb, hC⟩
  replace k0 := k0.below hB1 (by omega)
  have hs2 := hB1.size
  replace hB := hB.trans (hB1.mono (by omega))
  have hcl := hC.lt
  have HhB := Lib.hid hB
  clear hB
  have Hk0 := Lib.hid k0
  clear k0
  clear hb1 hB1 h
  go_wp2_with fail
  refine (l23Arcs_any cb n c bo w1 hC).mono ?_
  rintro e w2 ⟨C, f, l, fo, lo, fc, lc, hf, hl, rfl, hF, hL, hD⟩
  go_upto_region 3 with fail
  generalize hWb : World.alloc _ _ = Wb
  obtain ⟨hBb, hzb, kb⟩ := alloc1 hWb
  have hcw := hD.cur.lt
  have hs3 := hD.only.size
  replace hF := hF.below hBb
  replace hL := hL.below hBb
  replace hD := hD.below hBb
  clear hWb hBb hzb hC
  generalize w2.heap.size = yb at *
  have k0 := hD.blk Hk0.out (by omega)
  have hCur := hD.cur.below (Below.refl _ _).drew
  have z0 := kb.cell 0
  have z1 := kb.cell 1
  have z2 := kb.cell 2
  have z4 := kb.lt
  simp at z0 z1 z2
  have hyw : yb ≠ w.heap.size := by omega
  have HhF := Lib.hid hF
  clear hF
  have HhL := Lib.hid hL
  clear hL
  have HhD := Lib.hid hD
  clear hD
  have Hkb := Lib.hid kb
  clear kb
  have Hk0 := Lib.hid k0
  clear k0
  refine wp_region_B (fun w' => w'.cell? ⟨yb, 0, none⟩ = some (.int .i64 C) ∧ w'.cell? ⟨yb, 1, none⟩ = some (.slice fo f.length fc) ∧ w'.cell? ⟨yb, 2, none⟩ = some (.slice lo l.length lc)) (fun _ => True) [] (by kernel_rfl) (⟨z0, z1, z2⟩) (trivial) (fun hM => ?_)
  refine wpAnyB_take (i := 0) (v := ?_) false rfl (by kernel_rfl) (by kernel_rfl) (by kernel_rfl) (by kernel_rfl) (by kernel_rfl) (fun _ _ _ h => h) (Or.inl ⟨by rfl, ?_⟩) hM (fun hM2 => ?_)
  rotate_left
  · (intro w hSw; replace hSw := hSw.1; (try dsimp only at hSw); go_simp; try with_reducible rfl)
  replace hM := hM2
  clear hM2
  try simp only [List.getElem_toArray, List.getElem_cons_zero, Act.put, List.setIfInBounds_toArray, List.set_cons_zero, List.set_cons_succ]
  refine wpAnyB_take (i := 1) (v := ?_) false rfl (by kernel_rfl) (by kernel_rfl) (by kernel_rfl) (by kernel_rfl) (by kernel_rfl) (fun _ _ _ h => h) (Or.inl ⟨by rfl, ?_⟩) hM (fun hM2 => ?_)
  rotate_left
  · (intro w hSw; replace hSw := hSw.1; (try dsimp only at hSw); go_simp; try with_reducible rfl)
  replace hM := hM2
  clear hM2
  try simp only [List.getElem_toArray, List.getElem_cons_succ, List.getElem_cons_zero, Act.put, List.setIfInBounds_toArray, List.set_cons_zero, List.set_cons_succ]
  refine wpAnyB_one (i := 2) (by kernel_rfl) rfl (fun K hK => ?_)
  (go_simp; go_at_call 44; refine (l1Below_any 14 cb n c bo _ hCur (by omega) (by omega)).mono ?_; rintro e w4 ⟨z, hz, rfl, hD1⟩; have kb4 := hD1.blk Hkb.out.drew (by omega); have k4 := hD1.blk Hk0.out.drew (by omega); have v0 := kb4.cell 0; have v1 := kb4.cell 1; have v2 := kb4.cell 2; simp at v0 v1 v2; dsimp only)
  refine hK.out _ _ (meetB.both ⟨v0, v1, v2⟩ trivial) (fun hM2 => ?_)
  clear hK K
  replace hM := hM2
  clear hM2
  try simp only [List.getElem_toArray, List.getElem_cons_succ, List.getElem_cons_zero, Act.put, List.setIfInBounds_toArray, List.set_cons_zero, List.set_cons_succ]
  have hw : IntKind.i64.wrap ((z : Int) - 1) = (z : Int) - 1 := IntKind_i64_in _ (by omega) (by omega)
  have hD5 := (HhD.out.below (Below.refl _ _).drew).trans hD1
  have hF5 := (HhF.out.below (Below.refl _ _).drew).only hD1.only (fun b hb e => by have e2 : b = cb := e; omega)
  have hL5 := (HhL.out.below (Below.refl _ _).drew).only hD1.only (fun b hb e => by have e2 : b = cb := e; omega)
  have x0 := k4.cell 0
  have x1 := k4.cell 1
  have x2 := k4.cell 2
  have x3 := k4.frozen 0
  have x4 := k4.frozen 1
  have x5 := k4.frozen 2
  have x6 := k4.lt
  simp at x0 x1 x2
  have HE := Lib.hid (show RetArZ w (.returned (.tuple #[.agg #[.int .i64 C, .slice fo f.length fc, .slice lo l.length lc], .int .i64 ((z : Int) - 1)])) (((w4.setCell ⟨w.heap.size, 0, none⟩ (.int .i64 C)).setCell ⟨w.heap.size, 1, none⟩ (.slice fo f.length fc)).setCell ⟨w.heap.size, 2, none⟩ (.slice lo l.length lc)) from
    ⟨C, _, f, l, fo, lo, fc, lc, hf, hl, rfl, (((hF5.store (a := ⟨w.heap.size, 0, none⟩) (by show w.heap.size < _; omega) _).store (a := ⟨w.heap.size, 1, none⟩) (by show w.heap.size < _; omega) _).store (a := ⟨w.heap.size, 2, none⟩) (by show w.heap.size < _; omega) _).mono (by omega), (((hL5.store (a := ⟨w.heap.size, 0, none⟩) (by show w.heap.size < _; omega) _).store (a := ⟨w.heap.size, 1, none⟩) (by show w.heap.size < _; omega) _).store (a := ⟨w.heap.size, 2, none⟩) (by show w.heap.size < _; omega) _).mono (by omega), (((HhB.out.trans (hD5.only.below (by omega) fun b hb e => by have e2 : b = cb := e; omega)).setCell (by simp) _).setCell (by simp) _).setCell (by simp) _⟩)
  have k5 : Blk (((w4.setCell ⟨w.heap.size, 0, none⟩ (.int .i64 C)).setCell ⟨w.heap.size, 1, none⟩ (.slice fo f.length fc)).setCell ⟨w.heap.size, 2, none⟩ (.slice lo l.length lc)) w.heap.size #[.int .i64 C, .slice fo f.length fc, .slice lo l.length lc] 26 := by
    have := ((k4.store 0 (.int .i64 C)).store 1 (.slice fo f.length fc)).store 2 (.slice lo l.length lc)
    simpa using this
  have kb5 := ((kb4.other (a := ⟨w.heap.size, 0, none⟩) (.int .i64 C) hyw).other (a := ⟨w.heap.size, 1, none⟩) (.slice fo f.length fc) hyw).other (a := ⟨w.heap.size, 2, none⟩) (.slice lo l.length lc) hyw
  have u0 := kb5.cell 0
  have u1 := kb5.cell 1
  have u2 := kb5.cell 2
  simp only [List.getElem?_toArray, List.getElem?_cons_zero, List.getElem?_cons_succ] at u0 u1 u2
  refine wpAnyB_take (i := 3) (v := ?_) false rfl (by kernel_rfl) (by kernel_rfl) (by kernel_rfl) (by kernel_rfl) (by kernel_rfl) (fun _ _ _ h => h) (Or.inl ⟨by rfl, ?_⟩) hM (fun hM2 => ?_)
  rotate_left
  · (intro w hSw; replace hSw := hSw.1; (try dsimp only at hSw); go_simp; try with_reducible rfl)
  replace hM := hM2
  clear hM2
  try simp only [List.getElem_toArray, List.getElem_cons_succ, List.getElem_cons_zero, Act.put, List.setIfInBounds_toArray, List.set_cons_zero, List.set_cons_succ]
  refine wpAnyB_one (i := 4) (by kernel_rfl) rfl (fun K hK => ?_)
  go_simp
  refine hK.out _ _ (meetB.both ⟨u0, u1, u2⟩ trivial) (fun hM2 => ?_)
  clear hK K
  replace hM := hM2
  clear hM2
  try simp only [List.getElem_toArray, List.getElem_cons_succ, List.getElem_cons_zero, Act.put, List.setIfInBounds_toArray, List.set_cons_zero, List.set_cons_succ]
  refine wpAnyB_take (i := 5) (v := ?_) false rfl (by kernel_rfl) (by kernel_rfl) (by kernel_rfl) (by kernel_rfl) (by kernel_rfl) (fun _ _ _ h => h) (Or.inl ⟨by rfl, ?_⟩) hM (fun hM2 => ?_)
  rotate_left
  · (intro w hSw; replace hSw := hSw.1; (try dsimp only at hSw); go_simp; try with_reducible rfl)
  replace hM := hM2
  clear hM2
  try simp only [List.getElem_toArray, List.getElem_cons_succ, List.getElem_cons_zero, Act.put, List.setIfInBounds_toArray, List.set_cons_zero, List.set_cons_succ]
  refine wpAnyB_done (by kernel_rfl) ?_ _
  have y0 := k5.cell 0
  have y1 := k5.cell 1
  have y2 := k5.cell 2
  have y4 := k5.lt
  simp at y0 y1 y2
  clear hM u0 u1 u2 k5 kb5 x0 x1 x2 x3 x4 x5 x6 v0 v1 v2 k4 kb4 hF5 hL5 hD5 hD1 z0 z1 z2 z4
  generalize World.setCell _ _ _ = W9 at *
  go_wp2_with fail
  refine bodyPost_ret (v := .tuple #[.agg #[.int .i64 C, .slice fo f.length fc, .slice lo l.length lc], .int .i64 ((z : Int) - 1)]) (by simp [results, Tryd.results40, go_sem, y0, y1, y2, hw]) rfl ?_
  exact HE.out

/-- Arcs and a number, at last. -/
def RetAZ (w : World) (e : Ending) (w' : World) : Prop :=
  ∃ (C z : Int) (f l : List Int) (fo lo : Option Addr) (fc lc : Nat), f.length ≤ 6 ∧ l.length ≤ 6 ∧ e = .returned (.tuple #[.agg #[.int .i64 C, .slice fo f.length fc, .slice lo l.length lc], .int .i64 z]) ∧ IntsAt w' fo f ∧ IntsAt w' lo l ∧ Below w.heap.size w w'

set_option maxRecDepth 100000 in
set_option maxHeartbeats 4000000 in
theorem DrawArcsAt_any (n c : Nat) (bo : Option Addr) (w : World) (h : BytesU w.heap.size w bo n) (hn : n ≤ 1048576) :
    Calls Tryd.prog 21 #[.slice bo n c] w (RetAZ w) := by
  go_enter Tryd.func21, Tryd.ntmps21
  go_wp2_with fail
  generalize hW : World.alloc _ _ = W1
  obtain ⟨hB, hs, k0⟩ := alloc1 hW
  have hs1 : w.heap.size < W1.heap.size := by omega
  have hb1 : BytesU W1.heap.size W1 bo n := (h.only (Only.of (X := fun _ => False) hB) fun _ _ h => h).mono (by omega)
  clear hW hs
  refine (l23Both_any n c bo W1 hb1 hn).mono ?_
  rintro e w1 ⟨C, z, f, l, fo, lo, fc, lc, hf, hl, rfl, hF, hL, hB1⟩
  replace k0 := k0.below hB1 hs1
  have hs2 := hB1.size
  replace hB := hB.trans (hB1.mono (by omega))
  clear hb1 hB1 h
  go_upto_region 2 with fail
  generalize hW2 : World.alloc _ _ = W2
  obtain ⟨hB2, hz2, kb⟩ := alloc1 hW2
  replace k0 := k0.below hB2 k0.lt
  replace hB := hB.trans (hB2.mono (by omega))
  replace hF := hF.below hB2
  replace hL := hL.below hB2
  clear hW2 hB2 hz2
  have y0 := k0.cell 0
  have y1 := k0.cell 1
  have y2 := k0.cell 2
  have y3 := k0.frozen 0
  have y4 := k0.frozen 1
  have y5 := k0.frozen 2
  have y6 := k0.lt
  have z0 := kb.cell 0
  have z1 := kb.cell 1
  have z2 := kb.cell 2
  have z4 := kb.lt
  simp at y0 y1 y2 z0 z1 z2
  generalize w1.heap.size = yb at *
  have HE := Lib.hid (show RetAZ w (.returned (.tuple #[.agg #[.int .i64 C, .slice fo f.length fc, .slice lo l.length lc], .int .i64 z])) (((W2.setCell ⟨w.heap.size, 0, none⟩ (.int .i64 C)).setCell ⟨w.heap.size, 1, none⟩ (.slice fo f.length fc)).setCell ⟨w.heap.size, 2, none⟩ (.slice lo l.length lc)) from
    ⟨C, z, f, l, fo, lo, fc, lc, hf, hl, rfl, (((hF.store (a := ⟨w.heap.size, 0, none⟩) (by show w.heap.size < _; omega) _).store (a := ⟨w.heap.size, 1, none⟩) (by show w.heap.size < _; omega) _).store (a := ⟨w.heap.size, 2, none⟩) (by show w.heap.size < _; omega) _).1,
      (((hL.store (a := ⟨w.heap.size, 0, none⟩) (by show w.heap.size < _; omega) _).store (a := ⟨w.heap.size, 1, none⟩) (by show w.heap.size < _; omega) _).store (a := ⟨w.heap.size, 2, none⟩) (by show w.heap.size < _; omega) _).1,
      ((hB.setCell (by simp) _).setCell (by simp) _).setCell (by simp) _⟩)
  clear k0 kb hF hL hB
  go_wp2_with fail
  refine bodyPost_ret (v := .tuple #[.agg #[.int .i64 C, .slice fo f.length fc, .slice lo l.length lc], .int .i64 z]) (by simp [results, Tryd.results21, go_sem, y0, y1, y2]) rfl ?_
  exact HE.out

set_option maxRecDepth 100000 in
set_option maxHeartbeats 4000000 in
theorem DrawCoversCircle_any (n c : Nat) (bo : Option Addr) (w : World) (h : BytesU w.heap.size w bo n) (hn : n ≤ 1048576) :
    Calls Tryd.prog 22 #[.slice bo n c] w (RetAZ w) := by
  go_enter Tryd.func22, Tryd.ntmps22
  go_wp2_with fail
  generalize hW : World.alloc _ _ = W1
  obtain ⟨hB, hs, k0⟩ := alloc1 hW
  have hs1 : w.heap.size + 1 ≤ W1.heap.size := by omega
  have hb1 : BytesU W1.heap.size W1 bo n := (h.only (Only.of (X := fun _ => False) hB) fun _ _ h => h).mono (by omega)
  clear hW hs
  refine (l1New_any n c bo W1 hb1 hn).mono ?_
  rintro e w1 ⟨cb, rfl, hB1, hcb, hC⟩
  replace k0 := k0.below hB1 (by omega)
  have hs2 := hB1.size
  replace hB := hB.trans (hB1.mono (by omega))
  have hcl := hC.lt
  have HhB := Lib.hid hB
  clear hB
  have Hk0 := Lib.hid k0
  clear k0
  clear hb1 hB1 h
  go_wp2_with fail
  refine (l23Arcs_any cb n c bo w1 hC).mono ?_
  rintro e w2 ⟨C, f, l, fo, lo, fc, lc, hf, hl, rfl, hF, hL, hD⟩
  go_upto_region 3 with fail
  generalize hWb : World.alloc _ _ = Wb
  obtain ⟨hBb, hzb, kb⟩ := alloc1 hWb
  have hcw := hD.cur.lt
  have hs3 := hD.only.size
  replace hF := hF.below hBb
  replace hL := hL.below hBb
  replace hD := hD.below hBb
  clear hWb hBb hzb hC
  generalize w2.heap.size = yb at *
  have k0 := hD.blk Hk0.out (by omega)
  have hCur := hD.cur.below (Below.refl _ _).drew
  have z0 := kb.cell 0
  have z1 := kb.cell 1
  have z2 := kb.cell 2
  have z4 := kb.lt
  simp at z0 z1 z2
  have hyw : yb ≠ w.heap.size := by omega
  have hcy : cb < Wb.heap.size := hD.cur.lt
  have HhF := Lib.hid hF
  clear hF
  have HhL := Lib.hid hL
  clear hL
  have HhD := Lib.hid hD
  clear hD
  have Hkb := Lib.hid kb
  clear kb
  have Hk0 := Lib.hid k0
  clear k0
  have hm1 : ¬((f.length : Int) < 0) := by omega
  have hm2 : (f.length : Int) < 7 := by omega
  refine wp_region_B (fun w' => w'.cell? ⟨yb, 0, none⟩ = some (.int .i64 C) ∧ w'.cell? ⟨yb, 1, none⟩ = some (.slice fo f.length fc) ∧ w'.cell? ⟨yb, 2, none⟩ = some (.slice lo l.length lc)) (fun _ => True) [] (by kernel_rfl) (⟨z0, z1, z2⟩) (trivial) (fun hM => ?_)
  refine wpAnyB_take (i := 0) (v := ?_) false rfl (by kernel_rfl) (by kernel_rfl) (by kernel_rfl) (by kernel_rfl) (by kernel_rfl) (fun _ _ _ h => h) (Or.inl ⟨by rfl, ?_⟩) hM (fun hM2 => ?_)
  rotate_left
  · (intro w hSw; replace hSw := hSw.1; (try dsimp only at hSw); go_simp; try with_reducible rfl)
  replace hM := hM2
  clear hM2
  try simp only [List.getElem_toArray, List.getElem_cons_zero, Act.put, List.setIfInBounds_toArray, List.set_cons_zero, List.set_cons_succ]
  refine wpAnyB_take (i := 1) (v := ?_) false rfl (by kernel_rfl) (by kernel_rfl) (by kernel_rfl) (by kernel_rfl) (by kernel_rfl) (fun _ _ _ h => h) (Or.inl ⟨by rfl, ?_⟩) hM (fun hM2 => ?_)
  rotate_left
  · (intro w hSw; replace hSw := hSw.1; (try dsimp only at hSw); go_simp; try with_reducible rfl)
  replace hM := hM2
  clear hM2
  try simp only [List.getElem_toArray, List.getElem_cons_succ, List.getElem_cons_zero, Act.put, List.setIfInBounds_toArray, List.set_cons_zero, List.set_cons_succ]
  refine wpAnyB_take (i := 2) (v := ?_) false rfl (by kernel_rfl) (by kernel_rfl) (by kernel_rfl) (by kernel_rfl) (by kernel_rfl) (fun _ _ _ h => h) (Or.inl ⟨by rfl, ?_⟩) hM (fun hM2 => ?_)
  rotate_left
  · (intro w hSw; replace hSw := hSw.1; (try dsimp only at hSw); go_simp; try with_reducible rfl)
  replace hM := hM2
  clear hM2
  try simp only [List.getElem_toArray, List.getElem_cons_succ, List.getElem_cons_zero, Act.put, List.setIfInBounds_toArray, List.set_cons_zero, List.set_cons_succ]
  refine wpAnyB_take (i := 3) (v := ?_) false rfl (by kernel_rfl) (by kernel_rfl) (by kernel_rfl) (by kernel_rfl) (by kernel_rfl) (fun _ _ _ h => h) (Or.inl ⟨by rfl, ?_⟩) hM (fun hM2 => ?_)
  rotate_left
  · (intro w hSw; replace hSw := hSw.1; (try dsimp only at hSw); go_simp; try with_reducible rfl)
  replace hM := hM2
  clear hM2
  try simp only [List.getElem_toArray, List.getElem_cons_succ, List.getElem_cons_zero, Act.put, List.setIfInBounds_toArray, List.set_cons_zero, List.set_cons_succ]
  refine wpAnyB_take (i := 4) (v := ?_) false rfl (by kernel_rfl) (by kernel_rfl) (by kernel_rfl) (by kernel_rfl) (by kernel_rfl) (fun _ _ _ h => h) (Or.inl ⟨by rfl, ?_⟩) hM (fun hM2 => ?_)
  rotate_left
  · (intro w hSw; replace hSw := hSw.1; (try dsimp only at hSw); go_simp; try with_reducible rfl)
  replace hM := hM2
  clear hM2
  try simp only [List.getElem_toArray, List.getElem_cons_succ, List.getElem_cons_zero, Act.put, List.setIfInBounds_toArray, List.set_cons_zero, List.set_cons_succ]
  refine wpAnyB_take (i := 5) (v := ?_) false rfl (by kernel_rfl) (by kernel_rfl) (by kernel_rfl) (by kernel_rfl) (by kernel_rfl) (fun _ _ _ h => h) (Or.inl ⟨by rfl, ?_⟩) hM (fun hM2 => ?_)
  rotate_left
  · (intro w hSw; replace hSw := hSw.1; (try dsimp only at hSw); go_simp; try with_reducible rfl)
  replace hM := hM2
  clear hM2
  try simp only [List.getElem_toArray, List.getElem_cons_succ, List.getElem_cons_zero, Act.put, List.setIfInBounds_toArray, List.set_cons_zero, List.set_cons_succ]
  refine wpAnyB_take (i := 6) (v := ?_) false rfl (by kernel_rfl) (by kernel_rfl) (by kernel_rfl) (by kernel_rfl) (by kernel_rfl) (fun _ _ _ h => h) (Or.inl ⟨by rfl, ?_⟩) hM (fun hM2 => ?_)
  rotate_left
  · (intro w hSw; replace hSw := hSw.1; (try dsimp only at hSw); go_simp; try with_reducible rfl)
  replace hM := hM2
  clear hM2
  try simp only [List.getElem_toArray, List.getElem_cons_succ, List.getElem_cons_zero, Act.put, List.setIfInBounds_toArray, List.set_cons_zero, List.set_cons_succ]
  refine wpAnyB_take (i := 7) (v := ?_) false rfl (by kernel_rfl) (by kernel_rfl) (by kernel_rfl) (by kernel_rfl) (by kernel_rfl) (fun _ _ _ h => h) (Or.inl ⟨by rfl, ?_⟩) hM (fun hM2 => ?_)
  rotate_left
  · (intro w hSw; replace hSw := hSw.1; (try dsimp only at hSw); go_simp; try with_reducible rfl)
  replace hM := hM2
  clear hM2
  try simp only [List.getElem_toArray, List.getElem_cons_succ, List.getElem_cons_zero, Act.put, List.setIfInBounds_toArray, List.set_cons_zero, List.set_cons_succ]
  refine wpAnyB_take (i := 8) (v := ?_) false rfl (by kernel_rfl) (by kernel_rfl) (by kernel_rfl) (by kernel_rfl) (by kernel_rfl) (fun _ _ _ h => h) (Or.inl ⟨by rfl, ?_⟩) hM (fun hM2 => ?_)
  rotate_left
  · (intro w hSw; replace hSw := hSw.1; (try dsimp only at hSw); go_simp; try with_reducible rfl)
  replace hM := hM2
  clear hM2
  try simp only [List.getElem_toArray, List.getElem_cons_succ, List.getElem_cons_zero, Act.put, List.setIfInBounds_toArray, List.set_cons_zero, List.set_cons_succ]
  generalize IntKind.i64.wrap (pwN _ - 1) = V at *
  generalize (if 0 < f.length then (f.length : Int) else 0) = V0 at *
  have hB5 : Below Wb.heap.size Wb (Wb.alloc (.cells #[.int .i64 (-1), .int .i64 0, .int .i64 127, .int .i64 63, .int .i64 7, .int .i64 V] 3)).drew := ((Below.refl _ _).alloc (Nat.le_refl _) _).drew
  have k5 : Blk (Wb.alloc (.cells #[.int .i64 (-1), .int .i64 0, .int .i64 127, .int .i64 63, .int .i64 7, .int .i64 V] 3)).drew Wb.heap.size #[.int .i64 (-1), .int .i64 0, .int .i64 127, .int .i64 63, .int .i64 7, .int .i64 V] 3 := (Blk.made Wb _ _ rfl).drew
  refine wpAnyB_one (i := 9) (by kernel_rfl) rfl (fun K hK => ?_)
  go_simp
  refine hK.out _ _ (meetB.both ⟨(hB5.cell z4).trans z0, (hB5.cell z4).trans z1, (hB5.cell z4).trans z2⟩ trivial) (fun hM2 => ?_)
  clear hK K
  replace hM := hM2
  clear hM2
  try simp only [List.getElem_toArray, List.getElem_cons_succ, List.getElem_cons_zero, Act.put, List.setIfInBounds_toArray, List.set_cons_zero, List.set_cons_succ]
  have hcell : ∀ j, j < [(-1 : Int), 0, 127, 63, 7, V].length → (Wb.alloc (.cells #[.int .i64 (-1), .int .i64 0, .int .i64 127, .int .i64 63, .int .i64 7, .int .i64 V] 3)).drew.cell? ⟨Wb.heap.size, j, none⟩ = some (.int .i64 (gi [(-1 : Int), 0, 127, 63, 7, V] j)) := fun j hj => by
    rw [k5.cell]
    match j, hj with
    | 0, _ => rfl
    | 1, _ => rfl
    | 2, _ => rfl
    | 3, _ => rfl
    | 4, _ => rfl
    | 5, _ => rfl
  have hP := l1PickInt_any [(-1 : Int), 0, 127, 63, 7, V] Wb.heap.size 6 cb n c bo _ (HhD.out.cur.below hB5) (by simp) (by simp) (by omega) k5.lt hcell
  refine wpAnyB_one (i := 10) (by kernel_rfl) rfl (fun K hK => ?_)
  (go_simp; go_at_call 42; refine hP.mono ?_; rintro e w4 ⟨j, hj, rfl, hD1⟩; have kb4 := hD1.blk (Hkb.out.below hB5 z4) (by omega); have k4 := hD1.blk (Hk0.out.below hB5 Hk0.out.lt) (by omega); have v0 := kb4.cell 0; have v1 := kb4.cell 1; have v2 := kb4.cell 2; simp at v0 v1 v2; dsimp only)
  refine hK.out _ _ (meetB.both ⟨v0, v1, v2⟩ trivial) (fun hM2 => ?_)
  clear hK K
  replace hM := hM2
  clear hM2
  try simp only [List.getElem_toArray, List.getElem_cons_succ, List.getElem_cons_zero, Act.put, List.setIfInBounds_toArray, List.set_cons_zero, List.set_cons_succ]
  generalize gi [(-1 : Int), 0, 127, 63, 7, V] j = z at *
  have hD5 := (HhD.out.below hB5).trans hD1
  have hF5 := (HhF.out.below hB5).only hD1.only (fun b hb e => by have e2 : b = cb := e; omega)
  have hL5 := (HhL.out.below hB5).only hD1.only (fun b hb e => by have e2 : b = cb := e; omega)
  have x0 := k4.cell 0
  have x1 := k4.cell 1
  have x2 := k4.cell 2
  have x3 := k4.frozen 0
  have x4 := k4.frozen 1
  have x5 := k4.frozen 2
  have x6 := k4.lt
  simp at x0 x1 x2
  have HE := Lib.hid (show RetAZ w (.returned (.tuple #[.agg #[.int .i64 C, .slice fo f.length fc, .slice lo l.length lc], .int .i64 z])) (((w4.setCell ⟨w.heap.size, 0, none⟩ (.int .i64 C)).setCell ⟨w.heap.size, 1, none⟩ (.slice fo f.length fc)).setCell ⟨w.heap.size, 2, none⟩ (.slice lo l.length lc)) from
    ⟨C, z, f, l, fo, lo, fc, lc, hf, hl, rfl, (((hF5.store (a := ⟨w.heap.size, 0, none⟩) (by show w.heap.size < _; omega) _).store (a := ⟨w.heap.size, 1, none⟩) (by show w.heap.size < _; omega) _).store (a := ⟨w.heap.size, 2, none⟩) (by show w.heap.size < _; omega) _).1, (((hL5.store (a := ⟨w.heap.size, 0, none⟩) (by show w.heap.size < _; omega) _).store (a := ⟨w.heap.size, 1, none⟩) (by show w.heap.size < _; omega) _).store (a := ⟨w.heap.size, 2, none⟩) (by show w.heap.size < _; omega) _).1, (((HhB.out.trans (hD5.only.below (by omega) fun b hb e => by have e2 : b = cb := e; omega)).setCell (by simp) _).setCell (by simp) _).setCell (by simp) _⟩)
  have k6 : Blk (((w4.setCell ⟨w.heap.size, 0, none⟩ (.int .i64 C)).setCell ⟨w.heap.size, 1, none⟩ (.slice fo f.length fc)).setCell ⟨w.heap.size, 2, none⟩ (.slice lo l.length lc)) w.heap.size #[.int .i64 C, .slice fo f.length fc, .slice lo l.length lc] 26 := by
    have := ((k4.store 0 (.int .i64 C)).store 1 (.slice fo f.length fc)).store 2 (.slice lo l.length lc)
    simpa using this
  have kb5 := ((kb4.other (a := ⟨w.heap.size, 0, none⟩) (.int .i64 C) hyw).other (a := ⟨w.heap.size, 1, none⟩) (.slice fo f.length fc) hyw).other (a := ⟨w.heap.size, 2, none⟩) (.slice lo l.length lc) hyw
  have u0 := kb5.cell 0
  have u1 := kb5.cell 1
  have u2 := kb5.cell 2
  simp only [List.getElem?_toArray, List.getElem?_cons_zero, List.getElem?_cons_succ] at u0 u1 u2
  refine wpAnyB_one (i := 11) (by kernel_rfl) rfl (fun K hK => ?_)
  go_simp
  refine hK.out _ _ (meetB.both ⟨u0, u1, u2⟩ trivial) (fun hM2 => ?_)
  clear hK K
  replace hM := hM2
  clear hM2
  try simp only [List.getElem_toArray, List.getElem_cons_succ, List.getElem_cons_zero, Act.put, List.setIfInBounds_toArray, List.set_cons_zero, List.set_cons_succ]
  refine wpAnyB_take (i := 12) (v := ?_) false rfl (by kernel_rfl) (by kernel_rfl) (by kernel_rfl) (by kernel_rfl) (by kernel_rfl) (fun _ _ _ h => h) (Or.inl ⟨by rfl, ?_⟩) hM (fun hM2 => ?_)
  rotate_left
  · (intro w hSw; replace hSw := hSw.1; (try dsimp only at hSw); go_simp; try with_reducible rfl)
  replace hM := hM2
  clear hM2
  try simp only [List.getElem_toArray, List.getElem_cons_succ, List.getElem_cons_zero, Act.put, List.setIfInBounds_toArray, List.set_cons_zero, List.set_cons_succ]
  refine wpAnyB_done (by kernel_rfl) ?_ _
  have y0 := k6.cell 0
  have y1 := k6.cell 1
  have y2 := k6.cell 2
  have y4 := k6.lt
  simp at y0 y1 y2
  clear hM u0 u1 u2 k6 kb5 x0 x1 x2 x3 x4 x5 x6 v0 v1 v2 k4 kb4 hF5 hL5 hD5 hD1 z0 z1 z2 z4 hB5 k5 hcell hP hm1 hm2
  generalize World.setCell _ _ _ = W9 at *
  go_wp2_with fail
  refine bodyPost_ret (v := .tuple #[.agg #[.int .i64 C, .slice fo f.length fc, .slice lo l.length lc], .int .i64 z]) (by simp [results, Tryd.results22, go_sem, y0, y1, y2]) rfl ?_
  exact HE.out

set_option maxRecDepth 100000 in
set_option maxHeartbeats 8000000 in
theorem DrawCutArcs_any (n c : Nat) (bo : Option Addr) (w : World) (h : BytesU w.heap.size w bo n) (hn : n ≤ 1048576) :
    Calls Tryd.prog 19 #[.slice bo n c] w (RetAZ w) := by
  go_enter Tryd.func19, Tryd.ntmps19
  go_wp2_with fail
  generalize hW : World.alloc _ _ = W1
  obtain ⟨hB, hs, k0⟩ := alloc1 hW
  have hs1 : w.heap.size < W1.heap.size := by omega
  have hb1 : BytesU W1.heap.size W1 bo n := (h.only (Only.of (X := fun _ => False) hB) fun _ _ h => h).mono (by omega)
  clear hW hs
  refine (l23Both_any n c bo W1 hb1 hn).mono ?_
  rintro e w1 ⟨C, z, f, l, fo, lo, fc, lc, hf, hl, rfl, hF, hL, hB1⟩
  replace k0 := k0.below hB1 hs1
  have hs2 := hB1.size
  replace hB := hB.trans (hB1.mono (by omega))
  clear hb1 hB1 h
  go_upto_region 2 with fail
  generalize hW2 : World.alloc _ _ = W2
  obtain ⟨hB2, hz2, kb⟩ := alloc1 hW2
  replace k0 := k0.below hB2 k0.lt
  replace hB := hB.trans (hB2.mono (by omega))
  replace hF := hF.below hB2
  replace hL := hL.below hB2
  clear hW2 hB2 hz2
  generalize w1.heap.size = yb at *
  have z0 := kb.cell 0
  have z1 := kb.cell 1
  have z2 := kb.cell 2
  have z4 := kb.lt
  simp at z0 z1 z2
  have hFr := specFree_any C f l fo lo fc lc W2 hF.1 hL.1 (by omega) (by omega)
  have HhB := Lib.hid hB
  clear hB
  have HhF := Lib.hid hF
  clear hF
  have HhL := Lib.hid hL
  clear hL
  have Hk0 := Lib.hid k0
  clear k0
  have Hkb := Lib.hid kb
  clear kb
  go_wp2_with fail
  refine hFr.mono ?_
  rintro e w3 ⟨rfl, hB3⟩
  generalize freeN (freePt C f l) = y at *
  generalize freeIs (freePt C f l) = bb at *
  replace k0 := Hk0.out.below hB3 Hk0.out.lt
  replace kb := Hkb.out.below hB3 z4
  have hs3 := hB3.size
  replace hB := HhB.out.trans (hB3.mono HhB.out.size)
  replace hF := HhF.out.below hB3
  replace hL := HhL.out.below hB3
  clear hFr hB3 HhB HhF HhL Hk0 Hkb z0 z1 z2 z4
  have y0 := k0.cell 0
  have y1 := k0.cell 1
  have y2 := k0.cell 2
  have y3 := k0.frozen 0
  have y4 := k0.frozen 1
  have y5 := k0.frozen 2
  have y6 := k0.lt
  have z0 := kb.cell 0
  have z1 := kb.cell 1
  have z2 := kb.cell 2
  have z4 := kb.lt
  simp at y0 y1 y2 z0 z1 z2
  have HE := Lib.hid fun z : Int => (show RetAZ w (.returned (.tuple #[.agg #[.int .i64 C, .slice fo f.length fc, .slice lo l.length lc], .int .i64 z])) (((w3.setCell ⟨w.heap.size, 0, none⟩ (.int .i64 C)).setCell ⟨w.heap.size, 1, none⟩ (.slice fo f.length fc)).setCell ⟨w.heap.size, 2, none⟩ (.slice lo l.length lc)) from
    ⟨C, z, f, l, fo, lo, fc, lc, hf, hl, rfl, (((hF.store (a := ⟨w.heap.size, 0, none⟩) (by show w.heap.size < _; omega) _).store (a := ⟨w.heap.size, 1, none⟩) (by show w.heap.size < _; omega) _).store (a := ⟨w.heap.size, 2, none⟩) (by show w.heap.size < _; omega) _).1,
      (((hL.store (a := ⟨w.heap.size, 0, none⟩) (by show w.heap.size < _; omega) _).store (a := ⟨w.heap.size, 1, none⟩) (by show w.heap.size < _; omega) _).store (a := ⟨w.heap.size, 2, none⟩) (by show w.heap.size < _; omega) _).1,
      ((hB.setCell (by simp) _).setCell (by simp) _).setCell (by simp) _⟩)
  clear k0 kb hF hL hB
  cases bb
  · go_wp2_with fail
    refine bodyPost_ret (v := .tuple #[.agg #[.int .i64 C, .slice fo f.length fc, .slice lo l.length lc], .int .i64 z]) (by simp [results, Tryd.results19, go_sem, y0, y1, y2]) rfl ?_
    exact HE.out z
  · by_cases h4 : 0 < n % 4
    · have d4 : decide (0 < (n : Int) % 4) = true := decide_eq_true (by omega)
      go_wp2_with fail
      refine bodyPost_ret (v := .tuple #[.agg #[.int .i64 C, .slice fo f.length fc, .slice lo l.length lc], .int .i64 y]) (by simp [results, Tryd.results19, go_sem, y0, y1, y2]) rfl ?_
      exact HE.out y
    · have d4 : decide (0 < (n : Int) % 4) = false := decide_eq_false (by omega)
      go_wp2_with fail
      refine bodyPost_ret (v := .tuple #[.agg #[.int .i64 C, .slice fo f.length fc, .slice lo l.length lc], .int .i64 z]) (by simp [results, Tryd.results19, go_sem, y0, y1, y2]) rfl ?_
      exact HE.out z

end Go.Proofs.YtfkehmpckhmkbaaDoor
