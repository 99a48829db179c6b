/-
  The drawing of graphs that are often chordal: l8Chordal; and l22Graph. For texts of at most 2^20 bytes.
  The drawing of graphs that are often suns: l22Graph, and the functions that only call it. For texts of at most 2^20 bytes.
  DrawFewestDominating: some graph of at most seven rows. For texts of at most 2^20 bytes.
-/
import Derived.Test.YtgklgheaojoimaaPkLawStrong16
import Derived.Test.YtgklgheaojoimaaPkLawStrong22
import Derived.Test.YtgklgheaojoimaaPkLawStrong29
namespace Go.Proofs.Ytgklgheaojoimaa
open Go.RowKit

set_option maxRecDepth 100000 in
set_option maxHeartbeats 4000000 in
theorem l8Chordal_any (cb n c : Nat) (bo : Option Addr) (w : World) (h : CurAt w cb bo n c) :
    Calls Try.prog 138 #[.pointer (some ⟨cb, 0, none⟩)] w (RetAG cb bo n c w) := by
  have hcw := h.lt
  go_enter Try.func138, Try.ntmps138
  go_wp2_with fail
  generalize hW : World.alloc _ _ = W1
  obtain ⟨hB, hs, k0⟩ := alloc1 hW
  have hD := DrewC.refl (h.below hB)
  have hs1 : w.heap.size < W1.heap.size := by omega
  clear hW hs
  have HhB := Lib.hid hB
  clear hB
  have Hk0 := Lib.hid k0
  clear k0
  refine (l2Any_any cb n c bo W1 hD.cur).mono ?_
  rintro e w2 ⟨x, f, g, cap, hf, rfl, hg, hR, hD1⟩
  replace hD := hD.trans hD1
  have hgw : w.heap.size < g := by omega
  obtain ⟨hf1, hf7⟩ := hf
  clear hD1 hg
  have hend : ∀ (wr : World) (x : Int) (f : List Int) (g cap : Nat), (1 ≤ f.length ∧ f.length ≤ 6) → DrewC cb bo n c W1 wr → w.heap.size < g → RowAt wr g cap f → Hid (RetAG cb bo n c w (.returned (.agg #[.int .i64 x, .slice (some ⟨g, 0, none⟩) f.length cap])) ((wr.setCell ⟨w.heap.size, 0, none⟩ (.int .i64 x)).setCell ⟨w.heap.size, 1, none⟩ (.slice (some ⟨g, 0, none⟩) f.length cap))) := fun wr x f g cap hv hD hg hR => Lib.hid (by
    obtain ⟨h1, h2⟩ := end_graph (N := f.length) (x := x) HhB.out hcw hD hg hR
    exact ⟨x, f, g, cap, hv, rfl, Nat.le_of_lt hg, h1, h2⟩)
  have hblk : ∀ wr, DrewC cb bo n c W1 wr → Blk wr w.heap.size #[.int .i64 0, .slice none 0 0] 26 := fun wr hD => hD.blk Hk0.out (by omega)
  have Hend := Lib.hid hend
  have Hblk := Lib.hid hblk
  clear hend hblk
  go_wp2_with fail
  generalize hWb : World.alloc _ _ = Wb
  obtain ⟨hBb, hzb, kb⟩ := alloc1 hWb
  have hg4 : g < w2.heap.size := hR.lt
  have hcb4 : cb < w2.heap.size := hD.cur.lt
  have hw4 := hD.only.size
  replace hD := hD.below hBb
  replace hR := hR.below hBb
  clear hWb hBb hzb
  generalize w2.heap.size = yb at *
  have hne : ¬w.heap.size = yb := by omega
  have hne2 : ¬yb = w.heap.size := by omega
  have hyc : ¬yb = cb := by omega
  have hyW := kb.lt
  have hkb := kb
  have hT0 : ∀ w', DrewC cb bo n c Wb w' → Only (fun b => b = cb) Wb.heap.size Wb w' ∧ w'.cell? ⟨yb, 0, none⟩ = some (.int .i64 x) ∧ w'.cell? ⟨yb, 1, none⟩ = some (.slice (some ⟨g, 0, none⟩) f.length cap) := fun w' h => by
    have := h.blk hkb (by omega)
    exact ⟨h.only, by simpa using this.cell 0, by simpa using this.cell 1⟩
  have hA0 : DrewC cb bo n c Wb Wb.drew := (DrewC.refl hD.cur).below (Below.refl _ _).drew
  have HLx := Lib.hid fun (s : Nat) (w' : World) (hs : s < 1048576) (hr : IntsAt w' (some ⟨g, 0, none⟩) f) => LexOrder_any x f s (some ⟨g, 0, none⟩) cap w' hr (by omega) hs
  have z0 := kb.cell 0
  have z1 := kb.cell 1
  have z4 := kb.lt
  simp at z0 z1
  have Hkb := Lib.hid kb
  clear hkb kb
  go_wp2_with fail
  refine wp_region_B (fun w' => Only (fun b => b = cb) Wb.heap.size Wb w' ∧ w'.cell? ⟨yb, 0, none⟩ = some (.int .i64 x) ∧ w'.cell? ⟨yb, 1, none⟩ = some (.slice (some ⟨g, 0, none⟩) f.length cap)) (fun _ => True) [] (by kernel_rfl) (hT0 _ hA0) (trivial) (fun hM => ?_)
  refine wpAnyB_take (i := 0) (v := ?_) false rfl (by kernel_rfl) (by kernel_rfl) (by kernel_rfl) (by kernel_rfl) (by kernel_rfl) (fun _ _ _ h => h) (Or.inl ⟨by rfl, ?_⟩) hM (fun hM2 => ?_)
  rotate_left
  · (intro w hSw; replace hSw := hSw.1; (try dsimp only at hSw); go_simp; try with_reducible rfl)
  replace hM := hM2
  clear hM2
  try simp only [List.getElem_toArray, List.getElem_cons_zero, Act.put, List.setIfInBounds_toArray, List.set_cons_zero, List.set_cons_succ]
  refine wpAnyB_take (i := 1) (v := ?_) false rfl (by kernel_rfl) (by kernel_rfl) (by kernel_rfl) (by kernel_rfl) (by kernel_rfl) (fun _ _ _ h => h) (Or.inl ⟨by rfl, ?_⟩) hM (fun hM2 => ?_)
  rotate_left
  · (intro w hSw; replace hSw := hSw.1; (try dsimp only at hSw); go_simp; try with_reducible rfl)
  replace hM := hM2
  clear hM2
  try simp only [List.getElem_toArray, List.getElem_cons_succ, List.getElem_cons_zero, Act.put, List.setIfInBounds_toArray, List.set_cons_zero, List.set_cons_succ]
  refine wpAnyB_one (i := 2) (by kernel_rfl) rfl (fun K hK => ?_)
  (go_simp; go_at_call 117; refine (l1Below_any 2 cb n c bo _ hA0.cur (by omega) (by omega)).mono ?_; rintro e w3 ⟨s, hs, rfl, hD1⟩; have hA1 := hA0.trans hD1; dsimp only)
  refine hK.out _ _ (meetB.both (hT0 _ hA1) trivial) (fun hM2 => ?_)
  clear hK K
  replace hM := hM2
  clear hM2
  try simp only [List.getElem_toArray, List.getElem_cons_succ, List.getElem_cons_zero, Act.put, List.setIfInBounds_toArray, List.set_cons_zero, List.set_cons_succ]
  have hR3 := hA1.row hR (by omega)
  refine wpAnyB_one (i := 3) (by kernel_rfl) rfl (fun K hK => ?_)
  (go_simp; go_at_call 169; refine (HLx.out s _ (by omega) hR3.ints).mono ?_; rintro e w4 ⟨l, la, lc, bl, rfl, hB4, hl, hlo⟩; have hA2 := hA1.below hB4; dsimp only)
  refine hK.out _ _ (meetB.both (hT0 _ hA2) trivial) (fun hM2 => ?_)
  clear hK K
  replace hM := hM2
  clear hM2
  try simp only [List.getElem_toArray, List.getElem_cons_succ, List.getElem_cons_zero, Act.put, List.setIfInBounds_toArray, List.set_cons_zero, List.set_cons_succ]
  refine wpAnyB_take (i := 4) (v := ?_) false rfl (by kernel_rfl) (by kernel_rfl) (by kernel_rfl) (by kernel_rfl) (by kernel_rfl) (fun _ _ _ h => h) (Or.inl ⟨by rfl, ?_⟩) hM (fun hM2 => ?_)
  rotate_left
  · (intro w hSw; replace hSw := hSw.1; (try dsimp only at hSw); go_simp; try with_reducible rfl)
  replace hM := hM2
  clear hM2
  try simp only [List.getElem_toArray, List.getElem_cons_succ, List.getElem_cons_zero, Act.put, List.setIfInBounds_toArray, List.set_cons_zero, List.set_cons_succ]
  refine wpAnyB_take (i := 5) (v := ?_) false rfl (by kernel_rfl) (by kernel_rfl) (by kernel_rfl) (by kernel_rfl) (by kernel_rfl) (fun _ _ _ h => h) (Or.inl ⟨by rfl, ?_⟩) hM (fun hM2 => ?_)
  rotate_left
  · (intro w hSw; replace hSw := hSw.1; (try dsimp only at hSw); go_simp; try with_reducible rfl)
  replace hM := hM2
  clear hM2
  try simp only [List.getElem_toArray, List.getElem_cons_succ, List.getElem_cons_zero, Act.put, List.setIfInBounds_toArray, List.set_cons_zero, List.set_cons_succ]
  refine wpAnyB_take (i := 6) (v := ?_) false rfl (by kernel_rfl) (by kernel_rfl) (by kernel_rfl) (by kernel_rfl) (by kernel_rfl) (fun _ _ _ h => h) (Or.inl ⟨by rfl, ?_⟩) hM (fun hM2 => ?_)
  rotate_left
  · (intro w hSw; replace hSw := hSw.1; (try dsimp only at hSw); go_simp; try with_reducible rfl)
  replace hM := hM2
  clear hM2
  try simp only [List.getElem_toArray, List.getElem_cons_succ, List.getElem_cons_zero, Act.put, List.setIfInBounds_toArray, List.set_cons_zero, List.set_cons_succ]
  refine wpAnyB_take (i := 7) (v := ?_) false rfl (by kernel_rfl) (by kernel_rfl) (by kernel_rfl) (by kernel_rfl) (by kernel_rfl) (fun _ _ _ h => h) (Or.inl ⟨by rfl, ?_⟩) hM (fun hM2 => ?_)
  rotate_left
  · (intro w hSw; replace hSw := hSw.1; (try dsimp only at hSw); go_simp; try with_reducible rfl)
  replace hM := hM2
  clear hM2
  try simp only [List.getElem_toArray, List.getElem_cons_succ, List.getElem_cons_zero, Act.put, List.setIfInBounds_toArray, List.set_cons_zero, List.set_cons_succ]
  refine wpAnyB_take (i := 8) (v := ?_) false rfl (by kernel_rfl) (by kernel_rfl) (by kernel_rfl) (by kernel_rfl) (by kernel_rfl) (fun _ _ _ h => h) (Or.inl ⟨by rfl, ?_⟩) hM (fun hM2 => ?_)
  rotate_left
  · (intro w hSw; replace hSw := hSw.1; (try dsimp only at hSw); go_simp; try with_reducible rfl)
  replace hM := hM2
  clear hM2
  try simp only [List.getElem_toArray, List.getElem_cons_succ, List.getElem_cons_zero, Act.put, List.setIfInBounds_toArray, List.set_cons_zero, List.set_cons_succ]
  refine wpAnyB_done (by kernel_rfl) ?_ _
  have kb := hA2.blk Hkb.out (by omega)
  replace hR := hA2.row hR (by omega)
  replace hD := hD.trans hA2
  clear z0 z1 z4 hA0 hA2 hD1 hM hT0 HLx hR3 Hkb hB4
  cases bl
  · have k9 := Hblk.out _ hD
    have y0 := k9.cell 0
    have y1 := k9.cell 1
    have y2 := k9.frozen 0
    have y3 := k9.frozen 1
    have y4 := k9.lt
    have z0 := kb.cell 0
    have z1 := kb.cell 1
    have z4 := kb.lt
    simp at y0 y1 z0 z1
    have HE := Hend.out _ x f g cap ⟨hf1, hf7⟩ hD hgw hR
    clear k9 kb hD hR hl hlo hA1
    go_wp2_with fail
    refine bodyPost_ret (v := .agg #[.int .i64 x, .slice (some ⟨g, 0, none⟩) f.length cap]) (by simp [results, Try.results138, go_sem, y0, y1]) rfl ?_
    exact HE.out
  · obtain ⟨ho, g0, rfl, hg0⟩ := hlo rfl
    clear hlo
    have hzz := hA1.only.size
    have Hhl := Lib.hid hl
    clear hl
    have Hho := Lib.hid ho
    clear ho
    go_wp2_with fail
    refine (l1Once_any 4 cb n c bo w4 hD.cur (by omega) (by omega)).mono ?_
    rintro e w5 ⟨bb, rfl, hD1⟩
    replace hR := hD1.row hR (by omega)
    replace kb := hD1.blk kb (by omega)
    have hl := Hhl.out.only hD1.only (fun b off e e2 => by cases e; have e3 : g0 = cb := e2; omega)
    replace hD := hD.trans hD1
    clear hD1 Hhl
    cases bb
    · obtain ⟨hv, hxf, -, hlf⟩ := orderB_true Hho.out
      subst hxf
      have z0 := kb.cell 0
      have z1 := kb.cell 1
      have z4 := kb.lt
      simp at z0 z1
      have hF := l6Filled_any f l (some ⟨g, 0, none⟩) (some ⟨g0, 0, none⟩) cap lc w5 Hho.out hR.ints hl
      have hFl := fillTo_len f l l.length
      clear hv hl hlf
      have HhR := Lib.hid hR
      clear hR
      have HhD := Lib.hid hD
      clear hD
      have Hkb := Lib.hid kb
      clear kb
      have HhFl := Lib.hid hFl
      clear hFl
      go_wp2_with fail
      refine hF.mono ?_
      rintro e w6 ⟨g1, cp1, rfl, hB6, hg1, hR6⟩
      have hD6 := HhD.out.below hB6
      have HE := Hend.out w6 f.length (fillTo f l l.length) g1 cp1 (by rw [HhFl.out]; exact ⟨hf1, hf7⟩) hD6 (by have := HhD.out.only.size; omega) hR6
      rw [HhFl.out] at HE
      have k9 := Hblk.out _ hD6
      clear hF hB6 hg1 hR6 hD6 HhR HhD Hkb z0 z1 z4
      have y0 := k9.cell 0
      have y1 := k9.cell 1
      have y2 := k9.frozen 0
      have y3 := k9.frozen 1
      have y4 := k9.lt
      simp at y0 y1
      clear k9
      go_wp2_with fail
      refine bodyPost_ret (v := .agg #[.int .i64 f.length, .slice (some ⟨g1, 0, none⟩) f.length cp1]) (by simp [results, Try.results138, go_sem, y0, y1]) rfl ?_
      exact HE.out
    · have k9 := Hblk.out _ hD
      have y0 := k9.cell 0
      have y1 := k9.cell 1
      have y2 := k9.frozen 0
      have y3 := k9.frozen 1
      have y4 := k9.lt
      have z0 := kb.cell 0
      have z1 := kb.cell 1
      have z4 := kb.lt
      simp at y0 y1 z0 z1
      have HE := Hend.out _ x f g cap ⟨hf1, hf7⟩ hD hgw hR
      clear k9 kb hD hR hl
      go_wp2_with fail
      refine bodyPost_ret (v := .agg #[.int .i64 x, .slice (some ⟨g, 0, none⟩) f.length cap]) (by simp [results, Try.results138, go_sem, y0, y1]) rfl ?_
      exact HE.out

theorem Blk.alloc1 {w : World} {b : Nat} {cs : Array Value} {T : TypeId} {o : Obj} (h : Blk w b cs T) : Blk (w.alloc o) b cs T := h.below ((Below.refl _ _).alloc (Nat.le_refl _) o) h.lt

/-- Nine pairs of vertices behind a list in block lb, all of it above block y. -/
structure PairsAt (y : Nat) (w : World) (lb : Nat) : Prop where
  lt : lb < w.heap.size
  hi : y < lb
  at' : ∀ k, k < 9 → ∃ pb a b : Nat, w.cell? ⟨lb, k, none⟩ = some (.slice (some ⟨pb, 0, none⟩) 2 2) ∧ (pb < w.heap.size ∧ y < pb) ∧ (a < 6 ∧ b < 6 ∧ a ≠ b) ∧ w.cell? ⟨pb, 0, none⟩ = some (.int .i64 a) ∧ w.cell? ⟨pb, 1, none⟩ = some (.int .i64 b)
theorem PairsAt.only {X : Nat → Prop} {w w' : World} {y lb : Nat} (h : PairsAt y w lb) (hO : Only X w.heap.size w w') (hX : ∀ b, y < b → ¬X b) : PairsAt y w' lb :=
  ⟨Nat.lt_of_lt_of_le h.lt hO.size, h.hi, fun k hk => by
    obtain ⟨pb, a, b, h1, h2, h3, h4, h5⟩ := h.at' k hk
    exact ⟨pb, a, b, (hO.cell (p := ⟨lb, k, none⟩) h.lt (hX _ h.hi)).trans h1, ⟨Nat.lt_of_lt_of_le h2.1 hO.size, h2.2⟩, h3, (hO.cell (p := ⟨pb, 0, none⟩) h2.1 (hX _ h2.2)).trans h4, (hO.cell (p := ⟨pb, 1, none⟩) h2.1 (hX _ h2.2)).trans h5⟩⟩
theorem DrewC.made {cb n c y lo N gb cp : Nat} {bo : Option Addr} {W1 W6 wr : World} {f : List Int} (h : DrewC cb bo n c W1 W6) (hm : MakeG W6 wr lo y N gb cp f) (hy : W1.heap.size ≤ y) (hc : cb < y) : DrewC cb bo n c W1 wr :=
  ⟨h.only.trans (hm.only.mono h.only.size fun b hb e => by have e2 : b = y := e; omega), h.cur.only hm.only fun b hb e => by have e2 : b = y := e; omega⟩

set_option maxRecDepth 100000 in
set_option maxHeartbeats 4000000 in
theorem l22Graph_any (cb n c : Nat) (bo : Option Addr) (w : World) (h : CurAt w cb bo n c) :
    Calls Try.prog 102 #[.pointer (some ⟨cb, 0, none⟩)] w (RetAG cb bo n c w) := by
  have hcw := h.lt
  have hmk := run_make_ints 6 (by omega)
  go_enter Try.func102, Try.ntmps102
  go_wp2_with fail
  generalize hW : World.alloc _ _ = W1
  obtain ⟨hB, hs, k0⟩ := alloc1 hW
  have hD := DrewC.refl (h.below hB)
  have hs1 : w.heap.size < W1.heap.size := by omega
  clear hW hs
  have HhB := Lib.hid hB
  clear hB
  have Hk0 := Lib.hid k0
  clear k0
  have hend : ∀ (wr : World) (x : Int) (f : List Int) (g cap : Nat), (1 ≤ f.length ∧ f.length ≤ 6) → DrewC cb bo n c W1 wr → w.heap.size < g → RowAt wr g cap f → Hid (RetAG cb bo n c w (.returned (.agg #[.int .i64 x, .slice (some ⟨g, 0, none⟩) f.length cap])) ((wr.setCell ⟨w.heap.size, 0, none⟩ (.int .i64 x)).setCell ⟨w.heap.size, 1, none⟩ (.slice (some ⟨g, 0, none⟩) f.length cap))) := fun wr x f g cap hv hD hg hR => Lib.hid (by
    obtain ⟨h1, h2⟩ := end_graph (N := f.length) (x := x) HhB.out hcw hD hg hR
    exact ⟨x, f, g, cap, hv, rfl, Nat.le_of_lt hg, h1, h2⟩)
  have hblk : ∀ wr, DrewC cb bo n c W1 wr → Blk wr w.heap.size #[.int .i64 0, .slice none 0 0] 26 := fun wr hD => hD.blk Hk0.out (by omega)
  have Hend := Lib.hid hend
  have Hblk := Lib.hid hblk
  clear hend hblk
  refine (l1Once_any 2 cb n c bo W1 hD.cur (by omega) (by omega)).mono ?_
  rintro e w1 ⟨bb, rfl, hD1⟩
  replace hD := hD.trans hD1
  clear hD1
  cases bb
  · have hw1 := hD.only.size
    have hmk2 : ∀ w, (Instr.makeSlice 24 (.int .i64 6) (.int .i64 6)).run Try.prog w = .ok (.slice (some ⟨w.heap.size, 0, none⟩) 6 6) (w.alloc (.cells (intRow (List.replicate 6 0)) 3)) := hmk
    clear hmk
    have HhD := Lib.hid hD
    clear hD
    go_wp2_with fail
    generalize hW5 : World.alloc _ _ = W5
    have hB5 : Below w1.heap.size w1 W5 := by
      subst hW5
      repeat' first | exact Below.refl _ _ | refine Below.alloc ?_ (by simp; try omega) _
    have hzz : W5.heap.size = w1.heap.size + 12 := by subst hW5; simp
    have kR : Blk W5 w1.heap.size (intRow [0, 0, 0, 0, 0, 0]) 3 := by
      subst hW5
      repeat' first | exact Blk.made _ _ _ (by simp; done) | refine Blk.alloc1 ?_
    have kG : Blk W5 (w1.heap.size + 1) #[.int .i64 6, .slice (some ⟨w1.heap.size, 0, none⟩) 6 6] 26 := by
      subst hW5
      repeat' first | exact Blk.made _ _ _ (by simp; done) | refine Blk.alloc1 ?_
    have hP : PairsAt (w1.heap.size + 1) W5 (w1.heap.size + 1 + 1 + 1 + 1 + 1 + 1 + 1 + 1 + 1 + 1 + 1) := by
      have kL : Blk W5 (w1.heap.size + 1 + 1 + 1 + 1 + 1 + 1 + 1 + 1 + 1 + 1 + 1) #[.slice (some ⟨w1.heap.size + 1 + 1, 0, none⟩) 2 2, .slice (some ⟨w1.heap.size + 1 + 1 + 1, 0, none⟩) 2 2, .slice (some ⟨w1.heap.size + 1 + 1 + 1 + 1, 0, none⟩) 2 2, .slice (some ⟨w1.heap.size + 1 + 1 + 1 + 1 + 1, 0, none⟩) 2 2, .slice (some ⟨w1.heap.size + 1 + 1 + 1 + 1 + 1 + 1, 0, none⟩) 2 2, .slice (some ⟨w1.heap.size + 1 + 1 + 1 + 1 + 1 + 1 + 1, 0, none⟩) 2 2, .slice (some ⟨w1.heap.size + 1 + 1 + 1 + 1 + 1 + 1 + 1 + 1, 0, none⟩) 2 2, .slice (some ⟨w1.heap.size + 1 + 1 + 1 + 1 + 1 + 1 + 1 + 1 + 1, 0, none⟩) 2 2, .slice (some ⟨w1.heap.size + 1 + 1 + 1 + 1 + 1 + 1 + 1 + 1 + 1 + 1, 0, none⟩) 2 2] 24 := by
        subst hW5
        repeat' first | exact Blk.made _ _ _ (by simp; done) | refine Blk.alloc1 ?_
      have kP : ∀ (b : Nat) (x y : Int), Blk W5 b #[.int .i64 x, .int .i64 y] 3 → W5.cell? ⟨b, 0, none⟩ = some (.int .i64 x) ∧ W5.cell? ⟨b, 1, none⟩ = some (.int .i64 y) := fun b x y h => ⟨by simpa using h.cell 0, by simpa using h.cell 1⟩
      have k0 := kP (w1.heap.size + 1 + 1) 0 1 (by subst hW5; repeat' first | exact Blk.made _ _ _ (by simp; done) | refine Blk.alloc1 ?_)
      have k1 := kP (w1.heap.size + 1 + 1 + 1) 1 2 (by subst hW5; repeat' first | exact Blk.made _ _ _ (by simp; done) | refine Blk.alloc1 ?_)
      have k2 := kP (w1.heap.size + 1 + 1 + 1 + 1) 0 2 (by subst hW5; repeat' first | exact Blk.made _ _ _ (by simp; done) | refine Blk.alloc1 ?_)
      have k3 := kP (w1.heap.size + 1 + 1 + 1 + 1 + 1) 3 0 (by subst hW5; repeat' first | exact Blk.made _ _ _ (by simp; done) | refine Blk.alloc1 ?_)
      have k4 := kP (w1.heap.size + 1 + 1 + 1 + 1 + 1 + 1) 3 1 (by subst hW5; repeat' first | exact Blk.made _ _ _ (by simp; done) | refine Blk.alloc1 ?_)
      have k5 := kP (w1.heap.size + 1 + 1 + 1 + 1 + 1 + 1 + 1) 4 1 (by subst hW5; repeat' first | exact Blk.made _ _ _ (by simp; done) | refine Blk.alloc1 ?_)
      have k6 := kP (w1.heap.size + 1 + 1 + 1 + 1 + 1 + 1 + 1 + 1) 4 2 (by subst hW5; repeat' first | exact Blk.made _ _ _ (by simp; done) | refine Blk.alloc1 ?_)
      have k7 := kP (w1.heap.size + 1 + 1 + 1 + 1 + 1 + 1 + 1 + 1 + 1) 5 2 (by subst hW5; repeat' first | exact Blk.made _ _ _ (by simp; done) | refine Blk.alloc1 ?_)
      have k8 := kP (w1.heap.size + 1 + 1 + 1 + 1 + 1 + 1 + 1 + 1 + 1 + 1) 5 0 (by subst hW5; repeat' first | exact Blk.made _ _ _ (by simp; done) | refine Blk.alloc1 ?_)
      clear kP hW5
      refine ⟨by omega, by omega, fun k hk => ?_⟩
      match k, hk with
      | 0, _ => exact ⟨w1.heap.size + 1 + 1, 0, 1, (kL.cell 0).trans rfl, ⟨by omega, by omega⟩, ⟨by omega, by omega, by omega⟩, k0.1, k0.2⟩
      | 1, _ => exact ⟨w1.heap.size + 1 + 1 + 1, 1, 2, (kL.cell 1).trans rfl, ⟨by omega, by omega⟩, ⟨by omega, by omega, by omega⟩, k1.1, k1.2⟩
      | 2, _ => exact ⟨w1.heap.size + 1 + 1 + 1 + 1, 0, 2, (kL.cell 2).trans rfl, ⟨by omega, by omega⟩, ⟨by omega, by omega, by omega⟩, k2.1, k2.2⟩
      | 3, _ => exact ⟨w1.heap.size + 1 + 1 + 1 + 1 + 1, 3, 0, (kL.cell 3).trans rfl, ⟨by omega, by omega⟩, ⟨by omega, by omega, by omega⟩, k3.1, k3.2⟩
      | 4, _ => exact ⟨w1.heap.size + 1 + 1 + 1 + 1 + 1 + 1, 3, 1, (kL.cell 4).trans rfl, ⟨by omega, by omega⟩, ⟨by omega, by omega, by omega⟩, k4.1, k4.2⟩
      | 5, _ => exact ⟨w1.heap.size + 1 + 1 + 1 + 1 + 1 + 1 + 1, 4, 1, (kL.cell 5).trans rfl, ⟨by omega, by omega⟩, ⟨by omega, by omega, by omega⟩, k5.1, k5.2⟩
      | 6, _ => exact ⟨w1.heap.size + 1 + 1 + 1 + 1 + 1 + 1 + 1 + 1, 4, 2, (kL.cell 6).trans rfl, ⟨by omega, by omega⟩, ⟨by omega, by omega, by omega⟩, k6.1, k6.2⟩
      | 7, _ => exact ⟨w1.heap.size + 1 + 1 + 1 + 1 + 1 + 1 + 1 + 1 + 1, 5, 2, (kL.cell 7).trans rfl, ⟨by omega, by omega⟩, ⟨by omega, by omega, by omega⟩, k7.1, k7.2⟩
      | 8, _ => exact ⟨w1.heap.size + 1 + 1 + 1 + 1 + 1 + 1 + 1 + 1 + 1 + 1, 5, 0, (kL.cell 8).trans rfl, ⟨by omega, by omega⟩, ⟨by omega, by omega, by omega⟩, k8.1, k8.2⟩
    have hR5 : RowAt W5 w1.heap.size 6 [0, 0, 0, 0, 0, 0] := RowAt.of (xs := [0, 0, 0, 0, 0, 0]) kR (by simp)
    have hzy : w1.heap.size + 1 < W5.heap.size := by omega
    have hcb1 : cb < w1.heap.size := HhD.out.cur.lt
    have hD := HhD.out.below hB5
    have hvg : VG [0, 0, 0, 0, 0, 0] := zero_VG (N := 6) (by omega) (by omega)
    clear hB5 hzz kR HhD hW5
    generalize w1.heap.size + 1 + 1 + 1 + 1 + 1 + 1 + 1 + 1 + 1 + 1 + 1 = lb at *
    have hry : w1.heap.size < w1.heap.size + 1 := by omega
    generalize w1.heap.size + 1 = y at *
    generalize w1.heap.size = r0 at *
    refine (l1Below_any 18 cb n c bo W5 hD.cur (by omega) (by omega)).mono ?_
    rintro e W6 ⟨skip, hskip, rfl, hD1⟩
    have hG : MakeG W6 W6 r0 y 6 r0 6 [0, 0, 0, 0, 0, 0] := ⟨Only.refl _ _ _, by omega, by omega, Nat.le_refl _, hD1.blk kG (by omega), hD1.row hR5 (by omega), hvg, rfl⟩
    replace hP := hP.only hD1.only (fun b hb e => by have e2 : b = cb := e; omega)
    replace hD := hD.trans hD1
    have hcy : cb < y := by omega
    have hWy : W1.heap.size ≤ y := by omega
    clear hD1 hR5 kG hvg hzy hmk2
    have HhG := Lib.hid hG
    clear hG
    have HhP := Lib.hid hP
    clear hP
    have HhD := Lib.hid hD
    clear hD
    go_wp2_with fail
    go_loopw [6] (fun i wr => ∃ (k gb cp : Nat) (f : List Int), k ≤ 9 ∧ i = .int .i64 k ∧ MakeG W6 wr r0 y 6 gb cp f) (fun i _ => 9 - (intOf i).toNat)
    case atStart => exact ⟨0, _, _, _, by omega, rfl, HhG.out⟩
    case round =>
      clear HhG
      obtain ⟨k, gb, cp, f, hk, rfl, hG⟩ := hrel
      by_cases hlt : k < 9
      · by_cases hks : k = skip
        · subst hks
          have HhG := Lib.hid hG
          clear hG
          go_wp2_with fail
          go_roundw
          case rel => exact ⟨k + 1, gb, cp, f, by omega, by go_num, HhG.out⟩
          case measure => simp [intOf]; omega
        · have q0 : ((k : Int) == (skip : Int)) = false := by rw [beq_eq_false_iff_ne]; omega
          obtain ⟨hllt, hlhi, hlat⟩ := HhP.out.only hG.only (fun b hb e => by have e2 : b = y := e; omega)
          obtain ⟨pb, a, b, p1, ⟨p2, p3⟩, ⟨p4, p5, p6⟩, p7, p8⟩ := hlat k hlt
          clear hlat
          have x0 := hG.box.cell 0
          have x1 := hG.box.cell 1
          have ozr := hG.box.lt
          simp at x0 x1
          have hA := specAddF_any f a b gb cp 6 wr.drew hG.len (hG.row.below (Below.refl _ _).drew) hG.vg p4 p5 p6
          have hlen9 : k < 9 := hlt
          have hT0 : ∀ w', Only (fun b => b = y) wr.heap.size wr w' → Only (fun b => b = y) wr.heap.size wr w' ∧ w'.cell? ⟨lb, k, none⟩ = some (.slice (some ⟨pb, 0, none⟩) 2 2) ∧ w'.cell? ⟨pb, 0, none⟩ = some (.int .i64 a) ∧ w'.cell? ⟨pb, 1, none⟩ = some (.int .i64 b) := fun w' h =>
            ⟨h, (h.cell (p := ⟨lb, k, none⟩) hllt (fun e => by have e2 : lb = y := e; omega)).trans p1, (h.cell (p := ⟨pb, 0, none⟩) p2 (fun e => by have e2 : pb = y := e; omega)).trans p7, (h.cell (p := ⟨pb, 1, none⟩) p2 (fun e => by have e2 : pb = y := e; omega)).trans p8⟩
          have hO0 : Only (fun b => b = y) wr.heap.size wr wr.drew := Only.of (Below.refl _ _).drew
          have HhA := Lib.hid hA
          clear hA
          have HhG := Lib.hid hG
          clear hG
          go_wp2_with fail
          refine wp_region_B (fun w' => Only (fun b => b = y) wr.heap.size wr w' ∧ w'.cell? ⟨lb, k, none⟩ = some (.slice (some ⟨pb, 0, none⟩) 2 2) ∧ w'.cell? ⟨pb, 0, none⟩ = some (.int .i64 a) ∧ w'.cell? ⟨pb, 1, none⟩ = some (.int .i64 b)) (fun w' => w'.cell? ⟨y, 0, none⟩ = some (.int .i64 6) ∧ w'.cell? ⟨y, 1, none⟩ = some (.slice (some ⟨gb, 0, none⟩) 6 cp)) [17] (by kernel_rfl) (hT0 _ hO0) (⟨x0, x1⟩) (fun hM => ?_)
          refine wpAnyB_take (i := 0) (v := ?_) true rfl (by kernel_rfl) (by kernel_rfl) (by kernel_rfl) (by kernel_rfl) (by kernel_rfl) (fun _ _ _ h => h) (Or.inl ⟨by rfl, ?_⟩) hM (fun hM2 => ?_)
          rotate_left
          · (intro w hSw; have hSl := hSw.2 rfl; replace hSw := hSw.1; (try dsimp only at hSl); (try dsimp only at hSw); go_simp; try with_reducible rfl)
          replace hM := hM2
          clear hM2
          try simp only [List.getElem_toArray, List.getElem_cons_zero, Act.put, List.setIfInBounds_toArray, List.set_cons_zero, List.set_cons_succ]
          refine wpAnyB_take (i := 1) (v := ?_) false rfl (by kernel_rfl) (by kernel_rfl) (by kernel_rfl) (by kernel_rfl) (by kernel_rfl) (fun _ _ _ h => h) (Or.inl ⟨by rfl, ?_⟩) hM (fun hM2 => ?_)
          rotate_left
          · (intro w hSw; replace hSw := hSw.1; (try dsimp only at hSw); go_simp; try with_reducible rfl)
          replace hM := hM2
          clear hM2
          try simp only [List.getElem_toArray, List.getElem_cons_succ, List.getElem_cons_zero, Act.put, List.setIfInBounds_toArray, List.set_cons_zero, List.set_cons_succ]
          refine wpAnyB_take (i := 2) (v := ?_) false rfl (by kernel_rfl) (by kernel_rfl) (by kernel_rfl) (by kernel_rfl) (by kernel_rfl) (fun _ _ _ h => h) (Or.inl ⟨by rfl, ?_⟩) hM (fun hM2 => ?_)
          rotate_left
          · (intro w hSw; replace hSw := hSw.1; (try dsimp only at hSw); go_simp; try with_reducible rfl)
          replace hM := hM2
          clear hM2
          try simp only [List.getElem_toArray, List.getElem_cons_succ, List.getElem_cons_zero, Act.put, List.setIfInBounds_toArray, List.set_cons_zero, List.set_cons_succ]
          refine wpAnyB_take (i := 3) (v := ?_) false rfl (by kernel_rfl) (by kernel_rfl) (by kernel_rfl) (by kernel_rfl) (by kernel_rfl) (fun _ _ _ h => h) (Or.inl ⟨by rfl, ?_⟩) hM (fun hM2 => ?_)
          rotate_left
          · (intro w hSw; replace hSw := hSw.1; (try dsimp only at hSw); go_simp; try with_reducible rfl)
          replace hM := hM2
          clear hM2
          try simp only [List.getElem_toArray, List.getElem_cons_succ, List.getElem_cons_zero, Act.put, List.setIfInBounds_toArray, List.set_cons_zero, List.set_cons_succ]
          refine wpAnyB_take (i := 4) (v := ?_) false rfl (by kernel_rfl) (by kernel_rfl) (by kernel_rfl) (by kernel_rfl) (by kernel_rfl) (fun _ _ _ h => h) (Or.inl ⟨by rfl, ?_⟩) hM (fun hM2 => ?_)
          rotate_left
          · (intro w hSw; replace hSw := hSw.1; (try dsimp only at hSw); go_simp; try with_reducible rfl)
          replace hM := hM2
          clear hM2
          try simp only [List.getElem_toArray, List.getElem_cons_succ, List.getElem_cons_zero, Act.put, List.setIfInBounds_toArray, List.set_cons_zero, List.set_cons_succ]
          refine wpAnyB_take (i := 5) (v := ?_) false rfl (by kernel_rfl) (by kernel_rfl) (by kernel_rfl) (by kernel_rfl) (by kernel_rfl) (fun _ _ _ h => h) (Or.inl ⟨by rfl, ?_⟩) hM (fun hM2 => ?_)
          rotate_left
          · (intro w hSw; replace hSw := hSw.1; (try dsimp only at hSw); go_simp; try with_reducible rfl)
          replace hM := hM2
          clear hM2
          try simp only [List.getElem_toArray, List.getElem_cons_succ, List.getElem_cons_zero, Act.put, List.setIfInBounds_toArray, List.set_cons_zero, List.set_cons_succ]
          refine wpAnyB_take (i := 6) (v := ?_) false rfl (by kernel_rfl) (by kernel_rfl) (by kernel_rfl) (by kernel_rfl) (by kernel_rfl) (fun _ _ _ h => h) (Or.inl ⟨by rfl, ?_⟩) hM (fun hM2 => ?_)
          rotate_left
          · (intro w hSw; replace hSw := hSw.1; (try dsimp only at hSw); go_simp; try with_reducible rfl)
          replace hM := hM2
          clear hM2
          try simp only [List.getElem_toArray, List.getElem_cons_succ, List.getElem_cons_zero, Act.put, List.setIfInBounds_toArray, List.set_cons_zero, List.set_cons_succ]
          refine wpAnyB_take (i := 7) (v := ?_) false rfl (by kernel_rfl) (by kernel_rfl) (by kernel_rfl) (by kernel_rfl) (by kernel_rfl) (fun _ _ _ h => h) (Or.inl ⟨by rfl, ?_⟩) hM (fun hM2 => ?_)
          rotate_left
          · (intro w hSw; replace hSw := hSw.1; (try dsimp only at hSw); go_simp; try with_reducible rfl)
          replace hM := hM2
          clear hM2
          try simp only [List.getElem_toArray, List.getElem_cons_succ, List.getElem_cons_zero, Act.put, List.setIfInBounds_toArray, List.set_cons_zero, List.set_cons_succ]
          refine wpAnyB_take (i := 8) (v := ?_) false rfl (by kernel_rfl) (by kernel_rfl) (by kernel_rfl) (by kernel_rfl) (by kernel_rfl) (fun _ _ _ h => h) (Or.inl ⟨by rfl, ?_⟩) hM (fun hM2 => ?_)
          rotate_left
          · (intro w hSw; replace hSw := hSw.1; (try dsimp only at hSw); go_simp; try with_reducible rfl)
          replace hM := hM2
          clear hM2
          try simp only [List.getElem_toArray, List.getElem_cons_succ, List.getElem_cons_zero, Act.put, List.setIfInBounds_toArray, List.set_cons_zero, List.set_cons_succ]
          refine wpAnyB_take (i := 9) (v := ?_) false rfl (by kernel_rfl) (by kernel_rfl) (by kernel_rfl) (by kernel_rfl) (by kernel_rfl) (fun _ _ _ h => h) (Or.inl ⟨by rfl, ?_⟩) hM (fun hM2 => ?_)
          rotate_left
          · (intro w hSw; replace hSw := hSw.1; (try dsimp only at hSw); go_simp; try with_reducible rfl)
          replace hM := hM2
          clear hM2
          try simp only [List.getElem_toArray, List.getElem_cons_succ, List.getElem_cons_zero, Act.put, List.setIfInBounds_toArray, List.set_cons_zero, List.set_cons_succ]
          refine wpAnyB_take (i := 10) (v := ?_) false rfl (by kernel_rfl) (by kernel_rfl) (by kernel_rfl) (by kernel_rfl) (by kernel_rfl) (fun _ _ _ h => h) (Or.inl ⟨by rfl, ?_⟩) hM (fun hM2 => ?_)
          rotate_left
          · (intro w hSw; replace hSw := hSw.1; (try dsimp only at hSw); go_simp; try with_reducible rfl)
          replace hM := hM2
          clear hM2
          try simp only [List.getElem_toArray, List.getElem_cons_succ, List.getElem_cons_zero, Act.put, List.setIfInBounds_toArray, List.set_cons_zero, List.set_cons_succ]
          refine wpAnyB_take (i := 11) (v := ?_) false rfl (by kernel_rfl) (by kernel_rfl) (by kernel_rfl) (by kernel_rfl) (by kernel_rfl) (fun _ _ _ h => h) (Or.inl ⟨by rfl, ?_⟩) hM (fun hM2 => ?_)
          rotate_left
          · (intro w hSw; replace hSw := hSw.1; (try dsimp only at hSw); go_simp; try with_reducible rfl)
          replace hM := hM2
          clear hM2
          try simp only [List.getElem_toArray, List.getElem_cons_succ, List.getElem_cons_zero, Act.put, List.setIfInBounds_toArray, List.set_cons_zero, List.set_cons_succ]
          refine wpAnyB_take (i := 12) (v := ?_) false rfl (by kernel_rfl) (by kernel_rfl) (by kernel_rfl) (by kernel_rfl) (by kernel_rfl) (fun _ _ _ h => h) (Or.inl ⟨by rfl, ?_⟩) hM (fun hM2 => ?_)
          rotate_left
          · (intro w hSw; replace hSw := hSw.1; (try dsimp only at hSw); go_simp; try with_reducible rfl)
          replace hM := hM2
          clear hM2
          try simp only [List.getElem_toArray, List.getElem_cons_succ, List.getElem_cons_zero, Act.put, List.setIfInBounds_toArray, List.set_cons_zero, List.set_cons_succ]
          refine wpAnyB_one (i := 13) (by kernel_rfl) rfl (fun K hK => ?_)
          (go_simp; go_at_call 151; refine HhA.out.mono ?_; rintro e w5 ⟨g5, cp5, ok5, rfl, hB5, hg5, hR5⟩; have k5 := (HhG.out.box.drew).below hB5 ozr; have hO5 : Only (fun b => b = y) wr.heap.size wr w5 := hO0.trans (Only.of (hB5.mono (Nat.le_refl _))); dsimp only)
          refine hK.out _ _ (meetB.both (hT0 _ hO5) ⟨by simpa using k5.cell 0, by simpa using k5.cell 1⟩) (fun hM2 => ?_)
          clear hK K
          replace hM := hM2
          clear hM2
          try simp only [List.getElem_toArray, List.getElem_cons_succ, List.getElem_cons_zero, Act.put, List.setIfInBounds_toArray, List.set_cons_zero, List.set_cons_succ]
          have z0 := k5.cell 0
          have z1 := k5.cell 1
          have z2 := k5.frozen 0
          have z3 := k5.frozen 1
          have z4 := k5.lt
          simp at z0 z1
          have hG6 := HhG.out.edge (w5 := w5) (((Below.refl _ _).drew).trans hB5) hg5 hR5 p6
          refine wpAnyB_take (i := 14) (v := ?_) false rfl (by kernel_rfl) (by kernel_rfl) (by kernel_rfl) (by kernel_rfl) (by kernel_rfl) (fun _ _ _ h => h) (Or.inl ⟨by rfl, ?_⟩) hM (fun hM2 => ?_)
          rotate_left
          · (intro w hSw; replace hSw := hSw.1; (try dsimp only at hSw); go_simp; try with_reducible rfl)
          replace hM := hM2
          clear hM2
          try simp only [List.getElem_toArray, List.getElem_cons_succ, List.getElem_cons_zero, Act.put, List.setIfInBounds_toArray, List.set_cons_zero, List.set_cons_succ]
          refine wpAnyB_take (i := 15) (v := ?_) false rfl (by kernel_rfl) (by kernel_rfl) (by kernel_rfl) (by kernel_rfl) (by kernel_rfl) (fun _ _ _ h => h) (Or.inl ⟨by rfl, ?_⟩) hM (fun hM2 => ?_)
          rotate_left
          · (intro w hSw; replace hSw := hSw.1; (try dsimp only at hSw); go_simp; try with_reducible rfl)
          replace hM := hM2
          clear hM2
          try simp only [List.getElem_toArray, List.getElem_cons_succ, List.getElem_cons_zero, Act.put, List.setIfInBounds_toArray, List.set_cons_zero, List.set_cons_succ]
          refine wpAnyB_take (i := 16) (v := ?_) false rfl (by kernel_rfl) (by kernel_rfl) (by kernel_rfl) (by kernel_rfl) (by kernel_rfl) (fun _ _ _ h => h) (Or.inl ⟨by rfl, ?_⟩) hM (fun hM2 => ?_)
          rotate_left
          · (intro w hSw; replace hSw := hSw.1; (try dsimp only at hSw); go_simp; try with_reducible rfl)
          replace hM := hM2
          clear hM2
          try simp only [List.getElem_toArray, List.getElem_cons_succ, List.getElem_cons_zero, Act.put, List.setIfInBounds_toArray, List.set_cons_zero, List.set_cons_succ]
          have hO6 : Only (fun b => b = y) wr.heap.size wr ((w5.setCell ⟨y, 0, none⟩ (.int .i64 6)).setCell ⟨y, 1, none⟩ (.slice (some ⟨g5, 0, none⟩) 6 cp5)) := (hO5.setCell (p := ⟨y, 0, none⟩) (.inl rfl) _).setCell (p := ⟨y, 1, none⟩) (.inl rfl) _
          refine wpAnyB_one (i := 17) (by kernel_rfl) rfl (fun K hK => ?_)
          go_simp
          refine hK.out _ _ (meetB.late (hT0 _ hO6) (by kernel_rfl)) (fun hM2 => ?_)
          clear hK K
          replace hM := hM2
          clear hM2
          try simp only [List.getElem_toArray, List.getElem_cons_succ, List.getElem_cons_zero, Act.put, List.setIfInBounds_toArray, List.set_cons_zero, List.set_cons_succ]
          refine wpAnyB_done (by kernel_rfl) ?_ _
          have HhG6 := Lib.hid hG6
          clear hG6
          clear z0 z1 z2 z3 z4 k5 hO6 hO5 hT0 hM p1 p7 p8 x0 x1 HhA HhG hB5 hg5 hR5 hO0
          generalize World.setCell _ _ _ = W9 at *
          go_wp2_with fail
          go_roundw
          case rel => exact ⟨k + 1, g5, cp5, _, by omega, by go_num, HhG6.out⟩
          case measure => simp [intOf]; omega
      · obtain rfl : k = 9 := by omega
        replace hD := HhD.out.made hG hWy hcy
        have hB6 : Blk wr y _ _ := hG.box
        have hR6 := hG.row
        have hf6 := hG.len
        have hgr := hG.lo
        have hne := hG.ne
        clear HhP HhD hG
        go_wp2_with fail
        refine (l1Below_any 6 cb n c bo wr hD.cur (by omega) (by omega)).mono ?_
        rintro e w7 ⟨a, ha, rfl, hD1⟩
        replace hB6 := hD1.blk hB6 (by omega)
        replace hR6 := hD1.row hR6 (by omega)
        replace hD := hD.trans hD1
        clear hD1
        go_wp2_with fail
        refine (l1Below_any 6 cb n c bo w7 hD.cur (by omega) (by omega)).mono ?_
        rintro e w8 ⟨b, hb, rfl, hD1⟩
        replace hB6 := hD1.blk hB6 (by omega)
        replace hR6 := hD1.row hR6 (by omega)
        replace hD := hD.trans hD1
        clear hD1
        go_wp2_with fail
        refine (l1Once_any 3 cb n c bo w8 hD.cur (by omega) (by omega)).mono ?_
        rintro e w9 ⟨bb, rfl, hD1⟩
        replace hB6 := hD1.blk hB6 (by omega)
        replace hR6 := hD1.row hR6 (by omega)
        replace hD := hD.trans hD1
        clear hD1
        have hwy : w.heap.size < y := by omega
        have hgw : w.heap.size < gb := by omega
        have hne1 : ¬w.heap.size = y := by omega
        have hne2 : ¬y = w.heap.size := by omega
        have z0 := hB6.cell 0
        have z1 := hB6.cell 1
        have z2 := hB6.frozen 0
        have z3 := hB6.frozen 1
        have z4 := hB6.lt
        simp at z0 z1
        cases bb
        · have k9 := Hblk.out _ hD
          have y0 := k9.cell 0
          have y1 := k9.cell 1
          have y2 := k9.frozen 0
          have y3 := k9.frozen 1
          have y4 := k9.lt
          simp at y0 y1
          have HE := Hend.out _ 6 f gb cp (by omega) hD hgw hR6
          rw [hf6] at HE
          clear k9 hB6 hD hR6 z2 z3 hf6
          go_wp2_with fail
          refine bodyPost_ret (v := .agg #[.int .i64 6, .slice (some ⟨gb, 0, none⟩) 6 cp]) (by simp [results, Try.results102, go_sem, y0, y1]) rfl ?_
          exact HE.out
        · have hA := specAddEdge_any 6 f a b (some ⟨gb, 0, none⟩) cp w9 hR6.ints (by omega) (by omega)
          rw [hf6] at hA
          have HhA := Lib.hid hA
          clear hA
          go_wp2_with fail
          refine HhA.out.mono ?_
          rintro e w10 ⟨g5, cp5, rfl, hB10, hg5, hR10⟩
          have k5 := hB6.below hB10 z4
          have hv2 : (addV 6 f a b).length = 6 := (addV_len 6 f a b).trans hf6
          have hyW := hD.only.size
          have hD2 := ((hD.below hB10).store (a := ⟨y, 0, none⟩) hWy hcy (.int .i64 6)).store (a := ⟨y, 1, none⟩) hWy hcy (.slice (some ⟨g5, 0, none⟩) 6 cp5)
          have hR2 : RowAt ((w10.setCell ⟨y, 0, none⟩ (.int .i64 6)).setCell ⟨y, 1, none⟩ (.slice (some ⟨g5, 0, none⟩) 6 cp5)) g5 cp5 _ := (hR10.otherCell (by simp; omega)).otherCell (by simp; omega)
          have k8 := Hblk.out _ (hD.below hB10)
          have HE := Hend.out _ 6 _ g5 cp5 (by omega) hD2 (by omega) hR2
          rw [hv2] at HE
          clear HhA hR6 hR10 hB10 hg5 hv2 hD2 hR2 hD hB6 z0 z1 z2 z3 z4 hf6
          have r0 := k5.cell 0
          have r1 := k5.cell 1
          have r2 := k5.frozen 0
          have r3 := k5.frozen 1
          have r4 := k5.lt
          simp at r0 r1
          have y0 := k8.cell 0
          have y1 := k8.cell 1
          have y2 := k8.frozen 0
          have y3 := k8.frozen 1
          have y4 := k8.lt
          simp at y0 y1
          clear k8 k5
          generalize addOk 6 f a b = BB at *
          go_wp2_with fail
          refine bodyPost_ret (v := .agg #[.int .i64 6, .slice (some ⟨g5, 0, none⟩) 6 cp5]) (by simp [results, Try.results102, go_sem, y0, y1]) rfl ?_
          exact HE.out
  · go_wp2_with fail
    refine (l8Chordal_any cb n c bo w1 hD.cur).mono ?_
    rintro e w2 ⟨x, f, g, cap, hf, rfl, hg, hR, hD1⟩
    have hw1 := hD.only.size
    replace hD := hD.trans hD1
    have k9 := Hblk.out _ hD
    have y0 := k9.cell 0
    have y1 := k9.cell 1
    have y2 := k9.frozen 0
    have y3 := k9.frozen 1
    have y4 := k9.lt
    simp at y0 y1
    have HE := Hend.out _ x f g cap hf hD (by omega) hR
    clear k9 hD hR hD1 hmk
    go_wp2_with fail
    refine bodyPost_ret (v := .agg #[.int .i64 x, .slice (some ⟨g, 0, none⟩) f.length cap]) (by simp [results, Try.results102, go_sem, y0, y1]) rfl ?_
    exact HE.out


end Go.Proofs.Ytgklgheaojoimaa
