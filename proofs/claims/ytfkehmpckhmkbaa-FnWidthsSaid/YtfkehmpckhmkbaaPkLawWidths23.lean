/-
  The drawing of graphs that are often chordal: l8Chordal; and l22Graph. For texts of at most 2^20 bytes.
  The drawing of graphs that are often suns: l22Graph, and the functions that only call it. For texts of at most 2^20 bytes.
  DrawFewestDominating: some graph of at most seven rows. For texts of at most 2^20 bytes.
-/
import Derived.Test.YtfkehmpckhmkbaaPkLawWidths19
import Derived.Test.YtfkehmpckhmkbaaPkLawWidths20
import Derived.Test.YtfkehmpckhmkbaaPkLawWidths22
namespace Go.Proofs.Ytfkehmpckhmkbaa
open Go.RowKit

set_option maxRecDepth 100000 in
set_option maxHeartbeats 4000000 in
theorem l8Chordal_any (cb n c : Nat) (bo : Option Addr) (w : World) (h : CurAt w cb bo n c) :
    Calls Try.prog 56 #[.pointer (some ⟨cb, 0, none⟩)] w (RetAG cb bo n c w) := by
  have hcw := h.lt
  go_enter Try.func56, Try.ntmps56
  go_wp2_with fail
  generalize hW : World.alloc _ _ = W1
  obtain ⟨hB, hs, k0⟩ := alloc1 hW
  have hD := DrewC.refl (h.below hB)
  have hs1 : w.heap.size < W1.heap.size := by omega
  clear hW hs
  have HhB := Lib.hid hB
  clear hB
  have Hk0 := Lib.hid k0
  clear k0
  refine (l2Any_any cb n c bo W1 hD.cur).mono ?_
  rintro e w2 ⟨x, f, g, cap, hf, rfl, hg, hR, hD1⟩
  replace hD := hD.trans hD1
  have hgw : w.heap.size < g := by omega
  obtain ⟨hf1, hf7⟩ := hf
  clear hD1 hg
  have hend : ∀ (wr : World) (x : Int) (f : List Int) (g cap : Nat), (1 ≤ f.length ∧ f.length ≤ 6) → DrewC cb bo n c W1 wr → w.heap.size < g → RowAt wr g cap f → Hid (RetAG cb bo n c w (.returned (.agg #[.int .i64 x, .slice (some ⟨g, 0, none⟩) f.length cap])) ((wr.setCell ⟨w.heap.size, 0, none⟩ (.int .i64 x)).setCell ⟨w.heap.size, 1, none⟩ (.slice (some ⟨g, 0, none⟩) f.length cap))) := fun wr x f g cap hv hD hg hR => Lib.hid (by
    obtain ⟨h1, h2⟩ := end_graph (N := f.length) (x := x) HhB.out hcw hD hg hR
    exact ⟨x, f, g, cap, hv, rfl, Nat.le_of_lt hg, h1, h2⟩)
  have hblk : ∀ wr, DrewC cb bo n c W1 wr → Blk wr w.heap.size #[.int .i64 0, .slice none 0 0] 26 := fun wr hD => hD.blk Hk0.out (by omega)
  have Hend := Lib.hid hend
  have Hblk := Lib.hid hblk
  clear hend hblk
  go_wp2_with fail
  generalize hWb : World.alloc _ _ = Wb
  obtain ⟨hBb, hzb, kb⟩ := alloc1 hWb
  have hg4 : g < w2.heap.size := hR.lt
  have hcb4 : cb < w2.heap.size := hD.cur.lt
  have hw4 := hD.only.size
  replace hD := hD.below hBb
  replace hR := hR.below hBb
  clear hWb hBb hzb
  generalize w2.heap.size = yb at *
  have hne : ¬w.heap.size = yb := by omega
  have hne2 : ¬yb = w.heap.size := by omega
  have hyc : ¬yb = cb := by omega
  have hyW := kb.lt
  have hkb := kb
  have hT0 : ∀ w', DrewC cb bo n c Wb w' → Only (fun b => b = cb) Wb.heap.size Wb w' ∧ w'.cell? ⟨yb, 0, none⟩ = some (.int .i64 x) ∧ w'.cell? ⟨yb, 1, none⟩ = some (.slice (some ⟨g, 0, none⟩) f.length cap) := fun w' h => by
    have := h.blk hkb (by omega)
    exact ⟨h.only, by simpa using this.cell 0, by simpa using this.cell 1⟩
  have hA0 : DrewC cb bo n c Wb Wb.drew := (DrewC.refl hD.cur).below (Below.refl _ _).drew
  have HLx := Lib.hid fun (s : Nat) (w' : World) (hs : s < 1048576) (hr : IntsAt w' (some ⟨g, 0, none⟩) f) => LexOrder_any x f s (some ⟨g, 0, none⟩) cap w' hr (by omega) hs
  have z0 := kb.cell 0
  have z1 := kb.cell 1
  have z4 := kb.lt
  simp at z0 z1
  have Hkb := Lib.hid kb
  clear hkb kb
  go_wp2_with fail
  refine wp_region_B (fun w' => Only (fun b => b = cb) Wb.heap.size Wb w' ∧ w'.cell? ⟨yb, 0, none⟩ = some (.int .i64 x) ∧ w'.cell? ⟨yb, 1, none⟩ = some (.slice (some ⟨g, 0, none⟩) f.length cap)) (fun _ => True) [] (by kernel_rfl) (hT0 _ hA0) (trivial) (fun hM => ?_)
  refine wpAnyB_take (i := 0) (v := ?_) false rfl (by kernel_rfl) (by kernel_rfl) (by kernel_rfl) (by kernel_rfl) (by kernel_rfl) (fun _ _ _ h => h) (Or.inl ⟨by rfl, ?_⟩) hM (fun hM2 => ?_)
  rotate_left
  · (intro w hSw; replace hSw := hSw.1; (try dsimp only at hSw); go_simp; try with_reducible rfl)
  replace hM := hM2
  clear hM2
  try simp only [List.getElem_toArray, List.getElem_cons_zero, Act.put, List.setIfInBounds_toArray, List.set_cons_zero, List.set_cons_succ]
  refine wpAnyB_take (i := 1) (v := ?_) false rfl (by kernel_rfl) (by kernel_rfl) (by kernel_rfl) (by kernel_rfl) (by kernel_rfl) (fun _ _ _ h => h) (Or.inl ⟨by rfl, ?_⟩) hM (fun hM2 => ?_)
  rotate_left
  · (intro w hSw; replace hSw := hSw.1; (try dsimp only at hSw); go_simp; try with_reducible rfl)
  replace hM := hM2
  clear hM2
  try simp only [List.getElem_toArray, List.getElem_cons_succ, List.getElem_cons_zero, Act.put, List.setIfInBounds_toArray, List.set_cons_zero, List.set_cons_succ]
  refine wpAnyB_one (i := 2) (by kernel_rfl) rfl (fun K hK => ?_)
  (go_simp; go_at_call 60; refine (l1Below_any 2 cb n c bo _ hA0.cur (by omega) (by omega)).mono ?_; rintro e w3 ⟨s, hs, rfl, hD1⟩; have hA1 := hA0.trans hD1; dsimp only)
  refine hK.out _ _ (meetB.both (hT0 _ hA1) trivial) (fun hM2 => ?_)
  clear hK K
  replace hM := hM2
  clear hM2
  try simp only [List.getElem_toArray, List.getElem_cons_succ, List.getElem_cons_zero, Act.put, List.setIfInBounds_toArray, List.set_cons_zero, List.set_cons_succ]
  have hR3 := hA1.row hR (by omega)
  refine wpAnyB_one (i := 3) (by kernel_rfl) rfl (fun K hK => ?_)
  (go_simp; go_at_call 77; refine (HLx.out s _ (by omega) hR3.ints).mono ?_; rintro e w4 ⟨l, la, lc, bl, rfl, hB4, hl, hlo⟩; have hA2 := hA1.below hB4; dsimp only)
  refine hK.out _ _ (meetB.both (hT0 _ hA2) trivial) (fun hM2 => ?_)
  clear hK K
  replace hM := hM2
  clear hM2
  try simp only [List.getElem_toArray, List.getElem_cons_succ, List.getElem_cons_zero, Act.put, List.setIfInBounds_toArray, List.set_cons_zero, List.set_cons_succ]
  refine wpAnyB_take (i := 4) (v := ?_) false rfl (by kernel_rfl) (by kernel_rfl) (by kernel_rfl) (by kernel_rfl) (by kernel_rfl) (fun _ _ _ h => h) (Or.inl ⟨by rfl, ?_⟩) hM (fun hM2 => ?_)
  rotate_left
  · (intro w hSw; replace hSw := hSw.1; (try dsimp only at hSw); go_simp; try with_reducible rfl)
  replace hM := hM2
  clear hM2
  try simp only [List.getElem_toArray, List.getElem_cons_succ, List.getElem_cons_zero, Act.put, List.setIfInBounds_toArray, List.set_cons_zero, List.set_cons_succ]
  refine wpAnyB_take (i := 5) (v := ?_) false rfl (by kernel_rfl) (by kernel_rfl) (by kernel_rfl) (by kernel_rfl) (by kernel_rfl) (fun _ _ _ h => h) (Or.inl ⟨by rfl, ?_⟩) hM (fun hM2 => ?_)
  rotate_left
  · (intro w hSw; replace hSw := hSw.1; (try dsimp only at hSw); go_simp; try with_reducible rfl)
  replace hM := hM2
  clear hM2
  try simp only [List.getElem_toArray, List.getElem_cons_succ, List.getElem_cons_zero, Act.put, List.setIfInBounds_toArray, List.set_cons_zero, List.set_cons_succ]
  refine wpAnyB_take (i := 6) (v := ?_) false rfl (by kernel_rfl) (by kernel_rfl) (by kernel_rfl) (by kernel_rfl) (by kernel_rfl) (fun _ _ _ h => h) (Or.inl ⟨by rfl, ?_⟩) hM (fun hM2 => ?_)
  rotate_left
  · (intro w hSw; replace hSw := hSw.1; (try dsimp only at hSw); go_simp; try with_reducible rfl)
  replace hM := hM2
  clear hM2
  try simp only [List.getElem_toArray, List.getElem_cons_succ, List.getElem_cons_zero, Act.put, List.setIfInBounds_toArray, List.set_cons_zero, List.set_cons_succ]
  refine wpAnyB_take (i := 7) (v := ?_) false rfl (by kernel_rfl) (by kernel_rfl) (by kernel_rfl) (by kernel_rfl) (by kernel_rfl) (fun _ _ _ h => h) (Or.inl ⟨by rfl, ?_⟩) hM (fun hM2 => ?_)
  rotate_left
  · (intro w hSw; replace hSw := hSw.1; (try dsimp only at hSw); go_simp; try with_reducible rfl)
  replace hM := hM2
  clear hM2
  try simp only [List.getElem_toArray, List.getElem_cons_succ, List.getElem_cons_zero, Act.put, List.setIfInBounds_toArray, List.set_cons_zero, List.set_cons_succ]
  refine wpAnyB_take (i := 8) (v := ?_) false rfl (by kernel_rfl) (by kernel_rfl) (by kernel_rfl) (by kernel_rfl) (by kernel_rfl) (fun _ _ _ h => h) (Or.inl ⟨by rfl, ?_⟩) hM (fun hM2 => ?_)
  rotate_left
  · (intro w hSw; replace hSw := hSw.1; (try dsimp only at hSw); go_simp; try with_reducible rfl)
  replace hM := hM2
  clear hM2
  try simp only [List.getElem_toArray, List.getElem_cons_succ, List.getElem_cons_zero, Act.put, List.setIfInBounds_toArray, List.set_cons_zero, List.set_cons_succ]
  refine wpAnyB_done (by kernel_rfl) ?_ _
  have kb := hA2.blk Hkb.out (by omega)
  replace hR := hA2.row hR (by omega)
  replace hD := hD.trans hA2
  clear z0 z1 z4 hA0 hA2 hD1 hM hT0 HLx hR3 Hkb hB4
  cases bl
  · have k9 := Hblk.out _ hD
    have y0 := k9.cell 0
    have y1 := k9.cell 1
    have y2 := k9.frozen 0
    have y3 := k9.frozen 1
    have y4 := k9.lt
    have z0 := kb.cell 0
    have z1 := kb.cell 1
    have z4 := kb.lt
    simp at y0 y1 z0 z1
    have HE := Hend.out _ x f g cap ⟨hf1, hf7⟩ hD hgw hR
    clear k9 kb hD hR hl hlo hA1
    go_wp2_with fail
    refine bodyPost_ret (v := .agg #[.int .i64 x, .slice (some ⟨g, 0, none⟩) f.length cap]) (by simp [results, Try.results56, go_sem, y0, y1]) rfl ?_
    exact HE.out
  · obtain ⟨ho, g0, rfl, hg0⟩ := hlo rfl
    clear hlo
    have hzz := hA1.only.size
    have Hhl := Lib.hid hl
    clear hl
    have Hho := Lib.hid ho
    clear ho
    go_wp2_with fail
    refine (l1Once_any 4 cb n c bo w4 hD.cur (by omega) (by omega)).mono ?_
    rintro e w5 ⟨bb, rfl, hD1⟩
    replace hR := hD1.row hR (by omega)
    replace kb := hD1.blk kb (by omega)
    have hl := Hhl.out.only hD1.only (fun b off e e2 => by cases e; have e3 : g0 = cb := e2; omega)
    replace hD := hD.trans hD1
    clear hD1 Hhl
    cases bb
    · obtain ⟨hv, hxf, -, hlf⟩ := orderB_true Hho.out
      subst hxf
      have z0 := kb.cell 0
      have z1 := kb.cell 1
      have z4 := kb.lt
      simp at z0 z1
      have hF := l6Filled_any f l (some ⟨g, 0, none⟩) (some ⟨g0, 0, none⟩) cap lc w5 Hho.out hR.ints hl
      have hFl := fillTo_len f l l.length
      clear hv hl hlf
      have HhR := Lib.hid hR
      clear hR
      have HhD := Lib.hid hD
      clear hD
      have Hkb := Lib.hid kb
      clear kb
      have HhFl := Lib.hid hFl
      clear hFl
      go_wp2_with fail
      refine hF.mono ?_
      rintro e w6 ⟨g1, cp1, rfl, hB6, hg1, hR6⟩
      have hD6 := HhD.out.below hB6
      have HE := Hend.out w6 f.length (fillTo f l l.length) g1 cp1 (by rw [HhFl.out]; exact ⟨hf1, hf7⟩) hD6 (by have := HhD.out.only.size; omega) hR6
      rw [HhFl.out] at HE
      have k9 := Hblk.out _ hD6
      clear hF hB6 hg1 hR6 hD6 HhR HhD Hkb z0 z1 z4
      have y0 := k9.cell 0
      have y1 := k9.cell 1
      have y2 := k9.frozen 0
      have y3 := k9.frozen 1
      have y4 := k9.lt
      simp at y0 y1
      clear k9
      go_wp2_with fail
      refine bodyPost_ret (v := .agg #[.int .i64 f.length, .slice (some ⟨g1, 0, none⟩) f.length cp1]) (by simp [results, Try.results56, go_sem, y0, y1]) rfl ?_
      exact HE.out
    · have k9 := Hblk.out _ hD
      have y0 := k9.cell 0
      have y1 := k9.cell 1
      have y2 := k9.frozen 0
      have y3 := k9.frozen 1
      have y4 := k9.lt
      have z0 := kb.cell 0
      have z1 := kb.cell 1
      have z4 := kb.lt
      simp at y0 y1 z0 z1
      have HE := Hend.out _ x f g cap ⟨hf1, hf7⟩ hD hgw hR
      clear k9 kb hD hR hl
      go_wp2_with fail
      refine bodyPost_ret (v := .agg #[.int .i64 x, .slice (some ⟨g, 0, none⟩) f.length cap]) (by simp [results, Try.results56, go_sem, y0, y1]) rfl ?_
      exact HE.out

theorem Blk.alloc1 {w : World} {b : Nat} {cs : Array Value} {T : TypeId} {o : Obj} (h : Blk w b cs T) : Blk (w.alloc o) b cs T := h.below ((Below.refl _ _).alloc (Nat.le_refl _) o) h.lt

/-- Nine pairs of vertices behind a list in block lb, all of it above block y. -/
structure PairsAt (y : Nat) (w : World) (lb : Nat) : Prop where
  lt : lb < w.heap.size
  hi : y < lb
  at' : ∀ k, k < 9 → ∃ pb a b : Nat, w.cell? ⟨lb, k, none⟩ = some (.slice (some ⟨pb, 0, none⟩) 2 2) ∧ (pb < w.heap.size ∧ y < pb) ∧ (a < 6 ∧ b < 6 ∧ a ≠ b) ∧ w.cell? ⟨pb, 0, none⟩ = some (.int .i64 a) ∧ w.cell? ⟨pb, 1, none⟩ = some (.int .i64 b)
theorem PairsAt.only {X : Nat → Prop} {w w' : World} {y lb : Nat} (h : PairsAt y w lb) (hO : Only X w.heap.size w w') (hX : ∀ b, y < b → ¬X b) : PairsAt y w' lb :=
  ⟨Nat.lt_of_lt_of_le h.lt hO.size, h.hi, fun k hk => by
    obtain ⟨pb, a, b, h1, h2, h3, h4, h5⟩ := h.at' k hk
    exact ⟨pb, a, b, (hO.cell (p := ⟨lb, k, none⟩) h.lt (hX _ h.hi)).trans h1, ⟨Nat.lt_of_lt_of_le h2.1 hO.size, h2.2⟩, h3, (hO.cell (p := ⟨pb, 0, none⟩) h2.1 (hX _ h2.2)).trans h4, (hO.cell (p := ⟨pb, 1, none⟩) h2.1 (hX _ h2.2)).trans h5⟩⟩
theorem DrewC.made {cb n c y lo N gb cp : Nat} {bo : Option Addr} {W1 W6 wr : World} {f : List Int} (h : DrewC cb bo n c W1 W6) (hm : MakeG W6 wr lo y N gb cp f) (hy : W1.heap.size ≤ y) (hc : cb < y) : DrewC cb bo n c W1 wr :=
  ⟨h.only.trans (hm.only.mono h.only.size fun b hb e => by have e2 : b = y := e; omega), h.cur.only hm.only fun b hb e => by have e2 : b = y := e; omega⟩



end Go.Proofs.Ytfkehmpckhmkbaa
