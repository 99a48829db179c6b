/-
  The drawing of graphs that often have a hole: l4Holey, and the functions that draw for colours. For texts of at most 2^20 bytes.
-/
import Derived.Test.YtkefkmjfjghggaaDrawA
namespace Go.Proofs.Ytkefkmjfjghggaa
open Go.RowKit

set_option maxRecDepth 100000 in
set_option maxHeartbeats 4000000 in
theorem l4Holey_any (cb n c : Nat) (bo : Option Addr) (w : World) (h : CurAt w cb bo n c) :
    Calls Try.prog 68 #[.pointer (some ⟨cb, 0, none⟩)] w (RetAG cb bo n c w) := by
  have hcw := h.lt
  go_enter Try.func68, Try.ntmps68
  go_wp2_with fail
  generalize hW : World.alloc _ _ = W1
  obtain ⟨hB, hs, k0⟩ := alloc1 hW
  have hD := DrewC.refl (h.below hB)
  have hs1 : w.heap.size < W1.heap.size := by omega
  clear hW hs
  have HhB := Lib.hid hB
  clear hB
  have Hk0 := Lib.hid k0
  clear k0
  refine (l1Once_any 3 cb n c bo W1 hD.cur (by omega) (by omega)).mono ?_
  rintro e w1 ⟨b3, rfl, hD1⟩
  replace hD := hD.trans hD1
  clear hD1
  have hend : ∀ (wr : World) (x : Int) (f : List Int) (g cap : Nat), (1 ≤ f.length ∧ f.length ≤ 7) → DrewC cb bo n c W1 wr → w.heap.size < g → RowAt wr g cap f → Hid (RetAG cb bo n c w (.returned (.agg #[.int .i64 x, .slice (some ⟨g, 0, none⟩) f.length cap])) ((wr.setCell ⟨w.heap.size, 0, none⟩ (.int .i64 x)).setCell ⟨w.heap.size, 1, none⟩ (.slice (some ⟨g, 0, none⟩) f.length cap))) := fun wr x f g cap hv hD hg hR => Lib.hid (by
    obtain ⟨h1, h2⟩ := end_graph (N := f.length) (x := x) HhB.out hcw hD hg hR
    exact ⟨x, f, g, cap, hv, rfl, Nat.le_of_lt hg, h1, h2⟩)
  have hblk : ∀ wr, DrewC cb bo n c W1 wr → Blk wr w.heap.size #[.int .i64 0, .slice none 0 0] 26 := fun wr hD => hD.blk Hk0.out (by omega)
  have Hend := Lib.hid hend
  have Hblk := Lib.hid hblk
  clear hend hblk
  cases b3
  · go_wp2_with fail
    refine (l1Below_any 3 cb n c bo w1 hD.cur (by omega) (by omega)).mono ?_
    rintro e w3 ⟨u, hu, rfl, hD1⟩
    replace hD := hD.trans hD1
    clear hD1
    go_wp2_with fail
    have eu : (4 : Int) + (u : Int) = ((u + 4 : Nat) : Int) := by omega
    rw [eu]
    clear eu
    obtain ⟨N, hN⟩ : ∃ N, N = u + 4 := ⟨_, rfl⟩
    have hN1 : 1 ≤ N := by omega
    have hN7 : N ≤ 7 := by omega
    rw [← hN]
    clear hN
    have hN := named_cycle N w3 hN1 hN7
    refine hN.mono ?_
    rintro e w4 ⟨f, g, cap, hv, hfl, rfl, hg, hR, hB4⟩
    subst hfl
    have hgw : w.heap.size < g := by have := hD.only.size; omega
    replace hD := hD.below hB4
    clear hN hg hB4
    go_wp2_with fail
    generalize hWb : World.alloc _ _ = Wb
    obtain ⟨hBb, hzb, kb⟩ := alloc1 hWb
    have hg4 : g < w4.heap.size := hR.lt
    have hcb4 : cb < w4.heap.size := hD.cur.lt
    have hw4 := hD.only.size
    replace hD := hD.below hBb
    replace hR := hR.below hBb
    clear hWb hBb hzb
    generalize w4.heap.size = yb at *
    refine (l1Below_any f.length cb n c bo Wb hD.cur hv.pos (by have := hv.le; omega)).mono ?_
    rintro e w5 ⟨a, ha, rfl, hD1⟩
    replace hR := hD1.row hR (by omega)
    replace kb := hD1.blk kb (by omega)
    replace hD := hD.trans hD1
    clear hD1
    have z0 := kb.cell 0
    simp at z0
    go_wp2_with fail
    clear z0
    refine (l1Below_any f.length cb n c bo w5 hD.cur hv.pos (by have := hv.le; omega)).mono ?_
    rintro e w6 ⟨b, hb, rfl, hD1⟩
    replace hR := hD1.row hR (by omega)
    replace kb := hD1.blk kb (by omega)
    replace hD := hD.trans hD1
    clear hD1
    go_wp2_with fail
    refine (l1Once_any 3 cb n c bo w6 hD.cur (by omega) (by omega)).mono ?_
    rintro e w7 ⟨bb, rfl, hD1⟩
    replace hR := hD1.row hR (by omega)
    replace kb := hD1.blk kb (by omega)
    replace hD := hD.trans hD1
    clear hD1
    have k9 := Hblk.out _ hD
    have y0 := k9.cell 0
    have y1 := k9.cell 1
    have y2 := k9.frozen 0
    have y3 := k9.frozen 1
    have y4 := k9.lt
    simp at y0 y1
    have z0 := kb.cell 0
    have z1 := kb.cell 1
    have z4 := kb.lt
    simp at z0 z1
    cases bb
    · have HE := Hend.out _ f.length f g cap ⟨hv.pos, hv.le⟩ hD (by omega) hR
      clear k9 kb hD hR
      go_wp2_with fail
      refine bodyPost_ret (v := .agg #[.int .i64 f.length, .slice (some ⟨g, 0, none⟩) f.length cap]) (by simp [results, Try.results68, go_sem, y0, y1]) rfl ?_
      exact HE.out
    · have hA := specAddEdge_any f.length f a b (some ⟨g, 0, none⟩) cap w7 hR.ints (by have := hv.le; omega) hv.pos
      clear k9
      have HhR := Lib.hid hR
      clear hR
      have Hkb := Lib.hid kb
      clear kb
      have HhD := Lib.hid hD
      clear hD
      go_wp2_with fail
      refine hA.mono ?_
      rintro e w8 ⟨g5, cp5, rfl, hB8, hg5, hR5⟩
      have hw7 := HhD.out.only.size
      have k5 := Hkb.out.below hB8 z4
      have r0 := k5.cell 0
      have r1 := k5.cell 1
      have r2 := k5.frozen 0
      have r3 := k5.frozen 1
      have r4 := k5.lt
      simp at r0 r1
      have hv2 := addV_VG hv f.length a b
      have hl2 := addV_len f.length f a b
      have hD2 := ((HhD.out.below hB8).store (a := ⟨yb, 0, none⟩) hw4 hcb4 (.int .i64 f.length)).store (a := ⟨yb, 1, none⟩) hw4 hcb4 (.slice (some ⟨g5, 0, none⟩) f.length cp5)
      have hR2 : RowAt ((w8.setCell ⟨yb, 0, none⟩ (.int .i64 f.length)).setCell ⟨yb, 1, none⟩ (.slice (some ⟨g5, 0, none⟩) f.length cp5)) g5 cp5 _ := (hR5.otherCell (by simp; omega)).otherCell (by simp; omega)
      have k6 : Blk ((w8.setCell ⟨yb, 0, none⟩ (.int .i64 f.length)).setCell ⟨yb, 1, none⟩ (.slice (some ⟨g5, 0, none⟩) f.length cp5)) yb #[.int .i64 f.length, .slice (some ⟨g5, 0, none⟩) f.length cp5] 26 := by
        have := (k5.store 0 (.int .i64 f.length)).store 1 (.slice (some ⟨g5, 0, none⟩) f.length cp5)
        simpa using this
      have k8 := Hblk.out _ (HhD.out.below hB8)
      have HE := Hend.out _ f.length _ g5 cp5 ⟨hv2.pos, hv2.le⟩ hD2 (by omega) hR2
      rw [hl2] at HE
      clear y0 y1 y2 y3 y4 z0 z1 hA HhR hR5 hB8 hg5 k5 hv2 hl2 hD2 hR2
      have y0 := k8.cell 0
      have y1 := k8.cell 1
      have y2 := k8.frozen 0
      have y3 := k8.frozen 1
      have y4 := k8.lt
      simp at y0 y1
      have hne : ¬w.heap.size = yb := by omega
      have hne2 : ¬yb = w.heap.size := by omega
      clear k8 k6 HhD Hkb z4
      generalize addOk f.length f a b = BB at *
      go_wp2_with fail
      refine bodyPost_ret (v := .agg #[.int .i64 f.length, .slice (some ⟨g5, 0, none⟩) f.length cp5]) (by simp [results, Try.results68, go_sem, y0, y1]) rfl ?_
      exact HE.out
  · go_wp2_with fail
    refine (l2Any_any cb n c bo w1 hD.cur).mono ?_
    rintro e w2 ⟨x, f, g, cap, hf, rfl, hg, hR, hD1⟩
    have hw1 := hD.only.size
    replace hD := hD.trans hD1
    have k9 := Hblk.out _ hD
    have y0 := k9.cell 0
    have y1 := k9.cell 1
    have y2 := k9.frozen 0
    have y3 := k9.frozen 1
    have y4 := k9.lt
    simp at y0 y1
    have HE := Hend.out _ x f g cap hf hD (by omega) hR
    clear k9 hD hR hD1
    go_wp2_with fail
    refine bodyPost_ret (v := .agg #[.int .i64 x, .slice (some ⟨g, 0, none⟩) f.length cap]) (by simp [results, Try.results68, go_sem, y0, y1]) rfl ?_
    exact HE.out

set_option maxRecDepth 100000 in
set_option maxHeartbeats 4000000 in
theorem DrawChromaticNumber_any (n c : Nat) (bo : Option Addr) (w : World) (h : BytesU w.heap.size w bo n) (hn : n ≤ 1048576) :
    Calls Try.prog 7 #[.slice bo n c] w (RetAN w) := by
  go_enter Try.func7, Try.ntmps7
  go_wp2_with fail
  generalize hW : World.alloc _ _ = W1
  obtain ⟨hB, hs, k0⟩ := alloc1 hW
  have hs1 : w.heap.size < W1.heap.size := by omega
  have hb1 : BytesU W1.heap.size W1 bo n := (h.only (Only.of (X := fun _ => False) hB) fun _ _ h => h).mono (by omega)
  clear hW hs
  refine (l1New_any n c bo W1 hb1 hn).mono ?_
  rintro e w1 ⟨cb, rfl, hB1, hcb, hC⟩
  replace k0 := k0.below hB1 hs1
  have hs2 := hB1.size
  replace hB := hB.trans (hB1.mono (by omega))
  have HhB := Lib.hid hB
  clear hB
  have Hk0 := Lib.hid k0
  clear k0
  clear hb1 hB1 h
  go_wp2_with fail
  refine (l4Holey_any cb n c bo w1 hC).mono ?_
  rintro e w2 ⟨x, f, g, cap, hf, rfl, hg, hR, hD⟩
  have k9 := hD.blk Hk0.out (by omega)
  have y0 := k9.cell 0
  have y1 := k9.cell 1
  have y2 := k9.frozen 0
  have y3 := k9.frozen 1
  have y4 := k9.lt
  simp at y0 y1
  have HE := Lib.hid (show RetAN w (.returned (.agg #[.int .i64 x, .slice (some ⟨g, 0, none⟩) f.length cap])) ((w2.setCell ⟨w.heap.size, 0, none⟩ (.int .i64 x)).setCell ⟨w.heap.size, 1, none⟩ (.slice (some ⟨g, 0, none⟩) f.length cap)) from
    ⟨x, f, g, cap, hf, rfl, by omega, (hR.otherCell (by simp; omega)).otherCell (by simp; omega), ((HhB.out.trans (hD.only.below (by omega) fun b hb e => by have e2 : b = cb := e; omega)).setCell (by simp) _).setCell (by simp) _⟩)
  clear k9 hD hR HhB Hk0 hC
  go_wp2_with fail
  refine bodyPost_ret (v := .agg #[.int .i64 x, .slice (some ⟨g, 0, none⟩) f.length cap]) (by simp [results, Try.results7, go_sem, y0, y1]) rfl ?_
  exact HE.out

set_option maxRecDepth 100000 in
set_option maxHeartbeats 4000000 in
theorem DrawCliqueCoverOf_any (n c : Nat) (bo : Option Addr) (w : World) (h : BytesU w.heap.size w bo n) (hn : n ≤ 1048576) :
    Calls Try.prog 14 #[.slice bo n c] w (RetAN w) := by
  go_enter Try.func14, Try.ntmps14
  go_wp2_with fail
  generalize hW : World.alloc _ _ = W1
  obtain ⟨hB, hs, k0⟩ := alloc1 hW
  have hs1 : w.heap.size < W1.heap.size := by omega
  have hb1 : BytesU W1.heap.size W1 bo n := (h.only (Only.of (X := fun _ => False) hB) fun _ _ h => h).mono (by omega)
  clear hW hs
  refine (l1New_any n c bo W1 hb1 hn).mono ?_
  rintro e w1 ⟨cb, rfl, hB1, hcb, hC⟩
  replace k0 := k0.below hB1 hs1
  have hs2 := hB1.size
  replace hB := hB.trans (hB1.mono (by omega))
  have HhB := Lib.hid hB
  clear hB
  have Hk0 := Lib.hid k0
  clear k0
  clear hb1 hB1 h
  go_wp2_with fail
  refine (l2Any_any cb n c bo w1 hC).mono ?_
  rintro e w2 ⟨x, f, g, cap, hf, rfl, hg, hR, hD⟩
  have k9 := hD.blk Hk0.out (by omega)
  have y0 := k9.cell 0
  have y1 := k9.cell 1
  have y2 := k9.frozen 0
  have y3 := k9.frozen 1
  have y4 := k9.lt
  simp at y0 y1
  have HE := Lib.hid (show RetAN w (.returned (.agg #[.int .i64 x, .slice (some ⟨g, 0, none⟩) f.length cap])) ((w2.setCell ⟨w.heap.size, 0, none⟩ (.int .i64 x)).setCell ⟨w.heap.size, 1, none⟩ (.slice (some ⟨g, 0, none⟩) f.length cap)) from
    ⟨x, f, g, cap, hf, rfl, by omega, (hR.otherCell (by simp; omega)).otherCell (by simp; omega), ((HhB.out.trans (hD.only.below (by omega) fun b hb e => by have e2 : b = cb := e; omega)).setCell (by simp) _).setCell (by simp) _⟩)
  clear k9 hD hR HhB Hk0 hC
  go_wp2_with fail
  refine bodyPost_ret (v := .agg #[.int .i64 x, .slice (some ⟨g, 0, none⟩) f.length cap]) (by simp [results, Try.results14, go_sem, y0, y1]) rfl ?_
  exact HE.out

set_option maxRecDepth 100000 in
set_option maxHeartbeats 4000000 in
theorem DrawColoringWith_any (n c : Nat) (bo : Option Addr) (w : World) (h : BytesU w.heap.size w bo n) (hn : n ≤ 1048576) :
    Calls Try.prog 22 #[.slice bo n c] w (RetGZ w) := by
  go_enter Try.func22, Try.ntmps22
  go_wp2_with fail
  generalize hW : World.alloc _ _ = W1
  obtain ⟨hB, hs, k0⟩ := alloc1 hW
  have hs1 : w.heap.size < W1.heap.size := by omega
  have hb1 : BytesU W1.heap.size W1 bo n := (h.only (Only.of (X := fun _ => False) hB) fun _ _ h => h).mono (by omega)
  clear hW hs
  have HhB := Lib.hid hB
  clear hB
  refine (l1New_any n c bo W1 hb1 hn).mono ?_
  rintro e w1 ⟨cb, rfl, hB1, hcb, hC⟩
  replace k0 := k0.below hB1 hs1
  have HB2 := Lib.hid (HhB.out.trans (hB1.mono (Nat.le_of_lt hs1)))
  have hs2 := hB1.size
  clear hb1 hB1 HhB
  go_wp2_with fail
  refine (l2Any_any cb n c bo w1 hC).mono ?_
  rintro e w2 ⟨x, f, g, cap, hf, rfl, hg, hR, hD⟩
  have hsz := hD.only.size
  replace k0 := hD.blk k0 (by omega)
  go_wp2_with fail
  generalize hWb : World.alloc _ _ = Wb
  obtain ⟨hBb, hzb, kb⟩ := alloc1 hWb
  have hg4 : g < w2.heap.size := hR.lt
  replace hD := hD.below hBb
  have hR1 := hR.below hBb
  replace k0 := k0.below hBb (by omega)
  have hcb1 := hC.lt
  clear hWb hBb hzb hC hR
  generalize hyb : w2.heap.size = yb at *
  clear hyb
  have hne : ¬w.heap.size = yb := by omega
  have hne2 : ¬yb = w.heap.size := by omega
  have hneg : ¬g = w.heap.size := by omega
  have hnec : ¬cb = w.heap.size := by omega
  have hyc : ¬yb = cb := by omega
  have hgc : ¬g = cb := by omega
  have hcW := hD.cur
  have hyW := kb.lt
  have h0W := k0.lt
  have hkb := kb
  have hT0 : ∀ w', Only (fun b => b = cb ∨ b = w.heap.size) Wb.heap.size Wb w' → w'.cell? ⟨yb, 0, none⟩ = some (.int .i64 x) ∧ w'.cell? ⟨yb, 1, none⟩ = some (.slice (some ⟨g, 0, none⟩) f.length cap) := fun w' h => by
    have := h.blk hkb hyW (fun e => by rcases e with e | e <;> omega)
    exact ⟨by simpa using this.cell 0, by simpa using this.cell 1⟩
  have hfin : ∀ (w' : World) (z : Int), Only (fun b => b = cb ∨ b = w.heap.size) Wb.heap.size Wb w' → Hid (RetGZ w (.returned (.tuple #[.agg #[.int .i64 x, .slice (some ⟨g, 0, none⟩) f.length cap], .int .i64 z])) w') := fun w' z h => Lib.hid
    ⟨x, z, f, g, cap, hf, rfl, by omega, hR1.onlyB h (fun e => by rcases e with e | e <;> omega), ((HB2.out.trans (hD.only.below (by omega) fun b hb e => by have e2 : b = cb := e; omega)).trans (h.below (by omega) fun b hb e => by rcases e with e | e <;> omega))⟩
  have hX0 : ∀ (w' : World), Only (fun b => b = cb ∨ b = w.heap.size) Wb.heap.size Wb w' → Only (fun b => b = cb ∨ b = w.heap.size) Wb.heap.size Wb ((w'.setCell ⟨w.heap.size, 0, none⟩ (.int .i64 x)).setCell ⟨w.heap.size, 1, none⟩ (.slice (some ⟨g, 0, none⟩) f.length cap)) := fun w' h => (h.setCell (p := ⟨w.heap.size, 0, none⟩) (.inl (.inr rfl)) _).setCell (p := ⟨w.heap.size, 1, none⟩) (.inl (.inr rfl)) _
  have HX := Lib.hid hX0
  clear hX0
  have Hk0 := Lib.hid k0
  have z0 := kb.cell 0
  have z1 := kb.cell 1
  have z4 := kb.lt
  simp at z0 z1
  clear hkb kb k0 hR1 hD hf hs1 hs2 hsz
  go_wp2_with fail
  have hO0 : Only (fun b => b = cb ∨ b = w.heap.size) Wb.heap.size Wb Wb.drew := Only.of (Below.refl _ _).drew
  refine wp_region_B (fun w' => Only (fun b => b = cb ∨ b = w.heap.size) Wb.heap.size Wb w' ∧ w'.cell? ⟨yb, 0, none⟩ = some (.int .i64 x) ∧ w'.cell? ⟨yb, 1, none⟩ = some (.slice (some ⟨g, 0, none⟩) f.length cap)) (fun _ => True) [] (by kernel_rfl) (⟨hO0, hT0 _ hO0⟩) (trivial) (fun hM => ?_)
  refine wpAnyB_take (i := 0) (v := ?_) false rfl (by kernel_rfl) (by kernel_rfl) (by kernel_rfl) (by kernel_rfl) (by kernel_rfl) (fun _ _ _ h => h) (Or.inl ⟨by rfl, ?_⟩) hM (fun hM2 => ?_)
  rotate_left
  · (intro w hSw; replace hSw := hSw.1; (try dsimp only at hSw); go_simp; try with_reducible rfl)
  replace hM := hM2
  clear hM2
  try simp only [List.getElem_toArray, List.getElem_cons_zero, Act.put, List.setIfInBounds_toArray, List.set_cons_zero, List.set_cons_succ]
  refine wpAnyB_take (i := 1) (v := ?_) false rfl (by kernel_rfl) (by kernel_rfl) (by kernel_rfl) (by kernel_rfl) (by kernel_rfl) (fun _ _ _ h => h) (Or.inl ⟨by rfl, ?_⟩) hM (fun hM2 => ?_)
  rotate_left
  · (intro w hSw; replace hSw := hSw.1; (try dsimp only at hSw); go_simp; try with_reducible rfl)
  replace hM := hM2
  clear hM2
  try simp only [List.getElem_toArray, List.getElem_cons_succ, List.getElem_cons_zero, Act.put, List.setIfInBounds_toArray, List.set_cons_zero, List.set_cons_succ]
  refine wpAnyB_one (i := 2) (by kernel_rfl) rfl (fun K hK => ?_)
  (go_simp; go_at_call 85; refine (l1Below_any 9 cb n c bo _ (hcW.below (Below.refl _ _).drew) (by omega) (by omega)).mono ?_; rintro e w4 ⟨u, hu, rfl, hD1⟩; have hO4 : Only (fun b => b = cb ∨ b = w.heap.size) Wb.heap.size Wb w4 := hO0.trans (hD1.only.mono (Nat.le_refl _) fun _ _ e => .inl e); dsimp only)
  refine hK.out _ _ (meetB.both ⟨hO4, hT0 _ hO4⟩ trivial) (fun hM2 => ?_)
  clear hK K
  replace hM := hM2
  clear hM2
  try simp only [List.getElem_toArray, List.getElem_cons_succ, List.getElem_cons_zero, Act.put, List.setIfInBounds_toArray, List.set_cons_zero, List.set_cons_succ]
  have hwr : IntKind.i64.wrap ((u : Int) - 1) = (u : Int) - 1 := IntKind_i64_in _ (by omega) (by omega)
  have k4 := hD1.only.blk (Hk0.out.drew) h0W (fun e => hnec (Eq.symm e))
  have x0 := k4.cell 0
  have x1 := k4.cell 1
  have x2 := k4.frozen 0
  have x3 := k4.frozen 1
  have x4 := k4.lt
  simp at x0 x1
  refine wpAnyB_take (i := 3) (v := ?_) false rfl (by kernel_rfl) (by kernel_rfl) (by kernel_rfl) (by kernel_rfl) (by kernel_rfl) (fun _ _ _ h => h) (Or.inl ⟨by rfl, ?_⟩) hM (fun hM2 => ?_)
  rotate_left
  · (intro w hSw; replace hSw := hSw.1; (try dsimp only at hSw); go_simp; try with_reducible rfl)
  replace hM := hM2
  clear hM2
  try simp only [List.getElem_toArray, List.getElem_cons_succ, List.getElem_cons_zero, Act.put, List.setIfInBounds_toArray, List.set_cons_zero, List.set_cons_succ]
  refine wpAnyB_one (i := 4) (by kernel_rfl) rfl (fun K hK => ?_)
  go_simp
  refine hK.out _ _ (meetB.both ⟨HX.out _ hO4, hT0 _ (HX.out _ hO4)⟩ trivial) (fun hM2 => ?_)
  clear hK K
  replace hM := hM2
  clear hM2
  try simp only [List.getElem_toArray, List.getElem_cons_succ, List.getElem_cons_zero, Act.put, List.setIfInBounds_toArray, List.set_cons_zero, List.set_cons_succ]
  refine wpAnyB_take (i := 5) (v := ?_) false rfl (by kernel_rfl) (by kernel_rfl) (by kernel_rfl) (by kernel_rfl) (by kernel_rfl) (fun _ _ _ h => h) (Or.inl ⟨by rfl, ?_⟩) hM (fun hM2 => ?_)
  rotate_left
  · (intro w hSw; replace hSw := hSw.1; (try dsimp only at hSw); go_simp; try with_reducible rfl)
  replace hM := hM2
  clear hM2
  try simp only [List.getElem_toArray, List.getElem_cons_succ, List.getElem_cons_zero, Act.put, List.setIfInBounds_toArray, List.set_cons_zero, List.set_cons_succ]
  refine wpAnyB_done (by kernel_rfl) ?_ _
  have HE := hfin _ ((u : Int) - 1) (HX.out _ hO4)
  have k5 : Blk ((w4.setCell ⟨w.heap.size, 0, none⟩ (.int .i64 x)).setCell ⟨w.heap.size, 1, none⟩ (.slice (some ⟨g, 0, none⟩) f.length cap)) w.heap.size #[.int .i64 x, .slice (some ⟨g, 0, none⟩) f.length cap] 26 := by
    have := (k4.store 0 (.int .i64 x)).store 1 (.slice (some ⟨g, 0, none⟩) f.length cap)
    simpa using this
  have y0 := k5.cell 0
  have y1 := k5.cell 1
  have y4 := k5.lt
  simp at y0 y1
  clear k4 k5 x0 x1 x2 x3 x4 hfin hT0 HX Hk0 hO0 hO4 hD1 hcW hM z0 z1 z4
  generalize World.setCell _ _ _ = W9 at *
  go_wp2_with fail
  refine bodyPost_ret (v := .tuple #[.agg #[.int .i64 x, .slice (some ⟨g, 0, none⟩) f.length cap], .int .i64 ((u : Int) - 1)]) (by simp [results, Try.results22, go_sem, y0, y1]) rfl ?_
  exact HE.out

set_option maxRecDepth 100000 in
set_option maxHeartbeats 4000000 in
theorem DrawCountColorings_any (n c : Nat) (bo : Option Addr) (w : World) (h : BytesU w.heap.size w bo n) (hn : n ≤ 1048576) :
    Calls Try.prog 25 #[.slice bo n c] w (RetGZ w) := by
  go_enter Try.func25, Try.ntmps25
  go_wp2_with fail
  generalize hW : World.alloc _ _ = W1
  obtain ⟨hB, hs, k0⟩ := alloc1 hW
  have hs1 : w.heap.size < W1.heap.size := by omega
  have hb1 : BytesU W1.heap.size W1 bo n := (h.only (Only.of (X := fun _ => False) hB) fun _ _ h => h).mono (by omega)
  clear hW hs
  have HhB := Lib.hid hB
  clear hB
  refine (l1New_any n c bo W1 hb1 hn).mono ?_
  rintro e w1 ⟨cb, rfl, hB1, hcb, hC⟩
  replace k0 := k0.below hB1 hs1
  have HB2 := Lib.hid (HhB.out.trans (hB1.mono (Nat.le_of_lt hs1)))
  have hs2 := hB1.size
  clear hb1 hB1 HhB
  go_wp2_with fail
  refine (l2Any_any cb n c bo w1 hC).mono ?_
  rintro e w2 ⟨x, f, g, cap, hf, rfl, hg, hR, hD⟩
  have hsz := hD.only.size
  replace k0 := hD.blk k0 (by omega)
  go_wp2_with fail
  generalize hWb : World.alloc _ _ = Wb
  obtain ⟨hBb, hzb, kb⟩ := alloc1 hWb
  have hg4 : g < w2.heap.size := hR.lt
  replace hD := hD.below hBb
  have hR1 := hR.below hBb
  replace k0 := k0.below hBb (by omega)
  have hcb1 := hC.lt
  clear hWb hBb hzb hC hR
  generalize hyb : w2.heap.size = yb at *
  clear hyb
  have hne : ¬w.heap.size = yb := by omega
  have hne2 : ¬yb = w.heap.size := by omega
  have hneg : ¬g = w.heap.size := by omega
  have hnec : ¬cb = w.heap.size := by omega
  have hyc : ¬yb = cb := by omega
  have hgc : ¬g = cb := by omega
  have hcW := hD.cur
  have hyW := kb.lt
  have h0W := k0.lt
  have hkb := kb
  have hT0 : ∀ w', Only (fun b => b = cb ∨ b = w.heap.size) Wb.heap.size Wb w' → w'.cell? ⟨yb, 0, none⟩ = some (.int .i64 x) ∧ w'.cell? ⟨yb, 1, none⟩ = some (.slice (some ⟨g, 0, none⟩) f.length cap) := fun w' h => by
    have := h.blk hkb hyW (fun e => by rcases e with e | e <;> omega)
    exact ⟨by simpa using this.cell 0, by simpa using this.cell 1⟩
  have hfin : ∀ (w' : World) (z : Int), Only (fun b => b = cb ∨ b = w.heap.size) Wb.heap.size Wb w' → Hid (RetGZ w (.returned (.tuple #[.agg #[.int .i64 x, .slice (some ⟨g, 0, none⟩) f.length cap], .int .i64 z])) w') := fun w' z h => Lib.hid
    ⟨x, z, f, g, cap, hf, rfl, by omega, hR1.onlyB h (fun e => by rcases e with e | e <;> omega), ((HB2.out.trans (hD.only.below (by omega) fun b hb e => by have e2 : b = cb := e; omega)).trans (h.below (by omega) fun b hb e => by rcases e with e | e <;> omega))⟩
  have hX0 : ∀ (w' : World), Only (fun b => b = cb ∨ b = w.heap.size) Wb.heap.size Wb w' → Only (fun b => b = cb ∨ b = w.heap.size) Wb.heap.size Wb ((w'.setCell ⟨w.heap.size, 0, none⟩ (.int .i64 x)).setCell ⟨w.heap.size, 1, none⟩ (.slice (some ⟨g, 0, none⟩) f.length cap)) := fun w' h => (h.setCell (p := ⟨w.heap.size, 0, none⟩) (.inl (.inr rfl)) _).setCell (p := ⟨w.heap.size, 1, none⟩) (.inl (.inr rfl)) _
  have HX := Lib.hid hX0
  clear hX0
  have Hk0 := Lib.hid k0
  have z0 := kb.cell 0
  have z1 := kb.cell 1
  have z4 := kb.lt
  simp at z0 z1
  clear hkb kb k0 hR1 hD hf hs1 hs2 hsz
  go_wp2_with fail
  have hO0 : Only (fun b => b = cb ∨ b = w.heap.size) Wb.heap.size Wb Wb.drew := Only.of (Below.refl _ _).drew
  refine wp_region_B (fun w' => Only (fun b => b = cb ∨ b = w.heap.size) Wb.heap.size Wb w' ∧ w'.cell? ⟨yb, 0, none⟩ = some (.int .i64 x) ∧ w'.cell? ⟨yb, 1, none⟩ = some (.slice (some ⟨g, 0, none⟩) f.length cap)) (fun _ => True) [] (by kernel_rfl) (⟨hO0, hT0 _ hO0⟩) (trivial) (fun hM => ?_)
  refine wpAnyB_take (i := 0) (v := ?_) false rfl (by kernel_rfl) (by kernel_rfl) (by kernel_rfl) (by kernel_rfl) (by kernel_rfl) (fun _ _ _ h => h) (Or.inl ⟨by rfl, ?_⟩) hM (fun hM2 => ?_)
  rotate_left
  · (intro w hSw; replace hSw := hSw.1; (try dsimp only at hSw); go_simp; try with_reducible rfl)
  replace hM := hM2
  clear hM2
  try simp only [List.getElem_toArray, List.getElem_cons_zero, Act.put, List.setIfInBounds_toArray, List.set_cons_zero, List.set_cons_succ]
  refine wpAnyB_take (i := 1) (v := ?_) false rfl (by kernel_rfl) (by kernel_rfl) (by kernel_rfl) (by kernel_rfl) (by kernel_rfl) (fun _ _ _ h => h) (Or.inl ⟨by rfl, ?_⟩) hM (fun hM2 => ?_)
  rotate_left
  · (intro w hSw; replace hSw := hSw.1; (try dsimp only at hSw); go_simp; try with_reducible rfl)
  replace hM := hM2
  clear hM2
  try simp only [List.getElem_toArray, List.getElem_cons_succ, List.getElem_cons_zero, Act.put, List.setIfInBounds_toArray, List.set_cons_zero, List.set_cons_succ]
  refine wpAnyB_one (i := 2) (by kernel_rfl) rfl (fun K hK => ?_)
  (go_simp; go_at_call 85; refine (l1Below_any 7 cb n c bo _ (hcW.below (Below.refl _ _).drew) (by omega) (by omega)).mono ?_; rintro e w4 ⟨u, hu, rfl, hD1⟩; have hO4 : Only (fun b => b = cb ∨ b = w.heap.size) Wb.heap.size Wb w4 := hO0.trans (hD1.only.mono (Nat.le_refl _) fun _ _ e => .inl e); dsimp only)
  refine hK.out _ _ (meetB.both ⟨hO4, hT0 _ hO4⟩ trivial) (fun hM2 => ?_)
  clear hK K
  replace hM := hM2
  clear hM2
  try simp only [List.getElem_toArray, List.getElem_cons_succ, List.getElem_cons_zero, Act.put, List.setIfInBounds_toArray, List.set_cons_zero, List.set_cons_succ]
  have hwr : IntKind.i64.wrap ((u : Int) - 1) = (u : Int) - 1 := IntKind_i64_in _ (by omega) (by omega)
  have k4 := hD1.only.blk (Hk0.out.drew) h0W (fun e => hnec (Eq.symm e))
  have x0 := k4.cell 0
  have x1 := k4.cell 1
  have x2 := k4.frozen 0
  have x3 := k4.frozen 1
  have x4 := k4.lt
  simp at x0 x1
  refine wpAnyB_take (i := 3) (v := ?_) false rfl (by kernel_rfl) (by kernel_rfl) (by kernel_rfl) (by kernel_rfl) (by kernel_rfl) (fun _ _ _ h => h) (Or.inl ⟨by rfl, ?_⟩) hM (fun hM2 => ?_)
  rotate_left
  · (intro w hSw; replace hSw := hSw.1; (try dsimp only at hSw); go_simp; try with_reducible rfl)
  replace hM := hM2
  clear hM2
  try simp only [List.getElem_toArray, List.getElem_cons_succ, List.getElem_cons_zero, Act.put, List.setIfInBounds_toArray, List.set_cons_zero, List.set_cons_succ]
  refine wpAnyB_one (i := 4) (by kernel_rfl) rfl (fun K hK => ?_)
  go_simp
  refine hK.out _ _ (meetB.both ⟨HX.out _ hO4, hT0 _ (HX.out _ hO4)⟩ trivial) (fun hM2 => ?_)
  clear hK K
  replace hM := hM2
  clear hM2
  try simp only [List.getElem_toArray, List.getElem_cons_succ, List.getElem_cons_zero, Act.put, List.setIfInBounds_toArray, List.set_cons_zero, List.set_cons_succ]
  refine wpAnyB_take (i := 5) (v := ?_) false rfl (by kernel_rfl) (by kernel_rfl) (by kernel_rfl) (by kernel_rfl) (by kernel_rfl) (fun _ _ _ h => h) (Or.inl ⟨by rfl, ?_⟩) hM (fun hM2 => ?_)
  rotate_left
  · (intro w hSw; replace hSw := hSw.1; (try dsimp only at hSw); go_simp; try with_reducible rfl)
  replace hM := hM2
  clear hM2
  try simp only [List.getElem_toArray, List.getElem_cons_succ, List.getElem_cons_zero, Act.put, List.setIfInBounds_toArray, List.set_cons_zero, List.set_cons_succ]
  refine wpAnyB_done (by kernel_rfl) ?_ _
  have HE := hfin _ ((u : Int) - 1) (HX.out _ hO4)
  have k5 : Blk ((w4.setCell ⟨w.heap.size, 0, none⟩ (.int .i64 x)).setCell ⟨w.heap.size, 1, none⟩ (.slice (some ⟨g, 0, none⟩) f.length cap)) w.heap.size #[.int .i64 x, .slice (some ⟨g, 0, none⟩) f.length cap] 26 := by
    have := (k4.store 0 (.int .i64 x)).store 1 (.slice (some ⟨g, 0, none⟩) f.length cap)
    simpa using this
  have y0 := k5.cell 0
  have y1 := k5.cell 1
  have y4 := k5.lt
  simp at y0 y1
  clear k4 k5 x0 x1 x2 x3 x4 hfin hT0 HX Hk0 hO0 hO4 hD1 hcW hM z0 z1 z4
  generalize World.setCell _ _ _ = W9 at *
  go_wp2_with fail
  refine bodyPost_ret (v := .tuple #[.agg #[.int .i64 x, .slice (some ⟨g, 0, none⟩) f.length cap], .int .i64 ((u : Int) - 1)]) (by simp [results, Try.results25, go_sem, y0, y1]) rfl ?_
  exact HE.out

set_option maxRecDepth 100000 in
set_option maxHeartbeats 4000000 in
theorem DrawIsCritical_any (n c : Nat) (bo : Option Addr) (w : World) (h : BytesU w.heap.size w bo n) (hn : n ≤ 1048576) :
    Calls Try.prog 26 #[.slice bo n c] w (RetGZ w) := by
  go_enter Try.func26, Try.ntmps26
  go_wp2_with fail
  generalize hW : World.alloc _ _ = W1
  obtain ⟨hB, hs, k0⟩ := alloc1 hW
  have hs1 : w.heap.size < W1.heap.size := by omega
  have hb1 : BytesU W1.heap.size W1 bo n := (h.only (Only.of (X := fun _ => False) hB) fun _ _ h => h).mono (by omega)
  clear hW hs
  have HhB := Lib.hid hB
  clear hB
  refine (l1New_any n c bo W1 hb1 hn).mono ?_
  rintro e w1 ⟨cb, rfl, hB1, hcb, hC⟩
  replace k0 := k0.below hB1 hs1
  have HB2 := Lib.hid (HhB.out.trans (hB1.mono (Nat.le_of_lt hs1)))
  have hs2 := hB1.size
  clear hb1 hB1 HhB
  go_wp2_with fail
  refine (l4Holey_any cb n c bo w1 hC).mono ?_
  rintro e w2 ⟨x, f, g, cap, hf, rfl, hg, hR, hD⟩
  have hsz := hD.only.size
  replace k0 := hD.blk k0 (by omega)
  go_wp2_with fail
  generalize hWb : World.alloc _ _ = Wb
  obtain ⟨hBb, hzb, kb⟩ := alloc1 hWb
  have hg4 : g < w2.heap.size := hR.lt
  replace hD := hD.below hBb
  have hR1 := hR.below hBb
  replace k0 := k0.below hBb (by omega)
  have hcb1 := hC.lt
  clear hWb hBb hzb hC hR
  generalize hyb : w2.heap.size = yb at *
  clear hyb
  have hne : ¬w.heap.size = yb := by omega
  have hne2 : ¬yb = w.heap.size := by omega
  have hneg : ¬g = w.heap.size := by omega
  have hnec : ¬cb = w.heap.size := by omega
  have hyc : ¬yb = cb := by omega
  have hgc : ¬g = cb := by omega
  have hcW := hD.cur
  have hyW := kb.lt
  have h0W := k0.lt
  have hkb := kb
  have hT0 : ∀ w', Only (fun b => b = cb ∨ b = w.heap.size) Wb.heap.size Wb w' → w'.cell? ⟨yb, 0, none⟩ = some (.int .i64 x) ∧ w'.cell? ⟨yb, 1, none⟩ = some (.slice (some ⟨g, 0, none⟩) f.length cap) := fun w' h => by
    have := h.blk hkb hyW (fun e => by rcases e with e | e <;> omega)
    exact ⟨by simpa using this.cell 0, by simpa using this.cell 1⟩
  have hfin : ∀ (w' : World) (z : Int), Only (fun b => b = cb ∨ b = w.heap.size) Wb.heap.size Wb w' → Hid (RetGZ w (.returned (.tuple #[.agg #[.int .i64 x, .slice (some ⟨g, 0, none⟩) f.length cap], .int .i64 z])) w') := fun w' z h => Lib.hid
    ⟨x, z, f, g, cap, hf, rfl, by omega, hR1.onlyB h (fun e => by rcases e with e | e <;> omega), ((HB2.out.trans (hD.only.below (by omega) fun b hb e => by have e2 : b = cb := e; omega)).trans (h.below (by omega) fun b hb e => by rcases e with e | e <;> omega))⟩
  have hX0 : ∀ (w' : World), Only (fun b => b = cb ∨ b = w.heap.size) Wb.heap.size Wb w' → Only (fun b => b = cb ∨ b = w.heap.size) Wb.heap.size Wb ((w'.setCell ⟨w.heap.size, 0, none⟩ (.int .i64 x)).setCell ⟨w.heap.size, 1, none⟩ (.slice (some ⟨g, 0, none⟩) f.length cap)) := fun w' h => (h.setCell (p := ⟨w.heap.size, 0, none⟩) (.inl (.inr rfl)) _).setCell (p := ⟨w.heap.size, 1, none⟩) (.inl (.inr rfl)) _
  have HX := Lib.hid hX0
  clear hX0
  have Hk0 := Lib.hid k0
  have z0 := kb.cell 0
  have z1 := kb.cell 1
  have z4 := kb.lt
  simp at z0 z1
  clear hkb kb k0 hR1 hD hf hs1 hs2 hsz
  go_wp2_with fail
  have hO0 : Only (fun b => b = cb ∨ b = w.heap.size) Wb.heap.size Wb Wb.drew := Only.of (Below.refl _ _).drew
  refine wp_region_B (fun w' => Only (fun b => b = cb ∨ b = w.heap.size) Wb.heap.size Wb w' ∧ w'.cell? ⟨yb, 0, none⟩ = some (.int .i64 x) ∧ w'.cell? ⟨yb, 1, none⟩ = some (.slice (some ⟨g, 0, none⟩) f.length cap)) (fun _ => True) [] (by kernel_rfl) (⟨hO0, hT0 _ hO0⟩) (trivial) (fun hM => ?_)
  refine wpAnyB_take (i := 0) (v := ?_) false rfl (by kernel_rfl) (by kernel_rfl) (by kernel_rfl) (by kernel_rfl) (by kernel_rfl) (fun _ _ _ h => h) (Or.inl ⟨by rfl, ?_⟩) hM (fun hM2 => ?_)
  rotate_left
  · (intro w hSw; replace hSw := hSw.1; (try dsimp only at hSw); go_simp; try with_reducible rfl)
  replace hM := hM2
  clear hM2
  try simp only [List.getElem_toArray, List.getElem_cons_zero, Act.put, List.setIfInBounds_toArray, List.set_cons_zero, List.set_cons_succ]
  refine wpAnyB_take (i := 1) (v := ?_) false rfl (by kernel_rfl) (by kernel_rfl) (by kernel_rfl) (by kernel_rfl) (by kernel_rfl) (fun _ _ _ h => h) (Or.inl ⟨by rfl, ?_⟩) hM (fun hM2 => ?_)
  rotate_left
  · (intro w hSw; replace hSw := hSw.1; (try dsimp only at hSw); go_simp; try with_reducible rfl)
  replace hM := hM2
  clear hM2
  try simp only [List.getElem_toArray, List.getElem_cons_succ, List.getElem_cons_zero, Act.put, List.setIfInBounds_toArray, List.set_cons_zero, List.set_cons_succ]
  refine wpAnyB_one (i := 2) (by kernel_rfl) rfl (fun K hK => ?_)
  (go_simp; go_at_call 85; refine (l1Below_any 8 cb n c bo _ (hcW.below (Below.refl _ _).drew) (by omega) (by omega)).mono ?_; rintro e w4 ⟨u, hu, rfl, hD1⟩; have hO4 : Only (fun b => b = cb ∨ b = w.heap.size) Wb.heap.size Wb w4 := hO0.trans (hD1.only.mono (Nat.le_refl _) fun _ _ e => .inl e); dsimp only)
  refine hK.out _ _ (meetB.both ⟨hO4, hT0 _ hO4⟩ trivial) (fun hM2 => ?_)
  clear hK K
  replace hM := hM2
  clear hM2
  try simp only [List.getElem_toArray, List.getElem_cons_succ, List.getElem_cons_zero, Act.put, List.setIfInBounds_toArray, List.set_cons_zero, List.set_cons_succ]
  have hwr : IntKind.i64.wrap ((u : Int) - 1) = (u : Int) - 1 := IntKind_i64_in _ (by omega) (by omega)
  have k4 := hD1.only.blk (Hk0.out.drew) h0W (fun e => hnec (Eq.symm e))
  have x0 := k4.cell 0
  have x1 := k4.cell 1
  have x2 := k4.frozen 0
  have x3 := k4.frozen 1
  have x4 := k4.lt
  simp at x0 x1
  refine wpAnyB_take (i := 3) (v := ?_) false rfl (by kernel_rfl) (by kernel_rfl) (by kernel_rfl) (by kernel_rfl) (by kernel_rfl) (fun _ _ _ h => h) (Or.inl ⟨by rfl, ?_⟩) hM (fun hM2 => ?_)
  rotate_left
  · (intro w hSw; replace hSw := hSw.1; (try dsimp only at hSw); go_simp; try with_reducible rfl)
  replace hM := hM2
  clear hM2
  try simp only [List.getElem_toArray, List.getElem_cons_succ, List.getElem_cons_zero, Act.put, List.setIfInBounds_toArray, List.set_cons_zero, List.set_cons_succ]
  refine wpAnyB_one (i := 4) (by kernel_rfl) rfl (fun K hK => ?_)
  go_simp
  refine hK.out _ _ (meetB.both ⟨HX.out _ hO4, hT0 _ (HX.out _ hO4)⟩ trivial) (fun hM2 => ?_)
  clear hK K
  replace hM := hM2
  clear hM2
  try simp only [List.getElem_toArray, List.getElem_cons_succ, List.getElem_cons_zero, Act.put, List.setIfInBounds_toArray, List.set_cons_zero, List.set_cons_succ]
  refine wpAnyB_take (i := 5) (v := ?_) false rfl (by kernel_rfl) (by kernel_rfl) (by kernel_rfl) (by kernel_rfl) (by kernel_rfl) (fun _ _ _ h => h) (Or.inl ⟨by rfl, ?_⟩) hM (fun hM2 => ?_)
  rotate_left
  · (intro w hSw; replace hSw := hSw.1; (try dsimp only at hSw); go_simp; try with_reducible rfl)
  replace hM := hM2
  clear hM2
  try simp only [List.getElem_toArray, List.getElem_cons_succ, List.getElem_cons_zero, Act.put, List.setIfInBounds_toArray, List.set_cons_zero, List.set_cons_succ]
  refine wpAnyB_done (by kernel_rfl) ?_ _
  have HE := hfin _ ((u : Int) - 1) (HX.out _ hO4)
  have k5 : Blk ((w4.setCell ⟨w.heap.size, 0, none⟩ (.int .i64 x)).setCell ⟨w.heap.size, 1, none⟩ (.slice (some ⟨g, 0, none⟩) f.length cap)) w.heap.size #[.int .i64 x, .slice (some ⟨g, 0, none⟩) f.length cap] 26 := by
    have := (k4.store 0 (.int .i64 x)).store 1 (.slice (some ⟨g, 0, none⟩) f.length cap)
    simpa using this
  have y0 := k5.cell 0
  have y1 := k5.cell 1
  have y4 := k5.lt
  simp at y0 y1
  clear k4 k5 x0 x1 x2 x3 x4 hfin hT0 HX Hk0 hO0 hO4 hD1 hcW hM z0 z1 z4
  generalize World.setCell _ _ _ = W9 at *
  go_wp2_with fail
  refine bodyPost_ret (v := .tuple #[.agg #[.int .i64 x, .slice (some ⟨g, 0, none⟩) f.length cap], .int .i64 ((u : Int) - 1)]) (by simp [results, Try.results26, go_sem, y0, y1]) rfl ?_
  exact HE.out

end Go.Proofs.Ytkefkmjfjghggaa
