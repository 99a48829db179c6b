/-
  What FnPerfect draws. For texts of at most 2^20 bytes.
-/
import Derived.Test.YtfkehmpckhmkbaaGreatPkLawPerfect11
import Derived.Test.YtfkehmpckhmkbaaGreatPkLawPerfect16
import Derived.Deep.CutRange
namespace Go.Proofs.YtfkehmpckhmkbaaGreat
open Go.RowKit

set_option maxRecDepth 100000 in
set_option maxHeartbeats 4000000 in
theorem l25Graph_any (cb n c : Nat) (bo : Option Addr) (w : World) (h : CurAt w cb bo n c) :
    Calls Tryz.prog 32 #[.pointer (some ⟨cb, 0, none⟩)] w (RetAG cb bo n c w) := by
  have hcw := h.lt
  go_enter Tryz.func32, Tryz.ntmps32
  go_wp2_with fail
  generalize hW : World.alloc _ _ = W1
  obtain ⟨hB, hs, k0⟩ := alloc1 hW
  have hD := DrewC.refl (h.below hB)
  have hs1 : w.heap.size < W1.heap.size := by omega
  clear hW hs
  have HhB := Lib.hid hB
  clear hB
  have Hk0 := Lib.hid k0
  clear k0
  refine (l4Holey_any cb n c bo W1 hD.cur).mono ?_
  rintro e w2 ⟨x, f, g, cap, hf, rfl, hg, hR, hD1⟩
  replace hD := hD.trans hD1
  have hgw : w.heap.size < g := by omega
  obtain ⟨hf1, hf7⟩ := hf
  clear hD1 hg
  have hend : ∀ (wr : World) (x : Int) (f : List Int) (g cap : Nat), (1 ≤ f.length ∧ f.length ≤ 6) → DrewC cb bo n c W1 wr → w.heap.size < g → RowAt wr g cap f → Hid (RetAG cb bo n c w (.returned (.agg #[.int .i64 x, .slice (some ⟨g, 0, none⟩) f.length cap])) ((wr.setCell ⟨w.heap.size, 0, none⟩ (.int .i64 x)).setCell ⟨w.heap.size, 1, none⟩ (.slice (some ⟨g, 0, none⟩) f.length cap))) := fun wr x f g cap hv hD hg hR => Lib.hid (by
    obtain ⟨h1, h2⟩ := end_graph (N := f.length) (x := x) HhB.out hcw hD hg hR
    exact ⟨x, f, g, cap, hv, rfl, Nat.le_of_lt hg, h1, h2⟩)
  have hblk : ∀ wr, DrewC cb bo n c W1 wr → Blk wr w.heap.size #[.int .i64 0, .slice none 0 0] 26 := fun wr hD => hD.blk Hk0.out (by omega)
  have Hend := Lib.hid hend
  have Hblk := Lib.hid hblk
  clear hend hblk
  go_wp2_with fail
  generalize hWb : World.alloc _ _ = Wb
  obtain ⟨hBb, hzb, kb⟩ := alloc1 hWb
  have hg4 : g < w2.heap.size := hR.lt
  have hcb4 : cb < w2.heap.size := hD.cur.lt
  have hw4 := hD.only.size
  replace hD := hD.below hBb
  replace hR := hR.below hBb
  clear hWb hBb hzb
  generalize w2.heap.size = yb at *
  have hgood : isGraphB x f = true → x = f.length := fun h => (VG.of h).1
  cases hv : isGraphB x f
  · have hCo := specCompl_bad x f (some ⟨g, 0, none⟩) cap Wb hR.ints (by omega) hv
    clear hv hgood
    have z0 := kb.cell 0
    have z1 := kb.cell 1
    have z4 := kb.lt
    simp at z0 z1
    have Hkb := Lib.hid kb
    clear kb
    have HhD := Lib.hid hD
    clear hD
    have HhR := Lib.hid hR
    clear hR
    refine hCo.mono ?_
    rintro e w3 ⟨rfl, hB3⟩
    replace kb := Hkb.out.below hB3 z4
    replace hD := HhD.out.below hB3
    replace hR := HhR.out.below hB3
    clear z0 z1 z4 hB3 hCo Hkb HhD HhR
    go_upto_region 3 with fail
    generalize hWc : World.alloc _ _ = Wc
    obtain ⟨hBc, hzc, -⟩ := alloc1 hWc
    replace kb := kb.below hBc kb.lt
    replace hD := hD.below hBc
    replace hR := hR.below hBc
    clear hWc hBc hzc
    have k9 := Hblk.out _ hD
    have y0 := k9.cell 0
    have y1 := k9.cell 1
    have y2 := k9.frozen 0
    have y3 := k9.frozen 1
    have y4 := k9.lt
    have z0 := kb.cell 0
    have z1 := kb.cell 1
    have z4 := kb.lt
    simp at y0 y1 z0 z1
    have HE := Hend.out _ x f g cap ⟨hf1, hf7⟩ hD hgw hR
    clear k9 kb hD hR
    go_wp2_with fail
    refine bodyPost_ret (v := .agg #[.int .i64 x, .slice (some ⟨g, 0, none⟩) f.length cap]) (by simp [results, Tryz.results32, go_sem, y0, y1]) rfl ?_
    exact HE.out
  · obtain rfl := hgood hv
    have hCo := specComplE_any f (some ⟨g, 0, none⟩) cap Wb hR.ints hv
    have Hcl := Lib.hid (compl_len f)
    clear hv hgood
    have z0 := kb.cell 0
    have z1 := kb.cell 1
    have z4 := kb.lt
    simp at z0 z1
    have Hkb := Lib.hid kb
    clear kb
    have HhD := Lib.hid hD
    clear hD
    have HhR := Lib.hid hR
    clear hR
    refine hCo.mono ?_
    rintro e w3 ⟨ao, c3, rfl, hB3, hE3⟩
    replace kb := Hkb.out.below hB3 z4
    replace hD := HhD.out.below hB3
    replace hR := HhR.out.below hB3
    obtain ⟨g3, rfl, hg3, hR3⟩ := hE3.row (by rw [Hcl.out]; omega)
    have hsb := HhD.out.only.size
    clear z0 z1 z4 hB3 hCo Hkb HhD HhR hE3
    go_upto_region 3 with fail
    generalize hWc : World.alloc _ _ = Wc
    obtain ⟨hBc, hzc, kc⟩ := alloc1 hWc
    have hyb3 := kb.lt
    have hw3 := hD.only.size
    have hcb3 := hD.cur.lt
    replace kb := kb.below hBc kb.lt
    replace hD := hD.below hBc
    replace hR := hR.below hBc
    replace hR3 := hR3.below hBc
    clear hWc hBc hzc
    generalize w3.heap.size = yc at *
    go_wp2_with fail
    refine (l1Once_any 3 cb n c bo Wc hD.cur (by omega) (by omega)).mono ?_
    rintro e w5 ⟨bb, rfl, hD1⟩
    replace hR := hD1.row hR (by omega)
    replace hR3 := hD1.row hR3 (by omega)
    replace kb := hD1.blk kb (by omega)
    replace kc := hD1.blk kc (by omega)
    replace hD := hD.trans hD1
    clear hD1
    have k9 := Hblk.out _ hD
    have y0 := k9.cell 0
    have y1 := k9.cell 1
    have y2 := k9.frozen 0
    have y3 := k9.frozen 1
    have y4 := k9.lt
    have z0 := kb.cell 0
    have z1 := kb.cell 1
    have z4 := kb.lt
    have x0 := kc.cell 0
    have x1 := kc.cell 1
    have x4 := kc.lt
    simp at y0 y1 z0 z1 x0 x1
    have HE := Hend.out _ (f.length : Int) f g cap ⟨hf1, hf7⟩ hD hgw hR
    have HE2 := Hend.out _ (f.length : Int) (compl f) g3 c3 (by rw [Hcl.out]; exact ⟨hf1, hf7⟩) hD (by omega) hR3
    rw [Hcl.out] at HE2
    clear k9 kb kc hD hR hR3
    cases bb
    · go_wp2_with fail
      refine bodyPost_ret (v := .agg #[.int .i64 f.length, .slice (some ⟨g, 0, none⟩) f.length cap]) (by simp [results, Tryz.results32, go_sem, y0, y1]) rfl ?_
      exact HE.out
    · go_wp2_with fail
      refine bodyPost_ret (v := .agg #[.int .i64 f.length, .slice (some ⟨g3, 0, none⟩) f.length c3]) (by simp [results, Tryz.results32, go_sem, y0, y1]) rfl ?_
      exact HE2.out

set_option maxRecDepth 100000 in
set_option maxHeartbeats 4000000 in
theorem DrawIsPerfect_any (n c : Nat) (bo : Option Addr) (w : World) (h : BytesU w.heap.size w bo n) (hn : n ≤ 1048576) :
    Calls Tryz.prog 5 #[.slice bo n c] w (RetAN w) := by
  go_enter Tryz.func5, Tryz.ntmps5
  go_wp2_with fail
  generalize hW : World.alloc _ _ = W1
  obtain ⟨hB, hs, k0⟩ := alloc1 hW
  have hs1 : w.heap.size < W1.heap.size := by omega
  have hb1 : BytesU W1.heap.size W1 bo n := (h.only (Only.of (X := fun _ => False) hB) fun _ _ h => h).mono (by omega)
  clear hW hs
  refine (l1New_any n c bo W1 hb1 hn).mono ?_
  rintro e w1 ⟨cb, rfl, hB1, hcb, hC⟩
  replace k0 := k0.below hB1 hs1
  have hs2 := hB1.size
  replace hB := hB.trans (hB1.mono (by omega))
  have HhB := Lib.hid hB
  clear hB
  have Hk0 := Lib.hid k0
  clear k0
  clear hb1 hB1 h
  go_wp2_with fail
  refine (l25Graph_any cb n c bo w1 hC).mono ?_
  rintro e w2 ⟨x, f, g, cap, hf, rfl, hg, hR, hD⟩
  have k9 := hD.blk Hk0.out (by omega)
  have y0 := k9.cell 0
  have y1 := k9.cell 1
  have y2 := k9.frozen 0
  have y3 := k9.frozen 1
  have y4 := k9.lt
  simp at y0 y1
  have HE := Lib.hid (show RetAN w (.returned (.agg #[.int .i64 x, .slice (some ⟨g, 0, none⟩) f.length cap])) ((w2.setCell ⟨w.heap.size, 0, none⟩ (.int .i64 x)).setCell ⟨w.heap.size, 1, none⟩ (.slice (some ⟨g, 0, none⟩) f.length cap)) from
    ⟨x, f, g, cap, hf, rfl, by omega, (hR.otherCell (by simp; omega)).otherCell (by simp; omega), ((HhB.out.trans (hD.only.below (by omega) fun b hb e => by have e2 : b = cb := e; omega)).setCell (by simp) _).setCell (by simp) _⟩)
  clear k9 hD hR HhB Hk0 hC
  go_wp2_with fail
  refine bodyPost_ret (v := .agg #[.int .i64 x, .slice (some ⟨g, 0, none⟩) f.length cap]) (by simp [results, Tryz.results5, go_sem, y0, y1]) rfl ?_
  exact HE.out

set_option maxRecDepth 100000 in
set_option maxHeartbeats 4000000 in
theorem DrawFindOddHole_any (n c : Nat) (bo : Option Addr) (w : World) (h : BytesU w.heap.size w bo n) (hn : n ≤ 1048576) :
    Calls Tryz.prog 24 #[.slice bo n c] w (RetAN w) := by
  go_enter Tryz.func24, Tryz.ntmps24
  go_wp2_with fail
  generalize hW : World.alloc _ _ = W1
  obtain ⟨hB, hs, k0⟩ := alloc1 hW
  have hs1 : w.heap.size < W1.heap.size := by omega
  have hb1 : BytesU W1.heap.size W1 bo n := (h.only (Only.of (X := fun _ => False) hB) fun _ _ h => h).mono (by omega)
  clear hW hs
  refine (l1New_any n c bo W1 hb1 hn).mono ?_
  rintro e w1 ⟨cb, rfl, hB1, hcb, hC⟩
  replace k0 := k0.below hB1 hs1
  have hs2 := hB1.size
  replace hB := hB.trans (hB1.mono (by omega))
  have HhB := Lib.hid hB
  clear hB
  have Hk0 := Lib.hid k0
  clear k0
  clear hb1 hB1 h
  go_wp2_with fail
  refine (l25Graph_any cb n c bo w1 hC).mono ?_
  rintro e w2 ⟨x, f, g, cap, hf, rfl, hg, hR, hD⟩
  have k9 := hD.blk Hk0.out (by omega)
  have y0 := k9.cell 0
  have y1 := k9.cell 1
  have y2 := k9.frozen 0
  have y3 := k9.frozen 1
  have y4 := k9.lt
  simp at y0 y1
  have HE := Lib.hid (show RetAN w (.returned (.agg #[.int .i64 x, .slice (some ⟨g, 0, none⟩) f.length cap])) ((w2.setCell ⟨w.heap.size, 0, none⟩ (.int .i64 x)).setCell ⟨w.heap.size, 1, none⟩ (.slice (some ⟨g, 0, none⟩) f.length cap)) from
    ⟨x, f, g, cap, hf, rfl, by omega, (hR.otherCell (by simp; omega)).otherCell (by simp; omega), ((HhB.out.trans (hD.only.below (by omega) fun b hb e => by have e2 : b = cb := e; omega)).setCell (by simp) _).setCell (by simp) _⟩)
  clear k9 hD hR HhB Hk0 hC
  go_wp2_with fail
  refine bodyPost_ret (v := .agg #[.int .i64 x, .slice (some ⟨g, 0, none⟩) f.length cap]) (by simp [results, Tryz.results24, go_sem, y0, y1]) rfl ?_
  exact HE.out

set_option maxRecDepth 100000 in
set_option maxHeartbeats 4000000 in
theorem DrawFindAntihole_any (n c : Nat) (bo : Option Addr) (w : World) (h : BytesU w.heap.size w bo n) (hn : n ≤ 1048576) :
    Calls Tryz.prog 27 #[.slice bo n c] w (RetAN w) := by
  go_enter Tryz.func27, Tryz.ntmps27
  go_wp2_with fail
  generalize hW : World.alloc _ _ = W1
  obtain ⟨hB, hs, k0⟩ := alloc1 hW
  have hs1 : w.heap.size < W1.heap.size := by omega
  have hb1 : BytesU W1.heap.size W1 bo n := (h.only (Only.of (X := fun _ => False) hB) fun _ _ h => h).mono (by omega)
  clear hW hs
  refine (l1New_any n c bo W1 hb1 hn).mono ?_
  rintro e w1 ⟨cb, rfl, hB1, hcb, hC⟩
  replace k0 := k0.below hB1 hs1
  have hs2 := hB1.size
  replace hB := hB.trans (hB1.mono (by omega))
  have HhB := Lib.hid hB
  clear hB
  have Hk0 := Lib.hid k0
  clear k0
  clear hb1 hB1 h
  go_wp2_with fail
  refine (l25Graph_any cb n c bo w1 hC).mono ?_
  rintro e w2 ⟨x, f, g, cap, hf, rfl, hg, hR, hD⟩
  have k9 := hD.blk Hk0.out (by omega)
  have y0 := k9.cell 0
  have y1 := k9.cell 1
  have y2 := k9.frozen 0
  have y3 := k9.frozen 1
  have y4 := k9.lt
  simp at y0 y1
  have HE := Lib.hid (show RetAN w (.returned (.agg #[.int .i64 x, .slice (some ⟨g, 0, none⟩) f.length cap])) ((w2.setCell ⟨w.heap.size, 0, none⟩ (.int .i64 x)).setCell ⟨w.heap.size, 1, none⟩ (.slice (some ⟨g, 0, none⟩) f.length cap)) from
    ⟨x, f, g, cap, hf, rfl, by omega, (hR.otherCell (by simp; omega)).otherCell (by simp; omega), ((HhB.out.trans (hD.only.below (by omega) fun b hb e => by have e2 : b = cb := e; omega)).setCell (by simp) _).setCell (by simp) _⟩)
  clear k9 hD hR HhB Hk0 hC
  go_wp2_with fail
  refine bodyPost_ret (v := .agg #[.int .i64 x, .slice (some ⟨g, 0, none⟩) f.length cap]) (by simp [results, Tryz.results27, go_sem, y0, y1]) rfl ?_
  exact HE.out

set_option maxRecDepth 100000 in
set_option maxHeartbeats 8000000 in
theorem DrawIsPerfectObstacle_any (n c : Nat) (bo : Option Addr) (w : World) (h : BytesU w.heap.size w bo n) (hn : n ≤ 1048576) :
    Calls Tryz.prog 30 #[.slice bo n c] w (RetGLC w) := by
  go_enter Tryz.func30, Tryz.ntmps30
  go_wp2_with fail
  generalize hW : World.alloc _ _ = W1
  obtain ⟨hB, hs, k0⟩ := alloc1 hW
  have hs1 : w.heap.size < W1.heap.size := by omega
  have hb1 : BytesU W1.heap.size W1 bo n := (h.only (Only.of (X := fun _ => False) hB) fun _ _ h => h).mono (by omega)
  clear hW hs
  refine (l1New_any n c bo W1 hb1 hn).mono ?_
  rintro e w1 ⟨cb, rfl, hB1, hcb, hC⟩
  replace k0 := k0.below hB1 hs1
  have hs2 := hB1.size
  replace hB := hB.trans (hB1.mono (by omega))
  have hcl := hC.lt
  clear hb1 hB1 h
  go_wp2_with fail
  refine (l25Graph_any cb n c bo w1 hC).mono ?_
  rintro e w2 ⟨x, f, g, cap, hf, rfl, hg, hR, hD⟩
  have hsz := hD.only.size
  have hO := hD.only.mono (Nat.le_refl _) (Y := fun b => b = cb ∨ b = w.heap.size) fun _ _ e => .inl e
  have hC2 := hD.cur
  replace k0 := hD.blk k0 (by omega)
  clear hD hC
  go_wp2_with fail
  generalize hWb : World.alloc _ _ = Wb
  obtain ⟨hBb, hzb, kb⟩ := alloc1 hWb
  have hg4 : g < w2.heap.size := hR.lt
  replace hC2 := hC2.below hBb
  replace hO := hO.more hBb hsz
  have hR1 := hR.below hBb
  replace k0 := k0.below hBb (by omega)
  clear hWb hBb hR
  have hF := specObstC_any x f (some ⟨g, 0, none⟩) cap Wb hR1.ints (by omega)
  have hl := obstV_len x f
  generalize w2.heap.size = yb at *
  have hyl := kb.lt
  have x0 := kb.cell 0
  have x1 := kb.cell 1
  simp at x0 x1
  have HhB := Lib.hid hB
  clear hB
  have HhO := Lib.hid hO
  clear hO
  have Hk0 := Lib.hid k0
  clear k0
  have HhR1 := Lib.hid hR1
  clear hR1
  have Hkb := Lib.hid kb
  clear kb
  have HhC2 := Lib.hid hC2
  clear hC2
  go_wp2_with fail
  refine hF.mono ?_
  rintro e w3 ⟨lo, lc, rfl, hB3, hL, hlc⟩
  clear hF x0 x1
  generalize (obstV x f).getD [] = l at *
  generalize (obstV x f).isSome = is at *
  have hs3 := hB3.size
  have hO3 := HhO.out.more hB3 (by omega)
  have hC3 := HhC2.out.below hB3
  have hR3 := HhR1.out.below hB3
  have k3 := Hk0.out.below hB3 (by omega)
  have kb3 := Hkb.out.below hB3 hyl
  clear HhO HhC2 HhR1 Hk0 Hkb hB3
  -- the end: a graph and a list
  have hfin : ∀ (wr : World) (l : List Int) (lo : Option Addr) (lc : Nat), Only (fun b => b = cb ∨ b = w.heap.size) w1.heap.size w1 wr → RowAt wr g cap f → IntsAt ((wr.setCell ⟨w.heap.size, 0, none⟩ (.int .i64 x)).setCell ⟨w.heap.size, 1, none⟩ (.slice (some ⟨g, 0, none⟩) f.length cap)) lo l → l.length ≤ 1048576 → l.length ≤ lc →
      Hid (RetGLC w (.returned (.tuple #[.agg #[.int .i64 x, .slice (some ⟨g, 0, none⟩) f.length cap], .slice lo l.length lc])) ((wr.setCell ⟨w.heap.size, 0, none⟩ (.int .i64 x)).setCell ⟨w.heap.size, 1, none⟩ (.slice (some ⟨g, 0, none⟩) f.length cap))) := fun wr l lo lc hO hR hL hl hc => Lib.hid
    ⟨x, f, l, g, cap, lo, lc, hf, hl, hc, rfl, (hR.otherCell (by simp; omega)).otherCell (by simp; omega), hL, ((HhB.out.trans (hO.below (by omega) fun b hb e => by rcases e with e | e <;> omega)).setCell (by simp) _).setCell (by simp) _⟩
  have Hfin := Lib.hid hfin
  clear hfin HhB
  cases is
  · clear hL hlc hl
    obtain ⟨hO, hC, hR, k, kb⟩ : _ ∧ _ ∧ _ ∧ _ ∧ _ := ⟨hO3, hC3, hR3, k3, kb3⟩
    clear hO3 hC3 hR3 k3 kb3
    have hyW := kb.lt
    have h0W := k.lt
    have hsW := hO.size
    have hkb := kb
    have hcW := hC.lt
    have hT0 : ∀ w', Only (fun b => b = cb ∨ b = w.heap.size) w3.heap.size w3 w' → w'.cell? ⟨yb, 0, none⟩ = some (.int .i64 x) ∧ w'.cell? ⟨yb, 1, none⟩ = some (.slice (some ⟨g, 0, none⟩) f.length cap) := fun w' h => by
      have := h.blk hkb hyW (fun e => by rcases e with e | e <;> omega)
      exact ⟨by simpa using this.cell 0, by simpa using this.cell 1⟩
    have hX0 : ∀ (w' : World), Only (fun b => b = cb ∨ b = w.heap.size) w3.heap.size w3 w' → Only (fun b => b = cb ∨ b = w.heap.size) w3.heap.size w3 ((w'.setCell ⟨w.heap.size, 0, none⟩ (.int .i64 x)).setCell ⟨w.heap.size, 1, none⟩ (.slice (some ⟨g, 0, none⟩) f.length cap)) := fun w' h => (h.setCell (p := ⟨w.heap.size, 0, none⟩) (.inl (.inr rfl)) _).setCell (p := ⟨w.heap.size, 1, none⟩) (.inl (.inr rfl)) _
    have hSet : ∀ (w' : World), CurAt w' cb bo n c → Hid (Calls Tryz.prog 57 #[.pointer (some ⟨cb, 0, none⟩), .agg #[.int .i64 x, .slice (some ⟨g, 0, none⟩) f.length cap]] w' (RetLi cb bo n c w')) := fun w' h => Lib.hid (l4List_any cb n c bo x _ w' h)
    have HX := Lib.hid hX0
    have Hk0 := Lib.hid k
    have HO := Lib.hid hO
    have HR := Lib.hid hR
    have hnec : ¬cb = w.heap.size := by omega
    have z0 := kb.cell 0
    have z1 := kb.cell 1
    have z4 := kb.lt
    simp at z0 z1
    clear hX0 hkb kb k hR hO
    go_wp2_with fail
    have hO0 : Only (fun b => b = cb ∨ b = w.heap.size) w3.heap.size w3 w3.drew := Only.of (Below.refl _ _).drew
    refine wp_region_B (fun w' => Only (fun b => b = cb ∨ b = w.heap.size) w3.heap.size w3 w' ∧ w'.cell? ⟨yb, 0, none⟩ = some (.int .i64 x) ∧ w'.cell? ⟨yb, 1, none⟩ = some (.slice (some ⟨g, 0, none⟩) f.length cap)) (fun _ => True) [] (by kernel_rfl) (⟨hO0, hT0 _ hO0⟩) (trivial) (fun hM => ?_)
    refine wpAnyB_take (i := 0) (v := ?_) false rfl (by kernel_rfl) (by kernel_rfl) (by kernel_rfl) (by kernel_rfl) (by kernel_rfl) (fun _ _ _ h => h) (Or.inl ⟨by rfl, ?_⟩) hM (fun hM2 => ?_)
    rotate_left
    · (intro w hSw; replace hSw := hSw.1; (try dsimp only at hSw); go_simp; try with_reducible rfl)
    replace hM := hM2
    clear hM2
    try simp only [List.getElem_toArray, List.getElem_cons_zero, Act.put, List.setIfInBounds_toArray, List.set_cons_zero, List.set_cons_succ]
    refine wpAnyB_take (i := 1) (v := ?_) false rfl (by kernel_rfl) (by kernel_rfl) (by kernel_rfl) (by kernel_rfl) (by kernel_rfl) (fun _ _ _ h => h) (Or.inl ⟨by rfl, ?_⟩) hM (fun hM2 => ?_)
    rotate_left
    · (intro w hSw; replace hSw := hSw.1; (try dsimp only at hSw); go_simp; try with_reducible rfl)
    replace hM := hM2
    clear hM2
    try simp only [List.getElem_toArray, List.getElem_cons_succ, List.getElem_cons_zero, Act.put, List.setIfInBounds_toArray, List.set_cons_zero, List.set_cons_succ]
    refine wpAnyB_take (i := 2) (v := ?_) false rfl (by kernel_rfl) (by kernel_rfl) (by kernel_rfl) (by kernel_rfl) (by kernel_rfl) (fun _ _ _ h => h) (Or.inl ⟨by rfl, ?_⟩) hM (fun hM2 => ?_)
    rotate_left
    · (intro w hSw; replace hSw := hSw.1; (try dsimp only at hSw); go_simp; try with_reducible rfl)
    replace hM := hM2
    clear hM2
    try simp only [List.getElem_toArray, List.getElem_cons_succ, List.getElem_cons_zero, Act.put, List.setIfInBounds_toArray, List.set_cons_zero, List.set_cons_succ]
    refine wpAnyB_one (i := 3) (by kernel_rfl) rfl (fun K hK => ?_)
    (go_simp; go_at_call 57; refine (hSet _ (hC.below (Below.refl _ _).drew)).out.mono ?_; rintro e w4 ⟨l2, ao2, cap2, hl2, rfl, hOw2, hD1⟩; have hO4 : Only (fun b => b = cb ∨ b = w.heap.size) w3.heap.size w3 w4 := hO0.trans (hD1.only.mono (Nat.le_refl _) fun _ _ e => .inl e); dsimp only)
    refine hK.out _ _ (meetB.both ⟨hO4, hT0 _ hO4⟩ trivial) (fun hM2 => ?_)
    clear hK K
    replace hM := hM2
    clear hM2
    try simp only [List.getElem_toArray, List.getElem_cons_succ, List.getElem_cons_zero, Act.put, List.setIfInBounds_toArray, List.set_cons_zero, List.set_cons_succ]
    have k4 := hD1.only.blk (Hk0.out.drew) h0W (fun e => hnec (Eq.symm e))
    have x0 := k4.cell 0
    have x1 := k4.cell 1
    have x2 := k4.frozen 0
    have x3 := k4.frozen 1
    have x4 := k4.lt
    simp at x0 x1
    refine wpAnyB_one (i := 4) (by kernel_rfl) rfl (fun K hK => ?_)
    go_simp
    refine hK.out _ _ (meetB.both ⟨HX.out _ hO4, hT0 _ (HX.out _ hO4)⟩ trivial) (fun hM2 => ?_)
    clear hK K
    replace hM := hM2
    clear hM2
    try simp only [List.getElem_toArray, List.getElem_cons_succ, List.getElem_cons_zero, Act.put, List.setIfInBounds_toArray, List.set_cons_zero, List.set_cons_succ]
    refine wpAnyB_take (i := 5) (v := ?_) false rfl (by kernel_rfl) (by kernel_rfl) (by kernel_rfl) (by kernel_rfl) (by kernel_rfl) (fun _ _ _ h => h) (Or.inl ⟨by rfl, ?_⟩) hM (fun hM2 => ?_)
    rotate_left
    · (intro w hSw; replace hSw := hSw.1; (try dsimp only at hSw); go_simp; try with_reducible rfl)
    replace hM := hM2
    clear hM2
    try simp only [List.getElem_toArray, List.getElem_cons_succ, List.getElem_cons_zero, Act.put, List.setIfInBounds_toArray, List.set_cons_zero, List.set_cons_succ]
    refine wpAnyB_done (by kernel_rfl) ?_ _
    have hdr : w3.drew.heap.size = w3.heap.size := rfl
    have hS : Only (fun b => b = w.heap.size) w4.heap.size w4 ((w4.setCell ⟨w.heap.size, 0, none⟩ (.int .i64 x)).setCell ⟨w.heap.size, 1, none⟩ (.slice (some ⟨g, 0, none⟩) f.length cap)) :=
      ((Only.refl (fun b => b = w.heap.size) _ _).setCell (p := ⟨w.heap.size, 0, none⟩) (.inl rfl) _).setCell (p := ⟨w.heap.size, 1, none⟩) (.inl rfl) _
    have HE := Hfin.out w4 l2 ao2 cap2 (HO.out.trans (hO4.mono hsW fun _ _ e => e)) (hD1.row (show RowAt w3.drew g cap f from HR.out) (by omega)) (hOw2.onlyOne hS (by omega)).ints (by omega) hOw2.room'
    have k5 : Blk ((w4.setCell ⟨w.heap.size, 0, none⟩ (.int .i64 x)).setCell ⟨w.heap.size, 1, none⟩ (.slice (some ⟨g, 0, none⟩) f.length cap)) w.heap.size #[.int .i64 x, .slice (some ⟨g, 0, none⟩) f.length cap] 26 := by
      have := (k4.store 0 (.int .i64 x)).store 1 (.slice (some ⟨g, 0, none⟩) f.length cap)
      simpa using this
    have y0 := k5.cell 0
    have y1 := k5.cell 1
    have y4 := k5.lt
    simp at y0 y1
    clear k4 k5 x0 x1 x2 x3 x4 Hfin hT0 HX hSet Hk0 HO HR hO0 hO4 hD1 hC hM z0 z1 z4 hS hOw2
    generalize World.setCell _ _ _ = W9 at *
    go_wp2_with fail
    refine bodyPost_ret (v := .tuple #[.agg #[.int .i64 x, .slice (some ⟨g, 0, none⟩) f.length cap], .slice ao2 l2.length cap2]) (by simp [results, Tryz.results30, go_sem, y0, y1]) rfl ?_
    exact HE.out
  · go_wp2_with fail
    refine (l1Once_any 3 cb n c bo w3 hC3 (by omega) (by omega)).mono ?_
    rintro e w4 ⟨b3, rfl, hD4⟩
    have hO4 := hO3.trans (hD4.only.mono (by have := hO3.size; omega) fun _ _ e => .inl e)
    have hR4 := hD4.row hR3 (by omega)
    have k4 := hD4.blk k3 (by omega)
    have kb4 := hD4.blk kb3 (by omega)
    have hC4 := hD4.cur
    have hS4 : Only (fun b => b = cb ∨ b = w.heap.size) w3.heap.size w3 ((w4.setCell ⟨w.heap.size, 0, none⟩ (.int .i64 x)).setCell ⟨w.heap.size, 1, none⟩ (.slice (some ⟨g, 0, none⟩) f.length cap)) :=
      ((hD4.only.mono (Nat.le_refl _) fun _ _ e => .inl e).setCell (p := ⟨w.heap.size, 0, none⟩) (.inl (.inr rfl)) _).setCell (p := ⟨w.heap.size, 1, none⟩) (.inl (.inr rfl)) _
    have k5 : Blk ((w4.setCell ⟨w.heap.size, 0, none⟩ (.int .i64 x)).setCell ⟨w.heap.size, 1, none⟩ (.slice (some ⟨g, 0, none⟩) f.length cap)) w.heap.size #[.int .i64 x, .slice (some ⟨g, 0, none⟩) f.length cap] 26 := by
      have := (k4.store 0 (.int .i64 x)).store 1 (.slice (some ⟨g, 0, none⟩) f.length cap)
      simpa using this
    obtain ⟨i3, j3, -, kc3⟩ := hC3.box
    obtain ⟨i4, j4, -, kc4⟩ := hC4.box
    have kc5 := (kc4.other (a := ⟨w.heap.size, 0, none⟩) (.int .i64 x) (by simp; omega)).other (a := ⟨w.heap.size, 1, none⟩) (.slice (some ⟨g, 0, none⟩) f.length cap) (by simp; omega)
    obtain ⟨l2, hl2, hL2⟩ := hL.moved hS4 kc3 kc5 k3 k5
    clear kc3 kc4 kc5
    have HL2 := Lib.hid (And.intro hl2 hL2)
    clear hO3 hC3 hR3 k3 kb3 hL hD4 hS4 k5 hL2 hl2
    cases b3
    · have HE := Hfin.out _ l2 lo lc hO4 hR4 HL2.out.2 (by rw [HL2.out.1]; exact hl) (by rw [HL2.out.1]; exact hlc)
      rw [HL2.out.1] at HE
      have x0 := kb4.cell 0
      have x1 := kb4.cell 1
      have x4 := kb4.lt
      have y0 := k4.cell 0
      have y1 := k4.cell 1
      have y2 := k4.frozen 0
      have y3 := k4.frozen 1
      have y4 := k4.lt
      simp at x0 x1 y0 y1
      clear k4 kb4 hO4 hR4 hC4 Hfin HL2
      go_wp2_with fail
      refine bodyPost_ret (v := .tuple #[.agg #[.int .i64 x, .slice (some ⟨g, 0, none⟩) f.length cap], .slice lo l.length lc]) (by simp [results, Tryz.results30, go_sem, y0, y1]) rfl ?_
      exact HE.out
    · clear HL2 hlc hl
      obtain ⟨hO, hC, hR, k, kb⟩ : _ ∧ _ ∧ _ ∧ _ ∧ _ := ⟨hO4, hC4, hR4, k4, kb4⟩
      clear hO4 hC4 hR4 k4 kb4
      have hyW := kb.lt
      have h0W := k.lt
      have hsW := hO.size
      have hkb := kb
      have hcW := hC.lt
      have hT0 : ∀ w', Only (fun b => b = cb ∨ b = w.heap.size) w4.heap.size w4 w' → w'.cell? ⟨yb, 0, none⟩ = some (.int .i64 x) ∧ w'.cell? ⟨yb, 1, none⟩ = some (.slice (some ⟨g, 0, none⟩) f.length cap) := fun w' h => by
        have := h.blk hkb hyW (fun e => by rcases e with e | e <;> omega)
        exact ⟨by simpa using this.cell 0, by simpa using this.cell 1⟩
      have hX0 : ∀ (w' : World), Only (fun b => b = cb ∨ b = w.heap.size) w4.heap.size w4 w' → Only (fun b => b = cb ∨ b = w.heap.size) w4.heap.size w4 ((w'.setCell ⟨w.heap.size, 0, none⟩ (.int .i64 x)).setCell ⟨w.heap.size, 1, none⟩ (.slice (some ⟨g, 0, none⟩) f.length cap)) := fun w' h => (h.setCell (p := ⟨w.heap.size, 0, none⟩) (.inl (.inr rfl)) _).setCell (p := ⟨w.heap.size, 1, none⟩) (.inl (.inr rfl)) _
      have hSet : ∀ (w' : World), CurAt w' cb bo n c → Hid (Calls Tryz.prog 57 #[.pointer (some ⟨cb, 0, none⟩), .agg #[.int .i64 x, .slice (some ⟨g, 0, none⟩) f.length cap]] w' (RetLi cb bo n c w')) := fun w' h => Lib.hid (l4List_any cb n c bo x _ w' h)
      have HX := Lib.hid hX0
      have Hk0 := Lib.hid k
      have HO := Lib.hid hO
      have HR := Lib.hid hR
      have hnec : ¬cb = w.heap.size := by omega
      have z0 := kb.cell 0
      have z1 := kb.cell 1
      have z4 := kb.lt
      simp at z0 z1
      clear hX0 hkb kb k hR hO
      go_wp2_with fail
      have hO0 : Only (fun b => b = cb ∨ b = w.heap.size) w4.heap.size w4 w4.drew := Only.of (Below.refl _ _).drew
      refine wp_region_B (fun w' => Only (fun b => b = cb ∨ b = w.heap.size) w4.heap.size w4 w' ∧ w'.cell? ⟨yb, 0, none⟩ = some (.int .i64 x) ∧ w'.cell? ⟨yb, 1, none⟩ = some (.slice (some ⟨g, 0, none⟩) f.length cap)) (fun _ => True) [] (by kernel_rfl) (⟨hO0, hT0 _ hO0⟩) (trivial) (fun hM => ?_)
      refine wpAnyB_take (i := 0) (v := ?_) false rfl (by kernel_rfl) (by kernel_rfl) (by kernel_rfl) (by kernel_rfl) (by kernel_rfl) (fun _ _ _ h => h) (Or.inl ⟨by rfl, ?_⟩) hM (fun hM2 => ?_)
      rotate_left
      · (intro w hSw; replace hSw := hSw.1; (try dsimp only at hSw); go_simp; try with_reducible rfl)
      replace hM := hM2
      clear hM2
      try simp only [List.getElem_toArray, List.getElem_cons_zero, Act.put, List.setIfInBounds_toArray, List.set_cons_zero, List.set_cons_succ]
      refine wpAnyB_take (i := 1) (v := ?_) false rfl (by kernel_rfl) (by kernel_rfl) (by kernel_rfl) (by kernel_rfl) (by kernel_rfl) (fun _ _ _ h => h) (Or.inl ⟨by rfl, ?_⟩) hM (fun hM2 => ?_)
      rotate_left
      · (intro w hSw; replace hSw := hSw.1; (try dsimp only at hSw); go_simp; try with_reducible rfl)
      replace hM := hM2
      clear hM2
      try simp only [List.getElem_toArray, List.getElem_cons_succ, List.getElem_cons_zero, Act.put, List.setIfInBounds_toArray, List.set_cons_zero, List.set_cons_succ]
      refine wpAnyB_take (i := 2) (v := ?_) false rfl (by kernel_rfl) (by kernel_rfl) (by kernel_rfl) (by kernel_rfl) (by kernel_rfl) (fun _ _ _ h => h) (Or.inl ⟨by rfl, ?_⟩) hM (fun hM2 => ?_)
      rotate_left
      · (intro w hSw; replace hSw := hSw.1; (try dsimp only at hSw); go_simp; try with_reducible rfl)
      replace hM := hM2
      clear hM2
      try simp only [List.getElem_toArray, List.getElem_cons_succ, List.getElem_cons_zero, Act.put, List.setIfInBounds_toArray, List.set_cons_zero, List.set_cons_succ]
      refine wpAnyB_one (i := 3) (by kernel_rfl) rfl (fun K hK => ?_)
      (go_simp; go_at_call 57; refine (hSet _ (hC.below (Below.refl _ _).drew)).out.mono ?_; rintro e w5 ⟨l2, ao2, cap2, hl2, rfl, hOw2, hD1⟩; have hO4 : Only (fun b => b = cb ∨ b = w.heap.size) w4.heap.size w4 w5 := hO0.trans (hD1.only.mono (Nat.le_refl _) fun _ _ e => .inl e); dsimp only)
      refine hK.out _ _ (meetB.both ⟨hO4, hT0 _ hO4⟩ trivial) (fun hM2 => ?_)
      clear hK K
      replace hM := hM2
      clear hM2
      try simp only [List.getElem_toArray, List.getElem_cons_succ, List.getElem_cons_zero, Act.put, List.setIfInBounds_toArray, List.set_cons_zero, List.set_cons_succ]
      have k4 := hD1.only.blk (Hk0.out.drew) h0W (fun e => hnec (Eq.symm e))
      have x0 := k4.cell 0
      have x1 := k4.cell 1
      have x2 := k4.frozen 0
      have x3 := k4.frozen 1
      have x4 := k4.lt
      simp at x0 x1
      refine wpAnyB_one (i := 4) (by kernel_rfl) rfl (fun K hK => ?_)
      go_simp
      refine hK.out _ _ (meetB.both ⟨HX.out _ hO4, hT0 _ (HX.out _ hO4)⟩ trivial) (fun hM2 => ?_)
      clear hK K
      replace hM := hM2
      clear hM2
      try simp only [List.getElem_toArray, List.getElem_cons_succ, List.getElem_cons_zero, Act.put, List.setIfInBounds_toArray, List.set_cons_zero, List.set_cons_succ]
      refine wpAnyB_take (i := 5) (v := ?_) false rfl (by kernel_rfl) (by kernel_rfl) (by kernel_rfl) (by kernel_rfl) (by kernel_rfl) (fun _ _ _ h => h) (Or.inl ⟨by rfl, ?_⟩) hM (fun hM2 => ?_)
      rotate_left
      · (intro w hSw; replace hSw := hSw.1; (try dsimp only at hSw); go_simp; try with_reducible rfl)
      replace hM := hM2
      clear hM2
      try simp only [List.getElem_toArray, List.getElem_cons_succ, List.getElem_cons_zero, Act.put, List.setIfInBounds_toArray, List.set_cons_zero, List.set_cons_succ]
      refine wpAnyB_done (by kernel_rfl) ?_ _
      have hdr : w4.drew.heap.size = w4.heap.size := rfl
      have hS : Only (fun b => b = w.heap.size) w5.heap.size w5 ((w5.setCell ⟨w.heap.size, 0, none⟩ (.int .i64 x)).setCell ⟨w.heap.size, 1, none⟩ (.slice (some ⟨g, 0, none⟩) f.length cap)) :=
        ((Only.refl (fun b => b = w.heap.size) _ _).setCell (p := ⟨w.heap.size, 0, none⟩) (.inl rfl) _).setCell (p := ⟨w.heap.size, 1, none⟩) (.inl rfl) _
      have HE := Hfin.out w5 l2 ao2 cap2 (HO.out.trans (hO4.mono hsW fun _ _ e => e)) (hD1.row (show RowAt w4.drew g cap f from HR.out) (by omega)) (hOw2.onlyOne hS (by omega)).ints (by omega) hOw2.room'
      have k5 : Blk ((w5.setCell ⟨w.heap.size, 0, none⟩ (.int .i64 x)).setCell ⟨w.heap.size, 1, none⟩ (.slice (some ⟨g, 0, none⟩) f.length cap)) w.heap.size #[.int .i64 x, .slice (some ⟨g, 0, none⟩) f.length cap] 26 := by
        have := (k4.store 0 (.int .i64 x)).store 1 (.slice (some ⟨g, 0, none⟩) f.length cap)
        simpa using this
      have y0 := k5.cell 0
      have y1 := k5.cell 1
      have y4 := k5.lt
      simp at y0 y1
      clear k4 k5 x0 x1 x2 x3 x4 Hfin hT0 HX hSet Hk0 HO HR hO0 hO4 hD1 hC hM z0 z1 z4 hS hOw2
      generalize World.setCell _ _ _ = W9 at *
      go_wp2_with fail
      refine bodyPost_ret (v := .tuple #[.agg #[.int .i64 x, .slice (some ⟨g, 0, none⟩) f.length cap], .slice ao2 l2.length cap2]) (by simp [results, Tryz.results30, go_sem, y0, y1]) rfl ?_
      exact HE.out

end Go.Proofs.YtfkehmpckhmkbaaGreat
