/-
  What FnStrong draws. For texts of at most 2^20 bytes.
-/
import Derived.Test.YtgklgheaojoimaaPkLawStrong17
import Derived.Test.YtgklgheaojoimaaPkLawStrong30
import Derived.Test.YtgklgheaojoimaaPkLawStrong33
namespace Go.Proofs.Ytgklgheaojoimaa
open Go.RowKit

set_option maxRecDepth 100000 in
set_option maxHeartbeats 4000000 in
theorem DrawSimpleOrder_any (n c : Nat) (bo : Option Addr) (w : World) (h : BytesU w.heap.size w bo n) (hn : n ≤ 1048576) :
    Calls Try.prog 30 #[.slice bo n c] w (RetAN w) := by
  go_enter Try.func30, Try.ntmps30
  go_wp2_with fail
  generalize hW : World.alloc _ _ = W1
  obtain ⟨hB, hs, k0⟩ := alloc1 hW
  have hs1 : w.heap.size < W1.heap.size := by omega
  have hb1 : BytesU W1.heap.size W1 bo n := (h.only (Only.of (X := fun _ => False) hB) fun _ _ h => h).mono (by omega)
  clear hW hs
  refine (l1New_any n c bo W1 hb1 hn).mono ?_
  rintro e w1 ⟨cb, rfl, hB1, hcb, hC⟩
  replace k0 := k0.below hB1 hs1
  have hs2 := hB1.size
  replace hB := hB.trans (hB1.mono (by omega))
  have HhB := Lib.hid hB
  clear hB
  have Hk0 := Lib.hid k0
  clear k0
  clear hb1 hB1 h
  go_wp2_with fail
  refine (l22Graph_any cb n c bo w1 hC).mono ?_
  rintro e w2 ⟨x, f, g, cap, hf, rfl, hg, hR, hD⟩
  have k9 := hD.blk Hk0.out (by omega)
  have y0 := k9.cell 0
  have y1 := k9.cell 1
  have y2 := k9.frozen 0
  have y3 := k9.frozen 1
  have y4 := k9.lt
  simp at y0 y1
  have HE := Lib.hid (show RetAN w (.returned (.agg #[.int .i64 x, .slice (some ⟨g, 0, none⟩) f.length cap])) ((w2.setCell ⟨w.heap.size, 0, none⟩ (.int .i64 x)).setCell ⟨w.heap.size, 1, none⟩ (.slice (some ⟨g, 0, none⟩) f.length cap)) from
    ⟨x, f, g, cap, hf, rfl, by omega, (hR.otherCell (by simp; omega)).otherCell (by simp; omega), ((HhB.out.trans (hD.only.below (by omega) fun b hb e => by have e2 : b = cb := e; omega)).setCell (by simp) _).setCell (by simp) _⟩)
  clear k9 hD hR HhB Hk0 hC
  go_wp2_with fail
  refine bodyPost_ret (v := .agg #[.int .i64 x, .slice (some ⟨g, 0, none⟩) f.length cap]) (by simp [results, Try.results30, go_sem, y0, y1]) rfl ?_
  exact HE.out

set_option maxRecDepth 100000 in
set_option maxHeartbeats 4000000 in
theorem DrawFindSun_any (n c : Nat) (bo : Option Addr) (w : World) (h : BytesU w.heap.size w bo n) (hn : n ≤ 1048576) :
    Calls Try.prog 38 #[.slice bo n c] w (RetAN w) := by
  go_enter Try.func38, Try.ntmps38
  go_wp2_with fail
  generalize hW : World.alloc _ _ = W1
  obtain ⟨hB, hs, k0⟩ := alloc1 hW
  have hs1 : w.heap.size < W1.heap.size := by omega
  have hb1 : BytesU W1.heap.size W1 bo n := (h.only (Only.of (X := fun _ => False) hB) fun _ _ h => h).mono (by omega)
  clear hW hs
  refine (l1New_any n c bo W1 hb1 hn).mono ?_
  rintro e w1 ⟨cb, rfl, hB1, hcb, hC⟩
  replace k0 := k0.below hB1 hs1
  have hs2 := hB1.size
  replace hB := hB.trans (hB1.mono (by omega))
  have HhB := Lib.hid hB
  clear hB
  have Hk0 := Lib.hid k0
  clear k0
  clear hb1 hB1 h
  go_wp2_with fail
  refine (l22Graph_any cb n c bo w1 hC).mono ?_
  rintro e w2 ⟨x, f, g, cap, hf, rfl, hg, hR, hD⟩
  have k9 := hD.blk Hk0.out (by omega)
  have y0 := k9.cell 0
  have y1 := k9.cell 1
  have y2 := k9.frozen 0
  have y3 := k9.frozen 1
  have y4 := k9.lt
  simp at y0 y1
  have HE := Lib.hid (show RetAN w (.returned (.agg #[.int .i64 x, .slice (some ⟨g, 0, none⟩) f.length cap])) ((w2.setCell ⟨w.heap.size, 0, none⟩ (.int .i64 x)).setCell ⟨w.heap.size, 1, none⟩ (.slice (some ⟨g, 0, none⟩) f.length cap)) from
    ⟨x, f, g, cap, hf, rfl, by omega, (hR.otherCell (by simp; omega)).otherCell (by simp; omega), ((HhB.out.trans (hD.only.below (by omega) fun b hb e => by have e2 : b = cb := e; omega)).setCell (by simp) _).setCell (by simp) _⟩)
  clear k9 hD hR HhB Hk0 hC
  go_wp2_with fail
  refine bodyPost_ret (v := .agg #[.int .i64 x, .slice (some ⟨g, 0, none⟩) f.length cap]) (by simp [results, Try.results38, go_sem, y0, y1]) rfl ?_
  exact HE.out

set_option maxRecDepth 100000 in
set_option maxHeartbeats 8000000 in
theorem DrawIsSun_any (n c : Nat) (bo : Option Addr) (w : World) (h : BytesU w.heap.size w bo n) (hn : n ≤ 1048576) :
    Calls Try.prog 42 #[.slice bo n c] w (RetGLC w) := by
  go_enter Try.func42, Try.ntmps42
  go_wp2_with fail
  generalize hW : World.alloc _ _ = W1
  obtain ⟨hB, hs, k0⟩ := alloc1 hW
  have hs1 : w.heap.size < W1.heap.size := by omega
  have hb1 : BytesU W1.heap.size W1 bo n := (h.only (Only.of (X := fun _ => False) hB) fun _ _ h => h).mono (by omega)
  clear hW hs
  refine (l1New_any n c bo W1 hb1 hn).mono ?_
  rintro e w1 ⟨cb, rfl, hB1, hcb, hC⟩
  replace k0 := k0.below hB1 hs1
  have hs2 := hB1.size
  replace hB := hB.trans (hB1.mono (by omega))
  have hcl := hC.lt
  clear hb1 hB1 h
  go_wp2_with fail
  refine (l22Graph_any cb n c bo w1 hC).mono ?_
  rintro e w2 ⟨x, f, g, cap, hf, rfl, hg, hR, hD⟩
  have hsz := hD.only.size
  have hO := hD.only.mono (Nat.le_refl _) (Y := fun b => b = cb ∨ b = w.heap.size) fun _ _ e => .inl e
  have hC2 := hD.cur
  replace k0 := hD.blk k0 (by omega)
  clear hD hC
  go_wp2_with fail
  generalize hWb : World.alloc _ _ = Wb
  obtain ⟨hBb, hzb, kb⟩ := alloc1 hWb
  have hg4 : g < w2.heap.size := hR.lt
  replace hC2 := hC2.below hBb
  replace hO := hO.more hBb hsz
  have hR1 := hR.below hBb
  replace k0 := k0.below hBb (by omega)
  clear hWb hBb hR
  have hF := specFindSunC_any x f (some ⟨g, 0, none⟩) cap Wb hR1.ints (by omega)
  have hl := sunV_len x f
  generalize w2.heap.size = yb at *
  have hyl := kb.lt
  have x0 := kb.cell 0
  have x1 := kb.cell 1
  simp at x0 x1
  have HhB := Lib.hid hB
  clear hB
  have HhO := Lib.hid hO
  clear hO
  have Hk0 := Lib.hid k0
  clear k0
  have HhR1 := Lib.hid hR1
  clear hR1
  have Hkb := Lib.hid kb
  clear kb
  have HhC2 := Lib.hid hC2
  clear hC2
  go_wp2_with fail
  refine hF.mono ?_
  rintro e w3 ⟨lo, lc, rfl, hB3, hL, hlc⟩
  clear hF x0 x1
  generalize (sunV x f).getD [] = l at *
  generalize (sunV x f).isSome = is at *
  have hs3 := hB3.size
  have hO3 := HhO.out.more hB3 (by omega)
  have hC3 := HhC2.out.below hB3
  have hR3 := HhR1.out.below hB3
  have k3 := Hk0.out.below hB3 (by omega)
  have kb3 := Hkb.out.below hB3 hyl
  clear HhO HhC2 HhR1 Hk0 Hkb hB3
  -- the end: a graph and a list
  have hfin : ∀ (wr : World) (l : List Int) (lo : Option Addr) (lc : Nat), Only (fun b => b = cb ∨ b = w.heap.size) w1.heap.size w1 wr → RowAt wr g cap f → IntsAt ((wr.setCell ⟨w.heap.size, 0, none⟩ (.int .i64 x)).setCell ⟨w.heap.size, 1, none⟩ (.slice (some ⟨g, 0, none⟩) f.length cap)) lo l → l.length ≤ 1048576 → l.length ≤ lc →
      Hid (RetGLC w (.returned (.tuple #[.agg #[.int .i64 x, .slice (some ⟨g, 0, none⟩) f.length cap], .slice lo l.length lc])) ((wr.setCell ⟨w.heap.size, 0, none⟩ (.int .i64 x)).setCell ⟨w.heap.size, 1, none⟩ (.slice (some ⟨g, 0, none⟩) f.length cap))) := fun wr l lo lc hO hR hL hl hc => Lib.hid
    ⟨x, f, l, g, cap, lo, lc, hf, hl, hc, rfl, (hR.otherCell (by simp; omega)).otherCell (by simp; omega), hL, ((HhB.out.trans (hO.below (by omega) fun b hb e => by rcases e with e | e <;> omega)).setCell (by simp) _).setCell (by simp) _⟩
  have Hfin := Lib.hid hfin
  clear hfin HhB
  cases is
  · clear hL hlc hl
    obtain ⟨hO, hC, hR, k, kb⟩ : _ ∧ _ ∧ _ ∧ _ ∧ _ := ⟨hO3, hC3, hR3, k3, kb3⟩
    clear hO3 hC3 hR3 k3 kb3
    have hyW := kb.lt
    have h0W := k.lt
    have hsW := hO.size
    have hkb := kb
    have hcW := hC.lt
    have hT0 : ∀ w', Only (fun b => b = cb ∨ b = w.heap.size) w3.heap.size w3 w' → w'.cell? ⟨yb, 0, none⟩ = some (.int .i64 x) ∧ w'.cell? ⟨yb, 1, none⟩ = some (.slice (some ⟨g, 0, none⟩) f.length cap) := fun w' h => by
      have := h.blk hkb hyW (fun e => by rcases e with e | e <;> omega)
      exact ⟨by simpa using this.cell 0, by simpa using this.cell 1⟩
    have hX0 : ∀ (w' : World), Only (fun b => b = cb ∨ b = w.heap.size) w3.heap.size w3 w' → Only (fun b => b = cb ∨ b = w.heap.size) w3.heap.size w3 ((w'.setCell ⟨w.heap.size, 0, none⟩ (.int .i64 x)).setCell ⟨w.heap.size, 1, none⟩ (.slice (some ⟨g, 0, none⟩) f.length cap)) := fun w' h => (h.setCell (p := ⟨w.heap.size, 0, none⟩) (.inl (.inr rfl)) _).setCell (p := ⟨w.heap.size, 1, none⟩) (.inl (.inr rfl)) _
    have hSet : ∀ (w' : World), CurAt w' cb bo n c → Hid (Calls Try.prog 96 #[.pointer (some ⟨cb, 0, none⟩), .agg #[.int .i64 x, .slice (some ⟨g, 0, none⟩) f.length cap]] w' (RetLi cb bo n c w')) := fun w' h => Lib.hid (l4List_any cb n c bo x _ w' h)
    have HX := Lib.hid hX0
    have Hk0 := Lib.hid k
    have HO := Lib.hid hO
    have HR := Lib.hid hR
    have hnec : ¬cb = w.heap.size := by omega
    have z0 := kb.cell 0
    have z1 := kb.cell 1
    have z4 := kb.lt
    simp at z0 z1
    clear hX0 hkb kb k hR hO
    go_wp2_with fail
    have hO0 : Only (fun b => b = cb ∨ b = w.heap.size) w3.heap.size w3 w3.drew := Only.of (Below.refl _ _).drew
    refine wp_region_B (fun w' => Only (fun b => b = cb ∨ b = w.heap.size) w3.heap.size w3 w' ∧ w'.cell? ⟨yb, 0, none⟩ = some (.int .i64 x) ∧ w'.cell? ⟨yb, 1, none⟩ = some (.slice (some ⟨g, 0, none⟩) f.length cap)) (fun _ => True) [] (by kernel_rfl) (⟨hO0, hT0 _ hO0⟩) (trivial) (fun hM => ?_)
    refine wpAnyB_take (i := 0) (v := ?_) false rfl (by kernel_rfl) (by kernel_rfl) (by kernel_rfl) (by kernel_rfl) (by kernel_rfl) (fun _ _ _ h => h) (Or.inl ⟨by rfl, ?_⟩) hM (fun hM2 => ?_)
    rotate_left
    · (intro w hSw; replace hSw := hSw.1; (try dsimp only at hSw); go_simp; try with_reducible rfl)
    replace hM := hM2
    clear hM2
    try simp only [List.getElem_toArray, List.getElem_cons_zero, Act.put, List.setIfInBounds_toArray, List.set_cons_zero, List.set_cons_succ]
    refine wpAnyB_take (i := 1) (v := ?_) false rfl (by kernel_rfl) (by kernel_rfl) (by kernel_rfl) (by kernel_rfl) (by kernel_rfl) (fun _ _ _ h => h) (Or.inl ⟨by rfl, ?_⟩) hM (fun hM2 => ?_)
    rotate_left
    · (intro w hSw; replace hSw := hSw.1; (try dsimp only at hSw); go_simp; try with_reducible rfl)
    replace hM := hM2
    clear hM2
    try simp only [List.getElem_toArray, List.getElem_cons_succ, List.getElem_cons_zero, Act.put, List.setIfInBounds_toArray, List.set_cons_zero, List.set_cons_succ]
    refine wpAnyB_take (i := 2) (v := ?_) false rfl (by kernel_rfl) (by kernel_rfl) (by kernel_rfl) (by kernel_rfl) (by kernel_rfl) (fun _ _ _ h => h) (Or.inl ⟨by rfl, ?_⟩) hM (fun hM2 => ?_)
    rotate_left
    · (intro w hSw; replace hSw := hSw.1; (try dsimp only at hSw); go_simp; try with_reducible rfl)
    replace hM := hM2
    clear hM2
    try simp only [List.getElem_toArray, List.getElem_cons_succ, List.getElem_cons_zero, Act.put, List.setIfInBounds_toArray, List.set_cons_zero, List.set_cons_succ]
    refine wpAnyB_one (i := 3) (by kernel_rfl) rfl (fun K hK => ?_)
    (go_simp; go_at_call 96; refine (hSet _ (hC.below (Below.refl _ _).drew)).out.mono ?_; rintro e w4 ⟨l2, ao2, cap2, hl2, rfl, hOw2, hD1⟩; have hO4 : Only (fun b => b = cb ∨ b = w.heap.size) w3.heap.size w3 w4 := hO0.trans (hD1.only.mono (Nat.le_refl _) fun _ _ e => .inl e); dsimp only)
    refine hK.out _ _ (meetB.both ⟨hO4, hT0 _ hO4⟩ trivial) (fun hM2 => ?_)
    clear hK K
    replace hM := hM2
    clear hM2
    try simp only [List.getElem_toArray, List.getElem_cons_succ, List.getElem_cons_zero, Act.put, List.setIfInBounds_toArray, List.set_cons_zero, List.set_cons_succ]
    have k4 := hD1.only.blk (Hk0.out.drew) h0W (fun e => hnec (Eq.symm e))
    have x0 := k4.cell 0
    have x1 := k4.cell 1
    have x2 := k4.frozen 0
    have x3 := k4.frozen 1
    have x4 := k4.lt
    simp at x0 x1
    refine wpAnyB_one (i := 4) (by kernel_rfl) rfl (fun K hK => ?_)
    go_simp
    refine hK.out _ _ (meetB.both ⟨HX.out _ hO4, hT0 _ (HX.out _ hO4)⟩ trivial) (fun hM2 => ?_)
    clear hK K
    replace hM := hM2
    clear hM2
    try simp only [List.getElem_toArray, List.getElem_cons_succ, List.getElem_cons_zero, Act.put, List.setIfInBounds_toArray, List.set_cons_zero, List.set_cons_succ]
    refine wpAnyB_take (i := 5) (v := ?_) false rfl (by kernel_rfl) (by kernel_rfl) (by kernel_rfl) (by kernel_rfl) (by kernel_rfl) (fun _ _ _ h => h) (Or.inl ⟨by rfl, ?_⟩) hM (fun hM2 => ?_)
    rotate_left
    · (intro w hSw; replace hSw := hSw.1; (try dsimp only at hSw); go_simp; try with_reducible rfl)
    replace hM := hM2
    clear hM2
    try simp only [List.getElem_toArray, List.getElem_cons_succ, List.getElem_cons_zero, Act.put, List.setIfInBounds_toArray, List.set_cons_zero, List.set_cons_succ]
    refine wpAnyB_done (by kernel_rfl) ?_ _
    have hdr : w3.drew.heap.size = w3.heap.size := rfl
    have hS : Only (fun b => b = w.heap.size) w4.heap.size w4 ((w4.setCell ⟨w.heap.size, 0, none⟩ (.int .i64 x)).setCell ⟨w.heap.size, 1, none⟩ (.slice (some ⟨g, 0, none⟩) f.length cap)) :=
      ((Only.refl (fun b => b = w.heap.size) _ _).setCell (p := ⟨w.heap.size, 0, none⟩) (.inl rfl) _).setCell (p := ⟨w.heap.size, 1, none⟩) (.inl rfl) _
    have HE := Hfin.out w4 l2 ao2 cap2 (HO.out.trans (hO4.mono hsW fun _ _ e => e)) (hD1.row (show RowAt w3.drew g cap f from HR.out) (by omega)) (hOw2.onlyOne hS (by omega)).ints (by omega) hOw2.room'
    have k5 : Blk ((w4.setCell ⟨w.heap.size, 0, none⟩ (.int .i64 x)).setCell ⟨w.heap.size, 1, none⟩ (.slice (some ⟨g, 0, none⟩) f.length cap)) w.heap.size #[.int .i64 x, .slice (some ⟨g, 0, none⟩) f.length cap] 26 := by
      have := (k4.store 0 (.int .i64 x)).store 1 (.slice (some ⟨g, 0, none⟩) f.length cap)
      simpa using this
    have y0 := k5.cell 0
    have y1 := k5.cell 1
    have y4 := k5.lt
    simp at y0 y1
    clear k4 k5 x0 x1 x2 x3 x4 Hfin hT0 HX hSet Hk0 HO HR hO0 hO4 hD1 hC hM z0 z1 z4 hS hOw2
    generalize World.setCell _ _ _ = W9 at *
    go_wp2_with fail
    refine bodyPost_ret (v := .tuple #[.agg #[.int .i64 x, .slice (some ⟨g, 0, none⟩) f.length cap], .slice ao2 l2.length cap2]) (by simp [results, Try.results42, go_sem, y0, y1]) rfl ?_
    exact HE.out
  · go_wp2_with fail
    refine (l1Once_any 4 cb n c bo w3 hC3 (by omega) (by omega)).mono ?_
    rintro e w4 ⟨b3, rfl, hD4⟩
    have hO4 := hO3.trans (hD4.only.mono (by have := hO3.size; omega) fun _ _ e => .inl e)
    have hR4 := hD4.row hR3 (by omega)
    have k4 := hD4.blk k3 (by omega)
    have kb4 := hD4.blk kb3 (by omega)
    have hC4 := hD4.cur
    have hS4 : Only (fun b => b = cb ∨ b = w.heap.size) w3.heap.size w3 ((w4.setCell ⟨w.heap.size, 0, none⟩ (.int .i64 x)).setCell ⟨w.heap.size, 1, none⟩ (.slice (some ⟨g, 0, none⟩) f.length cap)) :=
      ((hD4.only.mono (Nat.le_refl _) fun _ _ e => .inl e).setCell (p := ⟨w.heap.size, 0, none⟩) (.inl (.inr rfl)) _).setCell (p := ⟨w.heap.size, 1, none⟩) (.inl (.inr rfl)) _
    have k5 : Blk ((w4.setCell ⟨w.heap.size, 0, none⟩ (.int .i64 x)).setCell ⟨w.heap.size, 1, none⟩ (.slice (some ⟨g, 0, none⟩) f.length cap)) w.heap.size #[.int .i64 x, .slice (some ⟨g, 0, none⟩) f.length cap] 26 := by
      have := (k4.store 0 (.int .i64 x)).store 1 (.slice (some ⟨g, 0, none⟩) f.length cap)
      simpa using this
    obtain ⟨i3, j3, -, kc3⟩ := hC3.box
    obtain ⟨i4, j4, -, kc4⟩ := hC4.box
    have kc5 := (kc4.other (a := ⟨w.heap.size, 0, none⟩) (.int .i64 x) (by simp; omega)).other (a := ⟨w.heap.size, 1, none⟩) (.slice (some ⟨g, 0, none⟩) f.length cap) (by simp; omega)
    obtain ⟨l2, hl2, hL2⟩ := hL.moved hS4 kc3 kc5 k3 k5
    clear kc3 kc4 kc5
    have HL2 := Lib.hid (And.intro hl2 hL2)
    clear hO3 hC3 hR3 k3 kb3 hL hD4 hS4 k5 hL2 hl2
    cases b3
    · have HE := Hfin.out _ l2 lo lc hO4 hR4 HL2.out.2 (by rw [HL2.out.1]; exact hl) (by rw [HL2.out.1]; exact hlc)
      rw [HL2.out.1] at HE
      have x0 := kb4.cell 0
      have x1 := kb4.cell 1
      have x4 := kb4.lt
      have y0 := k4.cell 0
      have y1 := k4.cell 1
      have y2 := k4.frozen 0
      have y3 := k4.frozen 1
      have y4 := k4.lt
      simp at x0 x1 y0 y1
      clear k4 kb4 hO4 hR4 hC4 Hfin HL2
      go_wp2_with fail
      refine bodyPost_ret (v := .tuple #[.agg #[.int .i64 x, .slice (some ⟨g, 0, none⟩) f.length cap], .slice lo l.length lc]) (by simp [results, Try.results42, go_sem, y0, y1]) rfl ?_
      exact HE.out
    · clear HL2 hlc hl
      obtain ⟨hO, hC, hR, k, kb⟩ : _ ∧ _ ∧ _ ∧ _ ∧ _ := ⟨hO4, hC4, hR4, k4, kb4⟩
      clear hO4 hC4 hR4 k4 kb4
      have hyW := kb.lt
      have h0W := k.lt
      have hsW := hO.size
      have hkb := kb
      have hcW := hC.lt
      have hT0 : ∀ w', Only (fun b => b = cb ∨ b = w.heap.size) w4.heap.size w4 w' → w'.cell? ⟨yb, 0, none⟩ = some (.int .i64 x) ∧ w'.cell? ⟨yb, 1, none⟩ = some (.slice (some ⟨g, 0, none⟩) f.length cap) := fun w' h => by
        have := h.blk hkb hyW (fun e => by rcases e with e | e <;> omega)
        exact ⟨by simpa using this.cell 0, by simpa using this.cell 1⟩
      have hX0 : ∀ (w' : World), Only (fun b => b = cb ∨ b = w.heap.size) w4.heap.size w4 w' → Only (fun b => b = cb ∨ b = w.heap.size) w4.heap.size w4 ((w'.setCell ⟨w.heap.size, 0, none⟩ (.int .i64 x)).setCell ⟨w.heap.size, 1, none⟩ (.slice (some ⟨g, 0, none⟩) f.length cap)) := fun w' h => (h.setCell (p := ⟨w.heap.size, 0, none⟩) (.inl (.inr rfl)) _).setCell (p := ⟨w.heap.size, 1, none⟩) (.inl (.inr rfl)) _
      have hSet : ∀ (w' : World), CurAt w' cb bo n c → Hid (Calls Try.prog 96 #[.pointer (some ⟨cb, 0, none⟩), .agg #[.int .i64 x, .slice (some ⟨g, 0, none⟩) f.length cap]] w' (RetLi cb bo n c w')) := fun w' h => Lib.hid (l4List_any cb n c bo x _ w' h)
      have HX := Lib.hid hX0
      have Hk0 := Lib.hid k
      have HO := Lib.hid hO
      have HR := Lib.hid hR
      have hnec : ¬cb = w.heap.size := by omega
      have z0 := kb.cell 0
      have z1 := kb.cell 1
      have z4 := kb.lt
      simp at z0 z1
      clear hX0 hkb kb k hR hO
      go_wp2_with fail
      have hO0 : Only (fun b => b = cb ∨ b = w.heap.size) w4.heap.size w4 w4.drew := Only.of (Below.refl _ _).drew
      refine wp_region_B (fun w' => Only (fun b => b = cb ∨ b = w.heap.size) w4.heap.size w4 w' ∧ w'.cell? ⟨yb, 0, none⟩ = some (.int .i64 x) ∧ w'.cell? ⟨yb, 1, none⟩ = some (.slice (some ⟨g, 0, none⟩) f.length cap)) (fun _ => True) [] (by kernel_rfl) (⟨hO0, hT0 _ hO0⟩) (trivial) (fun hM => ?_)
      refine wpAnyB_take (i := 0) (v := ?_) false rfl (by kernel_rfl) (by kernel_rfl) (by kernel_rfl) (by kernel_rfl) (by kernel_rfl) (fun _ _ _ h => h) (Or.inl ⟨by rfl, ?_⟩) hM (fun hM2 => ?_)
      rotate_left
      · (intro w hSw; replace hSw := hSw.1; (try dsimp only at hSw); go_simp; try with_reducible rfl)
      replace hM := hM2
      clear hM2
      try simp only [List.getElem_toArray, List.getElem_cons_zero, Act.put, List.setIfInBounds_toArray, List.set_cons_zero, List.set_cons_succ]
      refine wpAnyB_take (i := 1) (v := ?_) false rfl (by kernel_rfl) (by kernel_rfl) (by kernel_rfl) (by kernel_rfl) (by kernel_rfl) (fun _ _ _ h => h) (Or.inl ⟨by rfl, ?_⟩) hM (fun hM2 => ?_)
      rotate_left
      · (intro w hSw; replace hSw := hSw.1; (try dsimp only at hSw); go_simp; try with_reducible rfl)
      replace hM := hM2
      clear hM2
      try simp only [List.getElem_toArray, List.getElem_cons_succ, List.getElem_cons_zero, Act.put, List.setIfInBounds_toArray, List.set_cons_zero, List.set_cons_succ]
      refine wpAnyB_take (i := 2) (v := ?_) false rfl (by kernel_rfl) (by kernel_rfl) (by kernel_rfl) (by kernel_rfl) (by kernel_rfl) (fun _ _ _ h => h) (Or.inl ⟨by rfl, ?_⟩) hM (fun hM2 => ?_)
      rotate_left
      · (intro w hSw; replace hSw := hSw.1; (try dsimp only at hSw); go_simp; try with_reducible rfl)
      replace hM := hM2
      clear hM2
      try simp only [List.getElem_toArray, List.getElem_cons_succ, List.getElem_cons_zero, Act.put, List.setIfInBounds_toArray, List.set_cons_zero, List.set_cons_succ]
      refine wpAnyB_one (i := 3) (by kernel_rfl) rfl (fun K hK => ?_)
      (go_simp; go_at_call 96; refine (hSet _ (hC.below (Below.refl _ _).drew)).out.mono ?_; rintro e w5 ⟨l2, ao2, cap2, hl2, rfl, hOw2, hD1⟩; have hO4 : Only (fun b => b = cb ∨ b = w.heap.size) w4.heap.size w4 w5 := hO0.trans (hD1.only.mono (Nat.le_refl _) fun _ _ e => .inl e); dsimp only)
      refine hK.out _ _ (meetB.both ⟨hO4, hT0 _ hO4⟩ trivial) (fun hM2 => ?_)
      clear hK K
      replace hM := hM2
      clear hM2
      try simp only [List.getElem_toArray, List.getElem_cons_succ, List.getElem_cons_zero, Act.put, List.setIfInBounds_toArray, List.set_cons_zero, List.set_cons_succ]
      have k4 := hD1.only.blk (Hk0.out.drew) h0W (fun e => hnec (Eq.symm e))
      have x0 := k4.cell 0
      have x1 := k4.cell 1
      have x2 := k4.frozen 0
      have x3 := k4.frozen 1
      have x4 := k4.lt
      simp at x0 x1
      refine wpAnyB_one (i := 4) (by kernel_rfl) rfl (fun K hK => ?_)
      go_simp
      refine hK.out _ _ (meetB.both ⟨HX.out _ hO4, hT0 _ (HX.out _ hO4)⟩ trivial) (fun hM2 => ?_)
      clear hK K
      replace hM := hM2
      clear hM2
      try simp only [List.getElem_toArray, List.getElem_cons_succ, List.getElem_cons_zero, Act.put, List.setIfInBounds_toArray, List.set_cons_zero, List.set_cons_succ]
      refine wpAnyB_take (i := 5) (v := ?_) false rfl (by kernel_rfl) (by kernel_rfl) (by kernel_rfl) (by kernel_rfl) (by kernel_rfl) (fun _ _ _ h => h) (Or.inl ⟨by rfl, ?_⟩) hM (fun hM2 => ?_)
      rotate_left
      · (intro w hSw; replace hSw := hSw.1; (try dsimp only at hSw); go_simp; try with_reducible rfl)
      replace hM := hM2
      clear hM2
      try simp only [List.getElem_toArray, List.getElem_cons_succ, List.getElem_cons_zero, Act.put, List.setIfInBounds_toArray, List.set_cons_zero, List.set_cons_succ]
      refine wpAnyB_done (by kernel_rfl) ?_ _
      have hdr : w4.drew.heap.size = w4.heap.size := rfl
      have hS : Only (fun b => b = w.heap.size) w5.heap.size w5 ((w5.setCell ⟨w.heap.size, 0, none⟩ (.int .i64 x)).setCell ⟨w.heap.size, 1, none⟩ (.slice (some ⟨g, 0, none⟩) f.length cap)) :=
        ((Only.refl (fun b => b = w.heap.size) _ _).setCell (p := ⟨w.heap.size, 0, none⟩) (.inl rfl) _).setCell (p := ⟨w.heap.size, 1, none⟩) (.inl rfl) _
      have HE := Hfin.out w5 l2 ao2 cap2 (HO.out.trans (hO4.mono hsW fun _ _ e => e)) (hD1.row (show RowAt w4.drew g cap f from HR.out) (by omega)) (hOw2.onlyOne hS (by omega)).ints (by omega) hOw2.room'
      have k5 : Blk ((w5.setCell ⟨w.heap.size, 0, none⟩ (.int .i64 x)).setCell ⟨w.heap.size, 1, none⟩ (.slice (some ⟨g, 0, none⟩) f.length cap)) w.heap.size #[.int .i64 x, .slice (some ⟨g, 0, none⟩) f.length cap] 26 := by
        have := (k4.store 0 (.int .i64 x)).store 1 (.slice (some ⟨g, 0, none⟩) f.length cap)
        simpa using this
      have y0 := k5.cell 0
      have y1 := k5.cell 1
      have y4 := k5.lt
      simp at y0 y1
      clear k4 k5 x0 x1 x2 x3 x4 Hfin hT0 HX hSet Hk0 HO HR hO0 hO4 hD1 hC hM z0 z1 z4 hS hOw2
      generalize World.setCell _ _ _ = W9 at *
      go_wp2_with fail
      refine bodyPost_ret (v := .tuple #[.agg #[.int .i64 x, .slice (some ⟨g, 0, none⟩) f.length cap], .slice ao2 l2.length cap2]) (by simp [results, Try.results42, go_sem, y0, y1]) rfl ?_
      exact HE.out

/-- A graph and two numbers have been drawn. -/
def RetGVZ (w : World) (e : Ending) (w' : World) : Prop :=
  ∃ (x y z : Int) (f : List Int) (g cap : Nat), (1 ≤ f.length ∧ f.length ≤ 6) ∧ e = .returned (.tuple #[.agg #[.int .i64 x, .slice (some ⟨g, 0, none⟩) f.length cap], .int .i64 y, .int .i64 z]) ∧ RowAt w' g cap f ∧ Below w.heap.size w w'

set_option maxRecDepth 100000 in
set_option maxHeartbeats 8000000 in
theorem DrawIsSimple_any (n c : Nat) (bo : Option Addr) (w : World) (h : BytesU w.heap.size w bo n) (hn : n ≤ 1048576) :
    Calls Try.prog 41 #[.slice bo n c] w (RetGVZ w) := by
  go_enter Try.func41, Try.ntmps41
  go_wp2_with fail
  generalize hW : World.alloc _ _ = W1
  obtain ⟨hB, hs, k0⟩ := alloc1 hW
  have hs1 : w.heap.size < W1.heap.size := by omega
  have hb1 : BytesU W1.heap.size W1 bo n := (h.only (Only.of (X := fun _ => False) hB) fun _ _ h => h).mono (by omega)
  clear hW hs
  refine (l1New_any n c bo W1 hb1 hn).mono ?_
  rintro e w1 ⟨cb, rfl, hB1, hcb, hC⟩
  replace k0 := k0.below hB1 hs1
  have hs2 := hB1.size
  replace hB := hB.trans (hB1.mono (by omega))
  have hcl := hC.lt
  clear hb1 hB1 h
  go_wp2_with fail
  refine (l22Graph_any cb n c bo w1 hC).mono ?_
  rintro e w2 ⟨x, f, g, cap, hf, rfl, hg, hR, hD⟩
  have hsz := hD.only.size
  have hO := hD.only.mono (Nat.le_refl _) (Y := fun b => b = cb ∨ b = w.heap.size) fun _ _ e => .inl e
  have hC2 := hD.cur
  replace k0 := hD.blk k0 (by omega)
  clear hD hC
  go_wp2_with fail
  generalize hWb : World.alloc _ _ = Wb
  obtain ⟨hBb, hzb, kb⟩ := alloc1 hWb
  have hg4 : g < w2.heap.size := hR.lt
  replace hC2 := hC2.below hBb
  replace hO := hO.more hBb hsz
  have hR1 := hR.below hBb
  replace k0 := k0.below hBb (by omega)
  clear hWb hBb hR
  generalize w2.heap.size = yb at *
  have hyl := kb.lt
  refine (l1Below_any 8 cb n c bo Wb hC2 (by omega) (by omega)).mono ?_
  rintro e w3 ⟨u, hu, rfl, hD3⟩
  have hO3 := hO.trans (hD3.only.mono (by have := hO.size; omega) fun _ _ e => .inl e)
  have hR3 := hD3.row hR1 (by omega)
  have k3 := hD3.blk k0 (by omega)
  have kb3 := hD3.blk kb (by omega)
  have hC3 := hD3.cur
  clear hO hC2 hR1 k0 kb hD3
  have hs3 := hO3.size
  have x0 := kb3.cell 0
  have x1 := kb3.cell 1
  have x4 := kb3.lt
  simp at x0 x1
  have hI := specIsGraph_any x f (some ⟨g, 0, none⟩) cap w3 hR3.ints (by omega)
  have HhB := Lib.hid hB
  clear hB
  have HhO3 := Lib.hid hO3
  clear hO3
  have HhC3 := Lib.hid hC3
  clear hC3
  have HhR3 := Lib.hid hR3
  clear hR3
  have Hk3 := Lib.hid k3
  clear k3
  have Hkb3 := Lib.hid kb3
  clear kb3
  have hfin : ∀ (wr : World) (y z : Int), Only (fun b => b = cb ∨ b = w.heap.size) w1.heap.size w1 wr → RowAt wr g cap f →
      Hid (RetGVZ w (.returned (.tuple #[.agg #[.int .i64 x, .slice (some ⟨g, 0, none⟩) f.length cap], .int .i64 y, .int .i64 z])) ((wr.setCell ⟨w.heap.size, 0, none⟩ (.int .i64 x)).setCell ⟨w.heap.size, 1, none⟩ (.slice (some ⟨g, 0, none⟩) f.length cap))) := fun wr y z hO hR => Lib.hid
    ⟨x, y, z, f, g, cap, hf, rfl, (hR.otherCell (by simp; omega)).otherCell (by simp; omega), ((HhB.out.trans (hO.below (by omega) fun b hb e => by rcases e with e | e <;> omega)).setCell (by simp) _).setCell (by simp) _⟩
  have Hfin := Lib.hid hfin
  clear hfin HhB
  go_wp2_with fail
  refine hI.mono ?_
  rintro e w4 ⟨rfl, hB4⟩
  clear hI x0 x1 x4
  have hO4 := HhO3.out.more hB4 hs3
  have hC4 := HhC3.out.below hB4
  have hR4 := HhR3.out.below hB4
  have k4 := Hk3.out.below hB4 Hk3.out.lt
  have kb4 := Hkb3.out.below hB4 Hkb3.out.lt
  clear HhO3 HhC3 HhR3 Hk3 Hkb3 hB4
  cases hv : isGraphB x f
  · obtain ⟨hO, hC, hR, k, kb⟩ : _ ∧ _ ∧ _ ∧ _ ∧ _ := ⟨hO4, hC4, hR4, k4, kb4⟩
    clear hO4 hC4 hR4 k4 kb4
    have hyW := kb.lt
    have h0W := k.lt
    have hsW := hO.size
    have hkb := kb
    have hcW := hC.lt
    have hT0 : ∀ w', Only (fun b => b = cb ∨ b = w.heap.size) w4.heap.size w4 w' → w'.cell? ⟨yb, 0, none⟩ = some (.int .i64 x) ∧ w'.cell? ⟨yb, 1, none⟩ = some (.slice (some ⟨g, 0, none⟩) f.length cap) := fun w' h => by
      have := h.blk hkb hyW (fun e => by rcases e with e | e <;> omega)
      exact ⟨by simpa using this.cell 0, by simpa using this.cell 1⟩
    have hX0 : ∀ (w' : World), Only (fun b => b = cb ∨ b = w.heap.size) w4.heap.size w4 w' → Only (fun b => b = cb ∨ b = w.heap.size) w4.heap.size w4 ((w'.setCell ⟨w.heap.size, 0, none⟩ (.int .i64 x)).setCell ⟨w.heap.size, 1, none⟩ (.slice (some ⟨g, 0, none⟩) f.length cap)) := fun w' h => (h.setCell (p := ⟨w.heap.size, 0, none⟩) (.inl (.inr rfl)) _).setCell (p := ⟨w.heap.size, 1, none⟩) (.inl (.inr rfl)) _
    have hSet : ∀ (w' : World), CurAt w' cb bo n c → Hid (Calls Try.prog 118 #[.pointer (some ⟨cb, 0, none⟩), .agg #[.int .i64 x, .slice (some ⟨g, 0, none⟩) f.length cap]] w' (RetZ cb bo n c w')) := fun w' h => Lib.hid (l3Set_any x f g cap cb n c bo w' h)
    have HX := Lib.hid hX0
    have Hk0 := Lib.hid k
    have HO := Lib.hid hO
    have HR := Lib.hid hR
    have hnec : ¬cb = w.heap.size := by omega
    have z0 := kb.cell 0
    have z1 := kb.cell 1
    have z4 := kb.lt
    simp at z0 z1
    clear hX0 hkb kb k hR hO
    go_wp2_with fail
    have hO0 : Only (fun b => b = cb ∨ b = w.heap.size) w4.heap.size w4 w4.drew := Only.of (Below.refl _ _).drew
    refine wp_region_B (fun w' => Only (fun b => b = cb ∨ b = w.heap.size) w4.heap.size w4 w' ∧ w'.cell? ⟨yb, 0, none⟩ = some (.int .i64 x) ∧ w'.cell? ⟨yb, 1, none⟩ = some (.slice (some ⟨g, 0, none⟩) f.length cap)) (fun _ => True) [] (by kernel_rfl) (⟨hO0, hT0 _ hO0⟩) (trivial) (fun hM => ?_)
    refine wpAnyB_take (i := 0) (v := ?_) false rfl (by kernel_rfl) (by kernel_rfl) (by kernel_rfl) (by kernel_rfl) (by kernel_rfl) (fun _ _ _ h => h) (Or.inl ⟨by rfl, ?_⟩) hM (fun hM2 => ?_)
    rotate_left
    · (intro w hSw; replace hSw := hSw.1; (try dsimp only at hSw); go_simp; try with_reducible rfl)
    replace hM := hM2
    clear hM2
    try simp only [List.getElem_toArray, List.getElem_cons_zero, Act.put, List.setIfInBounds_toArray, List.set_cons_zero, List.set_cons_succ]
    refine wpAnyB_take (i := 1) (v := ?_) false rfl (by kernel_rfl) (by kernel_rfl) (by kernel_rfl) (by kernel_rfl) (by kernel_rfl) (fun _ _ _ h => h) (Or.inl ⟨by rfl, ?_⟩) hM (fun hM2 => ?_)
    rotate_left
    · (intro w hSw; replace hSw := hSw.1; (try dsimp only at hSw); go_simp; try with_reducible rfl)
    replace hM := hM2
    clear hM2
    try simp only [List.getElem_toArray, List.getElem_cons_succ, List.getElem_cons_zero, Act.put, List.setIfInBounds_toArray, List.set_cons_zero, List.set_cons_succ]
    refine wpAnyB_take (i := 2) (v := ?_) false rfl (by kernel_rfl) (by kernel_rfl) (by kernel_rfl) (by kernel_rfl) (by kernel_rfl) (fun _ _ _ h => h) (Or.inl ⟨by rfl, ?_⟩) hM (fun hM2 => ?_)
    rotate_left
    · (intro w hSw; replace hSw := hSw.1; (try dsimp only at hSw); go_simp; try with_reducible rfl)
    replace hM := hM2
    clear hM2
    try simp only [List.getElem_toArray, List.getElem_cons_succ, List.getElem_cons_zero, Act.put, List.setIfInBounds_toArray, List.set_cons_zero, List.set_cons_succ]
    refine wpAnyB_take (i := 3) (v := ?_) false rfl (by kernel_rfl) (by kernel_rfl) (by kernel_rfl) (by kernel_rfl) (by kernel_rfl) (fun _ _ _ h => h) (Or.inl ⟨by rfl, ?_⟩) hM (fun hM2 => ?_)
    rotate_left
    · (intro w hSw; replace hSw := hSw.1; (try dsimp only at hSw); go_simp; try with_reducible rfl)
    replace hM := hM2
    clear hM2
    try simp only [List.getElem_toArray, List.getElem_cons_succ, List.getElem_cons_zero, Act.put, List.setIfInBounds_toArray, List.set_cons_zero, List.set_cons_succ]
    refine wpAnyB_one (i := 4) (by kernel_rfl) rfl (fun K hK => ?_)
    (go_simp; go_at_call 118; refine (hSet _ (hC.below (Below.refl _ _).drew)).out.mono ?_; rintro e w5 ⟨zz, rfl, hD1⟩; have hO4 : Only (fun b => b = cb ∨ b = w.heap.size) w4.heap.size w4 w5 := hO0.trans (hD1.only.mono (Nat.le_refl _) fun _ _ e => .inl e); dsimp only)
    refine hK.out _ _ (meetB.both ⟨hO4, hT0 _ hO4⟩ trivial) (fun hM2 => ?_)
    clear hK K
    replace hM := hM2
    clear hM2
    try simp only [List.getElem_toArray, List.getElem_cons_succ, List.getElem_cons_zero, Act.put, List.setIfInBounds_toArray, List.set_cons_zero, List.set_cons_succ]
    have k4 := hD1.only.blk (Hk0.out.drew) h0W (fun e => hnec (Eq.symm e))
    have x0 := k4.cell 0
    have x1 := k4.cell 1
    have x2 := k4.frozen 0
    have x3 := k4.frozen 1
    have x4 := k4.lt
    simp at x0 x1
    refine wpAnyB_one (i := 5) (by kernel_rfl) rfl (fun K hK => ?_)
    go_simp
    refine hK.out _ _ (meetB.both ⟨HX.out _ hO4, hT0 _ (HX.out _ hO4)⟩ trivial) (fun hM2 => ?_)
    clear hK K
    replace hM := hM2
    clear hM2
    try simp only [List.getElem_toArray, List.getElem_cons_succ, List.getElem_cons_zero, Act.put, List.setIfInBounds_toArray, List.set_cons_zero, List.set_cons_succ]
    refine wpAnyB_take (i := 6) (v := ?_) false rfl (by kernel_rfl) (by kernel_rfl) (by kernel_rfl) (by kernel_rfl) (by kernel_rfl) (fun _ _ _ h => h) (Or.inl ⟨by rfl, ?_⟩) hM (fun hM2 => ?_)
    rotate_left
    · (intro w hSw; replace hSw := hSw.1; (try dsimp only at hSw); go_simp; try with_reducible rfl)
    replace hM := hM2
    clear hM2
    try simp only [List.getElem_toArray, List.getElem_cons_succ, List.getElem_cons_zero, Act.put, List.setIfInBounds_toArray, List.set_cons_zero, List.set_cons_succ]
    refine wpAnyB_take (i := 7) (v := ?_) false rfl (by kernel_rfl) (by kernel_rfl) (by kernel_rfl) (by kernel_rfl) (by kernel_rfl) (fun _ _ _ h => h) (Or.inl ⟨by rfl, ?_⟩) hM (fun hM2 => ?_)
    rotate_left
    · (intro w hSw; replace hSw := hSw.1; (try dsimp only at hSw); go_simp; try with_reducible rfl)
    replace hM := hM2
    clear hM2
    try simp only [List.getElem_toArray, List.getElem_cons_succ, List.getElem_cons_zero, Act.put, List.setIfInBounds_toArray, List.set_cons_zero, List.set_cons_succ]
    refine wpAnyB_done (by kernel_rfl) ?_ _
    have hdr : w4.drew.heap.size = w4.heap.size := rfl
    have HE := Hfin.out w5 ((u : Int) - 1) zz (HO.out.trans (hO4.mono hsW fun _ _ e => e)) (hD1.row (show RowAt w4.drew g cap f from HR.out) (by omega))
    have k5 : Blk ((w5.setCell ⟨w.heap.size, 0, none⟩ (.int .i64 x)).setCell ⟨w.heap.size, 1, none⟩ (.slice (some ⟨g, 0, none⟩) f.length cap)) w.heap.size #[.int .i64 x, .slice (some ⟨g, 0, none⟩) f.length cap] 26 := by
      have := (k4.store 0 (.int .i64 x)).store 1 (.slice (some ⟨g, 0, none⟩) f.length cap)
      simpa using this
    have y0 := k5.cell 0
    have y1 := k5.cell 1
    have y4 := k5.lt
    simp at y0 y1
    clear k4 k5 x0 x1 x2 x3 x4 Hfin hT0 HX hSet Hk0 HO HR hO0 hO4 hD1 hC hM z0 z1 z4
    generalize World.setCell _ _ _ = W9 at *
    go_wp2_with fail
    refine bodyPost_ret (v := .tuple #[.agg #[.int .i64 x, .slice (some ⟨g, 0, none⟩) f.length cap], .int .i64 ((u : Int) - 1), .int .i64 zz]) (by simp [results, Try.results41, go_sem, y0, y1]) rfl ?_
    exact HE.out
  · obtain ⟨rfl, gv⟩ := VG.of hv
    clear hv
    go_wp2_with fail
    refine (l1Once_any 2 cb n c bo w4 hC4 (by omega) (by omega)).mono ?_
    rintro e w5 ⟨b2, rfl, hD5⟩
    have hO5 := hO4.trans (hD5.only.mono (by have := hO4.size; omega) fun _ _ e => .inl e)
    have hR5 := hD5.row hR4 (by omega)
    have k5 := hD5.blk k4 (by omega)
    have kb5 := hD5.blk kb4 (by omega)
    have hC5 := hD5.cur
    clear hO4 hC4 hR4 k4 kb4 hD5
    cases b2
    · obtain ⟨hO, hC, hR, k, kb⟩ : _ ∧ _ ∧ _ ∧ _ ∧ _ := ⟨hO5, hC5, hR5, k5, kb5⟩
      clear hO5 hC5 hR5 k5 kb5
      have hyW := kb.lt
      have h0W := k.lt
      have hsW := hO.size
      have hkb := kb
      have hcW := hC.lt
      have hT0 : ∀ w', Only (fun b => b = cb ∨ b = w.heap.size) w5.heap.size w5 w' → w'.cell? ⟨yb, 0, none⟩ = some (.int .i64 f.length) ∧ w'.cell? ⟨yb, 1, none⟩ = some (.slice (some ⟨g, 0, none⟩) f.length cap) := fun w' h => by
        have := h.blk hkb hyW (fun e => by rcases e with e | e <;> omega)
        exact ⟨by simpa using this.cell 0, by simpa using this.cell 1⟩
      have hX0 : ∀ (w' : World), Only (fun b => b = cb ∨ b = w.heap.size) w5.heap.size w5 w' → Only (fun b => b = cb ∨ b = w.heap.size) w5.heap.size w5 ((w'.setCell ⟨w.heap.size, 0, none⟩ (.int .i64 f.length)).setCell ⟨w.heap.size, 1, none⟩ (.slice (some ⟨g, 0, none⟩) f.length cap)) := fun w' h => (h.setCell (p := ⟨w.heap.size, 0, none⟩) (.inl (.inr rfl)) _).setCell (p := ⟨w.heap.size, 1, none⟩) (.inl (.inr rfl)) _
      have hSet : ∀ (w' : World), CurAt w' cb bo n c → Hid (Calls Try.prog 118 #[.pointer (some ⟨cb, 0, none⟩), .agg #[.int .i64 f.length, .slice (some ⟨g, 0, none⟩) f.length cap]] w' (RetZ cb bo n c w')) := fun w' h => Lib.hid (l3Set_any f.length f g cap cb n c bo w' h)
      have HX := Lib.hid hX0
      have Hk0 := Lib.hid k
      have HO := Lib.hid hO
      have HR := Lib.hid hR
      have hnec : ¬cb = w.heap.size := by omega
      have z0 := kb.cell 0
      have z1 := kb.cell 1
      have z4 := kb.lt
      simp at z0 z1
      clear hX0 hkb kb k hR hO
      go_wp2_with fail
      have hO0 : Only (fun b => b = cb ∨ b = w.heap.size) w5.heap.size w5 w5.drew := Only.of (Below.refl _ _).drew
      refine wp_region_B (fun w' => Only (fun b => b = cb ∨ b = w.heap.size) w5.heap.size w5 w' ∧ w'.cell? ⟨yb, 0, none⟩ = some (.int .i64 f.length) ∧ w'.cell? ⟨yb, 1, none⟩ = some (.slice (some ⟨g, 0, none⟩) f.length cap)) (fun _ => True) [] (by kernel_rfl) (⟨hO0, hT0 _ hO0⟩) (trivial) (fun hM => ?_)
      refine wpAnyB_take (i := 0) (v := ?_) false rfl (by kernel_rfl) (by kernel_rfl) (by kernel_rfl) (by kernel_rfl) (by kernel_rfl) (fun _ _ _ h => h) (Or.inl ⟨by rfl, ?_⟩) hM (fun hM2 => ?_)
      rotate_left
      · (intro w hSw; replace hSw := hSw.1; (try dsimp only at hSw); go_simp; try with_reducible rfl)
      replace hM := hM2
      clear hM2
      try simp only [List.getElem_toArray, List.getElem_cons_zero, Act.put, List.setIfInBounds_toArray, List.set_cons_zero, List.set_cons_succ]
      refine wpAnyB_take (i := 1) (v := ?_) false rfl (by kernel_rfl) (by kernel_rfl) (by kernel_rfl) (by kernel_rfl) (by kernel_rfl) (fun _ _ _ h => h) (Or.inl ⟨by rfl, ?_⟩) hM (fun hM2 => ?_)
      rotate_left
      · (intro w hSw; replace hSw := hSw.1; (try dsimp only at hSw); go_simp; try with_reducible rfl)
      replace hM := hM2
      clear hM2
      try simp only [List.getElem_toArray, List.getElem_cons_succ, List.getElem_cons_zero, Act.put, List.setIfInBounds_toArray, List.set_cons_zero, List.set_cons_succ]
      refine wpAnyB_take (i := 2) (v := ?_) false rfl (by kernel_rfl) (by kernel_rfl) (by kernel_rfl) (by kernel_rfl) (by kernel_rfl) (fun _ _ _ h => h) (Or.inl ⟨by rfl, ?_⟩) hM (fun hM2 => ?_)
      rotate_left
      · (intro w hSw; replace hSw := hSw.1; (try dsimp only at hSw); go_simp; try with_reducible rfl)
      replace hM := hM2
      clear hM2
      try simp only [List.getElem_toArray, List.getElem_cons_succ, List.getElem_cons_zero, Act.put, List.setIfInBounds_toArray, List.set_cons_zero, List.set_cons_succ]
      refine wpAnyB_take (i := 3) (v := ?_) false rfl (by kernel_rfl) (by kernel_rfl) (by kernel_rfl) (by kernel_rfl) (by kernel_rfl) (fun _ _ _ h => h) (Or.inl ⟨by rfl, ?_⟩) hM (fun hM2 => ?_)
      rotate_left
      · (intro w hSw; replace hSw := hSw.1; (try dsimp only at hSw); go_simp; try with_reducible rfl)
      replace hM := hM2
      clear hM2
      try simp only [List.getElem_toArray, List.getElem_cons_succ, List.getElem_cons_zero, Act.put, List.setIfInBounds_toArray, List.set_cons_zero, List.set_cons_succ]
      refine wpAnyB_one (i := 4) (by kernel_rfl) rfl (fun K hK => ?_)
      (go_simp; go_at_call 118; refine (hSet _ (hC.below (Below.refl _ _).drew)).out.mono ?_; rintro e w6 ⟨zz, rfl, hD1⟩; have hO4 : Only (fun b => b = cb ∨ b = w.heap.size) w5.heap.size w5 w6 := hO0.trans (hD1.only.mono (Nat.le_refl _) fun _ _ e => .inl e); dsimp only)
      refine hK.out _ _ (meetB.both ⟨hO4, hT0 _ hO4⟩ trivial) (fun hM2 => ?_)
      clear hK K
      replace hM := hM2
      clear hM2
      try simp only [List.getElem_toArray, List.getElem_cons_succ, List.getElem_cons_zero, Act.put, List.setIfInBounds_toArray, List.set_cons_zero, List.set_cons_succ]
      have k4 := hD1.only.blk (Hk0.out.drew) h0W (fun e => hnec (Eq.symm e))
      have x0 := k4.cell 0
      have x1 := k4.cell 1
      have x2 := k4.frozen 0
      have x3 := k4.frozen 1
      have x4 := k4.lt
      simp at x0 x1
      refine wpAnyB_one (i := 5) (by kernel_rfl) rfl (fun K hK => ?_)
      go_simp
      refine hK.out _ _ (meetB.both ⟨HX.out _ hO4, hT0 _ (HX.out _ hO4)⟩ trivial) (fun hM2 => ?_)
      clear hK K
      replace hM := hM2
      clear hM2
      try simp only [List.getElem_toArray, List.getElem_cons_succ, List.getElem_cons_zero, Act.put, List.setIfInBounds_toArray, List.set_cons_zero, List.set_cons_succ]
      refine wpAnyB_take (i := 6) (v := ?_) false rfl (by kernel_rfl) (by kernel_rfl) (by kernel_rfl) (by kernel_rfl) (by kernel_rfl) (fun _ _ _ h => h) (Or.inl ⟨by rfl, ?_⟩) hM (fun hM2 => ?_)
      rotate_left
      · (intro w hSw; replace hSw := hSw.1; (try dsimp only at hSw); go_simp; try with_reducible rfl)
      replace hM := hM2
      clear hM2
      try simp only [List.getElem_toArray, List.getElem_cons_succ, List.getElem_cons_zero, Act.put, List.setIfInBounds_toArray, List.set_cons_zero, List.set_cons_succ]
      refine wpAnyB_take (i := 7) (v := ?_) false rfl (by kernel_rfl) (by kernel_rfl) (by kernel_rfl) (by kernel_rfl) (by kernel_rfl) (fun _ _ _ h => h) (Or.inl ⟨by rfl, ?_⟩) hM (fun hM2 => ?_)
      rotate_left
      · (intro w hSw; replace hSw := hSw.1; (try dsimp only at hSw); go_simp; try with_reducible rfl)
      replace hM := hM2
      clear hM2
      try simp only [List.getElem_toArray, List.getElem_cons_succ, List.getElem_cons_zero, Act.put, List.setIfInBounds_toArray, List.set_cons_zero, List.set_cons_succ]
      refine wpAnyB_done (by kernel_rfl) ?_ _
      have hdr : w5.drew.heap.size = w5.heap.size := rfl
      have HE := Hfin.out w6 ((u : Int) - 1) zz (HO.out.trans (hO4.mono hsW fun _ _ e => e)) (hD1.row (show RowAt w5.drew g cap f from HR.out) (by omega))
      have k5 : Blk ((w6.setCell ⟨w.heap.size, 0, none⟩ (.int .i64 f.length)).setCell ⟨w.heap.size, 1, none⟩ (.slice (some ⟨g, 0, none⟩) f.length cap)) w.heap.size #[.int .i64 f.length, .slice (some ⟨g, 0, none⟩) f.length cap] 26 := by
        have := (k4.store 0 (.int .i64 f.length)).store 1 (.slice (some ⟨g, 0, none⟩) f.length cap)
        simpa using this
      have y0 := k5.cell 0
      have y1 := k5.cell 1
      have y4 := k5.lt
      simp at y0 y1
      clear k4 k5 x0 x1 x2 x3 x4 Hfin hT0 HX hSet Hk0 HO HR hO0 hO4 hD1 hC hM z0 z1 z4
      generalize World.setCell _ _ _ = W9 at *
      go_wp2_with fail
      refine bodyPost_ret (v := .tuple #[.agg #[.int .i64 f.length, .slice (some ⟨g, 0, none⟩) f.length cap], .int .i64 ((u : Int) - 1), .int .i64 zz]) (by simp [results, Try.results41, go_sem, y0, y1]) rfl ?_
      exact HE.out
    · have hN7 := gv.le
      have hq : IntKind.i64.wrap (pwN f.length - 1) = ((2 ^ f.length - 1 : Nat) : Int) := by
        have := gv.pow.1
        have := Nat.two_pow_pos f.length
        rw [pwN_small _ (by omega), show ((2 ^ f.length : Nat) : Int) - 1 = ((2 ^ f.length - 1 : Nat) : Int) by omega]
        exact IntKind_i64_in _ (by omega) (by omega)
      have hkb := kb5
      have hyW := kb5.lt
      have h0W := k5.lt
      have hT0 : ∀ w', Only (fun b => b = cb ∨ b = w.heap.size) w5.heap.size w5 w' → w'.cell? ⟨yb, 0, none⟩ = some (.int .i64 f.length) ∧ w'.cell? ⟨yb, 1, none⟩ = some (.slice (some ⟨g, 0, none⟩) f.length cap) := fun w' h => by
        have := h.blk hkb hyW (fun e => by rcases e with e | e <;> omega)
        exact ⟨by simpa using this.cell 0, by simpa using this.cell 1⟩
      have hX0 : ∀ (w' : World), Only (fun b => b = cb ∨ b = w.heap.size) w5.heap.size w5 w' → Only (fun b => b = cb ∨ b = w.heap.size) w5.heap.size w5 ((w'.setCell ⟨w.heap.size, 0, none⟩ (.int .i64 f.length)).setCell ⟨w.heap.size, 1, none⟩ (.slice (some ⟨g, 0, none⟩) f.length cap)) := fun w' h => (h.setCell (p := ⟨w.heap.size, 0, none⟩) (.inl (.inr rfl)) _).setCell (p := ⟨w.heap.size, 1, none⟩) (.inl (.inr rfl)) _
      have HX := Lib.hid hX0
      have HO := Lib.hid hO5
      have HR := Lib.hid hR5
      have hsW := hO5.size
      have k4 : Blk w5.drew _ _ _ := k5
      have z0 := kb5.cell 0
      have z1 := kb5.cell 1
      have z4 := kb5.lt
      simp at z0 z1
      clear hX0 hkb kb5 k5 hR5 hO5 hC5
      go_wp2_with fail
      have hO0 : Only (fun b => b = cb ∨ b = w.heap.size) w5.heap.size w5 w5.drew := Only.of (Below.refl _ _).drew
      refine wp_region_B (fun w' => Only (fun b => b = cb ∨ b = w.heap.size) w5.heap.size w5 w' ∧ w'.cell? ⟨yb, 0, none⟩ = some (.int .i64 f.length) ∧ w'.cell? ⟨yb, 1, none⟩ = some (.slice (some ⟨g, 0, none⟩) f.length cap)) (fun _ => True) [] (by kernel_rfl) (⟨hO0, hT0 _ hO0⟩) (trivial) (fun hM => ?_)
      refine wpAnyB_take (i := 0) (v := ?_) false rfl (by kernel_rfl) (by kernel_rfl) (by kernel_rfl) (by kernel_rfl) (by kernel_rfl) (fun _ _ _ h => h) (Or.inl ⟨by rfl, ?_⟩) hM (fun hM2 => ?_)
      rotate_left
      · (intro w hSw; replace hSw := hSw.1; (try dsimp only at hSw); go_simp; try with_reducible rfl)
      replace hM := hM2
      clear hM2
      try simp only [List.getElem_toArray, List.getElem_cons_zero, Act.put, List.setIfInBounds_toArray, List.set_cons_zero, List.set_cons_succ]
      refine wpAnyB_take (i := 1) (v := ?_) false rfl (by kernel_rfl) (by kernel_rfl) (by kernel_rfl) (by kernel_rfl) (by kernel_rfl) (fun _ _ _ h => h) (Or.inl ⟨by rfl, ?_⟩) hM (fun hM2 => ?_)
      rotate_left
      · (intro w hSw; replace hSw := hSw.1; (try dsimp only at hSw); go_simp; try with_reducible rfl)
      replace hM := hM2
      clear hM2
      try simp only [List.getElem_toArray, List.getElem_cons_succ, List.getElem_cons_zero, Act.put, List.setIfInBounds_toArray, List.set_cons_zero, List.set_cons_succ]
      refine wpAnyB_take (i := 2) (v := ?_) false rfl (by kernel_rfl) (by kernel_rfl) (by kernel_rfl) (by kernel_rfl) (by kernel_rfl) (fun _ _ _ h => h) (Or.inl ⟨by rfl, ?_⟩) hM (fun hM2 => ?_)
      rotate_left
      · (intro w hSw; replace hSw := hSw.1; (try dsimp only at hSw); go_simp; try with_reducible rfl)
      replace hM := hM2
      clear hM2
      try simp only [List.getElem_toArray, List.getElem_cons_succ, List.getElem_cons_zero, Act.put, List.setIfInBounds_toArray, List.set_cons_zero, List.set_cons_succ]
      refine wpAnyB_take (i := 3) (v := ?_) false rfl (by kernel_rfl) (by kernel_rfl) (by kernel_rfl) (by kernel_rfl) (by kernel_rfl) (fun _ _ _ h => h) (Or.inl ⟨by rfl, ?_⟩) hM (fun hM2 => ?_)
      rotate_left
      · (intro w hSw; replace hSw := hSw.1; (try dsimp only at hSw); go_simp; try with_reducible rfl)
      replace hM := hM2
      clear hM2
      try simp only [List.getElem_toArray, List.getElem_cons_succ, List.getElem_cons_zero, Act.put, List.setIfInBounds_toArray, List.set_cons_zero, List.set_cons_succ]
      refine wpAnyB_take (i := 4) (v := ?_) false rfl (by kernel_rfl) (by kernel_rfl) (by kernel_rfl) (by kernel_rfl) (by kernel_rfl) (fun _ _ _ h => h) (Or.inl ⟨by rfl, ?_⟩) hM (fun hM2 => ?_)
      rotate_left
      · (intro w hSw; replace hSw := hSw.1; (try dsimp only at hSw); go_simp; try with_reducible rfl)
      replace hM := hM2
      clear hM2
      try simp only [List.getElem_toArray, List.getElem_cons_succ, List.getElem_cons_zero, Act.put, List.setIfInBounds_toArray, List.set_cons_zero, List.set_cons_succ]
      refine wpAnyB_take (i := 5) (v := ?_) false rfl (by kernel_rfl) (by kernel_rfl) (by kernel_rfl) (by kernel_rfl) (by kernel_rfl) (fun _ _ _ h => h) (Or.inl ⟨by rfl, ?_⟩) hM (fun hM2 => ?_)
      rotate_left
      · (intro w hSw; replace hSw := hSw.1; (try dsimp only at hSw); go_simp; try with_reducible rfl)
      replace hM := hM2
      clear hM2
      try simp only [List.getElem_toArray, List.getElem_cons_succ, List.getElem_cons_zero, Act.put, List.setIfInBounds_toArray, List.set_cons_zero, List.set_cons_succ]
      have x0 : w5.drew.cell? ⟨w.heap.size, 0, none⟩ = some (.int .i64 0) := k4.cell 0
      have x1 : w5.drew.cell? ⟨w.heap.size, 1, none⟩ = some (.slice none 0 0) := k4.cell 1
      have x2 : w5.drew.frozen? ⟨w.heap.size, 0, none⟩ = false := k4.frozen 0
      have x3 : w5.drew.frozen? ⟨w.heap.size, 1, none⟩ = false := k4.frozen 1
      have x4 : w.heap.size < w5.drew.heap.size := k4.lt
      have x5 : w5.cell? ⟨w.heap.size, 0, none⟩ = some (.int .i64 0) := x0
      have x6 : w5.cell? ⟨w.heap.size, 1, none⟩ = some (.slice none 0 0) := x1
      have x7 : w5.frozen? ⟨w.heap.size, 0, none⟩ = false := x2
      have x8 : w5.frozen? ⟨w.heap.size, 1, none⟩ = false := x3
      refine wpAnyB_one (i := 6) (by kernel_rfl) rfl (fun K hK => ?_)
      go_simp
      refine hK.out _ _ (meetB.both ⟨HX.out _ hO0, hT0 _ (HX.out _ hO0)⟩ trivial) (fun hM2 => ?_)
      clear hK K
      replace hM := hM2
      clear hM2
      try simp only [List.getElem_toArray, List.getElem_cons_succ, List.getElem_cons_zero, Act.put, List.setIfInBounds_toArray, List.set_cons_zero, List.set_cons_succ]
      refine wpAnyB_take (i := 7) (v := ?_) false rfl (by kernel_rfl) (by kernel_rfl) (by kernel_rfl) (by kernel_rfl) (by kernel_rfl) (fun _ _ _ h => h) (Or.inl ⟨by rfl, ?_⟩) hM (fun hM2 => ?_)
      rotate_left
      · (intro w hSw; replace hSw := hSw.1; (try dsimp only at hSw); go_simp; try with_reducible rfl)
      replace hM := hM2
      clear hM2
      try simp only [List.getElem_toArray, List.getElem_cons_succ, List.getElem_cons_zero, Act.put, List.setIfInBounds_toArray, List.set_cons_zero, List.set_cons_succ]
      refine wpAnyB_take (i := 8) (v := ?_) false rfl (by kernel_rfl) (by kernel_rfl) (by kernel_rfl) (by kernel_rfl) (by kernel_rfl) (fun _ _ _ h => h) (Or.inl ⟨by rfl, ?_⟩) hM (fun hM2 => ?_)
      rotate_left
      · (intro w hSw; replace hSw := hSw.1; (try dsimp only at hSw); go_simp; try with_reducible rfl)
      replace hM := hM2
      clear hM2
      try simp only [List.getElem_toArray, List.getElem_cons_succ, List.getElem_cons_zero, Act.put, List.setIfInBounds_toArray, List.set_cons_zero, List.set_cons_succ]
      refine wpAnyB_done (by kernel_rfl) ?_ _
      have hfin := fun z => Hfin.out w5.drew ((u : Int) - 1) z (HO.out.trans (hO0.mono hsW fun _ _ e => e)) (show RowAt w5.drew g cap f from HR.out)
      have k5 : Blk ((w5.drew.setCell ⟨w.heap.size, 0, none⟩ (.int .i64 f.length)).setCell ⟨w.heap.size, 1, none⟩ (.slice (some ⟨g, 0, none⟩) f.length cap)) w.heap.size #[.int .i64 f.length, .slice (some ⟨g, 0, none⟩) f.length cap] 26 := by
        have := (k4.store 0 (.int .i64 f.length)).store 1 (.slice (some ⟨g, 0, none⟩) f.length cap)
        simpa using this
      obtain ⟨W9, hW9⟩ : ∃ W9, W9 = ((w5.setCell ⟨w.heap.size, 0, none⟩ (.int .i64 f.length)).setCell ⟨w.heap.size, 1, none⟩ (.slice (some ⟨g, 0, none⟩) f.length cap)).drew := ⟨_, rfl⟩
      have y0 : W9.cell? ⟨w.heap.size, 0, none⟩ = some (.int .i64 f.length) := by rw [hW9]; exact k5.cell 0
      have y1 : W9.cell? ⟨w.heap.size, 1, none⟩ = some (.slice (some ⟨g, 0, none⟩) f.length cap) := by rw [hW9]; exact k5.cell 1
      have y4 : w.heap.size < W9.heap.size := by rw [hW9]; exact k5.lt
      have HF : Hid (∀ z, Hid (RetGVZ w (.returned (.tuple #[.agg #[.int .i64 f.length, .slice (some ⟨g, 0, none⟩) f.length cap], .int .i64 ((u : Int) - 1), .int .i64 z])) W9)) := Lib.hid fun z => by rw [hW9]; exact hfin z
      clear k4 k5 x0 x1 x2 x3 x4 x5 x6 x7 x8 Hfin hfin hT0 HX HO HR hO0 hM z0 z1 z4
      simp only [← hW9]
      clear hW9
      go_wp2_with fail
      refine bodyPost_ret (v := .tuple #[.agg #[.int .i64 f.length, .slice (some ⟨g, 0, none⟩) f.length cap], .int .i64 ((u : Int) - 1), .int .i64 ((2 ^ f.length - 1 : Nat) : Int)]) (by simp [results, Try.results41, go_sem, y0, y1]) rfl ?_
      exact (HF.out _).out

end Go.Proofs.Ytgklgheaojoimaa
