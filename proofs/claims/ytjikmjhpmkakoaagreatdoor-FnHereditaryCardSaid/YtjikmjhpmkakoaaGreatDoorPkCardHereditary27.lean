/-
  The draws of prunes: l21Graph, l21Prunes, the functions that draw for prunes. For texts of at most 2^20 bytes.
-/
import Derived.Test.YtjikmjhpmkakoaaGreatDoorPkCardHereditary22
import Derived.Test.YtjikmjhpmkakoaaGreatDoorPkCardHereditary26
namespace Go.Proofs.YtjikmjhpmkakoaaGreatDoor
open Go.RowKit

set_option maxRecDepth 100000 in
set_option maxHeartbeats 4000000 in
theorem l21Graph_any (cb n c : Nat) (bo : Option Addr) (w : World) (h : CurAt w cb bo n c) :
    Calls Tryz.prog 43 #[.pointer (some ⟨cb, 0, none⟩)] w (RetAG cb bo n c w) := by
  have hcw := h.lt
  go_enter Tryz.func43, Tryz.ntmps43
  go_wp2_with fail
  generalize hW : World.alloc _ _ = W1
  obtain ⟨hB, hs, k0⟩ := alloc1 hW
  have hD := DrewC.refl (h.below hB)
  have hs1 : w.heap.size < W1.heap.size := by omega
  clear hW hs
  have HhB := Lib.hid hB
  clear hB
  have Hk0 := Lib.hid k0
  clear k0
  refine (l1Once_any 3 cb n c bo W1 hD.cur (by omega) (by omega)).mono ?_
  rintro e w2 ⟨b3, rfl, hD1⟩
  replace hD := hD.trans hD1
  have hs2 := hD.only.size
  clear hD1
  have hend : ∀ (wr : World) (x : Int) (f : List Int) (g cap : Nat), (1 ≤ f.length ∧ f.length ≤ 6) → DrewC cb bo n c W1 wr → w.heap.size < g → RowAt wr g cap f → Hid (RetAG cb bo n c w (.returned (.agg #[.int .i64 x, .slice (some ⟨g, 0, none⟩) f.length cap])) ((wr.setCell ⟨w.heap.size, 0, none⟩ (.int .i64 x)).setCell ⟨w.heap.size, 1, none⟩ (.slice (some ⟨g, 0, none⟩) f.length cap))) := fun wr x f g cap hv hD hg hR => Lib.hid (by
    obtain ⟨h1, h2⟩ := end_graph (N := f.length) (x := x) HhB.out hcw hD hg hR
    exact ⟨x, f, g, cap, hv, rfl, Nat.le_of_lt hg, h1, h2⟩)
  have hblk : ∀ wr, DrewC cb bo n c W1 wr → Blk wr w.heap.size #[.int .i64 0, .slice none 0 0] 26 := fun wr hD => hD.blk Hk0.out (by omega)
  have Hend := Lib.hid hend
  have Hblk := Lib.hid hblk
  clear hend hblk
  have hA1 := l4Holey_any cb n c bo w2 hD.cur
  have hA2 := l17Graph_any cb n c bo w2 hD.cur
  cases b3
  all_goals
    go_wp2_with fail
    first
      | refine hA1.mono ?_
      | refine hA2.mono ?_
    rintro e w3 ⟨x, f, g, cap, hf, rfl, hg, hR, hD1⟩
    have hD3 := hD.trans hD1
    have k9 := Hblk.out _ hD3
    have y0 := k9.cell 0
    have y1 := k9.cell 1
    have y2 := k9.frozen 0
    have y3 := k9.frozen 1
    have y4 := k9.lt
    simp at y0 y1
    have HE := Hend.out w3 x f g cap hf hD3 (by omega) hR
    clear k9 hD hD1 hD3 hR Hblk Hend hA1 hA2
    go_wp2_with fail
    refine bodyPost_ret (v := .agg #[.int .i64 x, .slice (some ⟨g, 0, none⟩) f.length cap]) (by simp [results, Tryz.results43, go_sem, y0, y1]) rfl ?_
    exact HE.out

set_option maxRecDepth 100000 in
set_option maxHeartbeats 4000000 in
theorem DrawPruneOrder_any (n c : Nat) (bo : Option Addr) (w : World) (h : BytesU w.heap.size w bo n) (hn : n ≤ 1048576) :
    Calls Tryz.prog 6 #[.slice bo n c] w (RetAN w) := by
  go_enter Tryz.func6, Tryz.ntmps6
  go_wp2_with fail
  generalize hW : World.alloc _ _ = W1
  obtain ⟨hB, hs, k0⟩ := alloc1 hW
  have hs1 : w.heap.size < W1.heap.size := by omega
  have hb1 : BytesU W1.heap.size W1 bo n := (h.only (Only.of (X := fun _ => False) hB) fun _ _ h => h).mono (by omega)
  clear hW hs
  refine (l1New_any n c bo W1 hb1 hn).mono ?_
  rintro e w1 ⟨cb, rfl, hB1, hcb, hC⟩
  replace k0 := k0.below hB1 hs1
  have hs2 := hB1.size
  replace hB := hB.trans (hB1.mono (by omega))
  have HhB := Lib.hid hB
  clear hB
  have Hk0 := Lib.hid k0
  clear k0
  clear hb1 hB1 h
  go_wp2_with fail
  refine (l21Graph_any cb n c bo w1 hC).mono ?_
  rintro e w2 ⟨x, f, g, cap, hf, rfl, hg, hR, hD⟩
  have k9 := hD.blk Hk0.out (by omega)
  have y0 := k9.cell 0
  have y1 := k9.cell 1
  have y2 := k9.frozen 0
  have y3 := k9.frozen 1
  have y4 := k9.lt
  simp at y0 y1
  have HE := Lib.hid (show RetAN w (.returned (.agg #[.int .i64 x, .slice (some ⟨g, 0, none⟩) f.length cap])) ((w2.setCell ⟨w.heap.size, 0, none⟩ (.int .i64 x)).setCell ⟨w.heap.size, 1, none⟩ (.slice (some ⟨g, 0, none⟩) f.length cap)) from
    ⟨x, f, g, cap, hf, rfl, by omega, (hR.otherCell (by simp; omega)).otherCell (by simp; omega), ((HhB.out.trans (hD.only.below (by omega) fun b hb e => by have e2 : b = cb := e; omega)).setCell (by simp) _).setCell (by simp) _⟩)
  clear k9 hD hR HhB Hk0 hC
  go_wp2_with fail
  refine bodyPost_ret (v := .agg #[.int .i64 x, .slice (some ⟨g, 0, none⟩) f.length cap]) (by simp [results, Tryz.results6, go_sem, y0, y1]) rfl ?_
  exact HE.out

set_option maxRecDepth 100000 in
set_option maxHeartbeats 4000000 in
theorem DrawKeepsDistances_any (n c : Nat) (bo : Option Addr) (w : World) (h : BytesU w.heap.size w bo n) (hn : n ≤ 1048576) :
    Calls Tryz.prog 18 #[.slice bo n c] w (RetGZ w) := by
  go_enter Tryz.func18, Tryz.ntmps18
  go_wp2_with fail
  generalize hW : World.alloc _ _ = W1
  obtain ⟨hB, hs, k0⟩ := alloc1 hW
  have hs1 : w.heap.size < W1.heap.size := by omega
  have hb1 : BytesU W1.heap.size W1 bo n := (h.only (Only.of (X := fun _ => False) hB) fun _ _ h => h).mono (by omega)
  clear hW hs
  have HhB := Lib.hid hB
  clear hB
  refine (l1New_any n c bo W1 hb1 hn).mono ?_
  rintro e w1 ⟨cb, rfl, hB1, hcb, hC⟩
  replace k0 := k0.below hB1 hs1
  have HB2 := Lib.hid (HhB.out.trans (hB1.mono (Nat.le_of_lt hs1)))
  have hs2 := hB1.size
  clear hb1 hB1 HhB
  go_wp2_with fail
  refine (l21Graph_any cb n c bo w1 hC).mono ?_
  rintro e w2 ⟨x, f, g, cap, hf, rfl, hg, hR, hD⟩
  have hsz := hD.only.size
  replace k0 := hD.blk k0 (by omega)
  go_wp2_with fail
  generalize hWb : World.alloc _ _ = Wb
  obtain ⟨hBb, hzb, kb⟩ := alloc1 hWb
  have hg4 : g < w2.heap.size := hR.lt
  replace hD := hD.below hBb
  have hR1 := hR.below hBb
  replace k0 := k0.below hBb (by omega)
  have hcb1 := hC.lt
  clear hWb hBb hzb hC hR
  generalize hyb : w2.heap.size = yb at *
  clear hyb
  have hne : ¬w.heap.size = yb := by omega
  have hne2 : ¬yb = w.heap.size := by omega
  have hneg : ¬g = w.heap.size := by omega
  have hnec : ¬cb = w.heap.size := by omega
  have hyc : ¬yb = cb := by omega
  have hgc : ¬g = cb := by omega
  have hcW := hD.cur
  have hyW := kb.lt
  have h0W := k0.lt
  have hkb := kb
  have hT0 : ∀ w', Only (fun b => b = cb ∨ b = w.heap.size) Wb.heap.size Wb w' → w'.cell? ⟨yb, 0, none⟩ = some (.int .i64 x) ∧ w'.cell? ⟨yb, 1, none⟩ = some (.slice (some ⟨g, 0, none⟩) f.length cap) := fun w' h => by
    have := h.blk hkb hyW (fun e => by rcases e with e | e <;> omega)
    exact ⟨by simpa using this.cell 0, by simpa using this.cell 1⟩
  have hfin : ∀ (w' : World) (z : Int), Only (fun b => b = cb ∨ b = w.heap.size) Wb.heap.size Wb w' → Hid (RetGZ w (.returned (.tuple #[.agg #[.int .i64 x, .slice (some ⟨g, 0, none⟩) f.length cap], .int .i64 z])) w') := fun w' z h => Lib.hid
    ⟨x, z, f, g, cap, hf, rfl, by omega, hR1.onlyB h (fun e => by rcases e with e | e <;> omega), ((HB2.out.trans (hD.only.below (by omega) fun b hb e => by have e2 : b = cb := e; omega)).trans (h.below (by omega) fun b hb e => by rcases e with e | e <;> omega))⟩
  have hX0 : ∀ (w' : World), Only (fun b => b = cb ∨ b = w.heap.size) Wb.heap.size Wb w' → Only (fun b => b = cb ∨ b = w.heap.size) Wb.heap.size Wb ((w'.setCell ⟨w.heap.size, 0, none⟩ (.int .i64 x)).setCell ⟨w.heap.size, 1, none⟩ (.slice (some ⟨g, 0, none⟩) f.length cap)) := fun w' h => (h.setCell (p := ⟨w.heap.size, 0, none⟩) (.inl (.inr rfl)) _).setCell (p := ⟨w.heap.size, 1, none⟩) (.inl (.inr rfl)) _
  have hSet : ∀ (w' : World), CurAt w' cb bo n c → Hid (Calls Tryz.prog 66 #[.pointer (some ⟨cb, 0, none⟩), .agg #[.int .i64 x, .slice (some ⟨g, 0, none⟩) f.length cap]] w' (RetZ cb bo n c w')) := fun w' h => Lib.hid (l3Set_any x f g cap cb n c bo w' h)
  have HX := Lib.hid hX0
  clear hX0
  have Hk0 := Lib.hid k0
  have z0 := kb.cell 0
  have z1 := kb.cell 1
  have z4 := kb.lt
  simp at z0 z1
  clear hkb kb k0 hR1 hD hf hs1 hs2 hsz
  go_wp2_with fail
  have hO0 : Only (fun b => b = cb ∨ b = w.heap.size) Wb.heap.size Wb Wb.drew := Only.of (Below.refl _ _).drew
  refine wp_region_B (fun w' => Only (fun b => b = cb ∨ b = w.heap.size) Wb.heap.size Wb w' ∧ w'.cell? ⟨yb, 0, none⟩ = some (.int .i64 x) ∧ w'.cell? ⟨yb, 1, none⟩ = some (.slice (some ⟨g, 0, none⟩) f.length cap)) (fun _ => True) [] (by kernel_rfl) (⟨hO0, hT0 _ hO0⟩) (trivial) (fun hM => ?_)
  refine wpAnyB_take (i := 0) (v := ?_) false rfl (by kernel_rfl) (by kernel_rfl) (by kernel_rfl) (by kernel_rfl) (by kernel_rfl) (fun _ _ _ h => h) (Or.inl ⟨by rfl, ?_⟩) hM (fun hM2 => ?_)
  rotate_left
  · (intro w hSw; replace hSw := hSw.1; (try dsimp only at hSw); go_simp; try with_reducible rfl)
  replace hM := hM2
  clear hM2
  try simp only [List.getElem_toArray, List.getElem_cons_zero, Act.put, List.setIfInBounds_toArray, List.set_cons_zero, List.set_cons_succ]
  refine wpAnyB_take (i := 1) (v := ?_) false rfl (by kernel_rfl) (by kernel_rfl) (by kernel_rfl) (by kernel_rfl) (by kernel_rfl) (fun _ _ _ h => h) (Or.inl ⟨by rfl, ?_⟩) hM (fun hM2 => ?_)
  rotate_left
  · (intro w hSw; replace hSw := hSw.1; (try dsimp only at hSw); go_simp; try with_reducible rfl)
  replace hM := hM2
  clear hM2
  try simp only [List.getElem_toArray, List.getElem_cons_succ, List.getElem_cons_zero, Act.put, List.setIfInBounds_toArray, List.set_cons_zero, List.set_cons_succ]
  refine wpAnyB_take (i := 2) (v := ?_) false rfl (by kernel_rfl) (by kernel_rfl) (by kernel_rfl) (by kernel_rfl) (by kernel_rfl) (fun _ _ _ h => h) (Or.inl ⟨by rfl, ?_⟩) hM (fun hM2 => ?_)
  rotate_left
  · (intro w hSw; replace hSw := hSw.1; (try dsimp only at hSw); go_simp; try with_reducible rfl)
  replace hM := hM2
  clear hM2
  try simp only [List.getElem_toArray, List.getElem_cons_succ, List.getElem_cons_zero, Act.put, List.setIfInBounds_toArray, List.set_cons_zero, List.set_cons_succ]
  refine wpAnyB_one (i := 3) (by kernel_rfl) rfl (fun K hK => ?_)
  (go_simp; go_at_call 66; refine (hSet _ (hcW.below (Below.refl _ _).drew)).out.mono ?_; rintro e w4 ⟨z, rfl, hD1⟩; have hO4 : Only (fun b => b = cb ∨ b = w.heap.size) Wb.heap.size Wb w4 := hO0.trans (hD1.only.mono (Nat.le_refl _) fun _ _ e => .inl e); dsimp only)
  refine hK.out _ _ (meetB.both ⟨hO4, hT0 _ hO4⟩ trivial) (fun hM2 => ?_)
  clear hK K
  replace hM := hM2
  clear hM2
  try simp only [List.getElem_toArray, List.getElem_cons_succ, List.getElem_cons_zero, Act.put, List.setIfInBounds_toArray, List.set_cons_zero, List.set_cons_succ]
  have k4 := hD1.only.blk (Hk0.out.drew) h0W (fun e => hnec (Eq.symm e))
  have x0 := k4.cell 0
  have x1 := k4.cell 1
  have x2 := k4.frozen 0
  have x3 := k4.frozen 1
  have x4 := k4.lt
  simp at x0 x1
  refine wpAnyB_one (i := 4) (by kernel_rfl) rfl (fun K hK => ?_)
  go_simp
  refine hK.out _ _ (meetB.both ⟨HX.out _ hO4, hT0 _ (HX.out _ hO4)⟩ trivial) (fun hM2 => ?_)
  clear hK K
  replace hM := hM2
  clear hM2
  try simp only [List.getElem_toArray, List.getElem_cons_succ, List.getElem_cons_zero, Act.put, List.setIfInBounds_toArray, List.set_cons_zero, List.set_cons_succ]
  refine wpAnyB_take (i := 5) (v := ?_) false rfl (by kernel_rfl) (by kernel_rfl) (by kernel_rfl) (by kernel_rfl) (by kernel_rfl) (fun _ _ _ h => h) (Or.inl ⟨by rfl, ?_⟩) hM (fun hM2 => ?_)
  rotate_left
  · (intro w hSw; replace hSw := hSw.1; (try dsimp only at hSw); go_simp; try with_reducible rfl)
  replace hM := hM2
  clear hM2
  try simp only [List.getElem_toArray, List.getElem_cons_succ, List.getElem_cons_zero, Act.put, List.setIfInBounds_toArray, List.set_cons_zero, List.set_cons_succ]
  refine wpAnyB_done (by kernel_rfl) ?_ _
  have HE := hfin _ z (HX.out _ hO4)
  have k5 : Blk ((w4.setCell ⟨w.heap.size, 0, none⟩ (.int .i64 x)).setCell ⟨w.heap.size, 1, none⟩ (.slice (some ⟨g, 0, none⟩) f.length cap)) w.heap.size #[.int .i64 x, .slice (some ⟨g, 0, none⟩) f.length cap] 26 := by
    have := (k4.store 0 (.int .i64 x)).store 1 (.slice (some ⟨g, 0, none⟩) f.length cap)
    simpa using this
  have y0 := k5.cell 0
  have y1 := k5.cell 1
  have y4 := k5.lt
  simp at y0 y1
  clear k4 k5 x0 x1 x2 x3 x4 hfin hT0 HX hSet Hk0 hO0 hO4 hD1 hcW hM z0 z1 z4
  generalize World.setCell _ _ _ = W9 at *
  go_wp2_with fail
  refine bodyPost_ret (v := .tuple #[.agg #[.int .i64 x, .slice (some ⟨g, 0, none⟩) f.length cap], .int .i64 z]) (by simp [results, Tryz.results18, go_sem, y0, y1]) rfl ?_
  exact HE.out


/-- Some prunes have been drawn. -/
def RetPC (cb : Nat) (bo : Option Addr) (n c : Nat) (w : World) (e : Ending) (w' : World) : Prop :=
  ∃ (l : List Int) (K : Nat) (ao : Option Addr) (cap : Nat), (l.length = K * 3 ∧ K ≤ 6) ∧ e = .returned (.slice ao K cap) ∧ IntsAt w' ao l ∧ DrewC cb bo n c w w'
theorem prunesV_len6 {x : Int} {f : List Int} (h : f.length ≤ 6) : ((prunesV x f).getD []).length ≤ 6 := by
  cases hv : isGraphB x f
  · rw [prunesV_no hv]; simp
  · rw [prunesV_of hv]
    cases hr : pruneRun f f.length (2 ^ f.length - 1) [] with
    | none => simp
    | some qs =>
      have := pruneRun_len _ _ _ _ hr
      simp at this ⊢; omega
theorem RowW.drewc {T : TypeId} {cb n c g : Nat} {bo : Option Addr} {w w' : World} {xs : List Int} (h : RowW T w g xs) (hD : DrewC cb bo n c w w') (hg : cb ≠ g) : RowW T w' g xs := by
  obtain ⟨cur, hb, ht⟩ := h
  exact ⟨cur, hD.blk hb hg, ht⟩

set_option maxRecDepth 100000 in
set_option maxHeartbeats 4000000 in
theorem l21Prunes_any (cb n c : Nat) (bo : Option Addr) (w : World) (h : CurAt w cb bo n c) :
    Calls Tryz.prog 62 #[.pointer (some ⟨cb, 0, none⟩)] w (RetPC cb bo n c w) := by
  have hcw := h.lt
  go_enter Tryz.func62, Tryz.ntmps62
  go_wp2_with fail
  refine (l17Graph_any cb n c bo w h).mono ?_
  rintro e w1 ⟨x, f, g, cap, hf, rfl, hg, hR, hD⟩
  have hs1 := hD.only.size
  go_wp2_with fail
  refine (specPrunes_ret x f _ cap w1 hR.ints (by omega)).mono ?_
  rintro e w2 ⟨ao, cp, rfl, hB2, hO⟩
  have hD2 := hD.below hB2
  have hl6 := prunesV_len6 (x := x) hf.2
  clear hD hR hB2
  generalize (prunesV x f).getD [] = R at *
  generalize (prunesV x f).isSome = ok at *
  by_cases h0 : 0 < R.length
  · obtain ⟨g2, rfl, hg2, hW⟩ := hO.row h0
    clear hO
    have hcg : cb < g2 := by omega
    have hEnd : Hid (∀ (wz : World) (l : List Int), l.length = R.length * 3 → IntsAt wz (some ⟨g2, 0, none⟩) l → DrewC cb bo n c w wz → RetPC cb bo n c w (.returned (.slice (some ⟨g2, 0, none⟩) R.length cp)) wz) := Lib.hid fun wz l h1 h2 h3 => ⟨l, R.length, _, cp, ⟨h1, hl6⟩, rfl, h2, h3⟩
    go_wp2_with fail
    refine (l1Below_any R.length cb n c bo w2 hD2.cur h0 (by omega)).mono ?_
    rintro e w3 ⟨k, hk, rfl, hD1⟩
    have hW3 := hW.drewc hD1 (by omega)
    have hD3 := hD2.trans hD1
    clear hD1 hW hD2
    go_wp2_with fail
    refine (l1Below_any 10 cb n c bo w3 hD3.cur (by omega) (by omega)).mono ?_
    rintro e w4 ⟨u, hu, rfl, hD1⟩
    have hW4 := hW3.drewc hD1 (by omega)
    have hD4 := hD3.trans hD1
    clear hD1 hW3 hD3
    rcases (by omega : u = 0 ∨ u = 1 ∨ u = 2 ∨ 3 ≤ u) with rfl | rfl | rfl | h3
    · go_wp2_with fail
      generalize hWs : World.alloc _ _ = Ws
      obtain ⟨hBs, hzs, ks⟩ := alloc1 hWs
      have hcw2 : cb < w4.heap.size := hD4.cur.lt
      have hD5 := hD4.below hBs
      have hW5 := hW4.below hBs
      have hgl := hW4.lt
      have hP := l1PickInt_any [-1, 0, 1, 2, 3, 4] w4.heap.size 6 cb n c bo Ws hD5.cur (by decide) (by decide) (by omega) ks.lt (fun j hj => by
        rw [ks.cell]
        match j, hj with
        | 0, _ => rfl
        | 1, _ => rfl
        | 2, _ => rfl
        | 3, _ => rfl
        | 4, _ => rfl
        | 5, _ => rfl)
      clear hWs ks hBs hD4 hW4
      refine hP.mono ?_
      rintro e w6 ⟨j, hj, rfl, hD1⟩
      clear hP
      generalize gi [-1, 0, 1, 2, 3, 4] j = z at *
      have hW6 := hW5.drewc hD1 (by omega)
      have hD6 := hD5.trans hD1
      clear hD1 hj hD5 hW5
      have hkk : k * 3 + 1 < (flatP R).length := by rw [flatP_len]; omega
      have z0 := hW6.cell (k * 3 + 1) hkk
      have z1 := hW6.frozen (k * 3 + 1)
      have z2 := hW6.lt
      have HE := Lib.hid (hEnd.out (w6.setCell ⟨g2, k * 3 + 1, none⟩ (.int .i64 z)) ((flatP R).set (k * 3 + 1) z) (by rw [List.length_set]; exact flatP_len R) (hW6.store (k * 3 + 1) z).ints (hD6.store (a := ⟨g2, k * 3 + 1, none⟩) (by show w.heap.size ≤ g2; omega) (by show cb < g2; omega) _))
      clear hD6 hW6 hEnd
      go_wp2_with fail
      go_ret
      exact HE.out
    · go_wp2_with fail
      generalize hWs : World.alloc _ _ = Ws
      obtain ⟨hBs, hzs, ks⟩ := alloc1 hWs
      have hcw2 : cb < w4.heap.size := hD4.cur.lt
      have hD5 := hD4.below hBs
      have hW5 := hW4.below hBs
      have hgl := hW4.lt
      have hP := l1PickInt_any [-2, -1, 0, 7] w4.heap.size 4 cb n c bo Ws hD5.cur (by decide) (by decide) (by omega) ks.lt (fun j hj => by
        rw [ks.cell]
        match j, hj with
        | 0, _ => rfl
        | 1, _ => rfl
        | 2, _ => rfl
        | 3, _ => rfl)
      clear hWs ks hBs hD4 hW4
      refine hP.mono ?_
      rintro e w6 ⟨j, hj, rfl, hD1⟩
      clear hP
      generalize gi [-2, -1, 0, 7] j = z at *
      have hW6 := hW5.drewc hD1 (by omega)
      have hD6 := hD5.trans hD1
      clear hD1 hj hD5 hW5
      have hkk : k * 3 + 2 < (flatP R).length := by rw [flatP_len]; omega
      have z0 := hW6.cell (k * 3 + 2) hkk
      have z1 := hW6.frozen (k * 3 + 2)
      have z2 := hW6.lt
      have HE := Lib.hid (hEnd.out (w6.setCell ⟨g2, k * 3 + 2, none⟩ (.int .i64 z)) ((flatP R).set (k * 3 + 2) z) (by rw [List.length_set]; exact flatP_len R) (hW6.store (k * 3 + 2) z).ints (hD6.store (a := ⟨g2, k * 3 + 2, none⟩) (by show w.heap.size ≤ g2; omega) (by show cb < g2; omega) _))
      clear hD6 hW6 hEnd
      go_wp2_with fail
      go_ret
      exact HE.out
    · go_wp2_with fail
      generalize hWs : World.alloc _ _ = Ws
      obtain ⟨hBs, hzs, ks⟩ := alloc1 hWs
      have hcw2 : cb < w4.heap.size := hD4.cur.lt
      have hD5 := hD4.below hBs
      have hW5 := hW4.below hBs
      have hgl := hW4.lt
      have hP := l1PickInt_any [-1, 0, 7] w4.heap.size 3 cb n c bo Ws hD5.cur (by decide) (by decide) (by omega) ks.lt (fun j hj => by
        rw [ks.cell]
        match j, hj with
        | 0, _ => rfl
        | 1, _ => rfl
        | 2, _ => rfl)
      clear hWs ks hBs hD4 hW4
      refine hP.mono ?_
      rintro e w6 ⟨j, hj, rfl, hD1⟩
      clear hP
      generalize gi [-1, 0, 7] j = z at *
      have hW6 := hW5.drewc hD1 (by omega)
      have hD6 := hD5.trans hD1
      clear hD1 hj hD5 hW5
      have hkk : k * 3 < (flatP R).length := by rw [flatP_len]; omega
      have z0 := hW6.cell (k * 3) hkk
      have z1 := hW6.frozen (k * 3)
      have z2 := hW6.lt
      have HE := Lib.hid (hEnd.out (w6.setCell ⟨g2, k * 3, none⟩ (.int .i64 z)) ((flatP R).set (k * 3) z) (by rw [List.length_set]; exact flatP_len R) (hW6.store (k * 3) z).ints (hD6.store (a := ⟨g2, k * 3, none⟩) (by show w.heap.size ≤ g2; omega) (by show cb < g2; omega) _))
      clear hD6 hW6 hEnd
      go_wp2_with fail
      go_ret
      exact HE.out
    · have d0 : ((u : Int) == 0) = false := by rw [beq_eq_false_iff_ne]; omega
      have d1 : ((u : Int) == 1) = false := by rw [beq_eq_false_iff_ne]; omega
      have d2 : ((u : Int) == 2) = false := by rw [beq_eq_false_iff_ne]; omega
      have HE := Lib.hid (hEnd.out w4 (flatP R) (flatP_len R) hW4.ints hD4)
      clear hEnd hW4 hD4
      go_wp2_with fail
      go_ret
      exact HE.out
  · have e0 : R = [] := List.eq_nil_of_length_eq_zero (by omega)
    subst e0
    have HE := Lib.hid (show RetPC cb bo n c w (.returned (.slice ao 0 cp)) w2 from ⟨[], 0, ao, cp, ⟨rfl, by omega⟩, rfl, fun h => absurd h (by simp), hD2⟩)
    clear hO hD2
    go_wp2_with fail
    go_ret
    exact HE.out

/-- The same at the end of a text's call. -/
def RetPN (w : World) (e : Ending) (w' : World) : Prop :=
  ∃ (l : List Int) (K : Nat) (ao : Option Addr) (cap : Nat), (l.length = K * 3 ∧ K ≤ 6) ∧ e = .returned (.slice ao K cap) ∧ IntsAt w' ao l ∧ Below w.heap.size w w'

set_option maxRecDepth 100000 in
set_option maxHeartbeats 4000000 in
theorem DrawGraphOfPrunes_any (n c : Nat) (bo : Option Addr) (w : World) (h : BytesU w.heap.size w bo n) (hn : n ≤ 1048576) :
    Calls Tryz.prog 16 #[.slice bo n c] w (RetPN w) := by
  go_enter Tryz.func16, Tryz.ntmps16
  go_wp2_with fail
  refine (l1New_any n c bo w h hn).mono ?_
  rintro e w1 ⟨cb, rfl, hB1, hcb, hC⟩
  go_wp2_with fail
  refine (l21Prunes_any cb n c bo w1 hC).mono ?_
  rintro e w2 ⟨l, K, ao, cap, hl, rfl, hI, hD⟩
  have HE := Lib.hid (show RetPN w (.returned (.slice ao K cap)) w2 from ⟨l, K, ao, cap, hl, rfl, hI, hB1.trans (hD.only.below hB1.size fun b hb e => by have e2 : b = cb := e; omega)⟩)
  clear hI hD hB1 hC h
  go_wp2_with fail
  go_ret
  exact HE.out

end Go.Proofs.YtjikmjhpmkakoaaGreatDoor
