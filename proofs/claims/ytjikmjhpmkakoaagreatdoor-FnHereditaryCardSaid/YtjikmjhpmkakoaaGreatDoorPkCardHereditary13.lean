/-
  The drawing of graphs: l2Draw, l2Any; l3Set, l3Both. For texts of at most 2^20 bytes.
  The drawing of a graph and a set: l3Set, l3Both, DrawIsDominating, DrawIsPacking. For texts of at most 2^20 bytes.
-/
import Derived.Test.YtjikmjhpmkakoaaGreatDoorPkCardHereditary11
import Derived.Test.YtjikmjhpmkakoaaGreatDoorPkCardHereditary12
namespace Go.Proofs.YtjikmjhpmkakoaaGreatDoor
open Go.RowKit

/-- A graph, right or not, has been drawn. -/
def RetAG (cb : Nat) (bo : Option Addr) (n c : Nat) (w : World) (e : Ending) (w' : World) : Prop :=
  ∃ (x : Int) (f : List Int) (g cap : Nat), (1 ≤ f.length ∧ f.length ≤ 6) ∧ e = .returned (.agg #[.int .i64 x, .slice (some ⟨g, 0, none⟩) f.length cap]) ∧ w.heap.size ≤ g ∧ RowAt w' g cap f ∧ DrewC cb bo n c w w'
theorem RetVG.any {cb n c : Nat} {bo : Option Addr} {w w' : World} {e : Ending} (h : RetVG cb bo n c w e w') : RetAG cb bo n c w e w' := by
  obtain ⟨f, g, cap, hv, he, h⟩ := h
  exact ⟨_, f, g, cap, ⟨hv.1.pos, hv.2⟩, he, h⟩
/-- What a call's end leaves that stores a graph into its result. -/
theorem end_graph {cb n c g cap N : Nat} {bo : Option Addr} {w W1 wr : World} {x : Int} {f : List Int} (hB : Below w.heap.size w W1) (hc : cb < w.heap.size) (hD : DrewC cb bo n c W1 wr) (hg : w.heap.size < g) (hR : RowAt wr g cap f) :
    RowAt ((wr.setCell ⟨w.heap.size, 0, none⟩ (.int .i64 x)).setCell ⟨w.heap.size, 1, none⟩ (.slice (some ⟨g, 0, none⟩) N cap)) g cap f ∧ DrewC cb bo n c w ((wr.setCell ⟨w.heap.size, 0, none⟩ (.int .i64 x)).setCell ⟨w.heap.size, 1, none⟩ (.slice (some ⟨g, 0, none⟩) N cap)) :=
  ⟨(hR.otherCell (by simp; omega)).otherCell (by simp; omega), ((hD.front hB).store (a := ⟨w.heap.size, 0, none⟩) (Nat.le_refl _) hc _).store (a := ⟨w.heap.size, 1, none⟩) (Nat.le_refl _) hc _⟩
theorem addV_VG {rs : List Int} (g : VG rs) (n v w : Int) : VG (addV n rs v w) := by
  unfold addV
  by_cases h : pairB n rs v w = true
  · rw [if_pos h]
    obtain ⟨-, -, a, b, rfl, rfl, -, -, hab⟩ := pairB_true h
    exact addE_VG g (by simpa using hab)
  · rw [if_neg h]; exact g

set_option maxRecDepth 100000 in
set_option maxHeartbeats 4000000 in
theorem l2Draw_any (cb n c : Nat) (bo : Option Addr) (w : World) (h : CurAt w cb bo n c) :
    Calls Tryz.prog 148 #[.pointer (some ⟨cb, 0, none⟩)] w (RetVG cb bo n c w) := by
  have hcw := h.lt
  go_enter Tryz.func148, Tryz.ntmps148
  go_wp2_with fail
  generalize hW : World.alloc _ _ = W1
  obtain ⟨hB, hs, k0⟩ := alloc1 hW
  have hD := DrewC.refl (h.below hB)
  have hs1 : w.heap.size < W1.heap.size := by omega
  clear hW hs
  have HhB := Lib.hid hB
  clear hB
  have Hk0 := Lib.hid k0
  clear k0
  refine (l1Below_any 6 cb n c bo W1 hD.cur (by omega) (by omega)).mono ?_
  rintro e w1 ⟨u, hu, rfl, hD1⟩
  replace hD := hD.trans hD1
  clear hD1
  go_wp2_with fail
  have eu : (1 : Int) + (u : Int) = ((u + 1 : Nat) : Int) := by omega
  rw [eu]
  clear eu
  obtain ⟨N, hN⟩ : ∃ N, N = u + 1 := ⟨_, rfl⟩
  have hN1 : 1 ≤ N := by omega
  have hN7 : N ≤ 7 := by omega
  have hN6 : N ≤ 6 := by omega
  rw [← hN]
  clear hN
  refine (l1Below_any 4 cb n c bo w1 hD.cur (by omega) (by omega)).mono ?_
  rintro e w2 ⟨r, hr, rfl, hD1⟩
  replace hD := hD.trans hD1
  clear hD1
  have hend : ∀ (wr : World) (f : List Int) (g cap : Nat), (VG f ∧ f.length ≤ 6) → DrewC cb bo n c W1 wr → w.heap.size < g → RowAt wr g cap f → Hid (RetVG cb bo n c w (.returned (.agg #[.int .i64 f.length, .slice (some ⟨g, 0, none⟩) f.length cap])) ((wr.setCell ⟨w.heap.size, 0, none⟩ (.int .i64 f.length)).setCell ⟨w.heap.size, 1, none⟩ (.slice (some ⟨g, 0, none⟩) f.length cap))) := fun wr f g cap hv hD hg hR => Lib.hid (by
    obtain ⟨h1, h2⟩ := end_graph (N := f.length) (x := (f.length : Int)) HhB.out hcw hD hg hR
    exact ⟨f, g, cap, hv, rfl, Nat.le_of_lt hg, h1, h2⟩)
  have hblk : ∀ wr, DrewC cb bo n c W1 wr → Blk wr w.heap.size #[.int .i64 0, .slice none 0 0] 26 := fun wr hD => hD.blk Hk0.out (by omega)
  have Hend := Lib.hid hend
  have Hblk := Lib.hid hblk
  clear hend hblk
  by_cases hr0 : r = 0
  · subst hr0
    have hw1 := hD.only.size
    go_wp2_with fail
    generalize hWs : World.alloc _ _ = Ws
    obtain ⟨hBs, hzs, ks⟩ := alloc1 hWs
    have hcw2 : cb < w2.heap.size := hD.cur.lt
    replace hD := hD.below hBs
    have hcell : ∀ j (hj : j < namesG.length), Ws.cell? ⟨w2.heap.size, j, none⟩ = some (.string namesG[j]) := fun j hj => by
      rw [ks.cell]
      match j, hj with
      | 0, _ => rfl
      | 1, _ => rfl
      | 2, _ => rfl
      | 3, _ => rfl
      | 4, _ => rfl
    have hP := l1Pick_any namesG w2.heap.size 5 cb n c bo Ws hD.cur (by decide) (by decide) (by omega) ks.lt hcell
    clear hWs ks hcell hBs
    refine hP.mono ?_
    rintro e w3 ⟨s, hs, rfl, hD1⟩
    clear hP
    replace hD := hD.trans hD1
    have hN := named_any s hs N w3 hN1 hN7
    clear hs hD1
    go_wp2_with fail
    refine hN.mono ?_
    rintro e w4 ⟨f, g, cap, hv, hfl, rfl, hg, hR, hB4⟩
    subst hfl
    have HN6 := Lib.hid hN6
    clear hN6
    have hgw : w.heap.size < g := by have := hD.only.size; omega
    replace hD := hD.below hB4
    clear hN hg hB4
    go_wp2_with fail
    generalize hWb : World.alloc _ _ = Wb
    obtain ⟨hBb, hzb, kb⟩ := alloc1 hWb
    have hg4 : g < w4.heap.size := hR.lt
    have hcb4 : cb < w4.heap.size := hD.cur.lt
    have hw4 := hD.only.size
    replace hD := hD.below hBb
    replace hR := hR.below hBb
    clear hWb hBb hzb hzs
    generalize w4.heap.size = yb at *
    refine (l1Below_any f.length cb n c bo Wb hD.cur hv.pos (by have := hv.le; omega)).mono ?_
    rintro e w5 ⟨a, ha, rfl, hD1⟩
    replace hR := hD1.row hR (by omega)
    replace kb := hD1.blk kb (by omega)
    replace hD := hD.trans hD1
    clear hD1
    go_wp2_with fail
    refine (l1Below_any f.length cb n c bo w5 hD.cur hv.pos (by have := hv.le; omega)).mono ?_
    rintro e w6 ⟨b, hb, rfl, hD1⟩
    replace hR := hD1.row hR (by omega)
    replace kb := hD1.blk kb (by omega)
    replace hD := hD.trans hD1
    clear hD1
    go_wp2_with fail
    refine (l1Once_any 2 cb n c bo w6 hD.cur (by omega) (by omega)).mono ?_
    rintro e w7 ⟨bb, rfl, hD1⟩
    replace hR := hD1.row hR (by omega)
    replace kb := hD1.blk kb (by omega)
    replace hD := hD.trans hD1
    clear hD1
    have k9 := Hblk.out _ hD
    have y0 := k9.cell 0
    have y1 := k9.cell 1
    have y2 := k9.frozen 0
    have y3 := k9.frozen 1
    have y4 := k9.lt
    simp at y0 y1
    have z0 := kb.cell 0
    have z1 := kb.cell 1
    have z4 := kb.lt
    simp at z0 z1
    cases bb
    · have HE := Hend.out _ f g cap ⟨hv, HN6.out⟩ hD (by omega) hR
      clear k9 kb hD hR
      go_wp2_with fail
      refine bodyPost_ret (v := .agg #[.int .i64 f.length, .slice (some ⟨g, 0, none⟩) f.length cap]) (by simp [results, Tryz.results148, go_sem, y0, y1]) rfl ?_
      exact HE.out
    · have hA := specAddEdge_any f.length f a b (some ⟨g, 0, none⟩) cap w7 hR.ints (by have := hv.le; omega) hv.pos
      clear k9
      have HhR := Lib.hid hR
      clear hR
      have Hkb := Lib.hid kb
      clear kb
      have HhD := Lib.hid hD
      clear hD
      go_wp2_with fail
      refine hA.mono ?_
      rintro e w8 ⟨g5, cp5, rfl, hB8, hg5, hR5⟩
      have hw7 := HhD.out.only.size
      have k5 := Hkb.out.below hB8 z4
      have r0 := k5.cell 0
      have r1 := k5.cell 1
      have r2 := k5.frozen 0
      have r3 := k5.frozen 1
      have r4 := k5.lt
      simp at r0 r1
      have hv2 := addV_VG hv f.length a b
      have hl2 := addV_len f.length f a b
      have hD2 := ((HhD.out.below hB8).store (a := ⟨yb, 0, none⟩) hw4 hcb4 (.int .i64 f.length)).store (a := ⟨yb, 1, none⟩) hw4 hcb4 (.slice (some ⟨g5, 0, none⟩) f.length cp5)
      have hR2 : RowAt ((w8.setCell ⟨yb, 0, none⟩ (.int .i64 f.length)).setCell ⟨yb, 1, none⟩ (.slice (some ⟨g5, 0, none⟩) f.length cp5)) g5 cp5 _ := (hR5.otherCell (by simp; omega)).otherCell (by simp; omega)
      have k6 : Blk ((w8.setCell ⟨yb, 0, none⟩ (.int .i64 f.length)).setCell ⟨yb, 1, none⟩ (.slice (some ⟨g5, 0, none⟩) f.length cp5)) yb #[.int .i64 f.length, .slice (some ⟨g5, 0, none⟩) f.length cp5] 26 := by
        have := (k5.store 0 (.int .i64 f.length)).store 1 (.slice (some ⟨g5, 0, none⟩) f.length cp5)
        simpa using this
      have k8 := Hblk.out _ (HhD.out.below hB8)
      have HE := Hend.out _ _ g5 cp5 ⟨hv2, by rw [hl2]; exact HN6.out⟩ hD2 (by omega) hR2
      rw [hl2] at HE
      clear y0 y1 y2 y3 y4 z0 z1 hA HhR hR5 hB8 hg5 k5 hv2 hl2 hD2 hR2
      have y0 := k8.cell 0
      have y1 := k8.cell 1
      have y2 := k8.frozen 0
      have y3 := k8.frozen 1
      have y4 := k8.lt
      simp at y0 y1
      have hne : ¬w.heap.size = yb := by omega
      have hne2 : ¬yb = w.heap.size := by omega
      clear k8 k6 HhD Hkb z4
      generalize addOk f.length f a b = BB at *
      go_wp2_with fail
      refine bodyPost_ret (v := .agg #[.int .i64 f.length, .slice (some ⟨g5, 0, none⟩) f.length cp5]) (by simp [results, Tryz.results148, go_sem, y0, y1]) rfl ?_
      exact HE.out
  · have d0 : ((r : Int) == 0) = false := by rw [beq_eq_false_iff_ne]; omega
    have hRnd : ∀ odd, Hid (Calls Tryz.prog 164 #[.pointer (some ⟨cb, 0, none⟩), .int .i64 N, .int .i64 odd] w2 (RetVG cb bo n c w2)) := fun odd => Lib.hid (l2Random_any N odd cb n c bo w2 hD.cur hN1 hN6)
    by_cases hr1 : r = 1
    all_goals
      first
        | (have d1 : ((r : Int) == 1) = false := by rw [beq_eq_false_iff_ne]; omega)
        | subst hr1
      go_wp2_with fail
      refine (hRnd _).out.mono ?_
      rintro e w3 ⟨f, g, cap, hv, rfl, hg, hR, hD1⟩
      have hsz := hD.only.size
      replace hD := hD.trans hD1
      have k9 := Hblk.out w3 hD
      have y0 := k9.cell 0
      have y1 := k9.cell 1
      have y2 := k9.frozen 0
      have y3 := k9.frozen 1
      have y4 := k9.lt
      simp at y0 y1
      have HE := Hend.out w3 f g cap hv hD (by omega) hR
      clear k9 hD1 hD hR hRnd hr
      go_wp2_with fail
      refine bodyPost_ret (v := .agg #[.int .i64 f.length, .slice (some ⟨g, 0, none⟩) f.length cap]) (by simp [results, Tryz.results148, go_sem, y0, y1]) rfl ?_
      exact HE.out

set_option maxRecDepth 100000 in
set_option maxHeartbeats 4000000 in
theorem l2Any_any (cb n c : Nat) (bo : Option Addr) (w : World) (h : CurAt w cb bo n c) :
    Calls Tryz.prog 122 #[.pointer (some ⟨cb, 0, none⟩)] w (RetAG cb bo n c w) := by
  have hcw := h.lt
  go_enter Tryz.func122, Tryz.ntmps122
  go_wp2_with fail
  generalize hW : World.alloc _ _ = W1
  obtain ⟨hB, hs, k0⟩ := alloc1 hW
  have hD := DrewC.refl (h.below hB)
  have hs1 : w.heap.size < W1.heap.size := by omega
  clear hW hs
  have HhB := Lib.hid hB
  clear hB
  have Hk0 := Lib.hid k0
  clear k0
  refine (l2Draw_any cb n c bo W1 hD.cur).mono ?_
  rintro e w2 ⟨f, g, cap, hv, rfl, hg, hR, hD1⟩
  replace hD := hD.trans hD1
  have hgw : w.heap.size < g := by omega
  have hgW := hg
  obtain ⟨hv, hf7⟩ := hv
  have hf1 := hv.pos
  clear hD1 hg
  have hend : ∀ (wr : World) (x : Int) (f : List Int) (g cap : Nat), (1 ≤ f.length ∧ f.length ≤ 6) → DrewC cb bo n c W1 wr → w.heap.size < g → RowAt wr g cap f → Hid (RetAG cb bo n c w (.returned (.agg #[.int .i64 x, .slice (some ⟨g, 0, none⟩) f.length cap])) ((wr.setCell ⟨w.heap.size, 0, none⟩ (.int .i64 x)).setCell ⟨w.heap.size, 1, none⟩ (.slice (some ⟨g, 0, none⟩) f.length cap))) := fun wr x f g cap hv hD hg hR => Lib.hid (by
    obtain ⟨h1, h2⟩ := end_graph (N := f.length) (x := x) HhB.out hcw hD hg hR
    exact ⟨x, f, g, cap, hv, rfl, Nat.le_of_lt hg, h1, h2⟩)
  have hblk : ∀ wr, DrewC cb bo n c W1 wr → Blk wr w.heap.size #[.int .i64 0, .slice none 0 0] 26 := fun wr hD => hD.blk Hk0.out (by omega)
  have Hend := Lib.hid hend
  have Hblk := Lib.hid hblk
  clear hend hblk
  go_wp2_with fail
  generalize hWb : World.alloc _ _ = Wb
  obtain ⟨hBb, hzb, kb⟩ := alloc1 hWb
  have hg4 : g < w2.heap.size := hR.lt
  have hcb4 : cb < w2.heap.size := hD.cur.lt
  have hw4 := hD.only.size
  replace hD := hD.below hBb
  replace hR := hR.below hBb
  clear hWb hBb hzb
  generalize w2.heap.size = yb at *
  have hne : ¬w.heap.size = yb := by omega
  have hne2 : ¬yb = w.heap.size := by omega
  refine (l1Below_any 18 cb n c bo Wb hD.cur (by omega) (by omega)).mono ?_
  rintro e w3 ⟨r, hr, rfl, hD1⟩
  replace hR := hD1.row hR (by omega)
  replace kb := hD1.blk kb (by omega)
  replace hD := hD.trans hD1
  clear hD1
  by_cases hr0 : r = 0
  · subst hr0
    go_wp2_with fail
    generalize hWs : World.alloc _ _ = Ws
    obtain ⟨hBs, hzs, ks⟩ := alloc1 hWs
    have hcw2 : cb < w3.heap.size := hD.cur.lt
    replace hD := hD.below hBs
    replace hR := hR.below hBs
    replace kb := kb.below hBs kb.lt
    have hP := l1PickInt_any [0, -1, 8, 3] w3.heap.size 4 cb n c bo Ws hD.cur (by decide) (by decide) (by omega) ks.lt (fun j hj => by
      rw [ks.cell]
      match j, hj with
      | 0, _ => rfl
      | 1, _ => rfl
      | 2, _ => rfl
      | 3, _ => rfl)
    clear hWs ks hBs
    refine hP.mono ?_
    rintro e w4 ⟨j, hj, rfl, hD1⟩
    clear hP
    generalize gi [0, -1, 8, 3] j = z at *
    replace hR := hD1.row hR (by omega)
    replace kb := hD1.blk kb (by omega)
    replace hD := hD.trans hD1
    clear hD1 hj
    have k9 := Hblk.out _ hD
    have y0 := k9.cell 0
    have y1 := k9.cell 1
    have y2 := k9.frozen 0
    have y3 := k9.frozen 1
    have y4 := k9.lt
    have z0 := kb.cell 0
    have z1 := kb.cell 1
    have z2 := kb.frozen 0
    have z4 := kb.lt
    simp at y0 y1 z0 z1
    have HE := Hend.out _ z f g cap ⟨hf1, hf7⟩ (hD.store (a := ⟨yb, 0, none⟩) hw4 hcb4 (.int .i64 z)) hgw (hR.otherCell (by simp; omega))
    clear k9 kb hD hR
    go_wp2_with fail
    refine bodyPost_ret (v := .agg #[.int .i64 z, .slice (some ⟨g, 0, none⟩) f.length cap]) (by simp [results, Tryz.results122, go_sem, y0, y1]) rfl ?_
    exact HE.out
  · have d0 : ((r : Int) == 0) = false := by rw [beq_eq_false_iff_ne]; omega
    have k9 := Hblk.out _ hD
    have y0 := k9.cell 0
    have y1 := k9.cell 1
    have y2 := k9.frozen 0
    have y3 := k9.frozen 1
    have y4 := k9.lt
    have z0 := kb.cell 0
    have z1 := kb.cell 1
    have z4 := kb.lt
    simp at y0 y1 z0 z1
    by_cases hr1 : r = 1
    · subst hr1
      have hcg : cb < g := by omega
      have hgy : ¬g = yb := by omega
      have hf0 : 0 < f.length := by omega
      clear k9 z4
      go_wp2_with fail
      have hT0 : ∀ w', DrewC cb bo n c w3 w' → ((Only (fun b => b = cb ∨ b = g) w3.heap.size w3 w' ∧ CurAt w' cb bo n c) ∧ w'.cell? ⟨yb, 1, none⟩ = some (.slice (some ⟨g, 0, none⟩) f.length cap)) := fun w' h =>
        ⟨⟨h.only.mono (Nat.le_refl _) fun _ _ e => .inl e, h.cur⟩, (h.only.cell (p := ⟨yb, 1, none⟩) kb.lt (fun e => by have e2 : yb = cb := e; omega)).trans z1⟩
      refine wp_region_B (fun w' => (Only (fun b => b = cb ∨ b = g) w3.heap.size w3 w' ∧ CurAt w' cb bo n c) ∧ w'.cell? ⟨yb, 1, none⟩ = some (.slice (some ⟨g, 0, none⟩) f.length cap)) (fun _ => True) [] (by kernel_rfl) (hT0 _ ((DrewC.refl hD.cur).below (Below.refl _ _).drew)) (trivial) (fun hM => ?_)
      refine wpAnyB_take (i := 0) (v := ?_) false rfl (by kernel_rfl) (by kernel_rfl) (by kernel_rfl) (by kernel_rfl) (by kernel_rfl) (fun _ _ _ h => h) (Or.inl ⟨by rfl, ?_⟩) hM (fun hM2 => ?_)
      rotate_left
      · (intro w hSw; replace hSw := hSw.1; (try dsimp only at hSw); go_simp; try with_reducible rfl)
      replace hM := hM2
      clear hM2
      try simp only [List.getElem_toArray, List.getElem_cons_zero, Act.put, List.setIfInBounds_toArray, List.set_cons_zero, List.set_cons_succ]
      refine wpAnyB_take (i := 1) (v := ?_) false rfl (by kernel_rfl) (by kernel_rfl) (by kernel_rfl) (by kernel_rfl) (by kernel_rfl) (fun _ _ _ h => h) (Or.inl ⟨by rfl, ?_⟩) hM (fun hM2 => ?_)
      rotate_left
      · (intro w hSw; replace hSw := hSw.1; (try dsimp only at hSw); go_simp; try with_reducible rfl)
      replace hM := hM2
      clear hM2
      try simp only [List.getElem_toArray, List.getElem_cons_succ, List.getElem_cons_zero, Act.put, List.setIfInBounds_toArray, List.set_cons_zero, List.set_cons_succ]
      refine wpAnyB_take (i := 2) (v := ?_) false rfl (by kernel_rfl) (by kernel_rfl) (by kernel_rfl) (by kernel_rfl) (by kernel_rfl) (fun _ _ _ h => h) (Or.inl ⟨by rfl, ?_⟩) hM (fun hM2 => ?_)
      rotate_left
      · (intro w hSw; replace hSw := hSw.1; (try dsimp only at hSw); go_simp; try with_reducible rfl)
      replace hM := hM2
      clear hM2
      try simp only [List.getElem_toArray, List.getElem_cons_succ, List.getElem_cons_zero, Act.put, List.setIfInBounds_toArray, List.set_cons_zero, List.set_cons_succ]
      have hA0 : ∀ cs : Array Value, DrewC cb bo n c w3 (w3.alloc (.cells cs 3)).drew := fun cs => (DrewC.refl hD.cur).below ((Below.refl _ _).alloc (Nat.le_refl _) _).drew
      refine wpAnyB_one (i := 3) (by kernel_rfl) rfl (fun K hK => ?_)
      go_simp
      refine hK.out _ _ (meetB.both (hT0 _ (hA0 _)) trivial) (fun hM2 => ?_)
      clear hK K
      replace hM := hM2
      clear hM2
      try simp only [List.getElem_toArray, List.getElem_cons_succ, List.getElem_cons_zero, Act.put, List.setIfInBounds_toArray, List.set_cons_zero, List.set_cons_succ]
      have hcell : ∀ j, j < [(-1 : Int), 1, 2, 128, 9223372036854775807].length → (w3.alloc (.cells #[.int .i64 (-1), .int .i64 1, .int .i64 2, .int .i64 128, .int .i64 9223372036854775807] 3)).drew.cell? ⟨w3.heap.size, j, none⟩ = some (.int .i64 (gi [-1, 1, 2, 128, 9223372036854775807] j)) := fun j hj => by
        obtain ⟨-, -, h3, -⟩ := box_facts (w := w3) (cs := #[.int .i64 (-1), .int .i64 1, .int .i64 2, .int .i64 128, .int .i64 9223372036854775807]) (T := 3) rfl
        have h4 := h3 j
        match j, hj with
        | 0, _ => exact h4
        | 1, _ => exact h4
        | 2, _ => exact h4
        | 3, _ => exact h4
        | 4, _ => exact h4
      have hP := l1PickInt_any [-1, 1, 2, 128, 9223372036854775807] w3.heap.size 5 cb n c bo _ (hA0 #[.int .i64 (-1), .int .i64 1, .int .i64 2, .int .i64 128, .int .i64 9223372036854775807]).cur (by decide) (by decide) (by have := hD.cur.lt; omega) (by simp) hcell
      clear hcell
      refine wpAnyB_one (i := 4) (by kernel_rfl) rfl (fun K hK => ?_)
      (go_simp; go_at_call 111; refine hP.mono ?_; rintro e w4 ⟨j, hj, rfl, hD1⟩; have hD4 := (hA0 #[.int .i64 (-1), .int .i64 1, .int .i64 2, .int .i64 128, .int .i64 9223372036854775807]).trans hD1; dsimp only)
      refine hK.out _ _ (meetB.both (hT0 _ hD4) trivial) (fun hM2 => ?_)
      clear hK K
      replace hM := hM2
      clear hM2
      try simp only [List.getElem_toArray, List.getElem_cons_succ, List.getElem_cons_zero, Act.put, List.setIfInBounds_toArray, List.set_cons_zero, List.set_cons_succ]
      generalize gi [-1, 1, 2, 128, 9223372036854775807] j = z at *
      have hR4 := hD4.row hR (by omega)
      have q0 := hR4.cell 0 hf0
      have q1 := hR4.frozen 0
      have q2 := hR4.lt
      refine wpAnyB_take (i := 5) (v := ?_) false rfl (by kernel_rfl) (by kernel_rfl) (by kernel_rfl) (by kernel_rfl) (by kernel_rfl) (fun _ _ _ h => h) (Or.inl ⟨by rfl, ?_⟩) hM (fun hM2 => ?_)
      rotate_left
      · (intro w hSw; replace hSw := hSw.1; (try dsimp only at hSw); go_simp; try with_reducible rfl)
      replace hM := hM2
      clear hM2
      try simp only [List.getElem_toArray, List.getElem_cons_succ, List.getElem_cons_zero, Act.put, List.setIfInBounds_toArray, List.set_cons_zero, List.set_cons_succ]
      have hOg : Only (fun b => b = g) w4.heap.size w4 (w4.setCell ⟨g, 0, none⟩ (.int .i64 z)) := (Only.refl (fun b => b = g) _ _).setCell (p := ⟨g, 0, none⟩) (.inl rfl) _
      have hO9 : Only (fun b => b = cb ∨ b = g) w3.heap.size w3 (w4.setCell ⟨g, 0, none⟩ (.int .i64 z)) := (hD4.only.mono (Nat.le_refl _) fun _ _ e => .inl e).setCell (p := ⟨g, 0, none⟩) (.inl (.inr rfl)) _
      refine wpAnyB_one (i := 6) (by kernel_rfl) rfl (fun K hK => ?_)
      go_simp
      refine hK.out _ _ (meetB.both ⟨⟨hO9, hD4.cur.only hOg (fun b hb e => by have e2 : b = g := e; omega)⟩, (hO9.cell (p := ⟨yb, 1, none⟩) kb.lt (fun e => by rcases e with e | e; (have e2 : yb = cb := e; omega); exact hgy (Eq.symm e))).trans z1⟩ trivial) (fun hM2 => ?_)
      clear hK K
      replace hM := hM2
      clear hM2
      try simp only [List.getElem_toArray, List.getElem_cons_succ, List.getElem_cons_zero, Act.put, List.setIfInBounds_toArray, List.set_cons_zero, List.set_cons_succ]
      refine wpAnyB_done (by kernel_rfl) ?_ _
      have hD9 := (hD.trans hD4).store (a := ⟨g, 0, none⟩) hgW hcg (.int .i64 z)
      have hR9 := hR4.store 0 z
      have k9 := Hblk.out _ hD9
      have kb9 := hO9.blk kb kb.lt (fun e => by rcases e with e | e; (have e2 : yb = cb := e; omega); exact hgy (Eq.symm e))
      have HE := Hend.out _ f.length _ g cap (by rw [List.length_set]; exact ⟨hf1, hf7⟩) hD9 hgw hR9
      rw [List.length_set] at HE
      clear y0 y1 y2 y3 y4 z0 z1 hR4 hR9 hD9 hOg hO9 hD4 hD1 hD hR kb hA0 hP hM hT0 q0 q1 q2 hj
      generalize World.setCell _ _ _ = W9 at *
      have y0 := k9.cell 0
      have y1 := k9.cell 1
      have y2 := k9.frozen 0
      have y3 := k9.frozen 1
      have y4 := k9.lt
      have z0 := kb9.cell 0
      have z1 := kb9.cell 1
      have z4 := kb9.lt
      simp at y0 y1 z0 z1
      clear k9 kb9
      go_wp2_with fail
      refine bodyPost_ret (v := .agg #[.int .i64 f.length, .slice (some ⟨g, 0, none⟩) f.length cap]) (by simp [results, Tryz.results122, go_sem, y0, y1]) rfl ?_
      exact HE.out
    · have d1 : ((r : Int) == 1) = false := by rw [beq_eq_false_iff_ne]; omega
      have HE := Hend.out _ f.length f g cap ⟨hf1, hf7⟩ hD hgw hR
      clear k9 kb hD hR
      go_wp2_with fail
      refine bodyPost_ret (v := .agg #[.int .i64 f.length, .slice (some ⟨g, 0, none⟩) f.length cap]) (by simp [results, Tryz.results122, go_sem, y0, y1]) rfl ?_
      exact HE.out

/-- A number, right or not, has been drawn. -/
def RetZ (cb : Nat) (bo : Option Addr) (n c : Nat) (w : World) (e : Ending) (w' : World) : Prop := ∃ z : Int, e = .returned (.int .i64 z) ∧ DrewC cb bo n c w w'

theorem clamp7 (x : Int) : ∃ k : Nat, k ≤ 7 ∧ max 0 (min 7 x) = (k : Int) := ⟨(max 0 (min 7 x)).toNat, by omega, by omega⟩
theorem pwN_lim {k : Nat} (hk : k ≤ 7) : ∃ L : Nat, 1 ≤ L ∧ L ≤ 256 ∧ pwN k = (L : Int) := by
  refine ⟨2 ^ k, Nat.two_pow_pos _, ?_, pwN_small k (by omega)⟩
  exact Nat.le_trans (Nat.pow_le_pow_right (by omega) hk) (by decide)

set_option maxRecDepth 100000 in
set_option maxHeartbeats 4000000 in
theorem l3Set_any (x : Int) (f : List Int) (g cap cb n c : Nat) (bo : Option Addr) (w : World) (h : CurAt w cb bo n c) :
    Calls Tryz.prog 66 #[.pointer (some ⟨cb, 0, none⟩), .agg #[.int .i64 x, .slice (some ⟨g, 0, none⟩) f.length cap]] w (RetZ cb bo n c w) := by
  have hcw := h.lt
  go_enter Tryz.func66, Tryz.ntmps66
  go_wp2_with fail
  generalize hW : World.alloc _ _ = W1
  obtain ⟨hB, hs, k0⟩ := alloc1 hW
  have hD := DrewC.refl (h.below hB)
  have hs1 : w.heap.size < W1.heap.size := by omega
  clear hW hs
  have HhB := Lib.hid hB
  clear hB
  refine (l1Once_any 16 cb n c bo W1 hD.cur (by omega) (by omega)).mono ?_
  rintro e w1 ⟨bb, rfl, hD1⟩
  replace k0 := hD1.blk k0 (by omega)
  replace hD := hD.trans hD1
  clear hD1
  have hend : ∀ (wr : World) (z : Int), DrewC cb bo n c W1 wr → Hid (RetZ cb bo n c w (.returned (.int .i64 z)) wr) := fun wr z hD => Lib.hid ⟨z, rfl, hD.front HhB.out⟩
  have Hend := Lib.hid hend
  clear hend
  cases bb
  · have z0 := k0.cell 0
    have z1 := k0.cell 1
    have z2 := k0.frozen 0
    have z4 := k0.lt
    simp at z0 z1
    clear k0
    by_cases h0 : x < 0
    · have q7 : decide (x < 7) = true := decide_eq_true (by omega)
      go_wp2_with fail
      refine (l1Below_any 1 cb n c bo w1 hD.cur (by omega) (by omega)).mono ?_
      rintro e w2 ⟨u, hu, rfl, hD1⟩
      have HE := Hend.out w2 u (hD.trans hD1)
      clear hD hD1
      go_wp2_with fail
      go_ret
      exact HE.out
    · by_cases h7 : 7 < x
      · go_wp2_with fail
        refine (l1Below_any 128 cb n c bo w1 hD.cur (by omega) (by omega)).mono ?_
        rintro e w2 ⟨u, hu, rfl, hD1⟩
        have HE := Hend.out w2 u (hD.trans hD1)
        clear hD hD1
        go_wp2_with fail
        go_ret
        exact HE.out
      · obtain ⟨k, rfl⟩ : ∃ k : Nat, x = (k : Int) := ⟨x.toNat, by omega⟩
        have hk : k ≤ 7 := by omega
        obtain ⟨L, hL1, hL2, hL⟩ := pwN_lim hk
        obtain ⟨L0, hM1, hM2, hM⟩ := pwN_lim (k := 0) (by omega)
        obtain ⟨L7, hN1, hN2, hN⟩ := pwN_lim (k := 7) (by omega)
        clear h0 h7
        go_wp2_with fail
        all_goals
          (first
            | (with_reducible refine (l1Below_any L cb n c bo w1 hD.cur hL1 hL2).mono ?_)
            | (with_reducible refine (l1Below_any L0 cb n c bo w1 hD.cur hM1 hM2).mono ?_)
            | (with_reducible refine (l1Below_any L7 cb n c bo w1 hD.cur hN1 hN2).mono ?_))
          rintro e w2 ⟨u, hu, rfl, hD1⟩
          have HE := Hend.out w2 u (hD.trans hD1)
          clear hD hD1
          go_wp2_with fail
          go_ret
          exact HE.out
  · clear k0
    go_wp2_with fail
    generalize hWs : World.alloc _ _ = Ws
    obtain ⟨hBs, hzs, ks⟩ := alloc1 hWs
    have hcw2 : cb < w1.heap.size := hD.cur.lt
    replace hD := hD.below hBs
    have hcell : ∀ j, j < [(-1 : Int), 64, 127, 128, 9223372036854775807].length → Ws.cell? ⟨w1.heap.size, j, none⟩ = some (.int .i64 (gi [-1, 64, 127, 128, 9223372036854775807] j)) := fun j hj => by
      rw [ks.cell]
      match j, hj with
      | 0, _ => rfl
      | 1, _ => rfl
      | 2, _ => rfl
      | 3, _ => rfl
      | 4, _ => rfl
    have hP := l1PickInt_any [-1, 64, 127, 128, 9223372036854775807] w1.heap.size 5 cb n c bo Ws hD.cur (by decide) (by decide) (by omega) ks.lt hcell
    clear hWs ks hcell hBs
    refine hP.mono ?_
    rintro e w3 ⟨j, hj, rfl, hD1⟩
    clear hP
    have HE := Hend.out w3 (gi [-1, 64, 127, 128, 9223372036854775807] j) (hD.trans hD1)
    clear hD hD1
    generalize gi [-1, 64, 127, 128, 9223372036854775807] j = z at *
    go_wp2_with fail
    go_ret
    exact HE.out

theorem CurAt.other {w : World} {cb n c B r i : Nat} {bo : Option Addr} (h : CurAt w cb bo n c) (hb : BytesU B w bo n) (hB : B ≤ r) (hr : r < cb) (u : Value) : CurAt (w.setCell ⟨r, i, none⟩ u) cb bo n c ∧ BytesU B (w.setCell ⟨r, i, none⟩ u) bo n := by
  have hO : Only (fun b => b = r) w.heap.size w (w.setCell ⟨r, i, none⟩ u) := (Only.refl (fun b => b = r) _ _).setCell (p := ⟨r, i, none⟩) (.inl rfl) u
  have h2 := hb.only hO fun b hb e => by have e2 : b = r := e; omega
  obtain ⟨k, x, h1, k0⟩ := h.box
  exact ⟨⟨⟨k, x, h1, hO.blk k0 k0.lt fun e => by have e2 : cb = r := e; omega⟩, h2.mono (by omega), h.len⟩, h2⟩
theorem CurAt.other2 {w : World} {cb n c B r : Nat} {bo : Option Addr} (h : CurAt w cb bo n c) (hb : BytesU B w bo n) (hB : B ≤ r) (hr : r < cb) (u v : Value) : CurAt ((w.setCell ⟨r, 0, none⟩ u).setCell ⟨r, 1, none⟩ v) cb bo n c :=
  ((h.other hb hB hr u).1.other (h.other hb hB hr u).2 hB hr v).1

/-- A graph and a number have been drawn. -/
def RetGZ (w : World) (e : Ending) (w' : World) : Prop :=
  ∃ (x z : Int) (f : List Int) (g cap : Nat), (1 ≤ f.length ∧ f.length ≤ 6) ∧ e = .returned (.tuple #[.agg #[.int .i64 x, .slice (some ⟨g, 0, none⟩) f.length cap], .int .i64 z]) ∧ w.heap.size ≤ g ∧ RowAt w' g cap f ∧ Below w.heap.size w w'




/-- A graph, right or not, has been drawn from a text. -/
def RetAN (w : World) (e : Ending) (w' : World) : Prop :=
  ∃ (x : Int) (f : List Int) (g cap : Nat), (1 ≤ f.length ∧ f.length ≤ 6) ∧ e = .returned (.agg #[.int .i64 x, .slice (some ⟨g, 0, none⟩) f.length cap]) ∧ w.heap.size ≤ g ∧ RowAt w' g cap f ∧ Below w.heap.size w w'

end Go.Proofs.YtjikmjhpmkakoaaGreatDoor
