/-
  The drawing of graphs that often have two sides: l20Graph and what draws by it. For texts of at most 2^20 bytes.
-/
import Derived.Test.YtgklgheaojoimaaPk19
import Derived.Test.YtgklgheaojoimaaRemE
namespace Go.Proofs.Ytgklgheaojoimaa
open Go.RowKit

/-- A graph in box y, its rows f in a row gb of their own behind block r. -/
structure DrawH (W wr : World) (r y N gb cp : Nat) (f : List Int) : Prop where
  only : Only (fun b => b = y) W.heap.size W wr
  box : Blk wr y #[.int .i64 N, .slice (some ⟨gb, 0, none⟩) N cp] 26
  row : RowAt wr gb cp f
  len : f.length = N
  ne : gb ≠ y
  lo : r < gb
theorem DrawH.edge {W wr w5 : World} {r y N gb cp g5 cp5 : Nat} {f f5 : List Int} (h : DrawH W wr r y N gb cp f) (hr : r < y) (hB : Below wr.heap.size wr w5) (hg : wr.heap.size ≤ g5) (hR : RowAt w5 g5 cp5 f5) (hl : f5.length = N) :
    DrawH W ((w5.setCell ⟨y, 0, none⟩ (.int .i64 N)).setCell ⟨y, 1, none⟩ (.slice (some ⟨g5, 0, none⟩) N cp5)) r y N g5 cp5 f5 := by
  have hy := h.box.lt
  refine ⟨((h.only.more hB h.only.size).setCell (p := ⟨y, 0, none⟩) (.inl rfl) _).setCell (p := ⟨y, 1, none⟩) (.inl rfl) _, ?_, (hR.otherCell (by simp; omega)).otherCell (by simp; omega), hl, by omega, by omega⟩
  have := ((h.box.below hB hy).store 0 (.int .i64 N)).store 1 (.slice (some ⟨g5, 0, none⟩) N cp5)
  simpa using this

set_option maxRecDepth 100000 in
set_option maxHeartbeats 4000000 in
theorem l20Graph_any (cb n c : Nat) (bo : Option Addr) (w : World) (h : CurAt w cb bo n c) :
    Calls Try.prog 68 #[.pointer (some ⟨cb, 0, none⟩)] w (RetAG cb bo n c w) := by
  have hcw := h.lt
  go_enter Try.func68, Try.ntmps68
  go_wp2_with fail
  generalize hW : World.alloc _ _ = W1
  obtain ⟨hB, hs, k0⟩ := alloc1 hW
  have hD := DrewC.refl (h.below hB)
  have hs1 : w.heap.size < W1.heap.size := by omega
  clear hW hs
  have HhB := Lib.hid hB
  clear hB
  have Hk0 := Lib.hid k0
  clear k0
  refine (l2Any_any cb n c bo W1 hD.cur).mono ?_
  rintro e w1 ⟨x, f, g, cap, hf, rfl, hg, hR, hD1⟩
  replace hD := hD.trans hD1
  clear hD1
  have hend : ∀ (wr : World) (x : Int) (f : List Int) (g cap : Nat), (1 ≤ f.length ∧ f.length ≤ 6) → DrewC cb bo n c W1 wr → w.heap.size < g → RowAt wr g cap f → Hid (RetAG cb bo n c w (.returned (.agg #[.int .i64 x, .slice (some ⟨g, 0, none⟩) f.length cap])) ((wr.setCell ⟨w.heap.size, 0, none⟩ (.int .i64 x)).setCell ⟨w.heap.size, 1, none⟩ (.slice (some ⟨g, 0, none⟩) f.length cap))) := fun wr x f g cap hv hD hg hR => Lib.hid (by
    obtain ⟨h1, h2⟩ := end_graph (N := f.length) (x := x) HhB.out hcw hD hg hR
    exact ⟨x, f, g, cap, hv, rfl, Nat.le_of_lt hg, h1, h2⟩)
  have hblk : ∀ wr, DrewC cb bo n c W1 wr → Blk wr w.heap.size #[.int .i64 0, .slice none 0 0] 26 := fun wr hD => hD.blk Hk0.out (by omega)
  have Hend := Lib.hid hend
  have Hblk := Lib.hid hblk
  clear hend hblk
  have hsz := hD.only.size
  have hgl := hR.lt
  go_wp2_with fail
  generalize hWb : World.alloc _ _ = Wb
  obtain ⟨hBb, hzb, kb⟩ := alloc1 hWb
  replace hD := hD.below hBb
  replace hR := hR.below hBb
  have hI := specIsGraph_any x f (some ⟨g, 0, none⟩) cap Wb hR.ints (by omega)
  have hcb := hD.cur.lt
  clear hWb hBb hzb
  generalize w1.heap.size = yb at *
  have hyl := kb.lt
  have x0 := kb.cell 0
  have x1 := kb.cell 1
  simp at x0 x1
  have HhD := Lib.hid hD
  clear hD
  have HhR := Lib.hid hR
  clear hR
  have Hkb := Lib.hid kb
  clear kb
  go_wp2_with fail
  refine hI.mono ?_
  rintro e w2 ⟨rfl, hB2⟩
  have hD2 := HhD.out.below hB2
  have hR2 := HhR.out.below hB2
  have k2 := Hkb.out.below hB2 hyl
  clear HhD HhR Hkb hI hB2 x0 x1
  cases hv : isGraphB x f
  · have k9 := Hblk.out _ hD2
    have y0 := k9.cell 0
    have y1 := k9.cell 1
    have y2 := k9.frozen 0
    have y3 := k9.frozen 1
    have y4 := k9.lt
    have x0 := k2.cell 0
    have x1 := k2.cell 1
    have x4 := k2.lt
    simp at x0 x1 y0 y1
    have HE := Hend.out _ x f g cap hf hD2 (by omega) hR2
    clear k9 k2 hD2 hR2
    go_wp2_with fail
    refine bodyPost_ret (v := .agg #[.int .i64 x, .slice (some ⟨g, 0, none⟩) f.length cap]) (by simp [results, Try.results68, go_sem, y0, y1]) rfl ?_
    exact HE.out
  obtain ⟨rfl, -⟩ := VG.of hv
  clear hv
  have hyc : cb ≠ yb := by omega
  go_wp2_with fail
  refine (l1Once_any 3 cb n c bo w2 hD2.cur (by omega) (by omega)).mono ?_
  rintro e w3 ⟨b3, rfl, hD3⟩
  replace hR2 := hD3.row hR2 (by omega)
  replace k2 := hD3.blk k2 (by omega)
  replace hD2 := hD2.trans hD3
  clear hD3
  cases b3
  rotate_left
  · have k9 := Hblk.out _ hD2
    have y0 := k9.cell 0
    have y1 := k9.cell 1
    have y2 := k9.frozen 0
    have y3 := k9.frozen 1
    have y4 := k9.lt
    have x0 := k2.cell 0
    have x1 := k2.cell 1
    have x4 := k2.lt
    simp at x0 x1 y0 y1
    have HE := Hend.out _ f.length f g cap hf hD2 (by omega) hR2
    clear k9 k2 hD2 hR2
    go_wp2_with fail
    refine bodyPost_ret (v := .agg #[.int .i64 f.length, .slice (some ⟨g, 0, none⟩) f.length cap]) (by simp [results, Try.results68, go_sem, y0, y1]) rfl ?_
    exact HE.out
  obtain ⟨N, hN⟩ : ∃ N, N = f.length := ⟨_, rfl⟩
  have hH : DrawH w3 w3 w.heap.size yb N g cap f := ⟨Only.refl _ _ _, hN ▸ k2, hR2, hN.symm, by omega, by omega⟩
  have hN1 : 1 ≤ N := by omega
  have hN7 : N ≤ 7 := by omega
  have HN6 : Hid (N ≤ 6) := Lib.hid (by omega)
  have hry : w.heap.size < yb := by omega
  rw [← hN]
  clear hN hf k2 hR2
  have HhD2 := Lib.hid hD2
  clear hD2
  have HhH := Lib.hid hH
  clear hH
  go_wp2_with fail
  go_loopw [4] (fun i wr => ∃ (v gb cp : Nat) (f : List Int), v ≤ N ∧ i = .int .i64 v ∧ DrawH w3 wr w.heap.size yb N gb cp f) (fun i _ => N - (intOf i).toNat)
  case atStart => exact ⟨0, _, _, _, by omega, rfl, HhH.out⟩
  case round =>
    clear HhH
    obtain ⟨v, gb, cp, f, hv, rfl, hH⟩ := hrel
    have x0 := hH.box.cell 0
    have x1 := hH.box.cell 1
    have ozr := hH.box.lt
    simp at x0 x1
    by_cases hlt : v < N
    · have HhH := Lib.hid hH
      clear hH
      have hmod : Int.tmod (v : Int) 2 = ((v % 2 : Nat) : Int) := by rw [Int.tmod_eq_emod_of_nonneg (by omega)]; omega
      have hm2 : v % 2 ≤ v + 1 := by omega
      go_wp2_with fail
      go_loopw [5] (fun i wr => ∃ (u gb cp : Nat) (f : List Int), u ≤ v + 1 ∧ i = .int .i64 u ∧ DrawH w3 wr w.heap.size yb N gb cp f) (fun i _ => v + 2 - (intOf i).toNat)
      case atStart => exact ⟨v % 2, _, _, _, hm2, by first | rfl | exact congrArg (Value.int .i64) hmod, HhH.out⟩
      case round =>
        clear HhH hmod hm2 x0 x1 ozr
        obtain ⟨u, gb, cp, f, hu, rfl, hH⟩ := hrel
        by_cases hut : u < v
        · have x0 := hH.box.cell 0
          have x1 := hH.box.cell 1
          have ozr := hH.box.lt
          simp at x0 x1
          have hA := specRemoveEdge_any f.length f v u (some ⟨gb, 0, none⟩) cp wr hH.row.ints (by have := hH.len; omega) (by have := hH.len; omega)
          rw [hH.len] at hA
          have HhH := Lib.hid hH
          clear hH
          have HhA := Lib.hid hA
          clear hA
          go_wp2_with fail
          refine HhA.out.mono ?_
          rintro e w5 ⟨g5, cp5, ok5, f5, rfl, hB5, hg5, hR5, hl5⟩
          have hD6 := HhH.out.edge hry hB5 hg5 hR5 hl5
          have k5 := HhH.out.box.below hB5 ozr
          have r0 := k5.cell 0
          have r1 := k5.cell 1
          have r2 := k5.frozen 0
          have r3 := k5.frozen 1
          have r4 := k5.lt
          simp at r0 r1
          clear HhA HhH k5 hB5 hg5 hR5 x0 x1 ozr
          have HhD6 := Lib.hid hD6
          clear hD6
          go_wp2_with fail
          go_roundw
          case rel => exact ⟨u + 2, g5, cp5, _, by omega, by go_num, HhD6.out⟩
          case measure => simp [intOf]; omega
        · have HhH := Lib.hid hH
          clear hH
          go_wp2_with fail
          go_roundw
          case rel => exact ⟨v + 1, gb, cp, f, by omega, by go_num, HhH.out⟩
          case measure => simp [intOf]; omega
    · obtain rfl : v = N := by omega
      have hD9 : DrewC cb bo n c W1 wr := by
        refine ⟨HhD2.out.only.trans (hH.only.mono HhD2.out.only.size fun b hb e => by have e2 : b = yb := e; omega), HhD2.out.cur.only hH.only fun b hb e => by have e2 : b = yb := e; omega⟩
      have k9 := Hblk.out _ hD9
      have y0 := k9.cell 0
      have y1 := k9.cell 1
      have y2 := k9.frozen 0
      have y3 := k9.frozen 1
      have y4 := k9.lt
      simp at y0 y1
      have HE := Hend.out _ f.length f gb cp (by have := hH.len; have := HN6.out; omega) hD9 hH.lo hH.row
      rw [hH.len] at HE
      clear k9 hD9 hH
      go_wp2_with fail
      refine bodyPost_ret (v := .agg #[.int .i64 v, .slice (some ⟨gb, 0, none⟩) v cp]) (by simp [results, Try.results68, go_sem, y0, y1]) rfl ?_
      exact HE.out

end Go.Proofs.Ytgklgheaojoimaa
