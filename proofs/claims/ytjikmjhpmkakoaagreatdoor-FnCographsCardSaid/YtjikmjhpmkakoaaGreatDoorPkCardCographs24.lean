/-
  CotreeOf on both sides. For at most 2^20 rows.
  DrawCotreeOf, DrawFindPathOfFour and DrawGraphOfCotree. For texts of at most 2^20 bytes.
  Obstacles of graphs of at most six vertices, and the graphs that can be pruned to the end, that keep distances. No conditions beyond that.
  CountColorings of the program, and how many colorings there are. For at most 2^20 rows.
  ColoringWith and ChromaticNumber of the reference. For at most 2^20 rows.
  CliqueCoverOf of the reference. For at most 2^20 rows.
  CliqueCoverOf of the program. For at most 2^20 rows.
  Plain laws of colourings: a colour list is a colouring; counts and the first colouring agree. No program.
  LargestIndependent of the reference. For at most 2^20 rows.
  Plain laws for FnColors: the chromatic number, the count and the coloring agree; the cover by cliques covers. No program.
  IsColoring of the program at a list that colours rightly. For graphs of at most seven vertices.
  The walk of IsSimple of the reference, and what both sides say. For at most 2^20 rows.
-/
import Derived.Test.YtjikmjhpmkakoaaGreatDoorPkCardCographs23
import Derived.Test.YtjikmjhpmkakoaaGreatDoorPkCardCographs14
import Derived.Deep.CutRange
import Derived.Test.YtjikmjhpmkakoaaGreatDoorPkCardCographs18
import Derived.Test.YtjikmjhpmkakoaaGreatDoorPkCardCographs16
import Derived.Test.YtjikmjhpmkakoaaGreatDoorPkCardCographs06
import Derived.Deep.RegionHeld3
import Derived.Test.YtjikmjhpmkakoaaGreatDoorPkCardCographs22
import Derived.Test.YtjikmjhpmkakoaaGreatDoorPkCardCographs05
import Derived.Test.YtjikmjhpmkakoaaGreatDoorPkCardCographs13
import Derived.Test.YtjikmjhpmkakoaaGreatDoorPkCardCographs11
import Derived.Test.YtjikmjhpmkakoaaGreatDoorPkCardCographs20
import Derived.Test.YtjikmjhpmkakoaaGreatDoorPkCardCographs03
import Derived.StillTailTactics
namespace Go.Proofs.YtjikmjhpmkakoaaGreatDoor
open Go.RowKit

/-- What CotreeOf hands back: the text of a graph without a path of four vertices. -/
def ctS (n : Int) (rs : List Int) : ByteArray := if cogB n rs = true then bs (ctV rs) else ⟨#[]⟩
theorem ctS_no {n : Int} {rs : List Int} (h : cogB n rs = false) : ctS n rs = ⟨#[]⟩ := by unfold ctS; rw [if_neg (by rw [h]; decide)]
theorem ctS_of {n : Int} {rs : List Int} (h : cogB n rs = true) : ctS n rs = bs (ctV rs) := by unfold ctS; rw [if_pos h]
theorem cogB_graph {n : Int} {rs : List Int} (h : cogB n rs = true) : isGraphB n rs = true := by unfold cogB at h; rw [Bool.and_eq_true] at h; exact h.1
theorem cnt_all {rs : List Int} (g : VG rs) : 1 ≤ cnt (2 ^ rs.length - 1) ∧ cnt (2 ^ rs.length - 1) ≤ 7 := by
  have hp := g.pow
  have h2 := cnt_zero (S := 2 ^ rs.length - 1) (by omega) (by omega)
  exact ⟨by omega, cnt_le _⟩

set_option maxRecDepth 100000 in
set_option maxHeartbeats 2000000 in
theorem specCotree_any (n : Int) (rs : List Int) (ro : Option Addr) (rc : Nat) (w : World) (hr : IntsAt w ro rs) (hrl : rs.length ≤ 1048576) :
    Calls Tryz.prog 24 #[.agg #[.int .i64 n, .slice ro rs.length rc]] w fun e w' => e = .returned (.tuple #[.string (ctS n rs), .bool (cogB n rs)]) ∧ Below w.heap.size w w' := by
  go_enter Tryz.func24, Tryz.ntmps24
  go_wp2_with fail
  generalize hW : w.alloc _ = W1
  obtain ⟨hB, -, k0⟩ := alloc1 hW
  replace hr := hr.below hB
  have hb0 := k0.lt
  have hc0 := k0.cell 0
  have hc1 := k0.cell 1
  simp at hc0 hc1
  clear hW k0
  have HhB := Lib.hid hB
  clear hB
  obtain ⟨m, hm0⟩ : ∃ m : Later W1, m.w = W1 := ⟨Later.refl _, rfl⟩
  refine (fun h => hm0 ▸ h) ?_
  clear hm0
  have hC := fun m : Later W1 => specCog_any n rs ro rc m.w (hr.later m) hrl
  cases hv : cogB n rs
  · have HE := Lib.hid (ctS_no hv)
    have HV := Lib.hid hv
    rw [hv] at hC
    go_wp2_with fail
    refine (Calls.later m (hC m)).mono ?_
    rintro e w' ⟨rfl, m, rfl⟩
    go_wp2_with fail
    go_ret2
    exact ⟨by rw [HE.out, HV.out]; rfl, below_later HhB.out m⟩
  · have HE := Lib.hid (ctS_of hv)
    have HV := Lib.hid hv
    rw [hv] at hC
    have hg := cogB_graph hv
    obtain ⟨rfl, g⟩ := VG.of hg
    have hp := (cog_iff hg).1 hv
    have hT := fun (ho : Option Addr) (hc : Nat) (w' : World) (h1 : IntsAt w' ro rs) (h2 : IntsAt w' ho (compl rs)) => specText_any rs (compl rs) rs.length ro ho rc hc (Co.compl g) hp rfl 7 (2 ^ rs.length - 1) w' (cnt_all g).2 (cnt_all g).1 (all_lt _) h1 h2
    have HCT : Hid (txtF rs (compl rs) 7 (2 ^ rs.length - 1) = ctV rs) := rfl
    have hco := fun m : Later W1 => specCompl_any rs ro rc m.w (hr.later m) hg
    have hg1 := g.pos
    have hg2 := g.le
    obtain ⟨hp1, hp2⟩ := g.pow
    have hq := pwN_small rs.length (by omega)
    have q1 : IntKind.i64.wrap (((2 ^ rs.length : Nat) : Int) - 1) = ((2 ^ rs.length - 1 : Nat) : Int) := by rw [IntKind_i64_in _ (by omega) (by omega)]; omega
    generalize txtF rs (compl rs) 7 (2 ^ rs.length - 1) = X at *
    generalize 2 ^ rs.length - 1 = T1 at *
    generalize 2 ^ rs.length = T0 at *
    have HT := Lib.hid hT
    clear hT hp
    go_wp2_with fail
    refine (Calls.later m (hC m)).mono ?_
    rintro e w' ⟨rfl, m, rfl⟩
    clear hC
    go_wp2_with fail
    refine (hco m).mono ?_
    rintro e w2 ⟨ho, hc, rfl, hB2, hO⟩
    have hBm := below_more m.below hB2
    clear hco
    go_upto_region 4 with fail
    generalize hW3 : World.alloc _ _ = W3
    obtain ⟨hB3, -, k3⟩ := alloc1 hW3
    have hBm3 := below_more hBm hB3
    have x0 := k3.cell 0
    have x1 := k3.cell 1
    have xl := k3.lt
    simp at x0 x1
    have y0 := (hBm3.cell (p := ⟨w.heap.size, 0, none⟩) hb0).trans hc0
    have y1 := (hBm3.cell (p := ⟨w.heap.size, 1, none⟩) hb0).trans hc1
    have yl := Nat.lt_of_lt_of_le hb0 hBm3.size
    have hT := fun m : Later W3 => HT.out ho hc m.w ((hr.below hBm3).later m) ((hO.below hB3).later m)
    have HB3 := Lib.hid (HhB.out.trans (hBm3.mono HhB.out.size))
    generalize w2.heap.size = b2 at *
    clear hW3 hB3 k3 hB2 hBm hBm3 hO HT hc0 hc1 hb0 hr HhB
    obtain ⟨m, hm0⟩ : ∃ m : Later W3, m.w = W3 := ⟨Later.refl _, rfl⟩
    refine (fun h => hm0 ▸ h) ?_
    clear hm0
    refine wp_region_later m rfl (by kernel_rfl) (by kernel_rfl) ?_
    repeat (go_big_quiet_step ((first | (go_at_call 80; exact Calls.later _ (hT _)))))
    refine wpQuiet_nil ?_
    rintro _ ⟨m, rfl⟩
    go_wp2_with fail
    go_ret2
    exact ⟨by rw [HE.out, HV.out, ← HCT.out]; rfl, below_later HB3.out m⟩

set_option maxRecDepth 100000 in
set_option maxHeartbeats 2000000 in
theorem implCotree_any (n : Int) (rs : List Int) (ro : Option Addr) (rc : Nat) (w : World) (hr : IntsAt w ro rs) (hrl : rs.length ≤ 1048576) :
    Calls Tryz.prog 23 #[.agg #[.int .i64 n, .slice ro rs.length rc]] w fun e w' => e = .returned (.tuple #[.string (ctS n rs), .bool (cogB n rs)]) ∧ Below w.heap.size w w' := by
  go_enter Tryz.func23, Tryz.ntmps23
  go_wp2_with fail
  generalize hW : w.alloc _ = W1
  obtain ⟨hB, -, k0⟩ := alloc1 hW
  replace hr := hr.below hB
  have hb0 := k0.lt
  have hc0 := k0.cell 0
  have hc1 := k0.cell 1
  simp at hc0 hc1
  clear hW k0
  have HhB := Lib.hid hB
  clear hB
  obtain ⟨m, hm0⟩ : ∃ m : Later W1, m.w = W1 := ⟨Later.refl _, rfl⟩
  refine (fun h => hm0 ▸ h) ?_
  clear hm0
  have hC := fun m : Later W1 => implCog_any n rs ro rc m.w (hr.later m) hrl
  cases hv : cogB n rs
  · have HE := Lib.hid (ctS_no hv)
    have HV := Lib.hid hv
    rw [hv] at hC
    go_wp2_with fail
    refine (Calls.later m (hC m)).mono ?_
    rintro e w' ⟨rfl, m, rfl⟩
    go_wp2_with fail
    go_ret2
    exact ⟨by rw [HE.out, HV.out]; rfl, below_later HhB.out m⟩
  · have HE := Lib.hid (ctS_of hv)
    have HV := Lib.hid hv
    rw [hv] at hC
    have hg := cogB_graph hv
    obtain ⟨rfl, g⟩ := VG.of hg
    have hp := (cog_iff hg).1 hv
    have hg1 := g.pos
    have hg2 := g.le
    have hT := fun (ho : Option Addr) (hc : Nat) (w' : World) (h1 : IntsAt w' ro rs) (h2 : IntsAt w' ho (compl rs)) => implText_any rs (compl rs) rs.length ro ho rc hc (Co.compl g) hp rfl 7 (2 ^ rs.length - 1) w' (cnt_all g).2 (cnt_all g).1 (all_lt _) h1 h2
    have HCT : Hid (txtF rs (compl rs) 7 (2 ^ rs.length - 1) = ctV rs) := rfl
    have hco := fun m : Later W1 => implCompl_any rs ro rc m.w (hr.later m) hg
    have hAll := fun w' : World => implAll_any rs.length (.slice ro rs.length rc) hg2 w'
    generalize txtF rs (compl rs) 7 (2 ^ rs.length - 1) = X at *
    generalize 2 ^ rs.length - 1 = T1 at *
    have HT := Lib.hid hT
    clear hT hp
    go_wp2_with fail
    refine (Calls.later m (hC m)).mono ?_
    rintro e w' ⟨rfl, m, rfl⟩
    clear hC
    go_wp2_with fail
    refine (hco m).mono ?_
    rintro e w2 ⟨ho, hc, rfl, hB2, hO⟩
    have hBm := below_more m.below hB2
    clear hco
    go_upto_region 4 with fail
    generalize hW3 : World.alloc _ _ = W3
    obtain ⟨hB3, -, k3⟩ := alloc1 hW3
    have hBm3 := below_more hBm hB3
    have x0 := k3.cell 0
    have x1 := k3.cell 1
    have xl := k3.lt
    simp at x0 x1
    have y0 := (hBm3.cell (p := ⟨w.heap.size, 0, none⟩) hb0).trans hc0
    have y1 := (hBm3.cell (p := ⟨w.heap.size, 1, none⟩) hb0).trans hc1
    have yl := Nat.lt_of_lt_of_le hb0 hBm3.size
    have hT := fun m : Later W3 => HT.out (some ⟨ho, 0, none⟩) hc m.w ((hr.below hBm3).later m) ((hO.below hB3).later m)
    have HB3 := Lib.hid (HhB.out.trans (hBm3.mono HhB.out.size))
    generalize w2.heap.size = b2 at *
    clear hW3 hB3 k3 hB2 hBm hBm3 hO HT hc0 hc1 hb0 hr HhB
    obtain ⟨m, hm0⟩ : ∃ m : Later W3, m.w = W3 := ⟨Later.refl _, rfl⟩
    refine (fun h => hm0 ▸ h) ?_
    clear hm0
    refine wp_region_later m rfl (by kernel_rfl) (by kernel_rfl) ?_
    repeat (go_big_quiet_step ((first | (go_at_call 46; exact Calls.later _ (hAll _)) | (go_at_call 77; exact Calls.later _ (hT _)))))
    refine wpQuiet_nil ?_
    rintro _ ⟨m, rfl⟩
    go_wp2_with fail
    go_ret2
    exact ⟨by rw [HE.out, HV.out, ← HCT.out]; rfl, below_later HB3.out m⟩

end Go.Proofs.YtjikmjhpmkakoaaGreatDoor

namespace Go.Proofs.YtjikmjhpmkakoaaGreatDoor
open Go.RowKit

set_option maxRecDepth 100000 in
set_option maxHeartbeats 4000000 in
theorem DrawCotreeOf_any (n c : Nat) (bo : Option Addr) (w : World) (h : BytesU w.heap.size w bo n) (hn : n ≤ 1048576) :
    Calls Tryz.prog 22 #[.slice bo n c] w (RetAN w) := by
  go_enter Tryz.func22, Tryz.ntmps22
  go_wp2_with fail
  generalize hW : World.alloc _ _ = W1
  obtain ⟨hB, hs, k0⟩ := alloc1 hW
  have hs1 : w.heap.size < W1.heap.size := by omega
  have hb1 : BytesU W1.heap.size W1 bo n := (h.only (Only.of (X := fun _ => False) hB) fun _ _ h => h).mono (by omega)
  clear hW hs
  refine (l1New_any n c bo W1 hb1 hn).mono ?_
  rintro e w1 ⟨cb, rfl, hB1, hcb, hC⟩
  replace k0 := k0.below hB1 hs1
  have hs2 := hB1.size
  replace hB := hB.trans (hB1.mono (by omega))
  have HhB := Lib.hid hB
  clear hB
  have Hk0 := Lib.hid k0
  clear k0
  clear hb1 hB1 h
  go_wp2_with fail
  refine (l17Graph_any cb n c bo w1 hC).mono ?_
  rintro e w2 ⟨x, f, g, cap, hf, rfl, hg, hR, hD⟩
  have k9 := hD.blk Hk0.out (by omega)
  have y0 := k9.cell 0
  have y1 := k9.cell 1
  have y2 := k9.frozen 0
  have y3 := k9.frozen 1
  have y4 := k9.lt
  simp at y0 y1
  have HE := Lib.hid (show RetAN w (.returned (.agg #[.int .i64 x, .slice (some ⟨g, 0, none⟩) f.length cap])) ((w2.setCell ⟨w.heap.size, 0, none⟩ (.int .i64 x)).setCell ⟨w.heap.size, 1, none⟩ (.slice (some ⟨g, 0, none⟩) f.length cap)) from
    ⟨x, f, g, cap, hf, rfl, by omega, (hR.otherCell (by simp; omega)).otherCell (by simp; omega), ((HhB.out.trans (hD.only.below (by omega) fun b hb e => by have e2 : b = cb := e; omega)).setCell (by simp) _).setCell (by simp) _⟩)
  clear k9 hD hR HhB Hk0 hC
  go_wp2_with fail
  refine bodyPost_ret (v := .agg #[.int .i64 x, .slice (some ⟨g, 0, none⟩) f.length cap]) (by simp [results, Tryz.results22, go_sem, y0, y1]) rfl ?_
  exact HE.out

set_option maxRecDepth 100000 in
set_option maxHeartbeats 4000000 in
theorem DrawFindPathOfFour_any (n c : Nat) (bo : Option Addr) (w : World) (h : BytesU w.heap.size w bo n) (hn : n ≤ 1048576) :
    Calls Tryz.prog 40 #[.slice bo n c] w (RetAN w) := by
  go_enter Tryz.func40, Tryz.ntmps40
  go_wp2_with fail
  generalize hW : World.alloc _ _ = W1
  obtain ⟨hB, hs, k0⟩ := alloc1 hW
  have hs1 : w.heap.size < W1.heap.size := by omega
  have hb1 : BytesU W1.heap.size W1 bo n := (h.only (Only.of (X := fun _ => False) hB) fun _ _ h => h).mono (by omega)
  clear hW hs
  refine (l1New_any n c bo W1 hb1 hn).mono ?_
  rintro e w1 ⟨cb, rfl, hB1, hcb, hC⟩
  replace k0 := k0.below hB1 hs1
  have hs2 := hB1.size
  replace hB := hB.trans (hB1.mono (by omega))
  have HhB := Lib.hid hB
  clear hB
  have Hk0 := Lib.hid k0
  clear k0
  clear hb1 hB1 h
  go_wp2_with fail
  refine (l17Graph_any cb n c bo w1 hC).mono ?_
  rintro e w2 ⟨x, f, g, cap, hf, rfl, hg, hR, hD⟩
  have k9 := hD.blk Hk0.out (by omega)
  have y0 := k9.cell 0
  have y1 := k9.cell 1
  have y2 := k9.frozen 0
  have y3 := k9.frozen 1
  have y4 := k9.lt
  simp at y0 y1
  have HE := Lib.hid (show RetAN w (.returned (.agg #[.int .i64 x, .slice (some ⟨g, 0, none⟩) f.length cap])) ((w2.setCell ⟨w.heap.size, 0, none⟩ (.int .i64 x)).setCell ⟨w.heap.size, 1, none⟩ (.slice (some ⟨g, 0, none⟩) f.length cap)) from
    ⟨x, f, g, cap, hf, rfl, by omega, (hR.otherCell (by simp; omega)).otherCell (by simp; omega), ((HhB.out.trans (hD.only.below (by omega) fun b hb e => by have e2 : b = cb := e; omega)).setCell (by simp) _).setCell (by simp) _⟩)
  clear k9 hD hR HhB Hk0 hC
  go_wp2_with fail
  refine bodyPost_ret (v := .agg #[.int .i64 x, .slice (some ⟨g, 0, none⟩) f.length cap]) (by simp [results, Tryz.results40, go_sem, y0, y1]) rfl ?_
  exact HE.out

/-- The texts that are drawn beside cotrees. -/
def cotreeWords : List ByteArray := [⟨#[]⟩, ⟨#[48]⟩, ⟨#[49]⟩, ⟨#[40, 43, 32, 48, 32, 49, 41]⟩, ⟨#[40, 43, 32, 49, 32, 48, 41]⟩, ⟨#[40, 42, 32, 48, 32, 40, 42, 32, 49, 32, 50, 41, 41]⟩, ⟨#[40, 43, 32, 48, 41]⟩, ⟨#[40, 43, 48, 32, 49, 41]⟩, ⟨#[40, 42, 32, 48, 32, 48, 41]⟩, ⟨#[40, 42, 32, 48, 32, 49]⟩, ⟨#[40, 42, 32, 48, 32, 49, 41, 41]⟩, ⟨#[40, 43, 32, 48, 32, 55, 41]⟩, ⟨#[40, 42, 32, 48, 32, 40, 43, 32, 49, 32, 50, 41, 41]⟩]

/-- A text of a bounded size has been drawn. -/
def RetWd (w : World) (e : Ending) (w' : World) : Prop := ∃ s : ByteArray, e = .returned (.string s) ∧ s.size ≤ 60 ∧ Below w.heap.size w w'

set_option maxRecDepth 100000 in
set_option maxHeartbeats 4000000 in
theorem drawCotreeText_any (n c : Nat) (bo : Option Addr) (w : World) (h : BytesU w.heap.size w bo n) (hn : n ≤ 1048576) :
    Calls Tryz.prog 38 #[.slice bo n c] w (RetWd w) := by
  go_enter Tryz.func38, Tryz.ntmps38
  go_wp2_with fail
  refine (l1New_any n c bo w h hn).mono ?_
  rintro e w1 ⟨cb, rfl, hB1, hcb, hC⟩
  go_wp2_with fail
  refine (l17Graph_any cb n c bo w1 hC).mono ?_
  rintro e w2 ⟨x, f, g, cap, hf, rfl, hg, hR, hD⟩
  have hsz : (ctS x f).size ≤ 60 := by
    cases h1 : cogB x f
    · rw [ctS_no h1]; decide
    · rw [ctS_of h1]
      have h2 := cogB_graph h1
      obtain ⟨rfl, -⟩ := VG.of h2
      have h3 := ctV_len h2 ((cog_iff h2).1 h1)
      have h4 : (bs (ctV f)).size = (ctV f).length := bs_size _
      omega
  have hCt := specCotree_any x f (some ⟨g, 0, none⟩) cap w2 hR.ints (by omega)
  go_wp2_with fail
  refine hCt.mono ?_
  rintro e w3 ⟨rfl, hB3⟩
  replace hD := hD.below hB3
  have hB := hB1.trans (hD.only.below (B' := w.heap.size) (Nat.le_trans hB1.size (Nat.le_refl _)) fun b hb e => by have e2 : b = cb := e; omega)
  have hpick : ∀ (w4 : World), DrewC cb bo n c w1 w4 → Calls Tryz.prog 96 #[.pointer (some ⟨cb, 0, none⟩), .slice (some ⟨w4.heap.size, 0, none⟩) 13 13] (w4.alloc (.cells (cotreeWords.map Value.string).toArray 9)) fun e w' => ∃ s : ByteArray, e = .returned (.string s) ∧ s.size ≤ 60 ∧ DrewC cb bo n c w1 w' := fun w4 hD4 => by
    have hA : Below w4.heap.size w4 (w4.alloc (.cells (cotreeWords.map Value.string).toArray 9)) := (Below.refl _ _).alloc (Nat.le_refl _) _
    have hD5 := hD4.below hA
    have ks := Blk.made w4 (cotreeWords.map Value.string).toArray 9 rfl
    refine (l1Pick_any cotreeWords w4.heap.size 13 cb n c bo _ hD5.cur (by decide) (by decide) (by have := hD4.cur.lt; omega) ks.lt (fun j hj => by rw [ks.cell]; simp [hj])).mono ?_
    rintro e w' ⟨x, hx, rfl, hD6⟩
    exact ⟨x, rfl, (by decide : ∀ x ∈ cotreeWords, x.size ≤ 60) x hx, hD5.trans hD6⟩
  have hEnd : ∀ (w' : World) (s : ByteArray), s.size ≤ 60 → DrewC cb bo n c w1 w' → RetWd w (.returned (.string s)) w' := fun w' s hs h => ⟨s, rfl, hs, hB1.trans (h.only.below (B' := w.heap.size) hB1.size fun b hb e => by have e2 : b = cb := e; omega)⟩
  have hOn := fun (w' : World) (h : CurAt w' cb bo n c) => l1Once_any 4 cb n c bo w' h (by omega) (by omega)
  generalize ctS x f = S at *
  cases hb : cogB x f
  · have Hhpick := Lib.hid hpick
    clear hpick
    have HhEnd := Lib.hid hEnd
    clear hEnd
    go_wp2_with fail
    refine (Hhpick.out w3 hD).mono ?_
    rintro e w5 ⟨s, rfl, hs, hD5⟩
    have HE := Lib.hid (HhEnd.out w5 s hs hD5)
    clear HhEnd Hhpick
    go_wp2_with fail
    go_ret
    exact HE.out
  · have Hhpick := Lib.hid hpick
    clear hpick
    have HhEnd := Lib.hid hEnd
    clear hEnd
    go_wp2_with fail
    refine (hOn w3 hD.cur).mono ?_
    rintro e w4 ⟨b, rfl, hD4⟩
    replace hD := hD.trans hD4
    cases b
    · have HE := Lib.hid (HhEnd.out w4 S hsz hD)
      clear HhEnd Hhpick
      go_wp2_with fail
      go_ret
      exact HE.out
    · go_wp2_with fail
      refine (Hhpick.out w4 hD).mono ?_
      rintro e w5 ⟨s, rfl, hs, hD5⟩
      have HE := Lib.hid (HhEnd.out w5 s hs hD5)
      clear HhEnd Hhpick
      go_wp2_with fail
      go_ret
      exact HE.out

end Go.Proofs.YtjikmjhpmkakoaaGreatDoor

namespace Go.Proofs.YtjikmjhpmkakoaaGreatDoor
open Go.RowKit

/-! ### Obstacles -/
def obP (rs : List Int) (S : Nat) : Prop := (obF S).eval (envG rs) = true
/-- A path of four vertices, and one that joins its ends. -/
def O4 (rs : List Int) (S a b c d e : Nat) : Prop :=
  (S.testBit a = true ∧ S.testBit b = true ∧ S.testBit c = true ∧ S.testBit d = true ∧ S.testBit e = true) ∧ [a, b, c, d, e].Nodup ∧ (ad rs a b = true ∧ ad rs b c = true ∧ ad rs c d = true) ∧ (ad rs a c = false ∧ ad rs b d = false ∧ ad rs a d = false) ∧ ad rs a e = true ∧ ad rs d e = true
/-- A path of five vertices, and one that joins its ends. -/
def O5 (rs : List Int) (S a b c d f e : Nat) : Prop :=
  (S.testBit a = true ∧ S.testBit b = true ∧ S.testBit c = true ∧ S.testBit d = true ∧ S.testBit f = true ∧ S.testBit e = true) ∧ [a, b, c, d, f, e].Nodup ∧ (ad rs a b = true ∧ ad rs b c = true ∧ ad rs c d = true ∧ ad rs d f = true) ∧ (ad rs a c = false ∧ ad rs a d = false ∧ ad rs a f = false ∧ ad rs b d = false ∧ ad rs b f = false ∧ ad rs c f = false) ∧ ad rs a e = true ∧ ad rs f e = true
theorem lt6 {rs : List Int} (h6 : rs.length ≤ 6) {S v : Nat} (hS : S < 2 ^ rs.length) (h : S.testBit v = true) : v < 6 := Nat.lt_of_lt_of_le (testBit_lt hS h) h6
theorem obP_iff {rs : List Int} (g : VG rs) (h6 : rs.length ≤ 6) {S : Nat} (hS : S < 2 ^ rs.length) : obP rs S ↔ (∃ a b c d e, O4 rs S a b c d e) ∨ ∃ a b c d f e, O5 rs S a b c d f e := by
  have hm : ∀ v, v ∈ mS S ↔ S.testBit v = true := fun v => ⟨fun h => (mem_mS.1 h).2, fun h => mem_mS.2 ⟨lt6 h6 hS h, h⟩⟩
  unfold obP obF
  rw [or_true]
  constructor
  · rintro (h | h)
    · left
      obtain ⟨t, h1, h2, h3, h4⟩ := exL_some 5 [] List.nodup_nil h
      match t, h1 with
      | [a, b, c, d, e], _ =>
        simp only [List.nil_append] at h2 h4
        have hs : ∀ y ∈ [a, b, c, d, e], S.testBit y = true := fun y hy => (hm y).1 (h3 y hy)
        have ha := hs a (by simp)
        have hb := hs b (by simp)
        have hc := hs c (by simp)
        have hd := hs d (by simp)
        have he := hs e (by simp)
        unfold ob4 at h4
        rw [and_true, and_true] at h4
        obtain ⟨p1, p2, p3⟩ := h4
        have q := (patF_true g (l := [a, b, c, d]) (fun y hy => lt6 h6 hS (hs y (by simp at hy ⊢; omega)))).1 p1
        have q2 : ad rs a e = true := by rw [← adF_eval g (lt6 h6 hS ha) (lt6 h6 hS he)]; exact p2
        have q3 : ad rs d e = true := by rw [← adF_eval g (lt6 h6 hS hd) (lt6 h6 hS he)]; exact p3
        refine ⟨a, b, c, d, e, ⟨ha, hb, hc, hd, he⟩, h2, ⟨?_, ?_, ?_⟩, ⟨?_, ?_, ?_⟩, q2, q3⟩
        · rw [ad_symm g]; exact q 1 (by simp) 0 (by omega)
        · rw [ad_symm g]; exact q 2 (by simp) 1 (by omega)
        · rw [ad_symm g]; exact q 3 (by simp) 2 (by omega)
        · rw [ad_symm g]; exact q 2 (by simp) 0 (by omega)
        · rw [ad_symm g]; exact q 3 (by simp) 1 (by omega)
        · rw [ad_symm g]; exact q 3 (by simp) 0 (by omega)
    · right
      obtain ⟨t, h1, h2, h3, h4⟩ := exL_some 6 [] List.nodup_nil h
      match t, h1 with
      | [a, b, c, d, f, e], _ =>
        simp only [List.nil_append] at h2 h4
        have hs : ∀ y ∈ [a, b, c, d, f, e], S.testBit y = true := fun y hy => (hm y).1 (h3 y hy)
        have ha := hs a (by simp)
        have hb := hs b (by simp)
        have hc := hs c (by simp)
        have hd := hs d (by simp)
        have hf := hs f (by simp)
        have he := hs e (by simp)
        unfold ob5 at h4
        rw [and_true, and_true] at h4
        obtain ⟨p1, p2, p3⟩ := h4
        have q := (patF_true g (l := [a, b, c, d, f]) (fun y hy => lt6 h6 hS (hs y (by simp at hy ⊢; omega)))).1 p1
        have q2 : ad rs a e = true := by rw [← adF_eval g (lt6 h6 hS ha) (lt6 h6 hS he)]; exact p2
        have q3 : ad rs f e = true := by rw [← adF_eval g (lt6 h6 hS hf) (lt6 h6 hS he)]; exact p3
        refine ⟨a, b, c, d, f, e, ⟨ha, hb, hc, hd, hf, he⟩, h2, ⟨?_, ?_, ?_, ?_⟩, ⟨?_, ?_, ?_, ?_, ?_, ?_⟩, q2, q3⟩
        · rw [ad_symm g]; exact q 1 (by simp) 0 (by omega)
        · rw [ad_symm g]; exact q 2 (by simp) 1 (by omega)
        · rw [ad_symm g]; exact q 3 (by simp) 2 (by omega)
        · rw [ad_symm g]; exact q 4 (by simp) 3 (by omega)
        · rw [ad_symm g]; exact q 2 (by simp) 0 (by omega)
        · rw [ad_symm g]; exact q 3 (by simp) 0 (by omega)
        · rw [ad_symm g]; exact q 4 (by simp) 0 (by omega)
        · rw [ad_symm g]; exact q 3 (by simp) 1 (by omega)
        · rw [ad_symm g]; exact q 4 (by simp) 1 (by omega)
        · rw [ad_symm g]; exact q 4 (by simp) 2 (by omega)
  · rintro (⟨a, b, c, d, e, ⟨ha, hb, hc, hd, he⟩, hn, ⟨e1, e2, e3⟩, ⟨n1, n2, n3⟩, e4, e5⟩ | ⟨a, b, c, d, f, e, ⟨ha, hb, hc, hd, hf, he⟩, hn, ⟨e1, e2, e3, e6⟩, ⟨n1, n2, n3, n4, n5, n6⟩, e4, e5⟩)
    · left
      refine exL_mk [a, b, c, d, e] [] hn (fun y hy => ?_) ?_
      · simp at hy
        rcases hy with rfl | rfl | rfl | rfl | rfl <;> rw [hm] <;> assumption
      · rw [List.nil_append]
        unfold ob4
        rw [and_true, and_true]
        refine ⟨(patF_true g (l := [a, b, c, d]) (fun y hy => ?_)).2 fun i hi j hj => ?_, ?_, ?_⟩
        · simp at hy
          rcases hy with rfl | rfl | rfl | rfl <;> exact lt6 h6 hS (by assumption)
        · simp at hi
          rw [ad_symm g]
          rcases (by omega : (i = 1 ∧ j = 0) ∨ (i = 2 ∧ j = 0) ∨ (i = 2 ∧ j = 1) ∨ (i = 3 ∧ j = 0) ∨ (i = 3 ∧ j = 1) ∨ (i = 3 ∧ j = 2)) with ⟨rfl, rfl⟩ | ⟨rfl, rfl⟩ | ⟨rfl, rfl⟩ | ⟨rfl, rfl⟩ | ⟨rfl, rfl⟩ | ⟨rfl, rfl⟩
          · exact e1
          · exact n1
          · exact e2
          · exact n3
          · exact n2
          · exact e3
        · show (adF a e).eval _ = true
          rw [adF_eval g (lt6 h6 hS ha) (lt6 h6 hS he)]; exact e4
        · show (adF d e).eval _ = true
          rw [adF_eval g (lt6 h6 hS hd) (lt6 h6 hS he)]; exact e5
    · right
      refine exL_mk [a, b, c, d, f, e] [] hn (fun y hy => ?_) ?_
      · simp at hy
        rcases hy with rfl | rfl | rfl | rfl | rfl | rfl <;> rw [hm] <;> assumption
      · rw [List.nil_append]
        unfold ob5
        rw [and_true, and_true]
        refine ⟨(patF_true g (l := [a, b, c, d, f]) (fun y hy => ?_)).2 fun i hi j hj => ?_, ?_, ?_⟩
        · simp at hy
          rcases hy with rfl | rfl | rfl | rfl | rfl <;> exact lt6 h6 hS (by assumption)
        · simp at hi
          rw [ad_symm g]
          rcases (by omega : (i = 1 ∧ j = 0) ∨ (i = 2 ∧ j = 0) ∨ (i = 2 ∧ j = 1) ∨ (i = 3 ∧ j = 0) ∨ (i = 3 ∧ j = 1) ∨ (i = 3 ∧ j = 2) ∨ (i = 4 ∧ j = 0) ∨ (i = 4 ∧ j = 1) ∨ (i = 4 ∧ j = 2) ∨ (i = 4 ∧ j = 3)) with ⟨rfl, rfl⟩ | ⟨rfl, rfl⟩ | ⟨rfl, rfl⟩ | ⟨rfl, rfl⟩ | ⟨rfl, rfl⟩ | ⟨rfl, rfl⟩ | ⟨rfl, rfl⟩ | ⟨rfl, rfl⟩ | ⟨rfl, rfl⟩ | ⟨rfl, rfl⟩
          · exact e1
          · exact n1
          · exact e2
          · exact n2
          · exact n4
          · exact e3
          · exact n3
          · exact n5
          · exact n6
          · exact e6
        · show (adF a e).eval _ = true
          rw [adF_eval g (lt6 h6 hS ha) (lt6 h6 hS he)]; exact e4
        · show (adF f e).eval _ = true
          rw [adF_eval g (lt6 h6 hS hf) (lt6 h6 hS he)]; exact e5
theorem obP_mono {rs : List Int} (g : VG rs) (h6 : rs.length ≤ 6) {S T : Nat} (hT : T < 2 ^ rs.length) (hs : subN S T) (h : obP rs S) : obP rs T := by
  rw [obP_iff g h6 (hs.lt hT)] at h
  rw [obP_iff g h6 hT]
  rcases h with ⟨a, b, c, d, e, ⟨h1, h2, h3, h4, h5⟩, h⟩ | ⟨a, b, c, d, f, e, ⟨h1, h2, h3, h4, h5, h7⟩, h⟩
  · exact .inl ⟨a, b, c, d, e, ⟨hs _ h1, hs _ h2, hs _ h3, hs _ h4, hs _ h5⟩, h⟩
  · exact .inr ⟨a, b, c, d, f, e, ⟨hs _ h1, hs _ h2, hs _ h3, hs _ h4, hs _ h5, hs _ h7⟩, h⟩
/-! ### What the tables tell -/
theorem prunF_true {rs : List Int} (g : VG rs) (h6 : rs.length ≤ 6) {S v : Nat} (hS : S < 2 ^ rs.length) (hv : v < 6) : (prunF S v).eval (envG rs) = true ↔ prunP rs S v := by
  have hm : ∀ v, v ∈ mS S ↔ S.testBit v = true := fun v => ⟨fun h => (mem_mS.1 h).2, fun h => mem_mS.2 ⟨lt6 h6 hS h, h⟩⟩
  have hb : ∀ a b, (!Nat.beq a b) = true ↔ a ≠ b := fun a b => by
    rw [Bool.not_eq_true', ← Bool.not_eq_true, Nat.beq_eq]
  unfold prunF prunP
  rw [or_true]
  refine or_congr ?_ ?_
  · rw [exF_true]
    constructor
    · rintro ⟨w, hw, h⟩
      rw [List.mem_filter, hm, hb] at hw
      rw [allF_true] at h
      refine ⟨w, hw.1, hw.2, fun c hc h1 h2 => ?_⟩
      have := h c (by rw [List.mem_filter, hm, Bool.and_eq_true, hb, hb]; exact ⟨hc, h1, h2⟩)
      rw [eqF_true, adF_eval g hv (lt6 h6 hS hc), adF_eval g (lt6 h6 hS hw.1) (lt6 h6 hS hc)] at this
      exact this
    · rintro ⟨w, h1, h2, h⟩
      refine ⟨w, by rw [List.mem_filter, hm, hb]; exact ⟨h1, h2⟩, ?_⟩
      rw [allF_true]
      intro c hc
      rw [List.mem_filter, hm, Bool.and_eq_true, hb, hb] at hc
      rw [eqF_true, adF_eval g hv (lt6 h6 hS hc.1), adF_eval g (lt6 h6 hS h1) (lt6 h6 hS hc.1)]
      exact h c hc.1 hc.2.1 hc.2.2
  · constructor
    · intro h a b ha hb' h1 h2
      have h3 := allF_true.1 (allF_true.1 h a ((hm a).2 ha)) b ((hm b).2 hb')
      refine Classical.byContradiction fun hne => ?_
      have e : Nat.beq a b = false := beq_no hne
      rw [e] at h3
      have h4 : (Fm.not (.and (adF v a) (adF v b))).eval (envG rs) = true := h3
      rw [not_true, and_true, adF_eval g hv (lt6 h6 hS ha), adF_eval g hv (lt6 h6 hS hb')] at h4
      exact h4 ⟨h1, h2⟩
    · intro h
      refine allF_true.2 fun a ha => allF_true.2 fun b hb' => ?_
      rw [hm] at ha hb'
      by_cases e : a = b
      · subst e
        rw [Nat.beq_refl]; rfl
      · rw [beq_no e]
        show (Fm.not (.and (adF v a) (adF v b))).eval (envG rs) = true
        rw [not_true, and_true, adF_eval g hv (lt6 h6 hS ha), adF_eval g hv (lt6 h6 hS hb')]
        exact fun h2 => e (h a b ha hb' h2.1 h2.2)
theorem S63 {rs : List Int} (h6 : rs.length ≤ 6) {S : Nat} (hS : S < 2 ^ rs.length) (h0 : S ≠ 0) : S ∈ (List.range 63).map (· + 1) := by
  have : 2 ^ rs.length ≤ 2 ^ 6 := Nat.pow_le_pow_right (by decide) h6
  exact List.mem_map.2 ⟨S - 1, List.mem_range.2 (by omega), by omega⟩
theorem some_prune {rs : List Int} (g : VG rs) (h6 : rs.length ≤ 6) {S : Nat} (hS : S < 2 ^ rs.length) (h0 : S ≠ 0) : (∃ v, S.testBit v = true ∧ prunP rs S v) ∨ obP rs S := by
  have h := allF_true.1 (Fm.taut prun_taut (envG rs) (envG_big rs)) S (S63 h6 hS h0)
  rw [or_true, exF_true] at h
  rcases h with ⟨v, hv, h⟩ | h
  · have hv2 := (mem_mS.1 hv).2
    exact .inl ⟨v, hv2, (prunF_true g h6 hS (lt6 h6 hS hv2)).1 h⟩
  · exact .inr h
theorem ob_back {rs : List Int} (g : VG rs) (h6 : rs.length ≤ 6) {S v : Nat} (hS : S < 2 ^ rs.length) (hv : S.testBit v = true) (hp : prunP rs S v) (ho : obP rs S) : obP rs (S - 2 ^ v) := by
  have h0 : S ≠ 0 := fun e => by subst e; simp at hv
  have hv6 := lt6 h6 hS hv
  have h := allF_true.1 (allF_true.1 (Fm.taut back_taut (envG rs) (envG_big rs)) S (S63 h6 hS h0)) v (mem_mS.2 ⟨hv6, hv⟩)
  exact impF_true.1 h (and_true.2 ⟨(prunF_true g h6 hS hv6).2 hp, ho⟩)
theorem obP_zero (rs : List Int) : ¬obP rs 0 := by
  intro h
  have : (obF 0).eval (envG rs) = false := rfl
  unfold obP at h
  rw [this] at h; cases h

/-! ### Pruning to the end -/
theorem run_some {rs : List Int} (g : VG rs) (h6 : rs.length ≤ 6) : ∀ (f S : Nat) (ps qs : List Prn), S < 2 ^ rs.length → cnt S ≤ f → pruneRun rs f S ps = some qs → ¬obP rs S
  | 0, S, ps, qs, hS, hc, _ => by
    have h0 : S = 0 := Classical.byContradiction fun h => by
      have := cnt_pos hS g.le (Nat.pos_of_ne_zero h)
      have e : (els S).length = cnt S := rfl
      omega
    subst h0; exact obP_zero rs
  | f + 1, S, ps, qs, hS, hc, h => by
    by_cases h0 : S = 0
    · subst h0; exact obP_zero rs
    · cases hn : nextV rs S with
      | none => rw [pruneRun_none h0 hn] at h; cases h
      | some v =>
        have h1 := (firstB_some hn).2
        simp only [Bool.and_eq_true] at h1
        obtain ⟨hv, hs⟩ := h1
        cases hp : pruneV rs S v with
        | none => rw [hp] at hs; cases hs
        | some p =>
          rw [pruneRun_some h0 hn hp] at h
          obtain ⟨m1, m2⟩ := minus_facts g.le hS hv
          have ih := run_some g h6 f _ _ _ m1 (by omega) h
          exact fun ho => ih (ob_back g h6 hS hv ((pruneV_iff g hS hv).1 hs) ho)
theorem run_no {rs : List Int} (g : VG rs) (h6 : rs.length ≤ 6) : ∀ (f S : Nat) (ps : List Prn), S < 2 ^ rs.length → pruneRun rs f S ps = none → obP rs S
  | 0, S, ps, hS, h => by cases h
  | f + 1, S, ps, hS, h => by
    by_cases h0 : S = 0
    · subst h0; rw [pruneRun_zero] at h; cases h
    · cases hn : nextV rs S with
      | none =>
        rcases some_prune g h6 hS h0 with ⟨v, hv, hp⟩ | ho
        · have h1 := firstB_no hn v (testBit_lt hS hv)
          have h2 := (pruneV_iff g hS hv).2 hp
          rw [hv, h2] at h1; cases h1
        · exact ho
      | some v =>
        have h1 := (firstB_some hn).2
        simp only [Bool.and_eq_true] at h1
        obtain ⟨hv, hs⟩ := h1
        cases hp : pruneV rs S v with
        | none => rw [hp] at hs; cases hs
        | some p =>
          rw [pruneRun_some h0 hn hp] at h
          obtain ⟨m1, m2⟩ := minus_facts g.le hS hv
          refine obP_mono g h6 hS (fun i hi => ?_) (run_no g h6 f _ _ m1 h)
          have h128 := g.pow.1
          rw [← nDiff_minus (by omega) (pow_sub hv)] at hi
          exact (nDiff_bit.1 hi).1
theorem prunes_iff {rs : List Int} (hv : isGraphB rs.length rs = true) (h6 : rs.length ≤ 6) : (prunesV rs.length rs).isSome = true ↔ ¬obP rs (2 ^ rs.length - 1) := by
  have g := (VG.of hv).2
  rw [prunesV_of hv]
  cases h : pruneRun rs rs.length (2 ^ rs.length - 1) [] with
  | none => exact ⟨fun h2 => (by cases h2), fun h2 => absurd (run_no g h6 _ _ _ (all_lt _) h) h2⟩
  | some qs => exact ⟨fun _ => run_some g h6 _ _ _ _ (all_lt _) (cnt_leN (all_lt _) g.le) h, fun _ => rfl⟩

end Go.Proofs.YtjikmjhpmkakoaaGreatDoor

namespace Go.Proofs.YtjikmjhpmkakoaaGreatDoor
open Go.RowKit

/-! ### The number -/
end Go.Proofs.YtjikmjhpmkakoaaGreatDoor

namespace Go.Proofs.YtjikmjhpmkakoaaGreatDoor
open Go.RowKit

end Go.Proofs.YtjikmjhpmkakoaaGreatDoor

namespace Go.Proofs.YtjikmjhpmkakoaaGreatDoor
open Go.RowKit

end Go.Proofs.YtjikmjhpmkakoaaGreatDoor

namespace Go.Proofs.YtjikmjhpmkakoaaGreatDoor
open Go.RowKit

end Go.Proofs.YtjikmjhpmkakoaaGreatDoor

namespace Go.Proofs.YtjikmjhpmkakoaaGreatDoor
open Go.RowKit

/-! ### The count is above nothing exactly where a first colouring is found -/
/-! ### Covers by cliques -/
set_option maxRecDepth 100000 in
set_option maxHeartbeats 1000000 in
theorem specLargestIndep_any (n : Int) (rs : List Int) (ro : Option Addr) (rc : Nat) (w : World) (hr : IntsAt w ro rs) (hrl : rs.length ≤ 1048576) :
    Calls Tryz.prog 35 #[.agg #[.int .i64 n, .slice ro rs.length rc]] w fun e w' => e = .returned (.int .i64 (largestV n rs fun S => indepB rs.length rs S)) ∧ Below w.heap.size w w' := by
  go_enter Tryz.func35, Tryz.ntmps35
  go_wp2_with fail
  generalize hW : w.alloc _ = W1
  obtain ⟨hB, -, k0⟩ := alloc1 hW
  replace hr := hr.below hB
  have hb0 := k0.lt
  have hc0 := k0.cell 0
  have hc1 := k0.cell 1
  simp at hc0 hc1
  clear hW k0
  have HhB := Lib.hid hB
  clear hB
  cases hv : isGraphB n rs
  · have HE : Hid (largestV n rs (fun S => indepB rs.length rs S) = 0) := by show largestV n rs _ = 0; unfold largestV; rw [hv]; rfl
    go_loopw [3, 4] (fun b i wr => (∃ m : Later W1, wr = m.w) ∧ b = .int .i64 0 ∧ i = .int .i64 1) (fun _ _ _ => 0)
    case atStart => exact ⟨⟨Later.refl _, rfl⟩, rfl, rfl⟩
    case round =>
      obtain ⟨⟨m, rfl⟩, rfl, rfl⟩ := hrel
      go_wp2_with (first | (go_at_call 12; refine (Calls.later m (specIsGraph_any _ _ _ _ _ (hr.later m) hrl)).mono ?_; rintro e w' ⟨rfl, m, rfl⟩))
      go_ret
      exact ⟨retI (by rw [HE.out]), below_later HhB.out m⟩
  · obtain ⟨rfl, g⟩ := VG.of hv
    have hg1 := g.pos
    have hg2 := g.le
    obtain ⟨hp1, hp2⟩ := g.pow
    have hq := pwN_small rs.length (by omega)
    have HE : Hid (largestV rs.length rs (fun S => indepB rs.length rs S) = largestTo (fun S => indepB rs.length rs S) (2 ^ rs.length)) := by show largestV rs.length rs _ = _; unfold largestV; rw [if_pos hv]
    generalize 2 ^ rs.length = T at *
    generalize hP : (fun S : Nat => indepB rs.length rs S) = p at *
    have hpk : ∀ S : Nat, indepB rs.length rs S = p S := fun S => by rw [← hP]
    have HhP := Lib.hid hP
    clear hP
    go_loopw [3, 4] (fun b i wr => (∃ m : Later W1, wr = m.w) ∧ ∃ k : Nat, 1 ≤ k ∧ k ≤ T ∧ b = .int .i64 (largestTo p k) ∧ i = .int .i64 k) (fun _ i _ => T - (intOf i).toNat)
    case atStart => exact ⟨⟨Later.refl _, rfl⟩, 1, by omega, by omega, by rw [largestTo_one]; rfl, rfl⟩
    case round =>
      obtain ⟨⟨m, rfl⟩, k, hk1, hk, rfl, rfl⟩ := hrel
      by_cases hlt : k < T
      · have hl := largestTo_le p k
        have HN : Hid (largestTo p (k + 1) = if cnt (largestTo p k) < cnt k ∧ p k = true then k else largestTo p k) := rfl
        have hn1 := cnt_le k
        have hn2 := cnt_le (largestTo p k)
        generalize hN : largestTo p (k + 1) = L' at *
        have HhN := Lib.hid hN
        clear hN
        generalize largestTo p k = L at *
        have hIS := fun m : Later W1 => specIndep_any rs.length rs k ro rc m.w (hr.later m) hrl
        rw [hpk k] at hIS
        by_cases hc : cnt L < cnt k
        · cases hp : p k <;> simp only [hp] at hIS
          · go_wp2_with (first | (go_at_call 12; refine (Calls.later m (specIsGraph_any _ _ _ _ _ (hr.later m) hrl)).mono ?_; rintro e w' ⟨rfl, m, rfl⟩) | (go_at_call 34; refine (Calls.later m (specCount_any _ (by omega) _)).mono ?_; rintro e w' ⟨rfl, m, rfl⟩) | (go_at_call 93; refine (Calls.later m (hIS m)).mono ?_; rintro e w' ⟨rfl, m, rfl⟩))
            go_roundw
            case rel => exact ⟨⟨m, rfl⟩, k + 1, by omega, by omega, by rw [HhN.out, HN.out, if_neg (fun h => by rw [hp] at h; exact absurd h.2 (by decide))], by go_num⟩
            case measure => simp [intOf]; omega
          · go_wp2_with (first | (go_at_call 12; refine (Calls.later m (specIsGraph_any _ _ _ _ _ (hr.later m) hrl)).mono ?_; rintro e w' ⟨rfl, m, rfl⟩) | (go_at_call 34; refine (Calls.later m (specCount_any _ (by omega) _)).mono ?_; rintro e w' ⟨rfl, m, rfl⟩) | (go_at_call 93; refine (Calls.later m (hIS m)).mono ?_; rintro e w' ⟨rfl, m, rfl⟩))
            go_roundw
            case rel => exact ⟨⟨m, rfl⟩, k + 1, by omega, by omega, by rw [HhN.out, HN.out, if_pos ⟨hc, hp⟩], by go_num⟩
            case measure => simp [intOf]; omega
        · go_wp2_with (first | (go_at_call 12; refine (Calls.later m (specIsGraph_any _ _ _ _ _ (hr.later m) hrl)).mono ?_; rintro e w' ⟨rfl, m, rfl⟩) | (go_at_call 34; refine (Calls.later m (specCount_any _ (by omega) _)).mono ?_; rintro e w' ⟨rfl, m, rfl⟩))
          go_roundw
          case rel => exact ⟨⟨m, rfl⟩, k + 1, by omega, by omega, by rw [HhN.out, HN.out, if_neg (fun h => hc h.1)], by go_num⟩
          case measure => simp [intOf]; omega
      · go_wp2_with (first | (go_at_call 12; refine (Calls.later m (specIsGraph_any _ _ _ _ _ (hr.later m) hrl)).mono ?_; rintro e w' ⟨rfl, m, rfl⟩))
        go_ret
        obtain rfl : k = T := by omega
        exact ⟨retI (by rw [HhP.out, HE.out]), below_later HhB.out m⟩

/-! ### The cover -/
end Go.Proofs.YtjikmjhpmkakoaaGreatDoor

namespace Go.Proofs.YtjikmjhpmkakoaaGreatDoor
open Go.RowKit

theorem wpList_later_drew {W : World} {P : Program} {ops : Array Oper} {Q : Exit → Act → World → Prop} {rest : List Oper} {a : Act} (m : Later W) (h : ∀ m' : Later W, wpList P ops Q rest a m'.w) : wpList P ops Q rest a m.w.drew :=
  h ⟨m.w.drew, m.below.drew⟩

/-- The closed hood of u in a set. -/
def hood (rs : List Int) (S u : Nat) : Nat := (gn rs u ||| 2 ^ u) &&& S
def nestB (a b : Nat) : Bool := decide (a &&& b = a ∨ a &&& b = b)
def nestAt (rs : List Int) (S : Nat) (L : List Nat) (i j : Nat) : Bool := nestB (hood rs S (eln L i)) (hood rs S (eln L j))
def simpleN (rs : List Int) (S v : Nat) : Bool := decide (∀ i, i < cnt (hood rs S v) → ∀ j, j < i → nestAt rs S (els (hood rs S v)) i j = true)
def simpleB (n : Int) (rs : List Int) (v s : Int) : Bool := isSetB n rs s && ((decide (0 ≤ v) && decide (v ≤ n - 1)) && (hasN s v.toNat && simpleN rs s.toNat v.toNat))
theorem simpleN_ok {rs : List Int} {S v : Nat} (h : ∀ i, i < cnt (hood rs S v) → ∀ j, j < i → nestAt rs S (els (hood rs S v)) i j = true) : simpleN rs S v = true := by unfold simpleN; rw [decide_eq_true h]

theorem hood_lt {rs : List Int} {S : Nat} (hS : S < 2 ^ rs.length) (u : Nat) : hood rs S u < 2 ^ rs.length := Nat.lt_of_le_of_lt Nat.and_le_right hS
end Go.Proofs.YtjikmjhpmkakoaaGreatDoor
