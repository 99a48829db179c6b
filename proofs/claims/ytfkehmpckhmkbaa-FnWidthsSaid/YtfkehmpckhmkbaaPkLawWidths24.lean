/-
  The drawing of graphs that often are interval graphs: l10Graph, l11Graph, l12Graph. For texts of at most 2^20 bytes.
-/
import Derived.Test.YtfkehmpckhmkbaaPkLawWidths16
import Derived.Test.YtfkehmpckhmkbaaPkLawWidths17
import Derived.Test.YtfkehmpckhmkbaaPkLawWidths23
namespace Go.Proofs.Ytfkehmpckhmkbaa
open Go.RowKit

/-- Some graph has been drawn, of at most seven rows, perhaps none. -/
def RetXG (cb : Nat) (bo : Option Addr) (n c : Nat) (w : World) (e : Ending) (w' : World) : Prop :=
  ∃ (x : Int) (f : List Int) (ao : Option Addr) (cap : Nat), f.length ≤ 7 ∧ e = .returned (.agg #[.int .i64 x, .slice ao f.length cap]) ∧ FrI w' w.heap.size ao f ∧ DrewC cb bo n c w w'
theorem RetAG.wide {cb n c : Nat} {bo : Option Addr} {w w' : World} {e : Ending} (h : RetAG cb bo n c w e w') : RetXG cb bo n c w e w' := by
  obtain ⟨x, f, g, cap, hf, he, hg, hR, hD⟩ := h
  exact ⟨x, f, some ⟨g, 0, none⟩, cap, by omega, he, ⟨hR.ints, fun a e => by cases e; exact hg⟩, hD⟩
theorem DrewC.fr {cb n c base : Nat} {bo ao : Option Addr} {w w1 : World} {xs : List Int} (h : DrewC cb bo n c w w1) (hF : FrI w base ao xs) (hc : cb < base) : FrI w1 base ao xs := hF.only h.only fun b hb e => by have e2 : b = cb := e; omega

set_option maxRecDepth 100000 in
set_option maxHeartbeats 8000000 in
theorem l10Graph_any (cb n c : Nat) (bo : Option Addr) (w : World) (h : CurAt w cb bo n c) :
    Calls Try.prog 55 #[.pointer (some ⟨cb, 0, none⟩)] w (RetXG cb bo n c w) := by
  have hcw := h.lt
  go_enter Try.func55, Try.ntmps55
  go_wp2_with fail
  generalize hW : World.alloc _ _ = W1
  obtain ⟨hB, hs, k0⟩ := alloc1 hW
  have hD := DrewC.refl (h.below hB)
  have hs1 : w.heap.size < W1.heap.size := by omega
  clear hW hs
  have HhB := Lib.hid hB
  clear hB
  have Hk0 := Lib.hid k0
  clear k0
  have Hend := Lib.hid (fun (wz : World) (x : Int) (f : List Int) (ao : Option Addr) (cap : Nat) (hf : f.length ≤ 7) (hD : DrewC cb bo n c W1 wz) (h1 : FrI wz W1.heap.size ao f) => (
    ⟨x, f, ao, cap, hf, rfl, ((h1.store (a := ⟨w.heap.size, 0, none⟩) hs1 _).store (a := ⟨w.heap.size, 1, none⟩) hs1 _).mono (by omega),
      ((hD.front HhB.out).store (a := ⟨w.heap.size, 0, none⟩) (Nat.le_refl _) hcw _).store (a := ⟨w.heap.size, 1, none⟩) (Nat.le_refl _) hcw _⟩ :
    RetXG cb bo n c w (.returned (.agg #[.int .i64 x, .slice ao f.length cap])) ((wz.setCell ⟨w.heap.size, 0, none⟩ (.int .i64 x)).setCell ⟨w.heap.size, 1, none⟩ (.slice ao f.length cap))))
  have Hblk := Lib.hid (fun (wz : World) (hD : DrewC cb bo n c W1 wz) => (hD.blk Hk0.out (by omega) : Blk wz w.heap.size #[.int .i64 0, .slice none 0 0] 26))
  refine (l1Once_any 2 cb n c bo W1 hD.cur (by omega) (by omega)).mono ?_
  rintro e w2 ⟨b1, rfl, hD1⟩
  replace hD := hD.trans hD1
  have hs2 := hD.only.size
  clear hD1
  cases b1
  · go_wp2_with fail
    refine (l9Model_any cb n c bo w2 hD.cur).mono ?_
    rintro e w3 ⟨f, l, fo, lo, fc, lc, hf, hl, rfl, hF, hL, hD1⟩
    have hG := specGraphIvl_any f l fo lo fc lc w3 hF.1 hL.1 (by omega) (by omega)
    replace hD := hD.trans hD1
    have hs3 := hD1.only.size
    clear hD1 hF hL
    have HhD := Lib.hid hD
    clear hD
    go_wp2_with fail
    refine hG.mono ?_
    rintro e w4 ⟨N, R, ao, cap, ok, hR7, rfl, hB4, hF4⟩
    have hD4 := HhD.out.below hB4
    have hF5 := hF4.mono (show W1.heap.size ≤ w3.heap.size by omega)
    clear hG HhD hB4 hF4
    go_upto_region 4 with fail
    generalize hW5 : World.alloc _ _ = W5
    obtain ⟨hB5, hz5, k5⟩ := alloc1 hW5
    replace hD4 := hD4.below hB5
    replace hF5 := hF5.below hB5
    clear hW5 hB5 hz5
    generalize w4.heap.size = yb at *
    have HhF5 := Lib.hid hF5
    clear hF5
    have k9 := Hblk.out _ hD4
    have y0 := k9.cell 0
    have y1 := k9.cell 1
    have y3 := k9.frozen 0
    have y4 := k9.frozen 1
    have y6 := k9.lt
    simp at y0 y1
    have z0 := k5.cell 0
    have z1 := k5.cell 1
    have z4 := k5.lt
    simp at z0 z1
    have HE := Lib.hid (Hend.out W5 N R ao cap hR7 hD4 HhF5.out)
    clear k9 hD4 k5 Hblk Hend
    go_wp2_with fail
    refine bodyPost_ret (v := .agg #[.int .i64 N, .slice ao R.length cap]) (by simp [results, Try.results55, go_sem, y0, y1]) rfl ?_
    exact HE.out
  · go_wp2_with fail
    refine (l8Chordal_any cb n c bo w2 hD.cur).mono ?_
    rintro e w3 hRet
    obtain ⟨x, f, ao, cap, hf7, rfl, hF3, hD1⟩ := hRet.wide
    have hD3 := hD.trans hD1
    have hF5 := hF3.mono (show W1.heap.size ≤ w2.heap.size by omega)
    clear hD1 hF3 hRet hD
    have HhF5 := Lib.hid hF5
    clear hF5
    have k9 := Hblk.out _ hD3
    have y0 := k9.cell 0
    have y1 := k9.cell 1
    have y3 := k9.frozen 0
    have y4 := k9.frozen 1
    have y6 := k9.lt
    simp at y0 y1
    skip
    skip
    skip
    skip
    have HE := Lib.hid (Hend.out w3 x f ao cap hf7 hD3 HhF5.out)
    clear k9 hD3  Hblk Hend
    go_wp2_with fail
    refine bodyPost_ret (v := .agg #[.int .i64 x, .slice ao f.length cap]) (by simp [results, Try.results55, go_sem, y0, y1]) rfl ?_
    exact HE.out

/-- Six pairs of vertices behind a list in block lb, all of it above block y. -/
structure Pairs6 (y : Nat) (w : World) (lb : Nat) : Prop where
  lt : lb < w.heap.size
  hi : y < lb
  at' : ∀ k, k < 6 → ∃ pb a b : Nat, w.cell? ⟨lb, k, none⟩ = some (.slice (some ⟨pb, 0, none⟩) 2 2) ∧ (pb < w.heap.size ∧ y < pb) ∧ (a < 7 ∧ b < 7 ∧ a ≠ b) ∧ w.cell? ⟨pb, 0, none⟩ = some (.int .i64 a) ∧ w.cell? ⟨pb, 1, none⟩ = some (.int .i64 b)
theorem Pairs6.only {X : Nat → Prop} {w w' : World} {y lb : Nat} (h : Pairs6 y w lb) (hO : Only X w.heap.size w w') (hX : ∀ b, y < b → ¬X b) : Pairs6 y w' lb :=
  ⟨Nat.lt_of_lt_of_le h.lt hO.size, h.hi, fun k hk => by
    obtain ⟨pb, a, b, h1, h2, h3, h4, h5⟩ := h.at' k hk
    exact ⟨pb, a, b, (hO.cell (p := ⟨lb, k, none⟩) h.lt (hX _ h.hi)).trans h1, ⟨Nat.lt_of_lt_of_le h2.1 hO.size, h2.2⟩, h3, (hO.cell (p := ⟨pb, 0, none⟩) h2.1 (hX _ h2.2)).trans h4, (hO.cell (p := ⟨pb, 1, none⟩) h2.1 (hX _ h2.2)).trans h5⟩⟩

set_option maxRecDepth 100000 in
set_option maxHeartbeats 8000000 in
theorem l11Graph_any (cb n c : Nat) (bo : Option Addr) (w : World) (h : CurAt w cb bo n c) :
    Calls Try.prog 59 #[.pointer (some ⟨cb, 0, none⟩)] w (RetXG cb bo n c w) := by
  have hcw := h.lt
  have hmk := run_make_ints 7 (by omega)
  have hmk2 : ∀ w, (Instr.makeSlice 24 (.int .i64 7) (.int .i64 7)).run Try.prog w = .ok (.slice (some ⟨w.heap.size, 0, none⟩) 7 7) (w.alloc (.cells (intRow (List.replicate 7 0)) 3)) := hmk
  clear hmk
  go_enter Try.func59, Try.ntmps59
  go_wp2_with fail
  generalize hW : World.alloc _ _ = W1
  obtain ⟨hB, hs, k0⟩ := alloc1 hW
  have hD := DrewC.refl (h.below hB)
  have hs1 : w.heap.size < W1.heap.size := by omega
  clear hW hs
  have HhB := Lib.hid hB
  clear hB
  have Hk0 := Lib.hid k0
  clear k0
  have Hend := Lib.hid (fun (wz : World) (x : Int) (f : List Int) (ao : Option Addr) (cap : Nat) (hf : f.length ≤ 7) (hD : DrewC cb bo n c W1 wz) (h1 : FrI wz W1.heap.size ao f) => (
    ⟨x, f, ao, cap, hf, rfl, ((h1.store (a := ⟨w.heap.size, 0, none⟩) hs1 _).store (a := ⟨w.heap.size, 1, none⟩) hs1 _).mono (by omega),
      ((hD.front HhB.out).store (a := ⟨w.heap.size, 0, none⟩) (Nat.le_refl _) hcw _).store (a := ⟨w.heap.size, 1, none⟩) (Nat.le_refl _) hcw _⟩ :
    RetXG cb bo n c w (.returned (.agg #[.int .i64 x, .slice ao f.length cap])) ((wz.setCell ⟨w.heap.size, 0, none⟩ (.int .i64 x)).setCell ⟨w.heap.size, 1, none⟩ (.slice ao f.length cap))))
  have Hblk := Lib.hid (fun (wz : World) (hD : DrewC cb bo n c W1 wz) => (hD.blk Hk0.out (by omega) : Blk wz w.heap.size #[.int .i64 0, .slice none 0 0] 26))
  refine (l1Once_any 2 cb n c bo W1 hD.cur (by omega) (by omega)).mono ?_
  rintro e w2 ⟨b1, rfl, hD1⟩
  replace hD := hD.trans hD1
  have hs2 := hD.only.size
  clear hD1
  cases b1
  · have hw1 := hD.only.size
    have HhD := Lib.hid hD
    clear hD
    go_upto_region 5 with fail
    clear hmk2
    generalize hW5 : World.alloc _ _ = W5
    have hB5 : Below w2.heap.size w2 W5 := by
      subst hW5
      repeat' first | exact Below.refl _ _ | refine Below.alloc ?_ (by simp; try omega) _
    have hzz : W5.heap.size = w2.heap.size + 9 := by subst hW5; simp
    have kR : Blk W5 w2.heap.size (intRow [0, 0, 0, 0, 0, 0, 0]) 3 := by
      subst hW5
      repeat' first | exact Blk.made _ _ _ (by simp; done) | refine Blk.alloc1 ?_
    have kG : Blk W5 (w2.heap.size + 1) #[.int .i64 7, .slice (some ⟨w2.heap.size, 0, none⟩) 7 7] 26 := by
      subst hW5
      repeat' first | exact Blk.made _ _ _ (by simp; done) | refine Blk.alloc1 ?_
    have hP : Pairs6 (w2.heap.size + 1) W5 (w2.heap.size + 1 + 1 + 1 + 1 + 1 + 1 + 1 + 1) := by
      have kL : Blk W5 (w2.heap.size + 1 + 1 + 1 + 1 + 1 + 1 + 1 + 1) #[.slice (some ⟨w2.heap.size + 1 + 1, 0, none⟩) 2 2, .slice (some ⟨w2.heap.size + 1 + 1 + 1, 0, none⟩) 2 2, .slice (some ⟨w2.heap.size + 1 + 1 + 1 + 1, 0, none⟩) 2 2, .slice (some ⟨w2.heap.size + 1 + 1 + 1 + 1 + 1, 0, none⟩) 2 2, .slice (some ⟨w2.heap.size + 1 + 1 + 1 + 1 + 1 + 1, 0, none⟩) 2 2, .slice (some ⟨w2.heap.size + 1 + 1 + 1 + 1 + 1 + 1 + 1, 0, none⟩) 2 2] 24 := by
        subst hW5
        repeat' first | exact Blk.made _ _ _ (by simp; done) | refine Blk.alloc1 ?_
      have kP : ∀ (b : Nat) (x y : Int), Blk W5 b #[.int .i64 x, .int .i64 y] 3 → W5.cell? ⟨b, 0, none⟩ = some (.int .i64 x) ∧ W5.cell? ⟨b, 1, none⟩ = some (.int .i64 y) := fun b x y h => ⟨by simpa using h.cell 0, by simpa using h.cell 1⟩
      have k0 := kP (w2.heap.size + 1 + 1) 0 1 (by subst hW5; repeat' first | exact Blk.made _ _ _ (by simp; done) | refine Blk.alloc1 ?_)
      have k1 := kP (w2.heap.size + 1 + 1 + 1) 0 2 (by subst hW5; repeat' first | exact Blk.made _ _ _ (by simp; done) | refine Blk.alloc1 ?_)
      have k2 := kP (w2.heap.size + 1 + 1 + 1 + 1) 0 3 (by subst hW5; repeat' first | exact Blk.made _ _ _ (by simp; done) | refine Blk.alloc1 ?_)
      have k3 := kP (w2.heap.size + 1 + 1 + 1 + 1 + 1) 1 4 (by subst hW5; repeat' first | exact Blk.made _ _ _ (by simp; done) | refine Blk.alloc1 ?_)
      have k4 := kP (w2.heap.size + 1 + 1 + 1 + 1 + 1 + 1) 2 5 (by subst hW5; repeat' first | exact Blk.made _ _ _ (by simp; done) | refine Blk.alloc1 ?_)
      have k5 := kP (w2.heap.size + 1 + 1 + 1 + 1 + 1 + 1 + 1) 3 6 (by subst hW5; repeat' first | exact Blk.made _ _ _ (by simp; done) | refine Blk.alloc1 ?_)
      clear kP hW5
      refine ⟨by omega, by omega, fun k hk => ?_⟩
      match k, hk with
      | 0, _ => exact ⟨w2.heap.size + 1 + 1, 0, 1, (kL.cell 0).trans rfl, ⟨by omega, by omega⟩, ⟨by omega, by omega, by omega⟩, k0.1, k0.2⟩
      | 1, _ => exact ⟨w2.heap.size + 1 + 1 + 1, 0, 2, (kL.cell 1).trans rfl, ⟨by omega, by omega⟩, ⟨by omega, by omega, by omega⟩, k1.1, k1.2⟩
      | 2, _ => exact ⟨w2.heap.size + 1 + 1 + 1 + 1, 0, 3, (kL.cell 2).trans rfl, ⟨by omega, by omega⟩, ⟨by omega, by omega, by omega⟩, k2.1, k2.2⟩
      | 3, _ => exact ⟨w2.heap.size + 1 + 1 + 1 + 1 + 1, 1, 4, (kL.cell 3).trans rfl, ⟨by omega, by omega⟩, ⟨by omega, by omega, by omega⟩, k3.1, k3.2⟩
      | 4, _ => exact ⟨w2.heap.size + 1 + 1 + 1 + 1 + 1 + 1, 2, 5, (kL.cell 4).trans rfl, ⟨by omega, by omega⟩, ⟨by omega, by omega, by omega⟩, k4.1, k4.2⟩
      | 5, _ => exact ⟨w2.heap.size + 1 + 1 + 1 + 1 + 1 + 1 + 1, 3, 6, (kL.cell 5).trans rfl, ⟨by omega, by omega⟩, ⟨by omega, by omega, by omega⟩, k5.1, k5.2⟩
    have hR5 : RowAt W5 w2.heap.size 7 [0, 0, 0, 0, 0, 0, 0] := RowAt.of (xs := [0, 0, 0, 0, 0, 0, 0]) kR (by simp)
    have hzy : w2.heap.size + 1 < W5.heap.size := by omega
    have hcb1 : cb < w2.heap.size := HhD.out.cur.lt
    have hD := HhD.out.below hB5
    have hvg : VG [0, 0, 0, 0, 0, 0, 0] := zero_VG (N := 7) (by omega) (by omega)
    clear hB5 hzz kR HhD hW5
    generalize w2.heap.size + 1 + 1 + 1 + 1 + 1 + 1 + 1 + 1 = lb at *
    have hry : w2.heap.size < w2.heap.size + 1 := by omega
    generalize w2.heap.size + 1 = y at *
    generalize w2.heap.size = r0 at *
    have hG : MakeG W5 W5 r0 y 7 r0 7 [0, 0, 0, 0, 0, 0, 0] := ⟨Only.refl _ _ _, by omega, by omega, Nat.le_refl _, kG, hR5, hvg, rfl⟩
    have hcy : cb < y := by omega
    have hWy : W1.heap.size ≤ y := by omega
    clear hR5 kG hvg hzy
    have HhG := Lib.hid hG
    clear hG
    have HhP := Lib.hid hP
    clear hP
    have HhD := Lib.hid hD
    clear hD
    go_upto_region 6 with fail
    go_loopw [5] (fun i wr => ∃ (k gb cp : Nat) (f : List Int), k ≤ 6 ∧ i = .int .i64 k ∧ MakeG W5 wr r0 y 7 gb cp f) (fun i _ => 6 - (intOf i).toNat)
    case atStart => exact ⟨0, _, _, _, by omega, rfl, HhG.out⟩
    case round =>
      clear HhG
      obtain ⟨k, gb, cp, f, hk, rfl, hG⟩ := hrel
      by_cases hlt : k < 6
      · obtain ⟨hllt, hlhi, hlat⟩ := HhP.out.only hG.only (fun b hb e => by have e2 : b = y := e; omega)
        obtain ⟨pb, a, b, p1, ⟨p2, p3⟩, ⟨p4, p5, p6⟩, p7, p8⟩ := hlat k hlt
        clear hlat
        have x0 := hG.box.cell 0
        have x1 := hG.box.cell 1
        have ozr := hG.box.lt
        simp at x0 x1
        have hA := specAddF_any f a b gb cp 7 wr.drew hG.len (hG.row.below (Below.refl _ _).drew) hG.vg p4 p5 p6
        have hlen9 : k < 6 := hlt
        have hT0 : ∀ w', Only (fun b => b = y) wr.heap.size wr w' → Only (fun b => b = y) wr.heap.size wr w' ∧ w'.cell? ⟨lb, k, none⟩ = some (.slice (some ⟨pb, 0, none⟩) 2 2) ∧ w'.cell? ⟨pb, 0, none⟩ = some (.int .i64 a) ∧ w'.cell? ⟨pb, 1, none⟩ = some (.int .i64 b) := fun w' h =>
          ⟨h, (h.cell (p := ⟨lb, k, none⟩) hllt (fun e => by have e2 : lb = y := e; omega)).trans p1, (h.cell (p := ⟨pb, 0, none⟩) p2 (fun e => by have e2 : pb = y := e; omega)).trans p7, (h.cell (p := ⟨pb, 1, none⟩) p2 (fun e => by have e2 : pb = y := e; omega)).trans p8⟩
        have hO0 : Only (fun b => b = y) wr.heap.size wr wr.drew := Only.of (Below.refl _ _).drew
        have HhA := Lib.hid hA
        clear hA
        have HhG := Lib.hid hG
        clear hG
        go_upto_region 8 with fail
        refine wp_region_B (fun w' => Only (fun b => b = y) wr.heap.size wr w' ∧ w'.cell? ⟨lb, k, none⟩ = some (.slice (some ⟨pb, 0, none⟩) 2 2) ∧ w'.cell? ⟨pb, 0, none⟩ = some (.int .i64 a) ∧ w'.cell? ⟨pb, 1, none⟩ = some (.int .i64 b)) (fun w' => w'.cell? ⟨y, 0, none⟩ = some (.int .i64 7) ∧ w'.cell? ⟨y, 1, none⟩ = some (.slice (some ⟨gb, 0, none⟩) 7 cp)) [17] (by kernel_rfl) (hT0 _ hO0) (⟨x0, x1⟩) (fun hM => ?_)
        refine wpAnyB_take (i := 0) (v := ?_) true rfl (by kernel_rfl) (by kernel_rfl) (by kernel_rfl) (by kernel_rfl) (by kernel_rfl) (fun _ _ _ h => h) (Or.inl ⟨by rfl, ?_⟩) hM (fun hM2 => ?_)
        rotate_left
        · (intro w hSw; have hSl := hSw.2 rfl; replace hSw := hSw.1; (try dsimp only at hSl); (try dsimp only at hSw); go_simp; try with_reducible rfl)
        replace hM := hM2
        clear hM2
        try simp only [List.getElem_toArray, List.getElem_cons_zero, Act.put, List.setIfInBounds_toArray, List.set_cons_zero, List.set_cons_succ]
        refine wpAnyB_take (i := 1) (v := ?_) false rfl (by kernel_rfl) (by kernel_rfl) (by kernel_rfl) (by kernel_rfl) (by kernel_rfl) (fun _ _ _ h => h) (Or.inl ⟨by rfl, ?_⟩) hM (fun hM2 => ?_)
        rotate_left
        · (intro w hSw; replace hSw := hSw.1; (try dsimp only at hSw); go_simp; try with_reducible rfl)
        replace hM := hM2
        clear hM2
        try simp only [List.getElem_toArray, List.getElem_cons_succ, List.getElem_cons_zero, Act.put, List.setIfInBounds_toArray, List.set_cons_zero, List.set_cons_succ]
        refine wpAnyB_take (i := 2) (v := ?_) false rfl (by kernel_rfl) (by kernel_rfl) (by kernel_rfl) (by kernel_rfl) (by kernel_rfl) (fun _ _ _ h => h) (Or.inl ⟨by rfl, ?_⟩) hM (fun hM2 => ?_)
        rotate_left
        · (intro w hSw; replace hSw := hSw.1; (try dsimp only at hSw); go_simp; try with_reducible rfl)
        replace hM := hM2
        clear hM2
        try simp only [List.getElem_toArray, List.getElem_cons_succ, List.getElem_cons_zero, Act.put, List.setIfInBounds_toArray, List.set_cons_zero, List.set_cons_succ]
        refine wpAnyB_take (i := 3) (v := ?_) false rfl (by kernel_rfl) (by kernel_rfl) (by kernel_rfl) (by kernel_rfl) (by kernel_rfl) (fun _ _ _ h => h) (Or.inl ⟨by rfl, ?_⟩) hM (fun hM2 => ?_)
        rotate_left
        · (intro w hSw; replace hSw := hSw.1; (try dsimp only at hSw); go_simp; try with_reducible rfl)
        replace hM := hM2
        clear hM2
        try simp only [List.getElem_toArray, List.getElem_cons_succ, List.getElem_cons_zero, Act.put, List.setIfInBounds_toArray, List.set_cons_zero, List.set_cons_succ]
        refine wpAnyB_take (i := 4) (v := ?_) false rfl (by kernel_rfl) (by kernel_rfl) (by kernel_rfl) (by kernel_rfl) (by kernel_rfl) (fun _ _ _ h => h) (Or.inl ⟨by rfl, ?_⟩) hM (fun hM2 => ?_)
        rotate_left
        · (intro w hSw; replace hSw := hSw.1; (try dsimp only at hSw); go_simp; try with_reducible rfl)
        replace hM := hM2
        clear hM2
        try simp only [List.getElem_toArray, List.getElem_cons_succ, List.getElem_cons_zero, Act.put, List.setIfInBounds_toArray, List.set_cons_zero, List.set_cons_succ]
        refine wpAnyB_take (i := 5) (v := ?_) false rfl (by kernel_rfl) (by kernel_rfl) (by kernel_rfl) (by kernel_rfl) (by kernel_rfl) (fun _ _ _ h => h) (Or.inl ⟨by rfl, ?_⟩) hM (fun hM2 => ?_)
        rotate_left
        · (intro w hSw; replace hSw := hSw.1; (try dsimp only at hSw); go_simp; try with_reducible rfl)
        replace hM := hM2
        clear hM2
        try simp only [List.getElem_toArray, List.getElem_cons_succ, List.getElem_cons_zero, Act.put, List.setIfInBounds_toArray, List.set_cons_zero, List.set_cons_succ]
        refine wpAnyB_take (i := 6) (v := ?_) false rfl (by kernel_rfl) (by kernel_rfl) (by kernel_rfl) (by kernel_rfl) (by kernel_rfl) (fun _ _ _ h => h) (Or.inl ⟨by rfl, ?_⟩) hM (fun hM2 => ?_)
        rotate_left
        · (intro w hSw; replace hSw := hSw.1; (try dsimp only at hSw); go_simp; try with_reducible rfl)
        replace hM := hM2
        clear hM2
        try simp only [List.getElem_toArray, List.getElem_cons_succ, List.getElem_cons_zero, Act.put, List.setIfInBounds_toArray, List.set_cons_zero, List.set_cons_succ]
        refine wpAnyB_take (i := 7) (v := ?_) false rfl (by kernel_rfl) (by kernel_rfl) (by kernel_rfl) (by kernel_rfl) (by kernel_rfl) (fun _ _ _ h => h) (Or.inl ⟨by rfl, ?_⟩) hM (fun hM2 => ?_)
        rotate_left
        · (intro w hSw; replace hSw := hSw.1; (try dsimp only at hSw); go_simp; try with_reducible rfl)
        replace hM := hM2
        clear hM2
        try simp only [List.getElem_toArray, List.getElem_cons_succ, List.getElem_cons_zero, Act.put, List.setIfInBounds_toArray, List.set_cons_zero, List.set_cons_succ]
        refine wpAnyB_take (i := 8) (v := ?_) false rfl (by kernel_rfl) (by kernel_rfl) (by kernel_rfl) (by kernel_rfl) (by kernel_rfl) (fun _ _ _ h => h) (Or.inl ⟨by rfl, ?_⟩) hM (fun hM2 => ?_)
        rotate_left
        · (intro w hSw; replace hSw := hSw.1; (try dsimp only at hSw); go_simp; try with_reducible rfl)
        replace hM := hM2
        clear hM2
        try simp only [List.getElem_toArray, List.getElem_cons_succ, List.getElem_cons_zero, Act.put, List.setIfInBounds_toArray, List.set_cons_zero, List.set_cons_succ]
        refine wpAnyB_take (i := 9) (v := ?_) false rfl (by kernel_rfl) (by kernel_rfl) (by kernel_rfl) (by kernel_rfl) (by kernel_rfl) (fun _ _ _ h => h) (Or.inl ⟨by rfl, ?_⟩) hM (fun hM2 => ?_)
        rotate_left
        · (intro w hSw; replace hSw := hSw.1; (try dsimp only at hSw); go_simp; try with_reducible rfl)
        replace hM := hM2
        clear hM2
        try simp only [List.getElem_toArray, List.getElem_cons_succ, List.getElem_cons_zero, Act.put, List.setIfInBounds_toArray, List.set_cons_zero, List.set_cons_succ]
        refine wpAnyB_take (i := 10) (v := ?_) false rfl (by kernel_rfl) (by kernel_rfl) (by kernel_rfl) (by kernel_rfl) (by kernel_rfl) (fun _ _ _ h => h) (Or.inl ⟨by rfl, ?_⟩) hM (fun hM2 => ?_)
        rotate_left
        · (intro w hSw; replace hSw := hSw.1; (try dsimp only at hSw); go_simp; try with_reducible rfl)
        replace hM := hM2
        clear hM2
        try simp only [List.getElem_toArray, List.getElem_cons_succ, List.getElem_cons_zero, Act.put, List.setIfInBounds_toArray, List.set_cons_zero, List.set_cons_succ]
        refine wpAnyB_take (i := 11) (v := ?_) false rfl (by kernel_rfl) (by kernel_rfl) (by kernel_rfl) (by kernel_rfl) (by kernel_rfl) (fun _ _ _ h => h) (Or.inl ⟨by rfl, ?_⟩) hM (fun hM2 => ?_)
        rotate_left
        · (intro w hSw; replace hSw := hSw.1; (try dsimp only at hSw); go_simp; try with_reducible rfl)
        replace hM := hM2
        clear hM2
        try simp only [List.getElem_toArray, List.getElem_cons_succ, List.getElem_cons_zero, Act.put, List.setIfInBounds_toArray, List.set_cons_zero, List.set_cons_succ]
        refine wpAnyB_take (i := 12) (v := ?_) false rfl (by kernel_rfl) (by kernel_rfl) (by kernel_rfl) (by kernel_rfl) (by kernel_rfl) (fun _ _ _ h => h) (Or.inl ⟨by rfl, ?_⟩) hM (fun hM2 => ?_)
        rotate_left
        · (intro w hSw; replace hSw := hSw.1; (try dsimp only at hSw); go_simp; try with_reducible rfl)
        replace hM := hM2
        clear hM2
        try simp only [List.getElem_toArray, List.getElem_cons_succ, List.getElem_cons_zero, Act.put, List.setIfInBounds_toArray, List.set_cons_zero, List.set_cons_succ]
        refine wpAnyB_one (i := 13) (by kernel_rfl) rfl (fun K hK => ?_)
        (go_simp; go_at_call 84; refine HhA.out.mono ?_; rintro e w5 ⟨g5, cp5, ok5, rfl, hB5, hg5, hR5⟩; have k5 := (HhG.out.box.drew).below hB5 ozr; have hO5 : Only (fun b => b = y) wr.heap.size wr w5 := hO0.trans (Only.of (hB5.mono (Nat.le_refl _))); dsimp only)
        refine hK.out _ _ (meetB.both (hT0 _ hO5) ⟨by simpa using k5.cell 0, by simpa using k5.cell 1⟩) (fun hM2 => ?_)
        clear hK K
        replace hM := hM2
        clear hM2
        try simp only [List.getElem_toArray, List.getElem_cons_succ, List.getElem_cons_zero, Act.put, List.setIfInBounds_toArray, List.set_cons_zero, List.set_cons_succ]
        have z0 := k5.cell 0
        have z1 := k5.cell 1
        have z2 := k5.frozen 0
        have z3 := k5.frozen 1
        have z4 := k5.lt
        simp at z0 z1
        have hG6 := HhG.out.edge (w5 := w5) (((Below.refl _ _).drew).trans hB5) hg5 hR5 p6
        refine wpAnyB_take (i := 14) (v := ?_) false rfl (by kernel_rfl) (by kernel_rfl) (by kernel_rfl) (by kernel_rfl) (by kernel_rfl) (fun _ _ _ h => h) (Or.inl ⟨by rfl, ?_⟩) hM (fun hM2 => ?_)
        rotate_left
        · (intro w hSw; replace hSw := hSw.1; (try dsimp only at hSw); go_simp; try with_reducible rfl)
        replace hM := hM2
        clear hM2
        try simp only [List.getElem_toArray, List.getElem_cons_succ, List.getElem_cons_zero, Act.put, List.setIfInBounds_toArray, List.set_cons_zero, List.set_cons_succ]
        refine wpAnyB_take (i := 15) (v := ?_) false rfl (by kernel_rfl) (by kernel_rfl) (by kernel_rfl) (by kernel_rfl) (by kernel_rfl) (fun _ _ _ h => h) (Or.inl ⟨by rfl, ?_⟩) hM (fun hM2 => ?_)
        rotate_left
        · (intro w hSw; replace hSw := hSw.1; (try dsimp only at hSw); go_simp; try with_reducible rfl)
        replace hM := hM2
        clear hM2
        try simp only [List.getElem_toArray, List.getElem_cons_succ, List.getElem_cons_zero, Act.put, List.setIfInBounds_toArray, List.set_cons_zero, List.set_cons_succ]
        refine wpAnyB_take (i := 16) (v := ?_) false rfl (by kernel_rfl) (by kernel_rfl) (by kernel_rfl) (by kernel_rfl) (by kernel_rfl) (fun _ _ _ h => h) (Or.inl ⟨by rfl, ?_⟩) hM (fun hM2 => ?_)
        rotate_left
        · (intro w hSw; replace hSw := hSw.1; (try dsimp only at hSw); go_simp; try with_reducible rfl)
        replace hM := hM2
        clear hM2
        try simp only [List.getElem_toArray, List.getElem_cons_succ, List.getElem_cons_zero, Act.put, List.setIfInBounds_toArray, List.set_cons_zero, List.set_cons_succ]
        have hO6 : Only (fun b => b = y) wr.heap.size wr ((w5.setCell ⟨y, 0, none⟩ (.int .i64 7)).setCell ⟨y, 1, none⟩ (.slice (some ⟨g5, 0, none⟩) 7 cp5)) := (hO5.setCell (p := ⟨y, 0, none⟩) (.inl rfl) _).setCell (p := ⟨y, 1, none⟩) (.inl rfl) _
        refine wpAnyB_one (i := 17) (by kernel_rfl) rfl (fun K hK => ?_)
        go_simp
        refine hK.out _ _ (meetB.late (hT0 _ hO6) (by kernel_rfl)) (fun hM2 => ?_)
        clear hK K
        replace hM := hM2
        clear hM2
        try simp only [List.getElem_toArray, List.getElem_cons_succ, List.getElem_cons_zero, Act.put, List.setIfInBounds_toArray, List.set_cons_zero, List.set_cons_succ]
        refine wpAnyB_done (by kernel_rfl) ?_ _
        have HhG6 := Lib.hid hG6
        clear hG6
        clear z0 z1 z2 z3 z4 k5 hO6 hO5 hT0 hM p1 p7 p8 x0 x1 HhA HhG hB5 hg5 hR5 hO0
        generalize World.setCell _ _ _ = W9 at *
        go_wp2_with fail
        go_roundw
        case rel => exact ⟨k + 1, g5, cp5, _, by omega, by go_num, HhG6.out⟩
        case measure => simp [intOf]; omega
      · obtain rfl : k = 6 := by omega
        have hD6 := HhD.out.made hG hWy hcy
        have kb := hG.box
        have hR6 := hG.row
        have hf6 := hG.len
        have hgr := hG.lo
        have hne := hG.ne
        clear HhP HhD hG
        have Hkb := Lib.hid kb
        clear kb
        have HhR6 := Lib.hid hR6
        clear hR6
        go_upto_region 9 with fail
        go_wp2_with fail
        refine (l1Below_any 7 cb n c bo wr hD6.cur (by omega) (by omega)).mono ?_
        rintro e w7 ⟨a, ha, rfl, hD1⟩
        have kb := hD1.blk Hkb.out (by omega)
        have hR6 := hD1.row HhR6.out (by omega)
        replace hD6 := hD6.trans hD1
        clear hD1 Hkb HhR6
        have Hkb := Lib.hid kb
        clear kb
        have HhR6 := Lib.hid hR6
        clear hR6
        go_wp2_with fail
        refine (l1Below_any 7 cb n c bo w7 hD6.cur (by omega) (by omega)).mono ?_
        rintro e w8 ⟨b, hb, rfl, hD1⟩
        have kb := hD1.blk Hkb.out (by omega)
        have hR6 := hD1.row HhR6.out (by omega)
        replace hD6 := hD6.trans hD1
        clear hD1 Hkb HhR6
        have Hkb := Lib.hid kb
        clear kb
        have HhR6 := Lib.hid hR6
        clear hR6
        go_wp2_with fail
        refine (l1Once_any 2 cb n c bo w8 hD6.cur (by omega) (by omega)).mono ?_
        rintro e w9 ⟨bb, rfl, hD1⟩
        have kb := hD1.blk Hkb.out (by omega)
        have hR6 := hD1.row HhR6.out (by omega)
        replace hD6 := hD6.trans hD1
        clear hD1 Hkb HhR6
        have hf7 : f.length ≤ 7 := by omega
        cases bb
        · have hFr : FrI w9 W1.heap.size (some ⟨gb, 0, none⟩) f := ⟨hR6.ints, fun a e => by cases e; show _ ≤ gb; omega⟩
          clear hR6
          have HhFr := Lib.hid hFr
          clear hFr
          have k9 := Hblk.out _ hD6
          have y0 := k9.cell 0
          have y1 := k9.cell 1
          have y3 := k9.frozen 0
          have y4 := k9.frozen 1
          have y6 := k9.lt
          simp at y0 y1
          have z0 := kb.cell 0
          have z1 := kb.cell 1
          have z4 := kb.lt
          simp at z0 z1
          have HE := Lib.hid (Hend.out w9 7 f (some ⟨gb, 0, none⟩) cp hf7 hD6 HhFr.out)
          rw [hf6] at HE
          clear k9 hD6 kb Hblk Hend hf6
          go_wp2_with fail
          refine bodyPost_ret (v := .agg #[.int .i64 7, .slice (some ⟨gb, 0, none⟩) 7 cp]) (by simp [results, Try.results59, go_sem, y0, y1]) rfl ?_
          exact HE.out
        · have hA := specAddEdge_any 7 f a b (some ⟨gb, 0, none⟩) cp w9 hR6.ints (by omega) (by omega)
          have hal := addV_len 7 f a b
          rw [hf6] at hA hal
          generalize addV 7 f a b = f2 at *
          generalize addOk 7 f a b = ok2 at *
          have z0 := kb.cell 0
          have z1 := kb.cell 1
          have z4 := kb.lt
          simp at z0 z1
          have hs9 := hD6.only.size
          have Hk9y := Lib.hid (show y < w9.heap.size from z4)
          have Hkb := Lib.hid kb
          clear kb
          have HhD6 := Lib.hid hD6
          clear hD6
          have Hhal := Lib.hid hal
          clear hal
          clear hR6 hf6 hf7
          go_wp2_with fail
          refine hA.mono ?_
          rintro e w10 ⟨g1, cap1, rfl, hB10, hg1, hR10⟩
          have kb10 := Hkb.out.below hB10 z4
          have hD10 := HhD6.out.below hB10
          clear hA hB10 z0 z1 z4 Hkb HhD6
          have q0 := kb10.cell 0
          have q1 := kb10.cell 1
          have q2 := kb10.frozen 0
          have q3 := kb10.frozen 1
          have q4 := kb10.lt
          simp at q0 q1
          have kb11 : Blk ((w10.setCell ⟨y, 0, none⟩ (.int .i64 7)).setCell ⟨y, 1, none⟩ (.slice (some ⟨g1, 0, none⟩) 7 cap1)) y #[.int .i64 7, .slice (some ⟨g1, 0, none⟩) 7 cap1] 26 := by
            have := (kb10.store 0 (.int .i64 7)).store 1 (.slice (some ⟨g1, 0, none⟩) 7 cap1)
            simpa using this
          have hD11 := (hD10.store (a := ⟨y, 0, none⟩) hWy hcy (.int .i64 7)).store (a := ⟨y, 1, none⟩) hWy hcy (.slice (some ⟨g1, 0, none⟩) 7 cap1)
          have hyl := kb10.lt
          have hR11 : RowAt ((w10.setCell ⟨y, 0, none⟩ (.int .i64 7)).setCell ⟨y, 1, none⟩ (.slice (some ⟨g1, 0, none⟩) 7 cap1)) g1 cap1 f2 := (hR10.otherCell (by have := Hk9y.out; simp; omega)).otherCell (by have := Hk9y.out; simp; omega)
          have hFr : FrI ((w10.setCell ⟨y, 0, none⟩ (.int .i64 7)).setCell ⟨y, 1, none⟩ (.slice (some ⟨g1, 0, none⟩) 7 cap1)) W1.heap.size (some ⟨g1, 0, none⟩) f2 := ⟨hR11.ints, fun a e => by cases e; show _ ≤ g1; omega⟩
          clear kb10 hD10 hR11 hR10
          have Hkb11 := Lib.hid kb11
          clear kb11
          have HhD11 := Lib.hid hD11
          clear hD11
          have HhFr := Lib.hid hFr
          clear hFr
          go_upto_region 13 with fail
          have kb11 := Hkb11.out
          have hD11 := HhD11.out
          have hFr := HhFr.out
          have hal := Hhal.out
          clear Hkb11 HhD11 HhFr Hhal q0 q1 q2 q3 q4
          generalize World.setCell _ _ _ = w11 at *
          have hf7 : f2.length ≤ 7 := by omega
          have HhFr := Lib.hid hFr
          clear hFr
          have k9 := Hblk.out _ hD11
          have y0 := k9.cell 0
          have y1 := k9.cell 1
          have y3 := k9.frozen 0
          have y4 := k9.frozen 1
          have y6 := k9.lt
          simp at y0 y1
          have z0 := kb11.cell 0
          have z1 := kb11.cell 1
          have z4 := kb11.lt
          simp at z0 z1
          have HE := Lib.hid (Hend.out w11 7 f2 (some ⟨g1, 0, none⟩) cap1 hf7 hD11 HhFr.out)
          rw [hal] at HE
          clear k9 hD11 kb11 Hblk Hend hal
          go_wp2_with fail
          refine bodyPost_ret (v := .agg #[.int .i64 7, .slice (some ⟨g1, 0, none⟩) 7 cap1]) (by simp [results, Try.results59, go_sem, y0, y1]) rfl ?_
          exact HE.out
  · go_wp2_with fail
    refine (l10Graph_any cb n c bo w2 hD.cur).mono ?_
    rintro e w3 ⟨x, f, ao, cap, hf7, rfl, hF3, hD1⟩
    have hD3 := hD.trans hD1
    have hF5 := hF3.mono (show W1.heap.size ≤ w2.heap.size by omega)
    clear hD1 hF3 hD hmk2
    have HhF5 := Lib.hid hF5
    clear hF5
    have k9 := Hblk.out _ hD3
    have y0 := k9.cell 0
    have y1 := k9.cell 1
    have y3 := k9.frozen 0
    have y4 := k9.frozen 1
    have y6 := k9.lt
    simp at y0 y1
    skip
    skip
    skip
    skip
    have HE := Lib.hid (Hend.out w3 x f ao cap hf7 hD3 HhF5.out)
    clear k9 hD3  Hblk Hend
    go_wp2_with fail
    refine bodyPost_ret (v := .agg #[.int .i64 x, .slice ao f.length cap]) (by simp [results, Try.results59, go_sem, y0, y1]) rfl ?_
    exact HE.out

set_option maxRecDepth 100000 in
set_option maxHeartbeats 8000000 in
theorem l12Graph_any (cb n c : Nat) (bo : Option Addr) (w : World) (h : CurAt w cb bo n c) :
    Calls Try.prog 29 #[.pointer (some ⟨cb, 0, none⟩)] w (RetXG cb bo n c w) := by
  have hcw := h.lt
  go_enter Try.func29, Try.ntmps29
  go_wp2_with fail
  generalize hW : World.alloc _ _ = W1
  obtain ⟨hB, hs, k0⟩ := alloc1 hW
  have hD := DrewC.refl (h.below hB)
  have hs1 : w.heap.size < W1.heap.size := by omega
  clear hW hs
  have HhB := Lib.hid hB
  clear hB
  have Hk0 := Lib.hid k0
  clear k0
  have Hend := Lib.hid (fun (wz : World) (x : Int) (f : List Int) (ao : Option Addr) (cap : Nat) (hf : f.length ≤ 7) (hD : DrewC cb bo n c W1 wz) (h1 : FrI wz W1.heap.size ao f) => (
    ⟨x, f, ao, cap, hf, rfl, ((h1.store (a := ⟨w.heap.size, 0, none⟩) hs1 _).store (a := ⟨w.heap.size, 1, none⟩) hs1 _).mono (by omega),
      ((hD.front HhB.out).store (a := ⟨w.heap.size, 0, none⟩) (Nat.le_refl _) hcw _).store (a := ⟨w.heap.size, 1, none⟩) (Nat.le_refl _) hcw _⟩ :
    RetXG cb bo n c w (.returned (.agg #[.int .i64 x, .slice ao f.length cap])) ((wz.setCell ⟨w.heap.size, 0, none⟩ (.int .i64 x)).setCell ⟨w.heap.size, 1, none⟩ (.slice ao f.length cap))))
  have Hblk := Lib.hid (fun (wz : World) (hD : DrewC cb bo n c W1 wz) => (hD.blk Hk0.out (by omega) : Blk wz w.heap.size #[.int .i64 0, .slice none 0 0] 26))
  refine (l1Once_any 2 cb n c bo W1 hD.cur (by omega) (by omega)).mono ?_
  rintro e w2 ⟨b1, rfl, hD1⟩
  replace hD := hD.trans hD1
  have hs2 := hD.only.size
  clear hD1
  cases b1
  · go_upto_region 4 with fail
    generalize hW5 : World.alloc _ _ = W2
    obtain ⟨hB5, hz5, kb⟩ := alloc1 hW5
    have hcb1 : cb < w2.heap.size := hD.cur.lt
    replace hD := hD.below hB5
    have hyW : w2.heap.size < W2.heap.size := by omega
    have hW1y : W1.heap.size ≤ w2.heap.size := hs2
    clear hW5 hB5 hz5
    generalize w2.heap.size = yb at *
    have Hkb := Lib.hid kb
    clear kb
    go_wp2_with fail
    refine (l1Below_any 6 cb n c bo W2 hD.cur (by omega) (by omega)).mono ?_
    rintro e w3 ⟨u2, hu2, rfl, hD1⟩
    have kb := hD1.blk Hkb.out (by omega)
    replace hD := hD.trans hD1
    have hs3 := hD1.only.size
    clear hD1 Hkb
    have hTn : TwoL w3 W2.heap.size (.slice none 0 0) (.slice none 0 0) [] [] := TwoL.nil _ _
    have HhD := Lib.hid hD
    clear hD
    have Hkb := Lib.hid kb
    clear kb
    have HhTn := Lib.hid hTn
    clear hTn
    go_upto_region 5 with fail
    go_loopw [4] (fun i wr => ∃ (k : Nat) (f l : List Int) (v1 v2 : Value), i = .int .i64 k ∧ k + f.length = u2 + 1 ∧ l.length = f.length ∧ DrewC cb bo n c W1 wr ∧ W2.heap.size ≤ wr.heap.size ∧ Blk wr yb #[v1, v2] 59 ∧ TwoL wr W2.heap.size v1 v2 f l) (fun i _ => (intOf i).toNat)
    case atStart => exact ⟨u2 + 1, [], [], _, _, by go_num, by simp, rfl, HhD.out, hs3, Hkb.out, HhTn.out⟩
    case round =>
      clear HhD Hkb HhTn
      obtain ⟨k, f, l, v1, v2, rfl, hkf, hll, hD, hsz, kb, hT⟩ := hrel
      obtain ⟨ao, c1, rfl⟩ := hT.o1.form
      obtain ⟨bo2, c2, rfl⟩ := hT.o2.form
      by_cases hk0 : 0 < k
      · have d0 : decide (0 < (k : Int)) = true := decide_eq_true (by omega)
        have Hkp := Lib.hid hk0
        have hk6 : k ≤ 6 := by omega
        have hq : (k : Int) - 1 = ((k - 1 : Nat) : Int) := by omega
        have hfl : f.length ≤ 1048576 := by omega
        have hgl : l.length ≤ 1048576 := by omega
        have Hkb := Lib.hid kb
        clear kb
        have HhT := Lib.hid hT
        clear hT
        have Hhkf := Lib.hid hkf
        clear hkf
        have Hhll := Lib.hid hll
        clear hll
        go_upto_region 7 with fail
        go_wp2_with fail
        refine (l1Below_any 12 cb n c bo wr hD.cur (by omega) (by omega)).mono ?_
        rintro e w4 ⟨za, hza, rfl, hD1⟩
        have kb := hD1.blk Hkb.out (by omega)
        have hT := HhT.out.only hD1.only (by omega)
        have hs4 := Nat.le_trans hsz hD1.only.size
        replace hD := hD.trans hD1
        clear hD1 Hkb HhT hsz
        have x0 := kb.cell 0
        have x1 := kb.cell 1
        have x2 := kb.frozen 0
        have x4 := kb.lt
        simp at x0 x1
        have HhD := Lib.hid hD
        clear hD
        have Hkb := Lib.hid kb
        clear kb
        have HhT := Lib.hid hT
        clear hT
        go_upto_region 8 with fail
        go_upto_region 9 with (at_builtin; go_must (refine wpList_append_1 rfl _ _ (by rfl) W2.heap.size (.slice ao f.length c1) (.slice bo2 l.length c2) f l (za : Int) (by rfl) HhT.out (by rfl) hs4 hfl f.length rfl ?_); intro g4 c4 w6 hT6 hB6; have kb6 := Hkb.out.below hB6 hyW; have q0 := kb6.cell 0; have q1 := kb6.frozen 0; have q2 := kb6.lt; simp at q0)
        have kb7 : Blk (w6.setCell ⟨yb, 0, none⟩ (.slice (some ⟨g4, 0, none⟩) (f.length + 1) c4)) yb #[.slice (some ⟨g4, 0, none⟩) (f.length + 1) c4, .slice bo2 l.length c2] 59 := by simpa using kb6.store 0 (.slice (some ⟨g4, 0, none⟩) (f.length + 1) c4)
        have hT7 := hT6.store (a := ⟨yb, 0, none⟩) hyW (.slice (some ⟨g4, 0, none⟩) (f.length + 1) c4)
        have hD7 := (HhD.out.grow hB6 (by omega) (by omega)).store (a := ⟨yb, 0, none⟩) hW1y hcb1 (.slice (some ⟨g4, 0, none⟩) (f.length + 1) c4)
        have hs7 : W2.heap.size ≤ (w6.setCell ⟨yb, 0, none⟩ (.slice (some ⟨g4, 0, none⟩) (f.length + 1) c4)).heap.size := by have := hB6.size; simp; omega
        clear q0 q1 q2 kb6 hT6 hB6 x0 x1 x2 x4 HhD Hkb HhT hs4
        generalize World.setCell _ _ _ = w7 at *
        have x0 := kb7.cell 0
        have x1 := kb7.cell 1
        have x2 := kb7.frozen 1
        have x4 := kb7.lt
        simp at x0 x1
        have hw3 : IntKind.i64.wrap ((za : Int) + 3) = (za : Int) + 3 := IntKind_i64_in _ (by omega) (by omega)
        have hT := hT7
        have kb := kb7
        have hs4 := hs7
        have Hkb := Lib.hid kb
        clear kb
        have HhT := Lib.hid hT
        clear hT
        clear kb7 hT7
        go_upto_region 6 with (at_builtin; go_must (refine wpList_append_2 rfl _ _ (by rfl) W2.heap.size (.slice (some ⟨g4, 0, none⟩) (f.length + 1) c4) (.slice bo2 l.length c2) (f ++ [(za : Int)]) l ((za : Int) + 3) (by rfl) HhT.out (by rfl) hs4 hgl l.length rfl ?_); intro g5 c5 w6 hT6 hB6; have kb6 := Hkb.out.below hB6 hyW; have q0 := kb6.cell 1; have q1 := kb6.frozen 1; have q2 := kb6.lt; simp at q0)
        have kb10 : Blk (w6.setCell ⟨yb, 1, none⟩ (.slice (some ⟨g5, 0, none⟩) (l.length + 1) c5)) yb #[.slice (some ⟨g4, 0, none⟩) (f.length + 1) c4, .slice (some ⟨g5, 0, none⟩) (l.length + 1) c5] 59 := by simpa using kb6.store 1 (.slice (some ⟨g5, 0, none⟩) (l.length + 1) c5)
        have hT10 := hT6.store (a := ⟨yb, 1, none⟩) hyW (.slice (some ⟨g5, 0, none⟩) (l.length + 1) c5)
        have hD10 := (hD7.grow hB6 (by omega) (by omega)).store (a := ⟨yb, 1, none⟩) hW1y hcb1 (.slice (some ⟨g5, 0, none⟩) (l.length + 1) c5)
        have hs10 : W2.heap.size ≤ (w6.setCell ⟨yb, 1, none⟩ (.slice (some ⟨g5, 0, none⟩) (l.length + 1) c5)).heap.size := by have := hB6.size; simp; omega
        clear q0 q1 q2 kb6 hT6 hB6 x0 x1 x2 x4 hw3 Hkb HhT hD7 hs4
        generalize World.setCell _ _ _ = w11 at *
        have HhD10 := Lib.hid hD10
        clear hD10
        have Hkb10 := Lib.hid kb10
        clear kb10
        have HhT10 := Lib.hid hT10
        clear hT10
        go_wp2_with fail
        go_roundw
        case rel => exact ⟨k - 1, f ++ [(za : Int)], l ++ [(za : Int) + 3], _, _, by go_num, by have := Hhkf.out; have := Hkp.out; simp; omega, by have := Hhll.out; simp; omega, HhD10.out, hs10, Hkb10.out, HhT10.out⟩
        case measure => have := Hkp.out; simp [intOf]; omega
      · obtain rfl : k = 0 := by omega
        have d0 : decide (0 < ((0 : Nat) : Int)) = false := rfl
        have hIa := (OwnE.own hT.o1).ints
        have hIb := (OwnE.own hT.o2).ints
        have hG := specGraphIvl_any f l ao bo2 c1 c2 wr hIa hIb (by omega) (by omega)
        have x0 := kb.cell 0
        have x1 := kb.cell 1
        have x4 := kb.lt
        simp at x0 x1
        have hszw := hD.only.size
        clear hT hkf hll hIa hIb kb
        have HhD := Lib.hid hD
        clear hD
        go_upto_region 10 with fail
        go_wp2_with fail
        refine hG.mono ?_
        rintro e w4 ⟨N, R, ao6, cap6, ok6, hR7, rfl, hB4, hF4⟩
        have hD4 := HhD.out.below hB4
        have hF5 := hF4.mono (show W1.heap.size ≤ wr.heap.size by omega)
        clear hG HhD hB4 hF4 x0 x1 x4
        go_upto_region 11 with fail
        generalize hW5 : World.alloc _ _ = W5
        obtain ⟨hB5, hz5, k5⟩ := alloc1 hW5
        replace hD4 := hD4.below hB5
        replace hF5 := hF5.below hB5
        clear hW5 hB5 hz5
        generalize w4.heap.size = yd at *
        have HhF5 := Lib.hid hF5
        clear hF5
        have k9 := Hblk.out _ hD4
        have y0 := k9.cell 0
        have y1 := k9.cell 1
        have y3 := k9.frozen 0
        have y4 := k9.frozen 1
        have y6 := k9.lt
        simp at y0 y1
        have z0 := k5.cell 0
        have z1 := k5.cell 1
        have z4 := k5.lt
        simp at z0 z1
        have HE := Lib.hid (Hend.out W5 N R ao6 cap6 hR7 hD4 HhF5.out)
        clear k9 hD4 k5 Hblk Hend
        go_wp2_with fail
        refine bodyPost_ret (v := .agg #[.int .i64 N, .slice ao6 R.length cap6]) (by simp [results, Try.results29, go_sem, y0, y1]) rfl ?_
        exact HE.out
  · go_wp2_with fail
    refine (l11Graph_any cb n c bo w2 hD.cur).mono ?_
    rintro e w3 ⟨x, f, ao, cap, hf7, rfl, hF3, hD1⟩
    have hD3 := hD.trans hD1
    have hF5 := hF3.mono (show W1.heap.size ≤ w2.heap.size by omega)
    clear hD1 hF3 hD
    have HhF5 := Lib.hid hF5
    clear hF5
    have k9 := Hblk.out _ hD3
    have y0 := k9.cell 0
    have y1 := k9.cell 1
    have y3 := k9.frozen 0
    have y4 := k9.frozen 1
    have y6 := k9.lt
    simp at y0 y1
    skip
    skip
    skip
    skip
    have HE := Lib.hid (Hend.out w3 x f ao cap hf7 hD3 HhF5.out)
    clear k9 hD3  Hblk Hend
    go_wp2_with fail
    refine bodyPost_ret (v := .agg #[.int .i64 x, .slice ao f.length cap]) (by simp [results, Try.results29, go_sem, y0, y1]) rfl ?_
    exact HE.out

/-- Some graph, by a call of its own cursor. -/
def RetXN (w : World) (e : Ending) (w' : World) : Prop :=
  ∃ (x : Int) (f : List Int) (ao : Option Addr) (cap : Nat), f.length ≤ 7 ∧ e = .returned (.agg #[.int .i64 x, .slice ao f.length cap]) ∧ IntsAt w' ao f ∧ Below w.heap.size w w'

set_option maxRecDepth 100000 in
set_option maxHeartbeats 4000000 in
theorem DrawBandwidthOf_any (n c : Nat) (bo : Option Addr) (w : World) (h : BytesU w.heap.size w bo n) (hn : n ≤ 1048576) :
    Calls Try.prog 5 #[.slice bo n c] w (RetXN w) := by
  go_enter Try.func5, Try.ntmps5
  go_wp2_with fail
  generalize hW : World.alloc _ _ = W1
  obtain ⟨hB, hs, k0⟩ := alloc1 hW
  have hs1 : w.heap.size < W1.heap.size := by omega
  have hb1 : BytesU W1.heap.size W1 bo n := (h.only (Only.of (X := fun _ => False) hB) fun _ _ h => h).mono (by omega)
  clear hW hs
  refine (l1New_any n c bo W1 hb1 hn).mono ?_
  rintro e w1 ⟨cb, rfl, hB1, hcb, hC⟩
  replace k0 := k0.below hB1 hs1
  have hs2 := hB1.size
  replace hB := hB.trans (hB1.mono (by omega))
  have HhB := Lib.hid hB
  clear hB
  have Hk0 := Lib.hid k0
  clear k0
  clear hb1 hB1 h
  go_wp2_with fail
  refine (l12Graph_any cb n c bo w1 hC).mono ?_
  rintro e w2 ⟨x, f, ao, cap, hf, rfl, hF, hD⟩
  have k9 := hD.blk Hk0.out (by omega)
  have y0 := k9.cell 0
  have y1 := k9.cell 1
  have y2 := k9.frozen 0
  have y3 := k9.frozen 1
  have y4 := k9.lt
  simp at y0 y1
  have HE := Lib.hid (show RetXN w (.returned (.agg #[.int .i64 x, .slice ao f.length cap])) ((w2.setCell ⟨w.heap.size, 0, none⟩ (.int .i64 x)).setCell ⟨w.heap.size, 1, none⟩ (.slice ao f.length cap)) from
    ⟨x, f, ao, cap, hf, rfl, ((hF.store (a := ⟨w.heap.size, 0, none⟩) (by show w.heap.size < _; omega) _).store (a := ⟨w.heap.size, 1, none⟩) (by show w.heap.size < _; omega) _).1, ((HhB.out.trans (hD.only.below (by omega) fun b hb e => by have e2 : b = cb := e; omega)).setCell (by simp) _).setCell (by simp) _⟩)
  clear k9 hD hF HhB Hk0 hC
  go_wp2_with fail
  refine bodyPost_ret (v := .agg #[.int .i64 x, .slice ao f.length cap]) (by simp [results, Try.results5, go_sem, y0, y1]) rfl ?_
  exact HE.out

set_option maxRecDepth 100000 in
set_option maxHeartbeats 4000000 in
theorem DrawBestBand_any (n c : Nat) (bo : Option Addr) (w : World) (h : BytesU w.heap.size w bo n) (hn : n ≤ 1048576) :
    Calls Try.prog 26 #[.slice bo n c] w (RetXN w) := by
  go_enter Try.func26, Try.ntmps26
  go_wp2_with fail
  generalize hW : World.alloc _ _ = W1
  obtain ⟨hB, hs, k0⟩ := alloc1 hW
  have hs1 : w.heap.size < W1.heap.size := by omega
  have hb1 : BytesU W1.heap.size W1 bo n := (h.only (Only.of (X := fun _ => False) hB) fun _ _ h => h).mono (by omega)
  clear hW hs
  refine (l1New_any n c bo W1 hb1 hn).mono ?_
  rintro e w1 ⟨cb, rfl, hB1, hcb, hC⟩
  replace k0 := k0.below hB1 hs1
  have hs2 := hB1.size
  replace hB := hB.trans (hB1.mono (by omega))
  have HhB := Lib.hid hB
  clear hB
  have Hk0 := Lib.hid k0
  clear k0
  clear hb1 hB1 h
  go_wp2_with fail
  refine (l12Graph_any cb n c bo w1 hC).mono ?_
  rintro e w2 ⟨x, f, ao, cap, hf, rfl, hF, hD⟩
  have k9 := hD.blk Hk0.out (by omega)
  have y0 := k9.cell 0
  have y1 := k9.cell 1
  have y2 := k9.frozen 0
  have y3 := k9.frozen 1
  have y4 := k9.lt
  simp at y0 y1
  have HE := Lib.hid (show RetXN w (.returned (.agg #[.int .i64 x, .slice ao f.length cap])) ((w2.setCell ⟨w.heap.size, 0, none⟩ (.int .i64 x)).setCell ⟨w.heap.size, 1, none⟩ (.slice ao f.length cap)) from
    ⟨x, f, ao, cap, hf, rfl, ((hF.store (a := ⟨w.heap.size, 0, none⟩) (by show w.heap.size < _; omega) _).store (a := ⟨w.heap.size, 1, none⟩) (by show w.heap.size < _; omega) _).1, ((HhB.out.trans (hD.only.below (by omega) fun b hb e => by have e2 : b = cb := e; omega)).setCell (by simp) _).setCell (by simp) _⟩)
  clear k9 hD hF HhB Hk0 hC
  go_wp2_with fail
  refine bodyPost_ret (v := .agg #[.int .i64 x, .slice ao f.length cap]) (by simp [results, Try.results26, go_sem, y0, y1]) rfl ?_
  exact HE.out

set_option maxRecDepth 100000 in
set_option maxHeartbeats 4000000 in
theorem DrawPathwidthOf_any (n c : Nat) (bo : Option Addr) (w : World) (h : BytesU w.heap.size w bo n) (hn : n ≤ 1048576) :
    Calls Try.prog 24 #[.slice bo n c] w (RetXN w) := by
  go_enter Try.func24, Try.ntmps24
  go_wp2_with fail
  generalize hW : World.alloc _ _ = W1
  obtain ⟨hB, hs, k0⟩ := alloc1 hW
  have hs1 : w.heap.size < W1.heap.size := by omega
  have hb1 : BytesU W1.heap.size W1 bo n := (h.only (Only.of (X := fun _ => False) hB) fun _ _ h => h).mono (by omega)
  clear hW hs
  refine (l1New_any n c bo W1 hb1 hn).mono ?_
  rintro e w1 ⟨cb, rfl, hB1, hcb, hC⟩
  replace k0 := k0.below hB1 hs1
  have hs2 := hB1.size
  replace hB := hB.trans (hB1.mono (by omega))
  have HhB := Lib.hid hB
  clear hB
  have Hk0 := Lib.hid k0
  clear k0
  clear hb1 hB1 h
  go_wp2_with fail
  refine (l10Graph_any cb n c bo w1 hC).mono ?_
  rintro e w2 ⟨x, f, ao, cap, hf, rfl, hF, hD⟩
  have k9 := hD.blk Hk0.out (by omega)
  have y0 := k9.cell 0
  have y1 := k9.cell 1
  have y2 := k9.frozen 0
  have y3 := k9.frozen 1
  have y4 := k9.lt
  simp at y0 y1
  have HE := Lib.hid (show RetXN w (.returned (.agg #[.int .i64 x, .slice ao f.length cap])) ((w2.setCell ⟨w.heap.size, 0, none⟩ (.int .i64 x)).setCell ⟨w.heap.size, 1, none⟩ (.slice ao f.length cap)) from
    ⟨x, f, ao, cap, hf, rfl, ((hF.store (a := ⟨w.heap.size, 0, none⟩) (by show w.heap.size < _; omega) _).store (a := ⟨w.heap.size, 1, none⟩) (by show w.heap.size < _; omega) _).1, ((HhB.out.trans (hD.only.below (by omega) fun b hb e => by have e2 : b = cb := e; omega)).setCell (by simp) _).setCell (by simp) _⟩)
  clear k9 hD hF HhB Hk0 hC
  go_wp2_with fail
  refine bodyPost_ret (v := .agg #[.int .i64 x, .slice ao f.length cap]) (by simp [results, Try.results24, go_sem, y0, y1]) rfl ?_
  exact HE.out

set_option maxRecDepth 100000 in
set_option maxHeartbeats 4000000 in
theorem DrawTreewidthOf_any (n c : Nat) (bo : Option Addr) (w : World) (h : BytesU w.heap.size w bo n) (hn : n ≤ 1048576) :
    Calls Try.prog 25 #[.slice bo n c] w (RetAN w) := by
  go_enter Try.func25, Try.ntmps25
  go_wp2_with fail
  generalize hW : World.alloc _ _ = W1
  obtain ⟨hB, hs, k0⟩ := alloc1 hW
  have hs1 : w.heap.size < W1.heap.size := by omega
  have hb1 : BytesU W1.heap.size W1 bo n := (h.only (Only.of (X := fun _ => False) hB) fun _ _ h => h).mono (by omega)
  clear hW hs
  refine (l1New_any n c bo W1 hb1 hn).mono ?_
  rintro e w1 ⟨cb, rfl, hB1, hcb, hC⟩
  replace k0 := k0.below hB1 hs1
  have hs2 := hB1.size
  replace hB := hB.trans (hB1.mono (by omega))
  have HhB := Lib.hid hB
  clear hB
  have Hk0 := Lib.hid k0
  clear k0
  clear hb1 hB1 h
  go_wp2_with fail
  refine (l8Chordal_any cb n c bo w1 hC).mono ?_
  rintro e w2 ⟨x, f, g, cap, hf, rfl, hg, hR, hD⟩
  have k9 := hD.blk Hk0.out (by omega)
  have y0 := k9.cell 0
  have y1 := k9.cell 1
  have y2 := k9.frozen 0
  have y3 := k9.frozen 1
  have y4 := k9.lt
  simp at y0 y1
  have HE := Lib.hid (show RetAN w (.returned (.agg #[.int .i64 x, .slice (some ⟨g, 0, none⟩) f.length cap])) ((w2.setCell ⟨w.heap.size, 0, none⟩ (.int .i64 x)).setCell ⟨w.heap.size, 1, none⟩ (.slice (some ⟨g, 0, none⟩) f.length cap)) from
    ⟨x, f, g, cap, hf, rfl, by omega, (hR.otherCell (by simp; omega)).otherCell (by simp; omega), ((HhB.out.trans (hD.only.below (by omega) fun b hb e => by have e2 : b = cb := e; omega)).setCell (by simp) _).setCell (by simp) _⟩)
  clear k9 hD hR HhB Hk0 hC
  go_wp2_with fail
  refine bodyPost_ret (v := .agg #[.int .i64 x, .slice (some ⟨g, 0, none⟩) f.length cap]) (by simp [results, Try.results25, go_sem, y0, y1]) rfl ?_
  exact HE.out

end Go.Proofs.Ytfkehmpckhmkbaa
