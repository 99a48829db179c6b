/-
  The drawing of intervals: l9Model. For texts of at most 2^20 bytes.
-/
import Derived.Test.YtfkehmpckhmkbaaPkLawWidths09
import Derived.Test.YtfkehmpckhmkbaaPkLawWidths15
import Derived.Deep.CutRange
namespace Go.Proofs.Ytfkehmpckhmkbaa
open Go.RowKit

/-- Intervals have been drawn. -/
def RetMo (cb : Nat) (bo : Option Addr) (n c : Nat) (w : World) (e : Ending) (w' : World) : Prop :=
  ∃ (f l : List Int) (fo lo : Option Addr) (fc lc : Nat), f.length ≤ 6 ∧ l.length ≤ 6 ∧ e = .returned (.agg #[.slice fo f.length fc, .slice lo l.length lc]) ∧ FrI w' w.heap.size fo f ∧ FrI w' w.heap.size lo l ∧ DrewC cb bo n c w w'

set_option maxRecDepth 100000 in
set_option maxHeartbeats 8000000 in
theorem l9Model_any (cb n c : Nat) (bo : Option Addr) (w : World) (h : CurAt w cb bo n c) :
    Calls Try.prog 85 #[.pointer (some ⟨cb, 0, none⟩)] w (RetMo cb bo n c w) := by
  have hcw := h.lt
  go_enter Try.func85, Try.ntmps85
  go_upto_region 2 with fail
  generalize hW1 : w.alloc _ = W1
  generalize hW2 : W1.alloc _ = W2
  obtain ⟨hB, hs, k0⟩ := alloc1 hW1
  obtain ⟨hBb, hzb, kb⟩ := alloc1 hW2
  have hD := (DrewC.refl (h.below hB)).below hBb
  have hs1 : w.heap.size < W1.heap.size := by omega
  have hyW : W1.heap.size < W2.heap.size := by omega
  have hyb : w.heap.size + 1 = W1.heap.size := by omega
  rw [hyb]
  have hW1s : W1.heap.size ≤ W1.heap.size := Nat.le_refl _
  have hcb1 : cb < W1.heap.size := by omega
  clear hW1 hW2 hs hzb hBb hyb
  have HhB := Lib.hid hB
  clear hB
  have Hk0 := Lib.hid k0
  clear k0
  have Hend := Lib.hid (fun (wz : World) (f l : List Int) (fo lo : Option Addr) (fc lc : Nat) (hf : f.length ≤ 6) (hl : l.length ≤ 6) (hD : DrewC cb bo n c W1 wz) (h1 : FrI wz W1.heap.size fo f) (h2 : FrI wz W1.heap.size lo l) => (
    ⟨f, l, fo, lo, fc, lc, hf, hl, rfl, ((h1.store (a := ⟨w.heap.size, 0, none⟩) hs1 _).store (a := ⟨w.heap.size, 1, none⟩) hs1 _).mono (by omega), ((h2.store (a := ⟨w.heap.size, 0, none⟩) hs1 _).store (a := ⟨w.heap.size, 1, none⟩) hs1 _).mono (by omega),
      ((hD.front HhB.out).store (a := ⟨w.heap.size, 0, none⟩) (Nat.le_refl _) hcw _).store (a := ⟨w.heap.size, 1, none⟩) (Nat.le_refl _) hcw _⟩ :
    RetMo cb bo n c w (.returned (.agg #[.slice fo f.length fc, .slice lo l.length lc])) ((wz.setCell ⟨w.heap.size, 0, none⟩ (.slice fo f.length fc)).setCell ⟨w.heap.size, 1, none⟩ (.slice lo l.length lc))))
  have Hblk := Lib.hid (fun (wz : World) (hD : DrewC cb bo n c W1 wz) => (hD.blk Hk0.out (by omega) : Blk wz w.heap.size #[.slice none 0 0, .slice none 0 0] 59))
  generalize hy9 : W1.heap.size = yb at hyW hW1s hcb1 kb ⊢
  have hW1y : W1.heap.size ≤ yb := Nat.le_of_eq hy9
  have hwy : w.heap.size < yb := by omega
  clear hy9 hW1s
  have Hkb := Lib.hid kb
  clear kb
  go_wp2_with fail
  refine (l1Once_any 3 cb n c bo W2 hD.cur (by omega) (by omega)).mono ?_
  rintro e w2 ⟨un, rfl, hD1⟩
  have kb := hD1.blk Hkb.out (by omega)
  replace hD := hD.trans hD1
  have hs2 := hD1.only.size
  clear hD1 Hkb
  have Hkb := Lib.hid kb
  clear kb
  go_wp2_with fail
  refine (l1Below_any 6 cb n c bo w2 hD.cur (by omega) (by omega)).mono ?_
  rintro e w3 ⟨u2, hu2, rfl, hD1⟩
  have kb := hD1.blk Hkb.out (by omega)
  replace hD := hD.trans hD1
  have hs3 := Nat.le_trans hs2 hD1.only.size
  clear hD1 Hkb hs2
  have hTn : TwoL w3 W2.heap.size (.slice none 0 0) (.slice none 0 0) [] [] := TwoL.nil _ _
  have HhD := Lib.hid hD
  clear hD
  have Hkb := Lib.hid kb
  clear kb
  have HhTn := Lib.hid hTn
  clear hTn
  go_upto_region 4 with fail
  go_loopw [5] (fun i wr => ∃ (k : Nat) (f l : List Int) (v1 v2 : Value), i = .int .i64 k ∧ k + f.length = u2 + 1 ∧ l.length = f.length ∧ DrewC cb bo n c W1 wr ∧ W2.heap.size ≤ wr.heap.size ∧ Blk wr yb #[v1, v2] 59 ∧ TwoL wr W2.heap.size v1 v2 f l) (fun i _ => (intOf i).toNat)
  case atStart => exact ⟨u2 + 1, [], [], _, _, by go_num, by simp, rfl, HhD.out, hs3, Hkb.out, HhTn.out⟩
  case round =>
    clear HhD Hkb HhTn
    obtain ⟨k, f, l, v1, v2, rfl, hkf, hll, hD, hsz, kb, hT⟩ := hrel
    obtain ⟨ao, c1, rfl⟩ := hT.o1.form
    obtain ⟨bo2, c2, rfl⟩ := hT.o2.form
    by_cases hk0 : 0 < k
    · have d0 : decide (0 < (k : Int)) = true := decide_eq_true (by omega)
      have Hkp := Lib.hid hk0
      have hk6 : k ≤ 6 := by omega
      have hq : (k : Int) - 1 = ((k - 1 : Nat) : Int) := by omega
      have hfl : f.length ≤ 1048576 := by omega
      have hgl : l.length ≤ 1048576 := by omega
      have Hkb := Lib.hid kb
      clear kb
      have HhT := Lib.hid hT
      clear hT
      have Hhkf := Lib.hid hkf
      clear hkf
      have Hhll := Lib.hid hll
      clear hll
      go_upto_region 6 with fail
      go_wp2_with fail
      refine (l1Below_any 12 cb n c bo wr hD.cur (by omega) (by omega)).mono ?_
      rintro e w4 ⟨za, hza, rfl, hD1⟩
      have kb := hD1.blk Hkb.out (by omega)
      have hT := HhT.out.only hD1.only (by omega)
      have hs4 := Nat.le_trans hsz hD1.only.size
      replace hD := hD.trans hD1
      clear hD1 Hkb HhT hsz
      have x0 := kb.cell 0
      have x1 := kb.cell 1
      have x2 := kb.frozen 0
      have x4 := kb.lt
      simp at x0 x1
      have HhD := Lib.hid hD
      clear hD
      have Hkb := Lib.hid kb
      clear kb
      have HhT := Lib.hid hT
      clear hT
      go_upto_region 8 with (at_builtin; go_must (refine wpList_append_1 rfl _ _ (by rfl) W2.heap.size (.slice ao f.length c1) (.slice bo2 l.length c2) f l (za : Int) (by rfl) HhT.out (by rfl) hs4 hfl f.length rfl ?_); intro g4 c4 w6 hT6 hB6; have kb6 := Hkb.out.below hB6 hyW; have q0 := kb6.cell 0; have q1 := kb6.frozen 0; have q2 := kb6.lt; simp at q0)
      have kb7 : Blk (w6.setCell ⟨yb, 0, none⟩ (.slice (some ⟨g4, 0, none⟩) (f.length + 1) c4)) yb #[.slice (some ⟨g4, 0, none⟩) (f.length + 1) c4, .slice bo2 l.length c2] 59 := by simpa using kb6.store 0 (.slice (some ⟨g4, 0, none⟩) (f.length + 1) c4)
      have hT7 := hT6.store (a := ⟨yb, 0, none⟩) hyW (.slice (some ⟨g4, 0, none⟩) (f.length + 1) c4)
      have hD7 := (HhD.out.grow hB6 (by omega) (by omega)).store (a := ⟨yb, 0, none⟩) hW1y hcb1 (.slice (some ⟨g4, 0, none⟩) (f.length + 1) c4)
      have hs7 : W2.heap.size ≤ (w6.setCell ⟨yb, 0, none⟩ (.slice (some ⟨g4, 0, none⟩) (f.length + 1) c4)).heap.size := by have := hB6.size; simp; omega
      clear q0 q1 q2 kb6 hT6 hB6 x0 x1 x2 x4 HhD Hkb HhT hs4
      generalize World.setCell _ _ _ = w7 at *
      have x0 := kb7.cell 0
      have x1 := kb7.cell 1
      have x2 := kb7.frozen 1
      have x4 := kb7.lt
      simp at x0 x1
      have hcw7 := hD7.cur.lt
      have hCur : CurAt w7.drew cb bo n c := hD7.cur.below (Below.refl _ _).drew
      have hw3 : IntKind.i64.wrap ((za : Int) + 3) = (za : Int) + 3 := IntKind_i64_in _ (by omega) (by omega)
      cases un
      · -- a length is drawn
        have kb := kb7
        have hT := hT7
        have Hkb := Lib.hid kb
        clear kb
        have HhT := Lib.hid hT
        clear hT
        clear kb7 hT7
        go_upto_region 10 with fail
        refine wp_region_B (fun w' => True) (fun w' => w'.cell? ⟨yb, 1, none⟩ = some (.slice bo2 l.length c2)) [9] (by kernel_rfl) (trivial) (x1) (fun hM => ?_)
        refine wpAnyB_take (i := 0) (v := ?_) false rfl (by kernel_rfl) (by kernel_rfl) (by kernel_rfl) (by kernel_rfl) (by kernel_rfl) (fun _ _ _ h => h) (Or.inl ⟨by rfl, ?_⟩) hM (fun hM2 => ?_)
        rotate_left
        · (intro w hSw; replace hSw := hSw.1; (try dsimp only at hSw); go_simp; try with_reducible rfl)
        replace hM := hM2
        clear hM2
        try simp only [List.getElem_toArray, List.getElem_cons_zero, Act.put, List.setIfInBounds_toArray, List.set_cons_zero, List.set_cons_succ]
        refine wpAnyB_take (i := 1) (v := ?_) true rfl (by kernel_rfl) (by kernel_rfl) (by kernel_rfl) (by kernel_rfl) (by kernel_rfl) (fun _ _ _ h => h) (Or.inl ⟨by rfl, ?_⟩) hM (fun hM2 => ?_)
        rotate_left
        · (intro w hSw; have hSl := hSw.2 rfl; replace hSw := hSw.1; (try dsimp only at hSl); (try dsimp only at hSw); go_simp; try with_reducible rfl)
        replace hM := hM2
        clear hM2
        try simp only [List.getElem_toArray, List.getElem_cons_succ, List.getElem_cons_zero, Act.put, List.setIfInBounds_toArray, List.set_cons_zero, List.set_cons_succ]
        refine wpAnyB_take (i := 2) (v := ?_) false rfl (by kernel_rfl) (by kernel_rfl) (by kernel_rfl) (by kernel_rfl) (by kernel_rfl) (fun _ _ _ h => h) (Or.inl ⟨by rfl, ?_⟩) hM (fun hM2 => ?_)
        rotate_left
        · (intro w hSw; replace hSw := hSw.1; (try dsimp only at hSw); go_simp; try with_reducible rfl)
        replace hM := hM2
        clear hM2
        try simp only [List.getElem_toArray, List.getElem_cons_succ, List.getElem_cons_zero, Act.put, List.setIfInBounds_toArray, List.set_cons_zero, List.set_cons_succ]
        refine wpAnyB_take (i := 3) (v := ?_) false rfl (by kernel_rfl) (by kernel_rfl) (by kernel_rfl) (by kernel_rfl) (by kernel_rfl) (fun _ _ _ h => h) (Or.inl ⟨by rfl, ?_⟩) hM (fun hM2 => ?_)
        rotate_left
        · (intro w hSw; replace hSw := hSw.1; (try dsimp only at hSw); go_simp; try with_reducible rfl)
        replace hM := hM2
        clear hM2
        try simp only [List.getElem_toArray, List.getElem_cons_succ, List.getElem_cons_zero, Act.put, List.setIfInBounds_toArray, List.set_cons_zero, List.set_cons_succ]
        refine wpAnyB_one (i := 4) (by kernel_rfl) rfl (fun K hK => ?_)
        (go_simp; go_at_call 60; refine (l1Below_any 6 cb n c bo _ hCur (by omega) (by omega)).mono ?_; rintro e w8 ⟨z2, hz2, rfl, hD3⟩; have kb3 := hD3.blk Hkb.out.drew (by omega); dsimp only)
        refine hK.out _ _ (meetB.both trivial (by simpa using kb3.cell 1)) (fun hM2 => ?_)
        clear hK K
        replace hM := hM2
        clear hM2
        try simp only [List.getElem_toArray, List.getElem_cons_succ, List.getElem_cons_zero, Act.put, List.setIfInBounds_toArray, List.set_cons_zero, List.set_cons_succ]
        have hw4 : IntKind.i64.wrap ((za : Int) + (z2 : Int)) = (za : Int) + (z2 : Int) := IntKind_i64_in _ (by omega) (by omega)
        have hT3 := (HhT.out.drew).only hD3.only (by omega)
        have hs8 : W2.heap.size ≤ w8.heap.size := Nat.le_trans hs7 hD3.only.size
        have hD4 := (hD7.below (Below.refl _ _).drew).trans hD3
        have hA0 : ∀ cs : Array Value, Below W2.heap.size w8 (w8.alloc (.cells cs 3)) := fun cs => (Below.refl _ _).alloc hs8 _
        have y1 := kb3.cell 1
        simp at y1
        refine wpAnyB_take (i := 5) (v := ?_) false rfl (by kernel_rfl) (by kernel_rfl) (by kernel_rfl) (by kernel_rfl) (by kernel_rfl) (fun _ _ _ h => h) (Or.inl ⟨by rfl, ?_⟩) hM (fun hM2 => ?_)
        rotate_left
        · (intro w hSw; replace hSw := hSw.1; (try dsimp only at hSw); go_simp; try with_reducible rfl)
        replace hM := hM2
        clear hM2
        try simp only [List.getElem_toArray, List.getElem_cons_succ, List.getElem_cons_zero, Act.put, List.setIfInBounds_toArray, List.set_cons_zero, List.set_cons_succ]
        refine wpAnyB_one (i := 6) (by kernel_rfl) rfl (fun K hK => ?_)
        go_simp
        refine hK.out _ _ (meetB.both trivial (((hA0 _).cell (p := ⟨yb, 1, none⟩) hyW).trans y1)) (fun hM2 => ?_)
        clear hK K
        replace hM := hM2
        clear hM2
        try simp only [List.getElem_toArray, List.getElem_cons_succ, List.getElem_cons_zero, Act.put, List.setIfInBounds_toArray, List.set_cons_zero, List.set_cons_succ]
        have hT8 : TwoL (w8.alloc (.cells #[.int .i64 ((za : Int) + (z2 : Int))] 3)) W2.heap.size (.slice (some ⟨g4, 0, none⟩) (f.length + 1) c4) (.slice bo2 l.length c2) (f ++ [(za : Int)]) l := hT3.alloc _
        refine wpAnyB_one (i := 7) (by kernel_rfl) rfl (fun K hK => ?_)
        (refine step_append_2 (by rfl) _ _ (by rfl) W2.heap.size (.slice (some ⟨g4, 0, none⟩) (f.length + 1) c4) (.slice bo2 l.length c2) (f ++ [(za : Int)]) l ((za : Int) + (z2 : Int)) _ (by rfl) hT8 (by rfl) (cell_new rfl) (by simp; omega) hgl l.length rfl ?_; intro g5 c5 w9 hT9 hB9; have hB10 := (hA0 #[.int .i64 ((za : Int) + (z2 : Int))]).trans hB9)
        refine hK.out _ _ (meetB.both trivial ((hB10.cell (p := ⟨yb, 1, none⟩) hyW).trans y1)) (fun hM2 => ?_)
        clear hK K
        replace hM := hM2
        clear hM2
        try simp only [List.getElem_toArray, List.getElem_cons_succ, List.getElem_cons_zero, Act.put, List.setIfInBounds_toArray, List.set_cons_zero, List.set_cons_succ]
        refine wpAnyB_take (i := 8) (v := ?_) false rfl (by kernel_rfl) (by kernel_rfl) (by kernel_rfl) (by kernel_rfl) (by kernel_rfl) (fun _ _ _ h => h) (Or.inl ⟨by rfl, ?_⟩) hM (fun hM2 => ?_)
        rotate_left
        · (intro w hSw; replace hSw := hSw.1; (try dsimp only at hSw); go_simp; try with_reducible rfl)
        replace hM := hM2
        clear hM2
        try simp only [List.getElem_toArray, List.getElem_cons_succ, List.getElem_cons_zero, Act.put, List.setIfInBounds_toArray, List.set_cons_zero, List.set_cons_succ]
        have kb9 := kb3.below hB10 hyW
        have q0 := kb9.cell 1
        have q1 := kb9.frozen 1
        have q2 := kb9.lt
        simp at q0
        refine wpAnyB_one (i := 9) (by kernel_rfl) rfl (fun K hK => ?_)
        go_simp
        refine hK.out _ _ (meetB.late trivial (by kernel_rfl)) (fun hM2 => ?_)
        clear hK K
        replace hM := hM2
        clear hM2
        try simp only [List.getElem_toArray, List.getElem_cons_succ, List.getElem_cons_zero, Act.put, List.setIfInBounds_toArray, List.set_cons_zero, List.set_cons_succ]
        refine wpAnyB_done (by kernel_rfl) ?_ _
        have kb10 : Blk (w9.setCell ⟨yb, 1, none⟩ (.slice (some ⟨g5, 0, none⟩) (l.length + 1) c5)) yb #[.slice (some ⟨g4, 0, none⟩) (f.length + 1) c4, .slice (some ⟨g5, 0, none⟩) (l.length + 1) c5] 59 := by simpa using kb9.store 1 (.slice (some ⟨g5, 0, none⟩) (l.length + 1) c5)
        have hT10 := hT9.store (a := ⟨yb, 1, none⟩) hyW (.slice (some ⟨g5, 0, none⟩) (l.length + 1) c5)
        have hD10 := (hD4.grow hB10 (by omega) (by omega)).store (a := ⟨yb, 1, none⟩) hW1y hcb1 (.slice (some ⟨g5, 0, none⟩) (l.length + 1) c5)
        have hs10 : W2.heap.size ≤ (w9.setCell ⟨yb, 1, none⟩ (.slice (some ⟨g5, 0, none⟩) (l.length + 1) c5)).heap.size := by have := hB10.size; simp; omega
        clear q0 q1 q2 kb9 hT9 hB9 hB10 hT8 hA0 y1 hD4 hs8 hT3 kb3 hD3 hM x0 x1 x2 x4 hCur hw3 hw4 Hkb HhT hD7
        generalize World.setCell _ _ _ = w11 at *
        have HhD10 := Lib.hid hD10
        clear hD10
        have Hkb10 := Lib.hid kb10
        clear kb10
        have HhT10 := Lib.hid hT10
        clear hT10
        go_wp2_with fail
        go_roundw
        case rel => exact ⟨k - 1, f ++ [(za : Int)], l ++ [(za : Int) + (z2 : Int)], _, _, by go_num, by have := Hhkf.out; have := Hkp.out; simp; omega, by have := Hhll.out; simp; omega, HhD10.out, hs10, Hkb10.out, HhT10.out⟩
        case measure => have := Hkp.out; simp [intOf]; omega
      · have hT := hT7
        have kb := kb7
        have hs4 := hs7
        have Hkb := Lib.hid kb
        clear kb
        have HhT := Lib.hid hT
        clear hT
        clear kb7 hT7
        go_upto_region 5 with (at_builtin; go_must (refine wpList_append_2 rfl _ _ (by rfl) W2.heap.size (.slice (some ⟨g4, 0, none⟩) (f.length + 1) c4) (.slice bo2 l.length c2) (f ++ [(za : Int)]) l ((za : Int) + 3) (by rfl) HhT.out (by rfl) hs4 hgl l.length rfl ?_); intro g5 c5 w6 hT6 hB6; have kb6 := Hkb.out.below hB6 hyW; have q0 := kb6.cell 1; have q1 := kb6.frozen 1; have q2 := kb6.lt; simp at q0)
        have kb10 : Blk (w6.setCell ⟨yb, 1, none⟩ (.slice (some ⟨g5, 0, none⟩) (l.length + 1) c5)) yb #[.slice (some ⟨g4, 0, none⟩) (f.length + 1) c4, .slice (some ⟨g5, 0, none⟩) (l.length + 1) c5] 59 := by simpa using kb6.store 1 (.slice (some ⟨g5, 0, none⟩) (l.length + 1) c5)
        have hT10 := hT6.store (a := ⟨yb, 1, none⟩) hyW (.slice (some ⟨g5, 0, none⟩) (l.length + 1) c5)
        have hD10 := (hD7.grow hB6 (by omega) (by omega)).store (a := ⟨yb, 1, none⟩) hW1y hcb1 (.slice (some ⟨g5, 0, none⟩) (l.length + 1) c5)
        have hs10 : W2.heap.size ≤ (w6.setCell ⟨yb, 1, none⟩ (.slice (some ⟨g5, 0, none⟩) (l.length + 1) c5)).heap.size := by have := hB6.size; simp; omega
        clear q0 q1 q2 kb6 hT6 hB6 x0 x1 x2 x4 hCur hw3 Hkb HhT hD7 hs4
        generalize World.setCell _ _ _ = w11 at *
        have HhD10 := Lib.hid hD10
        clear hD10
        have Hkb10 := Lib.hid kb10
        clear kb10
        have HhT10 := Lib.hid hT10
        clear hT10
        go_wp2_with fail
        go_roundw
        case rel => exact ⟨k - 1, f ++ [(za : Int)], l ++ [(za : Int) + 3], _, _, by go_num, by have := Hhkf.out; have := Hkp.out; simp; omega, by have := Hhll.out; simp; omega, HhD10.out, hs10, Hkb10.out, HhT10.out⟩
        case measure => have := Hkp.out; simp [intOf]; omega
    · obtain rfl : k = 0 := by omega
      have d0 : decide (0 < ((0 : Nat) : Int)) = false := rfl
      obtain ⟨ga, rfl, hga, hRa⟩ := (OwnE.own hT.o1).row (by omega)
      obtain ⟨gb, rfl, hgb, hRb⟩ := (OwnE.own hT.o2).row (by omega)
      have hne : ga ≠ gb := by
        rcases hT.ne with e | e
        · simp [Value.ownBlock] at e
        · intro e2; subst e2; exact e (by simp [Value.ownBlock])
      have hf6 : f.length ≤ 6 := by omega
      have hl6 : l.length ≤ 6 := by omega
      have hf1 : 1 ≤ f.length := by omega
      have hl1 : 1 ≤ l.length := by omega
      have hRb2 := hRb
      obtain ⟨-, -, hc2, -⟩ := hRb2
      clear hT hkf hll
      have hcw3 := hD.cur.lt
      have Hkb := Lib.hid kb
      clear kb
      have HhRa := Lib.hid hRa
      clear hRa
      have HhRb := Lib.hid hRb
      clear hRb
      go_wp2_with fail
      refine (l1Below_any 14 cb n c bo wr hD.cur (by omega) (by omega)).mono ?_
      rintro e w4 ⟨q, hq, rfl, hD3⟩
      have hRa := hD3.row HhRa.out (by omega)
      have hRb := hD3.row HhRb.out (by omega)
      have kb := hD3.blk Hkb.out (by omega)
      have hs4 := Nat.le_trans hsz hD3.only.size
      replace hD := hD.trans hD3
      have hcw4 := hD.cur.lt
      clear hD3 Hkb HhRa HhRb
      rcases (show q = 0 ∨ q = 1 ∨ 2 ≤ q by omega) with rfl | rfl | h3
      · -- the first left end
        have x2 := kb.cell 0
        have x4 := kb.lt
        simp at x2
        have hT0 : ∀ w', Only (fun b => b = cb ∨ b = ga) w4.heap.size w4 w' → Only (fun b => b = cb ∨ b = ga) w4.heap.size w4 w' ∧ w'.cell? ⟨yb, 0, none⟩ = some (.slice (some ⟨ga, 0, none⟩) f.length c1) := fun w' h =>
          ⟨h, (h.cell (p := ⟨yb, 0, none⟩) x4 (fun e => by have e2 : yb = cb ∨ yb = ga := e; omega)).trans x2⟩
        have hO0 : Only (fun b => b = cb ∨ b = ga) w4.heap.size w4 w4.drew := Only.of (Below.refl _ _).drew
        have hl0 : 0 < f.length := hf1
        have HhD := Lib.hid hD
        clear hD
        have Hkb := Lib.hid kb
        clear kb
        have HhRb := Lib.hid hRb
        clear hRb
        have HhRa := Lib.hid hRa
        clear hRa
        go_upto_region 13 with fail
        refine wp_region_B (fun w' => Only (fun b => b = cb ∨ b = ga) w4.heap.size w4 w' ∧ w'.cell? ⟨yb, 0, none⟩ = some (.slice (some ⟨ga, 0, none⟩) f.length c1)) (fun _ => True) [] (by kernel_rfl) (hT0 _ hO0) (trivial) (fun hM => ?_)
        refine wpAnyB_take (i := 0) (v := ?_) false rfl (by kernel_rfl) (by kernel_rfl) (by kernel_rfl) (by kernel_rfl) (by kernel_rfl) (fun _ _ _ h => h) (Or.inl ⟨by rfl, ?_⟩) hM (fun hM2 => ?_)
        rotate_left
        · (intro w hSw; replace hSw := hSw.1; (try dsimp only at hSw); go_simp; try with_reducible rfl)
        replace hM := hM2
        clear hM2
        try simp only [List.getElem_toArray, List.getElem_cons_zero, Act.put, List.setIfInBounds_toArray, List.set_cons_zero, List.set_cons_succ]
        refine wpAnyB_take (i := 1) (v := ?_) false rfl (by kernel_rfl) (by kernel_rfl) (by kernel_rfl) (by kernel_rfl) (by kernel_rfl) (fun _ _ _ h => h) (Or.inl ⟨by rfl, ?_⟩) hM (fun hM2 => ?_)
        rotate_left
        · (intro w hSw; replace hSw := hSw.1; (try dsimp only at hSw); go_simp; try with_reducible rfl)
        replace hM := hM2
        clear hM2
        try simp only [List.getElem_toArray, List.getElem_cons_succ, List.getElem_cons_zero, Act.put, List.setIfInBounds_toArray, List.set_cons_zero, List.set_cons_succ]
        refine wpAnyB_take (i := 2) (v := ?_) false rfl (by kernel_rfl) (by kernel_rfl) (by kernel_rfl) (by kernel_rfl) (by kernel_rfl) (fun _ _ _ h => h) (Or.inl ⟨by rfl, ?_⟩) hM (fun hM2 => ?_)
        rotate_left
        · (intro w hSw; replace hSw := hSw.1; (try dsimp only at hSw); go_simp; try with_reducible rfl)
        replace hM := hM2
        clear hM2
        try simp only [List.getElem_toArray, List.getElem_cons_succ, List.getElem_cons_zero, Act.put, List.setIfInBounds_toArray, List.set_cons_zero, List.set_cons_succ]
        have hB5 : Below w4.heap.size w4 (w4.alloc (.cells #[.int .i64 (-1), .int .i64 99, .int .i64 100] 3)).drew := ((Below.refl _ _).alloc (Nat.le_refl _) _).drew
        have k5 : Blk (w4.alloc (.cells #[.int .i64 (-1), .int .i64 99, .int .i64 100] 3)).drew w4.heap.size #[.int .i64 (-1), .int .i64 99, .int .i64 100] 3 := (Blk.made w4 _ _ rfl).drew
        refine wpAnyB_one (i := 3) (by kernel_rfl) rfl (fun K hK => ?_)
        go_simp
        refine hK.out _ _ (meetB.both (hT0 _ (Only.of hB5)) trivial) (fun hM2 => ?_)
        clear hK K
        replace hM := hM2
        clear hM2
        try simp only [List.getElem_toArray, List.getElem_cons_succ, List.getElem_cons_zero, Act.put, List.setIfInBounds_toArray, List.set_cons_zero, List.set_cons_succ]
        have hcell : ∀ j, j < [(-1 : Int), 99, 100].length → (w4.alloc (.cells #[.int .i64 (-1), .int .i64 99, .int .i64 100] 3)).drew.cell? ⟨w4.heap.size, j, none⟩ = some (.int .i64 (gi [(-1 : Int), 99, 100] j)) := fun j hj => by
          rw [k5.cell]
          match j, hj with
          | 0, _ => rfl
          | 1, _ => rfl
          | 2, _ => rfl
        have hP := l1PickInt_any [(-1 : Int), 99, 100] w4.heap.size 3 cb n c bo _ (HhD.out.cur.below hB5) (by decide) (by decide) (by omega) k5.lt hcell
        refine wpAnyB_one (i := 4) (by kernel_rfl) rfl (fun K hK => ?_)
        (go_simp; go_at_call 96; refine hP.mono ?_; rintro e w6 ⟨j, hj, rfl, hD5⟩; have hO6 := (Only.of (X := fun b => b = cb ∨ b = ga) hB5).trans (hD5.only.mono (Nat.le_of_lt k5.lt) (fun _ _ e => .inl e)); dsimp only)
        refine hK.out _ _ (meetB.both (hT0 _ hO6) trivial) (fun hM2 => ?_)
        clear hK K
        replace hM := hM2
        clear hM2
        try simp only [List.getElem_toArray, List.getElem_cons_succ, List.getElem_cons_zero, Act.put, List.setIfInBounds_toArray, List.set_cons_zero, List.set_cons_succ]
        have hD6 := (HhD.out.below hB5).trans hD5
        have hRb6 := hD5.row (HhRb.out.below hB5) (by omega)
        have hRa6 := hD5.row (HhRa.out.below hB5) (by omega)
        have kb6 := hD5.blk (Hkb.out.below hB5 Hkb.out.lt) (by omega)
        have q0 := hRa6.cell 0 (by omega)
        have q2 := hRa6.frozen 0
        have q4 := hRa6.lt
        refine wpAnyB_take (i := 5) (v := ?_) false rfl (by kernel_rfl) (by kernel_rfl) (by kernel_rfl) (by kernel_rfl) (by kernel_rfl) (fun _ _ _ h => h) (Or.inl ⟨by rfl, ?_⟩) hM (fun hM2 => ?_)
        rotate_left
        · (intro w hSw; replace hSw := hSw.1; (try dsimp only at hSw); go_simp; try with_reducible rfl)
        replace hM := hM2
        clear hM2
        try simp only [List.getElem_toArray, List.getElem_cons_succ, List.getElem_cons_zero, Act.put, List.setIfInBounds_toArray, List.set_cons_zero, List.set_cons_succ]
        generalize gi [(-1 : Int), 99, 100] j = Z at *
        have hO7 : Only (fun b => b = cb ∨ b = ga) w4.heap.size w4 (w6.setCell ⟨ga, 0, none⟩ (.int .i64 Z)) := Only.setCell (X := fun b => b = cb ∨ b = ga) hO6 (p := ⟨ga, 0, none⟩) (.inl (.inr rfl)) _
        refine wpAnyB_one (i := 6) (by kernel_rfl) rfl (fun K hK => ?_)
        go_simp
        refine hK.out _ _ (meetB.both (hT0 _ hO7) trivial) (fun hM2 => ?_)
        clear hK K
        replace hM := hM2
        clear hM2
        try simp only [List.getElem_toArray, List.getElem_cons_succ, List.getElem_cons_zero, Act.put, List.setIfInBounds_toArray, List.set_cons_zero, List.set_cons_succ]
        refine wpAnyB_done (by kernel_rfl) ?_ _
        have hRa7 := hRa6.store 0 Z
        have kb7 := kb6.other (a := ⟨ga, 0, none⟩) (.int .i64 Z) (by simp; omega)
        have hRb7 := hRb6.otherCell (a := ⟨ga, 0, none⟩) (v := .int .i64 Z) (by simp; omega)
        have hfb7 : FrI (w6.setCell ⟨ga, 0, none⟩ (.int .i64 Z)) W1.heap.size (some ⟨gb, 0, none⟩) l := ⟨hRb7.ints, fun a e => by cases e; show _ ≤ gb; omega⟩
        have hD7 := hD6.store (a := ⟨ga, 0, none⟩) (by show _ ≤ ga; omega) (by show _ < ga; omega) (.int .i64 Z)
        have hfa7 : FrI (w6.setCell ⟨ga, 0, none⟩ (.int .i64 Z)) W1.heap.size (some ⟨ga, 0, none⟩) (f.set 0 Z) := ⟨hRa7.ints, fun a e => by cases e; show _ ≤ ga; omega⟩
        have hl7 : (f.set 0 Z).length = f.length := List.length_set
        have hl8 : (f.set 0 Z).length ≤ 6 := by rw [hl7]; exact hf6
        rw [← hl7] at kb7
        generalize hls : f.set 0 Z = f9 at *
        have Hl9 := Lib.hid hl7
        clear hls hl7 q0 q2 q4 hT0 hO7 hO6 hM x2 x4 hRb7 hRb6 kb6 hRa6 hRa7 hD6 hcell hP hB5 k5 hO0 hD5 hj HhD Hkb HhRb HhRa
        have Hhfa7 := Lib.hid hfa7
        clear hfa7
        have Hhfb7 := Lib.hid hfb7
        clear hfb7
        generalize World.setCell _ _ _ = w7 at *
        have k9 := Hblk.out _ hD7
        have y0 := k9.cell 0
        have y1 := k9.cell 1
        have y3 := k9.frozen 0
        have y4 := k9.frozen 1
        have y6 := k9.lt
        have z0 := kb7.cell 0
        have z1 := kb7.cell 1
        have z4 := kb7.lt
        simp at y0 y1 z0 z1
        have HE := Lib.hid (Hend.out w7 f9 l (some ⟨ga, 0, none⟩) (some ⟨gb, 0, none⟩) c1 c2 hl8 hl6 hD7 Hhfa7.out Hhfb7.out)
        clear k9 hD7 kb7 Hblk Hend
        go_wp2_with fail
        refine bodyPost_ret (v := .agg #[.slice (some ⟨ga, 0, none⟩) f9.length c1, .slice (some ⟨gb, 0, none⟩) l.length c2]) (by simp [results, Try.results85, go_sem, y0, y1]) rfl ?_
        exact HE.out
      · -- the first right end is left out
        have hfb : FrI w4 W2.heap.size (some ⟨ga, 0, none⟩) f := ⟨hRa.ints, fun a e => by cases e; show _ ≤ ga; omega⟩
        have hfa : FrI w4 W2.heap.size (if c2 = 1 then some ⟨gb, 0, none⟩ else some ⟨gb, 1, none⟩) (l.drop 1) := by
          split
          · exact ⟨fun h => by rw [List.length_drop] at h; omega, fun a e => by cases e; show _ ≤ gb; omega⟩
          · have h1 := IntsAt.drop hRb.ints 1
            rw [Nat.zero_add] at h1
            exact ⟨h1, fun a e => by cases e; show _ ≤ gb; omega⟩
        have hdl : l.length - 1 = (l.drop 1).length := List.length_drop.symm
        have hd6 : (l.drop 1).length ≤ 6 := by rw [← hdl]; omega
        have z1 := kb.cell 1
        have z4 := kb.lt
        have z5 := kb.frozen 1
        simp at z1
        have HhD := Lib.hid hD
        clear hD
        have Hkb := Lib.hid kb
        clear kb
        have Hhfa := Lib.hid hfa
        clear hfa
        have Hhfb := Lib.hid hfb
        clear hfb
        have Hhdl := Lib.hid hdl
        clear hdl
        clear hRa hRb
        go_upto_region 16 with fail
        rw [Hhdl.out]
        have hfa := Hhfa.out
        clear Hhfa Hhdl
        generalize l.drop 1 = f9 at *
        generalize (if c2 = 1 then some (⟨gb, 0, none⟩ : Addr) else some ⟨gb, 1, none⟩) = fo9 at *
        have kb7 : Blk (w4.setCell ⟨yb, 1, none⟩ (.slice fo9 f9.length (c2 - 1))) yb #[.slice (some ⟨ga, 0, none⟩) f.length c1, .slice fo9 f9.length (c2 - 1)] 59 := by simpa using Hkb.out.store 1 (.slice fo9 f9.length (c2 - 1))
        have hD7 := HhD.out.store (a := ⟨yb, 1, none⟩) hW1y hcb1 (.slice fo9 f9.length (c2 - 1))
        have hfa7 := (hfa.store (a := ⟨yb, 1, none⟩) hyW (.slice fo9 f9.length (c2 - 1))).mono (base' := W1.heap.size) (by omega)
        have hfb7 := (Hhfb.out.store (a := ⟨yb, 1, none⟩) hyW (.slice fo9 f9.length (c2 - 1))).mono (base' := W1.heap.size) (by omega)
        clear z1 z4 z5 hfa HhD Hkb Hhfb
        have Hhfa7 := Lib.hid hfa7
        clear hfa7
        have Hhfb7 := Lib.hid hfb7
        clear hfb7
        generalize hq1 : c2 - 1 = c9 at *
        clear hq1
        generalize World.setCell _ _ _ = w7 at *
        have k9 := Hblk.out _ hD7
        have y0 := k9.cell 0
        have y1 := k9.cell 1
        have y3 := k9.frozen 0
        have y4 := k9.frozen 1
        have y6 := k9.lt
        have z0 := kb7.cell 0
        have z1 := kb7.cell 1
        have z4 := kb7.lt
        simp at y0 y1 z0 z1
        have HE := Lib.hid (Hend.out w7 f f9 (some ⟨ga, 0, none⟩) fo9 c1 c9 hf6 hd6 hD7 Hhfb7.out Hhfa7.out)
        clear k9 hD7 kb7 Hblk Hend
        go_wp2_with fail
        refine bodyPost_ret (v := .agg #[.slice (some ⟨ga, 0, none⟩) f.length c1, .slice fo9 f9.length c9]) (by simp [results, Try.results85, go_sem, y0, y1]) rfl ?_
        exact HE.out
      · have d1 : ((q : Int) == 0) = false := by rw [beq_eq_false_iff_ne]; omega
        have d2 : ((q : Int) == 1) = false := by rw [beq_eq_false_iff_ne]; omega
        have hFa : FrI w4 W1.heap.size (some ⟨ga, 0, none⟩) f := ⟨hRa.ints, fun a e => by cases e; show _ ≤ ga; omega⟩
        have hFb : FrI w4 W1.heap.size (some ⟨gb, 0, none⟩) l := ⟨hRb.ints, fun a e => by cases e; show _ ≤ gb; omega⟩
        have HhFa := Lib.hid hFa
        clear hFa
        have HhFb := Lib.hid hFb
        clear hFb
        clear hRa hRb
        have k9 := Hblk.out _ hD
        have y0 := k9.cell 0
        have y1 := k9.cell 1
        have y3 := k9.frozen 0
        have y4 := k9.frozen 1
        have y6 := k9.lt
        have z0 := kb.cell 0
        have z1 := kb.cell 1
        have z4 := kb.lt
        simp at y0 y1 z0 z1
        have HE := Lib.hid (Hend.out w4 f l (some ⟨ga, 0, none⟩) (some ⟨gb, 0, none⟩) c1 c2 hf6 hl6 hD HhFa.out HhFb.out)
        clear k9 hD kb Hblk Hend
        go_wp2_with fail
        refine bodyPost_ret (v := .agg #[.slice (some ⟨ga, 0, none⟩) f.length c1, .slice (some ⟨gb, 0, none⟩) l.length c2]) (by simp [results, Try.results85, go_sem, y0, y1]) rfl ?_
        exact HE.out

end Go.Proofs.Ytfkehmpckhmkbaa
