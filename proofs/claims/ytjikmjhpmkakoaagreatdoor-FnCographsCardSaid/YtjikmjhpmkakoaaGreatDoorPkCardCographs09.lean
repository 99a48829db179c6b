/-
  NamedGraph of the reference at the five names that are drawn. For 1 to 7 vertices.
  NamedGraph of the reference at the name cycle. For 1 to 7 vertices.
  NamedGraph of the reference at the name wheel. For 1 to 7 vertices.
  NamedGraph of the reference at the five names that are drawn. For 1 to 7 vertices.
-/
import Derived.Test.YtjikmjhpmkakoaaGreatDoorPkCardCographs08
import Derived.Deep.Cut
import Derived.Deep.CutRange
import Derived.Deep.CutBlock
namespace Go.Proofs.YtjikmjhpmkakoaaGreatDoor
open Go.RowKit

/-- A graph in the making in box y. -/
structure MakeG (W2 wr : World) (lo y N gb cp : Nat) (f : List Int) : Prop where
  only : Only (fun b => b = y) W2.heap.size W2 wr
  cy : lo ≤ y
  ne : gb ≠ y
  lo : lo ≤ gb
  box : Blk wr y #[.int .i64 N, .slice (some ⟨gb, 0, none⟩) N cp] 26
  row : RowAt wr gb cp f
  vg : VG f
  len : f.length = N
theorem MakeG.edge {W2 wr w5 : World} {lo y N gb cp g5 cp5 a b : Nat} {f : List Int} (h : MakeG W2 wr lo y N gb cp f) (hB : Below wr.heap.size wr w5) (hg : wr.heap.size ≤ g5) (hR : RowAt w5 g5 cp5 (addE f a b)) (hab : a ≠ b) :
    MakeG W2 ((w5.setCell ⟨y, 0, none⟩ (.int .i64 N)).setCell ⟨y, 1, none⟩ (.slice (some ⟨g5, 0, none⟩) N cp5)) lo y N g5 cp5 (addE f a b) := by
  have hy := h.box.lt
  have hcy := h.cy
  refine ⟨((h.only.more hB h.only.size).setCell (p := ⟨y, 0, none⟩) (.inl rfl) _).setCell (p := ⟨y, 1, none⟩) (.inl rfl) _, h.cy, by omega, by omega, ?_, (hR.otherCell (by simp; omega)).otherCell (by simp; omega), addE_VG h.vg hab, by rw [addE_len]; exact h.len⟩
  have := ((h.box.below hB hy).store 0 (.int .i64 N)).store 1 (.slice (some ⟨g5, 0, none⟩) N cp5)
  simpa using this

/-- A graph that is right has been made. -/
def RetMade (N : Nat) (w : World) (e : Ending) (w' : World) : Prop :=
  ∃ (f : List Int) (g cap : Nat), VG f ∧ f.length = N ∧ e = .returned (.tuple #[.agg #[.int .i64 N, .slice (some ⟨g, 0, none⟩) N cap], .bool true]) ∧ w.heap.size ≤ g ∧ RowAt w' g cap f ∧ Below w.heap.size w w'
def namesG : List ByteArray := [⟨#[112, 97, 116, 104]⟩, ⟨#[99, 121, 99, 108, 101]⟩, ⟨#[99, 111, 109, 112, 108, 101, 116, 101]⟩, ⟨#[115, 116, 97, 114]⟩, ⟨#[119, 104, 101, 101, 108]⟩]

set_option maxRecDepth 100000 in
set_option maxHeartbeats 8000000 in
theorem named_path (N : Nat) (w : World) (h1 : 1 ≤ N) (h7 : N ≤ 7) :
    Calls Tryz.prog 142 #[.string ⟨#[112, 97, 116, 104]⟩, .int .i64 N] w (RetMade N w) := by
  have hmk := run_make_ints N (by omega)
  have hIn : ∀ w, Calls Tryz.prog 54 #[.int .i64 N, .int .i64 1, .int .i64 7] w fun e w' => e = .returned (.bool true) ∧ w = w' := fun w => by
    have := l1In_any N 1 7 w
    rwa [show (decide ((1 : Int) ≤ N) && decide ((N : Int) ≤ 7)) = true by simp; omega] at this
  go_enter Tryz.func142, Tryz.ntmps142
  go_wp2_with (first | (go_at_call 54; refine (hIn _).mono ?_; rintro e w' ⟨rfl, rfl⟩))
  clear hmk hIn
  generalize hW : World.alloc _ _ = W2
  obtain ⟨hB, hs, k0, kY, kG⟩ := alloc3 hW
  have hR : RowAt W2 (w.heap.size + 1) N (List.replicate N 0) := by
    have := RowAt.of (w := W2) (b := w.heap.size + 1) (xs := List.replicate N 0) kY (by simp; omega)
    simpa using this
  have hD : MakeG W2 W2 (w.heap.size + 1) (w.heap.size + 1 + 1) N (w.heap.size + 1) N (List.replicate N 0) :=
    ⟨Only.refl _ _ _, by omega, by omega, by omega, kG, hR, zero_VG h1 h7, by simp⟩
  clear hW kY kG hR
  have hyy : ¬w.heap.size = w.heap.size + 1 + 1 := by omega
  have HhB := Lib.hid hB
  clear hB
  have Hk0 := Lib.hid k0
  clear k0
  have HhD := Lib.hid hD
  clear hD
  have Hhs := Lib.hid hs
  clear hs
  have Hhyy := Lib.hid hyy
  clear hyy
  generalize w.heap.size + 1 + 1 = y at *
  go_loopw [7] (fun i wr => ∃ (v gb cp : Nat) (f : List Int), v ≤ N ∧ i = .int .i64 v ∧ MakeG W2 wr (w.heap.size + 1) y N gb cp f) (fun i _ => N - (intOf i).toNat)
  case atStart => exact ⟨0, _, _, _, by omega, rfl, HhD.out⟩
  case round =>
    clear HhD
    obtain ⟨v, gb, cp, f, hv, rfl, hD⟩ := hrel
    by_cases hlt : v < N
    · have HhD := Lib.hid hD
      clear hD
      go_wp2_with fail
      go_loopw [8] (fun i wr => ∃ (u gb cp : Nat) (f : List Int), v < u ∧ u ≤ N ∧ i = .int .i64 u ∧ MakeG W2 wr (w.heap.size + 1) y N gb cp f) (fun i _ => N - (intOf i).toNat)
      case atStart => exact ⟨v + 1, _, _, _, by omega, by omega, by go_num, HhD.out⟩
      case round =>
        clear HhD
        obtain ⟨u, gb, cp, f, hvu, hu, rfl, hD⟩ := hrel
        by_cases hut : u < N
        · have x0 := hD.box.cell 0
          have x1 := hD.box.cell 1
          have ozr := hD.box.lt
          simp at x0 x1
          have hA := specAddF_any f v u gb cp N wr hD.len hD.row hD.vg hlt hut (by omega)
          have HhD := Lib.hid hD
          clear hD
          have HhA := Lib.hid hA
          clear hA
          go_upto_block 4 with (fail)
          go_cut [9] from 25 to 89 (fun b wx => wx = wr ∧ ∃ bb, b = .bool bb)
          case first =>
            go_wp2_with fail
            all_goals
              go_meet
              case rel => exact ⟨rfl, _, rfl⟩
          case rest =>
            obtain ⟨rfl, bb, rfl⟩ := hcut
            cases bb
            · clear HhA x0 x1
              go_wp2_with fail
              go_roundw
              case rel => first | exact ⟨u + 1, gb, cp, f, by omega, by omega, by go_num, HhD.out⟩ | ((repeat apply Exists.intro); exact ⟨⟨u + 1, gb, cp, f, by omega, by omega, by go_num, HhD.out⟩, rfl⟩)
              case measure => simp [intOf]; omega
            · go_wp2_with fail
              refine HhA.out.mono ?_
              rintro e w5 ⟨g5, cp5, ok5, rfl, hB5, hg5, hR5⟩
              have hD6 := HhD.out.edge hB5 hg5 hR5 (by omega)
              have k5 := HhD.out.box.below hB5 ozr
              have r0 := k5.cell 0
              have r1 := k5.cell 1
              have r2 := k5.frozen 0
              have r3 := k5.frozen 1
              have r4 := k5.lt
              simp at r0 r1
              clear HhA HhD k5 hB5 hg5 hR5 x0 x1 ozr
              have HhD6 := Lib.hid hD6
              clear hD6
              go_wp2_with fail
              go_roundw
              case rel => first | exact ⟨u + 1, g5, cp5, _, by omega, by omega, by go_num, HhD6.out⟩ | ((repeat apply Exists.intro); exact ⟨⟨u + 1, g5, cp5, _, by omega, by omega, by go_num, HhD6.out⟩, rfl⟩)
              case measure => simp [intOf]; omega
        · obtain rfl : u = N := by omega
          have HhD := Lib.hid hD
          clear hD
          go_wp2_with fail
          go_roundw
          case rel => exact ⟨v + 1, gb, cp, f, by omega, by go_num, HhD.out⟩
          case measure => simp [intOf]; omega
    · obtain rfl : v = N := by omega
      have x0 := hD.box.cell 0
      have x1 := hD.box.cell 1
      have ozr := hD.box.lt
      simp at x0 x1
      have k9 := hD.only.blk Hk0.out Hk0.out.lt (fun e => Hhyy.out e)
      have y0 := k9.cell 0
      have y1 := k9.cell 1
      have y2 := k9.frozen 0
      have y3 := k9.frozen 1
      have y4 := k9.lt
      simp at y0 y1
      have hyw := hD.cy
      have hlo := hD.lo
      have hF : Below w.heap.size w ((wr.setCell ⟨w.heap.size, 0, none⟩ (.int .i64 v)).setCell ⟨w.heap.size, 1, none⟩ (.slice (some ⟨gb, 0, none⟩) v cp)) :=
        ((HhB.out.trans (hD.only.below HhB.out.size fun b hb h => by have h2 : b = y := h; omega)).setCell (by simp) _).setCell (by simp) _
      have hFR := (hD.row.otherCell (a := ⟨w.heap.size, 0, none⟩) (v := .int .i64 v) (by simp; omega)).otherCell (a := ⟨w.heap.size, 1, none⟩) (v := .slice (some ⟨gb, 0, none⟩) v cp) (by simp; omega)
      have hgw : w.heap.size ≤ gb := by omega
      have Hlen := Lib.hid hD.len
      have Hvg := Lib.hid hD.vg
      clear k9 hD hlo hyw
      have HhF := Lib.hid hF
      clear hF
      have HhFR := Lib.hid hFR
      clear hFR
      by_cases hv1 : v = 1
      all_goals
        first
          | (have hv1' : ((v : Int) == 1) = true := by rw [beq_iff_eq]; omega)
          | (have hv1' : ((v : Int) == 1) = false := by rw [beq_eq_false_iff_ne]; omega)
        clear hv1
        go_wp2_with fail
        refine bodyPost_ret (v := .tuple #[.agg #[.int .i64 v, .slice (some ⟨gb, 0, none⟩) v cp], .bool true]) (by simp [results, Tryz.results142, go_sem, y0, y1]) rfl ?_
        exact ⟨f, gb, cp, Hvg.out, Hlen.out, rfl, hgw, HhFR.out, HhF.out⟩


set_option maxRecDepth 100000 in
set_option maxHeartbeats 8000000 in
theorem named_complete (N : Nat) (w : World) (h1 : 1 ≤ N) (h7 : N ≤ 7) :
    Calls Tryz.prog 142 #[.string ⟨#[99, 111, 109, 112, 108, 101, 116, 101]⟩, .int .i64 N] w (RetMade N w) := by
  have hmk := run_make_ints N (by omega)
  have hIn : ∀ w, Calls Tryz.prog 54 #[.int .i64 N, .int .i64 1, .int .i64 7] w fun e w' => e = .returned (.bool true) ∧ w = w' := fun w => by
    have := l1In_any N 1 7 w
    rwa [show (decide ((1 : Int) ≤ N) && decide ((N : Int) ≤ 7)) = true by simp; omega] at this
  go_enter Tryz.func142, Tryz.ntmps142
  go_wp2_with (first | (go_at_call 54; refine (hIn _).mono ?_; rintro e w' ⟨rfl, rfl⟩))
  clear hmk hIn
  generalize hW : World.alloc _ _ = W2
  obtain ⟨hB, hs, k0, kY, kG⟩ := alloc3 hW
  have hR : RowAt W2 (w.heap.size + 1) N (List.replicate N 0) := by
    have := RowAt.of (w := W2) (b := w.heap.size + 1) (xs := List.replicate N 0) kY (by simp; omega)
    simpa using this
  have hD : MakeG W2 W2 (w.heap.size + 1) (w.heap.size + 1 + 1) N (w.heap.size + 1) N (List.replicate N 0) :=
    ⟨Only.refl _ _ _, by omega, by omega, by omega, kG, hR, zero_VG h1 h7, by simp⟩
  clear hW kY kG hR
  have hyy : ¬w.heap.size = w.heap.size + 1 + 1 := by omega
  have HhB := Lib.hid hB
  clear hB
  have Hk0 := Lib.hid k0
  clear k0
  have HhD := Lib.hid hD
  clear hD
  have Hhs := Lib.hid hs
  clear hs
  have Hhyy := Lib.hid hyy
  clear hyy
  generalize w.heap.size + 1 + 1 = y at *
  go_loopw [7] (fun i wr => ∃ (v gb cp : Nat) (f : List Int), v ≤ N ∧ i = .int .i64 v ∧ MakeG W2 wr (w.heap.size + 1) y N gb cp f) (fun i _ => N - (intOf i).toNat)
  case atStart => exact ⟨0, _, _, _, by omega, rfl, HhD.out⟩
  case round =>
    clear HhD
    obtain ⟨v, gb, cp, f, hv, rfl, hD⟩ := hrel
    by_cases hlt : v < N
    · have HhD := Lib.hid hD
      clear hD
      go_wp2_with fail
      go_loopw [8] (fun i wr => ∃ (u gb cp : Nat) (f : List Int), v < u ∧ u ≤ N ∧ i = .int .i64 u ∧ MakeG W2 wr (w.heap.size + 1) y N gb cp f) (fun i _ => N - (intOf i).toNat)
      case atStart => exact ⟨v + 1, _, _, _, by omega, by omega, by go_num, HhD.out⟩
      case round =>
        clear HhD
        obtain ⟨u, gb, cp, f, hvu, hu, rfl, hD⟩ := hrel
        by_cases hut : u < N
        · have x0 := hD.box.cell 0
          have x1 := hD.box.cell 1
          have ozr := hD.box.lt
          simp at x0 x1
          have hA := specAddF_any f v u gb cp N wr hD.len hD.row hD.vg hlt hut (by omega)
          have HhD := Lib.hid hD
          clear hD
          have HhA := Lib.hid hA
          clear hA
          go_upto_block 4 with (fail)
          go_cut [9] from 25 to 89 (fun b wx => wx = wr ∧ ∃ bb, b = .bool bb)
          case first =>
            go_wp2_with fail
            all_goals
              go_meet
              case rel => exact ⟨rfl, _, rfl⟩
          case rest =>
            obtain ⟨rfl, bb, rfl⟩ := hcut
            cases bb
            · clear HhA x0 x1
              go_wp2_with fail
              go_roundw
              case rel => first | exact ⟨u + 1, gb, cp, f, by omega, by omega, by go_num, HhD.out⟩ | ((repeat apply Exists.intro); exact ⟨⟨u + 1, gb, cp, f, by omega, by omega, by go_num, HhD.out⟩, rfl⟩)
              case measure => simp [intOf]; omega
            · go_wp2_with fail
              refine HhA.out.mono ?_
              rintro e w5 ⟨g5, cp5, ok5, rfl, hB5, hg5, hR5⟩
              have hD6 := HhD.out.edge hB5 hg5 hR5 (by omega)
              have k5 := HhD.out.box.below hB5 ozr
              have r0 := k5.cell 0
              have r1 := k5.cell 1
              have r2 := k5.frozen 0
              have r3 := k5.frozen 1
              have r4 := k5.lt
              simp at r0 r1
              clear HhA HhD k5 hB5 hg5 hR5 x0 x1 ozr
              have HhD6 := Lib.hid hD6
              clear hD6
              go_wp2_with fail
              go_roundw
              case rel => first | exact ⟨u + 1, g5, cp5, _, by omega, by omega, by go_num, HhD6.out⟩ | ((repeat apply Exists.intro); exact ⟨⟨u + 1, g5, cp5, _, by omega, by omega, by go_num, HhD6.out⟩, rfl⟩)
              case measure => simp [intOf]; omega
        · obtain rfl : u = N := by omega
          have HhD := Lib.hid hD
          clear hD
          go_wp2_with fail
          go_roundw
          case rel => exact ⟨v + 1, gb, cp, f, by omega, by go_num, HhD.out⟩
          case measure => simp [intOf]; omega
    · obtain rfl : v = N := by omega
      have x0 := hD.box.cell 0
      have x1 := hD.box.cell 1
      have ozr := hD.box.lt
      simp at x0 x1
      have k9 := hD.only.blk Hk0.out Hk0.out.lt (fun e => Hhyy.out e)
      have y0 := k9.cell 0
      have y1 := k9.cell 1
      have y2 := k9.frozen 0
      have y3 := k9.frozen 1
      have y4 := k9.lt
      simp at y0 y1
      have hyw := hD.cy
      have hlo := hD.lo
      have hF : Below w.heap.size w ((wr.setCell ⟨w.heap.size, 0, none⟩ (.int .i64 v)).setCell ⟨w.heap.size, 1, none⟩ (.slice (some ⟨gb, 0, none⟩) v cp)) :=
        ((HhB.out.trans (hD.only.below HhB.out.size fun b hb h => by have h2 : b = y := h; omega)).setCell (by simp) _).setCell (by simp) _
      have hFR := (hD.row.otherCell (a := ⟨w.heap.size, 0, none⟩) (v := .int .i64 v) (by simp; omega)).otherCell (a := ⟨w.heap.size, 1, none⟩) (v := .slice (some ⟨gb, 0, none⟩) v cp) (by simp; omega)
      have hgw : w.heap.size ≤ gb := by omega
      have Hlen := Lib.hid hD.len
      have Hvg := Lib.hid hD.vg
      clear k9 hD hlo hyw
      have HhF := Lib.hid hF
      clear hF
      have HhFR := Lib.hid hFR
      clear hFR
      by_cases hv1 : v = 1
      all_goals
        first
          | (have hv1' : ((v : Int) == 1) = true := by rw [beq_iff_eq]; omega)
          | (have hv1' : ((v : Int) == 1) = false := by rw [beq_eq_false_iff_ne]; omega)
        clear hv1
        go_wp2_with fail
        refine bodyPost_ret (v := .tuple #[.agg #[.int .i64 v, .slice (some ⟨gb, 0, none⟩) v cp], .bool true]) (by simp [results, Tryz.results142, go_sem, y0, y1]) rfl ?_
        exact ⟨f, gb, cp, Hvg.out, Hlen.out, rfl, hgw, HhFR.out, HhF.out⟩


set_option maxRecDepth 100000 in
set_option maxHeartbeats 8000000 in
theorem named_star (N : Nat) (w : World) (h1 : 1 ≤ N) (h7 : N ≤ 7) :
    Calls Tryz.prog 142 #[.string ⟨#[115, 116, 97, 114]⟩, .int .i64 N] w (RetMade N w) := by
  have hmk := run_make_ints N (by omega)
  have hIn : ∀ w, Calls Tryz.prog 54 #[.int .i64 N, .int .i64 1, .int .i64 7] w fun e w' => e = .returned (.bool true) ∧ w = w' := fun w => by
    have := l1In_any N 1 7 w
    rwa [show (decide ((1 : Int) ≤ N) && decide ((N : Int) ≤ 7)) = true by simp; omega] at this
  go_enter Tryz.func142, Tryz.ntmps142
  go_wp2_with (first | (go_at_call 54; refine (hIn _).mono ?_; rintro e w' ⟨rfl, rfl⟩))
  clear hmk hIn
  generalize hW : World.alloc _ _ = W2
  obtain ⟨hB, hs, k0, kY, kG⟩ := alloc3 hW
  have hR : RowAt W2 (w.heap.size + 1) N (List.replicate N 0) := by
    have := RowAt.of (w := W2) (b := w.heap.size + 1) (xs := List.replicate N 0) kY (by simp; omega)
    simpa using this
  have hD : MakeG W2 W2 (w.heap.size + 1) (w.heap.size + 1 + 1) N (w.heap.size + 1) N (List.replicate N 0) :=
    ⟨Only.refl _ _ _, by omega, by omega, by omega, kG, hR, zero_VG h1 h7, by simp⟩
  clear hW kY kG hR
  have hyy : ¬w.heap.size = w.heap.size + 1 + 1 := by omega
  have HhB := Lib.hid hB
  clear hB
  have Hk0 := Lib.hid k0
  clear k0
  have HhD := Lib.hid hD
  clear hD
  have Hhs := Lib.hid hs
  clear hs
  have Hhyy := Lib.hid hyy
  clear hyy
  generalize w.heap.size + 1 + 1 = y at *
  go_loopw [7] (fun i wr => ∃ (v gb cp : Nat) (f : List Int), v ≤ N ∧ i = .int .i64 v ∧ MakeG W2 wr (w.heap.size + 1) y N gb cp f) (fun i _ => N - (intOf i).toNat)
  case atStart => exact ⟨0, _, _, _, by omega, rfl, HhD.out⟩
  case round =>
    clear HhD
    obtain ⟨v, gb, cp, f, hv, rfl, hD⟩ := hrel
    by_cases hlt : v < N
    · have HhD := Lib.hid hD
      clear hD
      go_wp2_with fail
      go_loopw [8] (fun i wr => ∃ (u gb cp : Nat) (f : List Int), v < u ∧ u ≤ N ∧ i = .int .i64 u ∧ MakeG W2 wr (w.heap.size + 1) y N gb cp f) (fun i _ => N - (intOf i).toNat)
      case atStart => exact ⟨v + 1, _, _, _, by omega, by omega, by go_num, HhD.out⟩
      case round =>
        clear HhD
        obtain ⟨u, gb, cp, f, hvu, hu, rfl, hD⟩ := hrel
        by_cases hut : u < N
        · have x0 := hD.box.cell 0
          have x1 := hD.box.cell 1
          have ozr := hD.box.lt
          simp at x0 x1
          have hA := specAddF_any f v u gb cp N wr hD.len hD.row hD.vg hlt hut (by omega)
          have HhD := Lib.hid hD
          clear hD
          have HhA := Lib.hid hA
          clear hA
          go_upto_block 4 with (fail)
          go_cut [9] from 25 to 89 (fun b wx => wx = wr ∧ ∃ bb, b = .bool bb)
          case first =>
            go_wp2_with fail
            all_goals
              go_meet
              case rel => exact ⟨rfl, _, rfl⟩
          case rest =>
            obtain ⟨rfl, bb, rfl⟩ := hcut
            cases bb
            · clear HhA x0 x1
              go_wp2_with fail
              go_roundw
              case rel => first | exact ⟨u + 1, gb, cp, f, by omega, by omega, by go_num, HhD.out⟩ | ((repeat apply Exists.intro); exact ⟨⟨u + 1, gb, cp, f, by omega, by omega, by go_num, HhD.out⟩, rfl⟩)
              case measure => simp [intOf]; omega
            · go_wp2_with fail
              refine HhA.out.mono ?_
              rintro e w5 ⟨g5, cp5, ok5, rfl, hB5, hg5, hR5⟩
              have hD6 := HhD.out.edge hB5 hg5 hR5 (by omega)
              have k5 := HhD.out.box.below hB5 ozr
              have r0 := k5.cell 0
              have r1 := k5.cell 1
              have r2 := k5.frozen 0
              have r3 := k5.frozen 1
              have r4 := k5.lt
              simp at r0 r1
              clear HhA HhD k5 hB5 hg5 hR5 x0 x1 ozr
              have HhD6 := Lib.hid hD6
              clear hD6
              go_wp2_with fail
              go_roundw
              case rel => first | exact ⟨u + 1, g5, cp5, _, by omega, by omega, by go_num, HhD6.out⟩ | ((repeat apply Exists.intro); exact ⟨⟨u + 1, g5, cp5, _, by omega, by omega, by go_num, HhD6.out⟩, rfl⟩)
              case measure => simp [intOf]; omega
        · obtain rfl : u = N := by omega
          have HhD := Lib.hid hD
          clear hD
          go_wp2_with fail
          go_roundw
          case rel => exact ⟨v + 1, gb, cp, f, by omega, by go_num, HhD.out⟩
          case measure => simp [intOf]; omega
    · obtain rfl : v = N := by omega
      have x0 := hD.box.cell 0
      have x1 := hD.box.cell 1
      have ozr := hD.box.lt
      simp at x0 x1
      have k9 := hD.only.blk Hk0.out Hk0.out.lt (fun e => Hhyy.out e)
      have y0 := k9.cell 0
      have y1 := k9.cell 1
      have y2 := k9.frozen 0
      have y3 := k9.frozen 1
      have y4 := k9.lt
      simp at y0 y1
      have hyw := hD.cy
      have hlo := hD.lo
      have hF : Below w.heap.size w ((wr.setCell ⟨w.heap.size, 0, none⟩ (.int .i64 v)).setCell ⟨w.heap.size, 1, none⟩ (.slice (some ⟨gb, 0, none⟩) v cp)) :=
        ((HhB.out.trans (hD.only.below HhB.out.size fun b hb h => by have h2 : b = y := h; omega)).setCell (by simp) _).setCell (by simp) _
      have hFR := (hD.row.otherCell (a := ⟨w.heap.size, 0, none⟩) (v := .int .i64 v) (by simp; omega)).otherCell (a := ⟨w.heap.size, 1, none⟩) (v := .slice (some ⟨gb, 0, none⟩) v cp) (by simp; omega)
      have hgw : w.heap.size ≤ gb := by omega
      have Hlen := Lib.hid hD.len
      have Hvg := Lib.hid hD.vg
      clear k9 hD hlo hyw
      have HhF := Lib.hid hF
      clear hF
      have HhFR := Lib.hid hFR
      clear hFR
      by_cases hv1 : v = 1
      all_goals
        first
          | (have hv1' : ((v : Int) == 1) = true := by rw [beq_iff_eq]; omega)
          | (have hv1' : ((v : Int) == 1) = false := by rw [beq_eq_false_iff_ne]; omega)
        clear hv1
        go_wp2_with fail
        refine bodyPost_ret (v := .tuple #[.agg #[.int .i64 v, .slice (some ⟨gb, 0, none⟩) v cp], .bool true]) (by simp [results, Tryz.results142, go_sem, y0, y1]) rfl ?_
        exact ⟨f, gb, cp, Hvg.out, Hlen.out, rfl, hgw, HhFR.out, HhF.out⟩

set_option maxRecDepth 100000 in
set_option maxHeartbeats 8000000 in
theorem named_cycle (N : Nat) (w : World) (h1 : 1 ≤ N) (h7 : N ≤ 7) :
    Calls Tryz.prog 142 #[.string ⟨#[99, 121, 99, 108, 101]⟩, .int .i64 N] w (RetMade N w) := by
  have hmk := run_make_ints N (by omega)
  have hIn : ∀ w, Calls Tryz.prog 54 #[.int .i64 N, .int .i64 1, .int .i64 7] w fun e w' => e = .returned (.bool true) ∧ w = w' := fun w => by
    have := l1In_any N 1 7 w
    rwa [show (decide ((1 : Int) ≤ N) && decide ((N : Int) ≤ 7)) = true by simp; omega] at this
  go_enter Tryz.func142, Tryz.ntmps142
  go_wp2_with (first | (go_at_call 54; refine (hIn _).mono ?_; rintro e w' ⟨rfl, rfl⟩))
  clear hmk hIn
  generalize hW : World.alloc _ _ = W2
  obtain ⟨hB, hs, k0, kY, kG⟩ := alloc3 hW
  have hR : RowAt W2 (w.heap.size + 1) N (List.replicate N 0) := by
    have := RowAt.of (w := W2) (b := w.heap.size + 1) (xs := List.replicate N 0) kY (by simp; omega)
    simpa using this
  have hD : MakeG W2 W2 (w.heap.size + 1) (w.heap.size + 1 + 1) N (w.heap.size + 1) N (List.replicate N 0) :=
    ⟨Only.refl _ _ _, by omega, by omega, by omega, kG, hR, zero_VG h1 h7, by simp⟩
  clear hW kY kG hR
  have hyy : ¬w.heap.size = w.heap.size + 1 + 1 := by omega
  have HhB := Lib.hid hB
  clear hB
  have Hk0 := Lib.hid k0
  clear k0
  have HhD := Lib.hid hD
  clear hD
  have Hhs := Lib.hid hs
  clear hs
  have Hhyy := Lib.hid hyy
  clear hyy
  generalize w.heap.size + 1 + 1 = y at *
  go_loopw [7] (fun i wr => ∃ (v gb cp : Nat) (f : List Int), v ≤ N ∧ i = .int .i64 v ∧ MakeG W2 wr (w.heap.size + 1) y N gb cp f) (fun i _ => N - (intOf i).toNat)
  case atStart => exact ⟨0, _, _, _, by omega, rfl, HhD.out⟩
  case round =>
    clear HhD
    obtain ⟨v, gb, cp, f, hv, rfl, hD⟩ := hrel
    by_cases hlt : v < N
    · have HhD := Lib.hid hD
      clear hD
      go_wp2_with fail
      go_loopw [8] (fun i wr => ∃ (u gb cp : Nat) (f : List Int), v < u ∧ u ≤ N ∧ i = .int .i64 u ∧ MakeG W2 wr (w.heap.size + 1) y N gb cp f) (fun i _ => N - (intOf i).toNat)
      case atStart => exact ⟨v + 1, _, _, _, by omega, by omega, by go_num, HhD.out⟩
      case round =>
        clear HhD
        obtain ⟨u, gb, cp, f, hvu, hu, rfl, hD⟩ := hrel
        by_cases hut : u < N
        · have x0 := hD.box.cell 0
          have x1 := hD.box.cell 1
          have ozr := hD.box.lt
          simp at x0 x1
          have hA := specAddF_any f v u gb cp N wr hD.len hD.row hD.vg hlt hut (by omega)
          have HhD := Lib.hid hD
          clear hD
          have HhA := Lib.hid hA
          clear hA
          cases qA : ((u : Int) == (v : Int) + 1)
          · cases qB : ((v : Int) == 0)
            · clear HhA x0 x1
              go_wp2_with fail
              go_roundw
              case rel => first | exact ⟨u + 1, gb, cp, f, by omega, by omega, by go_num, HhD.out⟩ | ((repeat apply Exists.intro); exact ⟨⟨u + 1, gb, cp, f, by omega, by omega, by go_num, HhD.out⟩, rfl⟩)
              case measure => simp [intOf]; omega
            · cases qC : ((u : Int) == (N : Int) - 1)
              · clear HhA x0 x1
                go_wp2_with fail
                go_roundw
                case rel => first | exact ⟨u + 1, gb, cp, f, by omega, by omega, by go_num, HhD.out⟩ | ((repeat apply Exists.intro); exact ⟨⟨u + 1, gb, cp, f, by omega, by omega, by go_num, HhD.out⟩, rfl⟩)
                case measure => simp [intOf]; omega
              · go_wp2_with fail
                refine HhA.out.mono ?_
                rintro e w5 ⟨g5, cp5, ok5, rfl, hB5, hg5, hR5⟩
                have hD6 := HhD.out.edge hB5 hg5 hR5 (by omega)
                have k5 := HhD.out.box.below hB5 ozr
                have r0 := k5.cell 0
                have r1 := k5.cell 1
                have r2 := k5.frozen 0
                have r3 := k5.frozen 1
                have r4 := k5.lt
                simp at r0 r1
                clear HhA HhD k5 hB5 hg5 hR5 x0 x1 ozr
                have HhD6 := Lib.hid hD6
                clear hD6
                go_wp2_with fail
                go_roundw
                case rel => first | exact ⟨u + 1, g5, cp5, _, by omega, by omega, by go_num, HhD6.out⟩ | ((repeat apply Exists.intro); exact ⟨⟨u + 1, g5, cp5, _, by omega, by omega, by go_num, HhD6.out⟩, rfl⟩)
                case measure => simp [intOf]; omega
          · go_wp2_with fail
            refine HhA.out.mono ?_
            rintro e w5 ⟨g5, cp5, ok5, rfl, hB5, hg5, hR5⟩
            have hD6 := HhD.out.edge hB5 hg5 hR5 (by omega)
            have k5 := HhD.out.box.below hB5 ozr
            have r0 := k5.cell 0
            have r1 := k5.cell 1
            have r2 := k5.frozen 0
            have r3 := k5.frozen 1
            have r4 := k5.lt
            simp at r0 r1
            clear HhA HhD k5 hB5 hg5 hR5 x0 x1 ozr
            have HhD6 := Lib.hid hD6
            clear hD6
            go_wp2_with fail
            go_roundw
            case rel => first | exact ⟨u + 1, g5, cp5, _, by omega, by omega, by go_num, HhD6.out⟩ | ((repeat apply Exists.intro); exact ⟨⟨u + 1, g5, cp5, _, by omega, by omega, by go_num, HhD6.out⟩, rfl⟩)
            case measure => simp [intOf]; omega
        · obtain rfl : u = N := by omega
          have HhD := Lib.hid hD
          clear hD
          go_wp2_with fail
          go_roundw
          case rel => exact ⟨v + 1, gb, cp, f, by omega, by go_num, HhD.out⟩
          case measure => simp [intOf]; omega
    · obtain rfl : v = N := by omega
      have x0 := hD.box.cell 0
      have x1 := hD.box.cell 1
      have ozr := hD.box.lt
      simp at x0 x1
      have k9 := hD.only.blk Hk0.out Hk0.out.lt (fun e => Hhyy.out e)
      have y0 := k9.cell 0
      have y1 := k9.cell 1
      have y2 := k9.frozen 0
      have y3 := k9.frozen 1
      have y4 := k9.lt
      simp at y0 y1
      have hyw := hD.cy
      have hlo := hD.lo
      have hF : Below w.heap.size w ((wr.setCell ⟨w.heap.size, 0, none⟩ (.int .i64 v)).setCell ⟨w.heap.size, 1, none⟩ (.slice (some ⟨gb, 0, none⟩) v cp)) :=
        ((HhB.out.trans (hD.only.below HhB.out.size fun b hb h => by have h2 : b = y := h; omega)).setCell (by simp) _).setCell (by simp) _
      have hFR := (hD.row.otherCell (a := ⟨w.heap.size, 0, none⟩) (v := .int .i64 v) (by simp; omega)).otherCell (a := ⟨w.heap.size, 1, none⟩) (v := .slice (some ⟨gb, 0, none⟩) v cp) (by simp; omega)
      have hgw : w.heap.size ≤ gb := by omega
      have Hlen := Lib.hid hD.len
      have Hvg := Lib.hid hD.vg
      clear k9 hD hlo hyw
      have HhF := Lib.hid hF
      clear hF
      have HhFR := Lib.hid hFR
      clear hFR
      by_cases hv1 : v = 1
      all_goals
        first
          | (have hv1' : ((v : Int) == 1) = true := by rw [beq_iff_eq]; omega)
          | (have hv1' : ((v : Int) == 1) = false := by rw [beq_eq_false_iff_ne]; omega)
        clear hv1
        go_wp2_with fail
        refine bodyPost_ret (v := .tuple #[.agg #[.int .i64 v, .slice (some ⟨gb, 0, none⟩) v cp], .bool true]) (by simp [results, Tryz.results142, go_sem, y0, y1]) rfl ?_
        exact ⟨f, gb, cp, Hvg.out, Hlen.out, rfl, hgw, HhFR.out, HhF.out⟩

set_option maxRecDepth 100000 in
set_option maxHeartbeats 8000000 in
theorem named_wheel (N : Nat) (w : World) (h1 : 1 ≤ N) (h7 : N ≤ 7) :
    Calls Tryz.prog 142 #[.string ⟨#[119, 104, 101, 101, 108]⟩, .int .i64 N] w (RetMade N w) := by
  have hmk := run_make_ints N (by omega)
  have hIn : ∀ w, Calls Tryz.prog 54 #[.int .i64 N, .int .i64 1, .int .i64 7] w fun e w' => e = .returned (.bool true) ∧ w = w' := fun w => by
    have := l1In_any N 1 7 w
    rwa [show (decide ((1 : Int) ≤ N) && decide ((N : Int) ≤ 7)) = true by simp; omega] at this
  go_enter Tryz.func142, Tryz.ntmps142
  go_wp2_with (first | (go_at_call 54; refine (hIn _).mono ?_; rintro e w' ⟨rfl, rfl⟩))
  clear hmk hIn
  generalize hW : World.alloc _ _ = W2
  obtain ⟨hB, hs, k0, kY, kG⟩ := alloc3 hW
  have hR : RowAt W2 (w.heap.size + 1) N (List.replicate N 0) := by
    have := RowAt.of (w := W2) (b := w.heap.size + 1) (xs := List.replicate N 0) kY (by simp; omega)
    simpa using this
  have hD : MakeG W2 W2 (w.heap.size + 1) (w.heap.size + 1 + 1) N (w.heap.size + 1) N (List.replicate N 0) :=
    ⟨Only.refl _ _ _, by omega, by omega, by omega, kG, hR, zero_VG h1 h7, by simp⟩
  clear hW kY kG hR
  have hyy : ¬w.heap.size = w.heap.size + 1 + 1 := by omega
  have HhB := Lib.hid hB
  clear hB
  have Hk0 := Lib.hid k0
  clear k0
  have HhD := Lib.hid hD
  clear hD
  have Hhs := Lib.hid hs
  clear hs
  have Hhyy := Lib.hid hyy
  clear hyy
  generalize w.heap.size + 1 + 1 = y at *
  go_loopw [7] (fun i wr => ∃ (v gb cp : Nat) (f : List Int), v ≤ N ∧ i = .int .i64 v ∧ MakeG W2 wr (w.heap.size + 1) y N gb cp f) (fun i _ => N - (intOf i).toNat)
  case atStart => exact ⟨0, _, _, _, by omega, rfl, HhD.out⟩
  case round =>
    clear HhD
    obtain ⟨v, gb, cp, f, hv, rfl, hD⟩ := hrel
    by_cases hlt : v < N
    · have HhD := Lib.hid hD
      clear hD
      go_wp2_with fail
      go_loopw [8] (fun i wr => ∃ (u gb cp : Nat) (f : List Int), v < u ∧ u ≤ N ∧ i = .int .i64 u ∧ MakeG W2 wr (w.heap.size + 1) y N gb cp f) (fun i _ => N - (intOf i).toNat)
      case atStart => exact ⟨v + 1, _, _, _, by omega, by omega, by go_num, HhD.out⟩
      case round =>
        clear HhD
        obtain ⟨u, gb, cp, f, hvu, hu, rfl, hD⟩ := hrel
        by_cases hut : u < N
        · have x0 := hD.box.cell 0
          have x1 := hD.box.cell 1
          have ozr := hD.box.lt
          simp at x0 x1
          have hA := specAddF_any f v u gb cp N wr hD.len hD.row hD.vg hlt hut (by omega)
          have HhD := Lib.hid hD
          clear hD
          have HhA := Lib.hid hA
          clear hA
          cases qB : ((v : Int) == 0)
          · cases qA : ((u : Int) == (v : Int) + 1)
            · cases qE : ((v : Int) == 1)
              · clear HhA x0 x1
                go_wp2_with fail
                go_roundw
                case rel => first | exact ⟨u + 1, gb, cp, f, by omega, by omega, by go_num, HhD.out⟩ | ((repeat apply Exists.intro); exact ⟨⟨u + 1, gb, cp, f, by omega, by omega, by go_num, HhD.out⟩, rfl⟩)
                case measure => simp [intOf]; omega
              · cases qC : ((u : Int) == (N : Int) - 1)
                · clear HhA x0 x1
                  go_wp2_with fail
                  go_roundw
                  case rel => first | exact ⟨u + 1, gb, cp, f, by omega, by omega, by go_num, HhD.out⟩ | ((repeat apply Exists.intro); exact ⟨⟨u + 1, gb, cp, f, by omega, by omega, by go_num, HhD.out⟩, rfl⟩)
                  case measure => simp [intOf]; omega
                · go_wp2_with fail
                  refine HhA.out.mono ?_
                  rintro e w5 ⟨g5, cp5, ok5, rfl, hB5, hg5, hR5⟩
                  have hD6 := HhD.out.edge hB5 hg5 hR5 (by omega)
                  have k5 := HhD.out.box.below hB5 ozr
                  have r0 := k5.cell 0
                  have r1 := k5.cell 1
                  have r2 := k5.frozen 0
                  have r3 := k5.frozen 1
                  have r4 := k5.lt
                  simp at r0 r1
                  clear HhA HhD k5 hB5 hg5 hR5 x0 x1 ozr
                  have HhD6 := Lib.hid hD6
                  clear hD6
                  go_wp2_with fail
                  go_roundw
                  case rel => first | exact ⟨u + 1, g5, cp5, _, by omega, by omega, by go_num, HhD6.out⟩ | ((repeat apply Exists.intro); exact ⟨⟨u + 1, g5, cp5, _, by omega, by omega, by go_num, HhD6.out⟩, rfl⟩)
                  case measure => simp [intOf]; omega
            · go_wp2_with fail
              refine HhA.out.mono ?_
              rintro e w5 ⟨g5, cp5, ok5, rfl, hB5, hg5, hR5⟩
              have hD6 := HhD.out.edge hB5 hg5 hR5 (by omega)
              have k5 := HhD.out.box.below hB5 ozr
              have r0 := k5.cell 0
              have r1 := k5.cell 1
              have r2 := k5.frozen 0
              have r3 := k5.frozen 1
              have r4 := k5.lt
              simp at r0 r1
              clear HhA HhD k5 hB5 hg5 hR5 x0 x1 ozr
              have HhD6 := Lib.hid hD6
              clear hD6
              go_wp2_with fail
              go_roundw
              case rel => first | exact ⟨u + 1, g5, cp5, _, by omega, by omega, by go_num, HhD6.out⟩ | ((repeat apply Exists.intro); exact ⟨⟨u + 1, g5, cp5, _, by omega, by omega, by go_num, HhD6.out⟩, rfl⟩)
              case measure => simp [intOf]; omega
          · go_wp2_with fail
            refine HhA.out.mono ?_
            rintro e w5 ⟨g5, cp5, ok5, rfl, hB5, hg5, hR5⟩
            have hD6 := HhD.out.edge hB5 hg5 hR5 (by omega)
            have k5 := HhD.out.box.below hB5 ozr
            have r0 := k5.cell 0
            have r1 := k5.cell 1
            have r2 := k5.frozen 0
            have r3 := k5.frozen 1
            have r4 := k5.lt
            simp at r0 r1
            clear HhA HhD k5 hB5 hg5 hR5 x0 x1 ozr
            have HhD6 := Lib.hid hD6
            clear hD6
            go_wp2_with fail
            go_roundw
            case rel => first | exact ⟨u + 1, g5, cp5, _, by omega, by omega, by go_num, HhD6.out⟩ | ((repeat apply Exists.intro); exact ⟨⟨u + 1, g5, cp5, _, by omega, by omega, by go_num, HhD6.out⟩, rfl⟩)
            case measure => simp [intOf]; omega
        · obtain rfl : u = N := by omega
          have HhD := Lib.hid hD
          clear hD
          go_wp2_with fail
          go_roundw
          case rel => exact ⟨v + 1, gb, cp, f, by omega, by go_num, HhD.out⟩
          case measure => simp [intOf]; omega
    · obtain rfl : v = N := by omega
      have x0 := hD.box.cell 0
      have x1 := hD.box.cell 1
      have ozr := hD.box.lt
      simp at x0 x1
      have k9 := hD.only.blk Hk0.out Hk0.out.lt (fun e => Hhyy.out e)
      have y0 := k9.cell 0
      have y1 := k9.cell 1
      have y2 := k9.frozen 0
      have y3 := k9.frozen 1
      have y4 := k9.lt
      simp at y0 y1
      have hyw := hD.cy
      have hlo := hD.lo
      have hF : Below w.heap.size w ((wr.setCell ⟨w.heap.size, 0, none⟩ (.int .i64 v)).setCell ⟨w.heap.size, 1, none⟩ (.slice (some ⟨gb, 0, none⟩) v cp)) :=
        ((HhB.out.trans (hD.only.below HhB.out.size fun b hb h => by have h2 : b = y := h; omega)).setCell (by simp) _).setCell (by simp) _
      have hFR := (hD.row.otherCell (a := ⟨w.heap.size, 0, none⟩) (v := .int .i64 v) (by simp; omega)).otherCell (a := ⟨w.heap.size, 1, none⟩) (v := .slice (some ⟨gb, 0, none⟩) v cp) (by simp; omega)
      have hgw : w.heap.size ≤ gb := by omega
      have Hlen := Lib.hid hD.len
      have Hvg := Lib.hid hD.vg
      clear k9 hD hlo hyw
      have HhF := Lib.hid hF
      clear hF
      have HhFR := Lib.hid hFR
      clear hFR
      by_cases hv1 : v = 1
      all_goals
        first
          | (have hv1' : ((v : Int) == 1) = true := by rw [beq_iff_eq]; omega)
          | (have hv1' : ((v : Int) == 1) = false := by rw [beq_eq_false_iff_ne]; omega)
        clear hv1
        go_wp2_with fail
        refine bodyPost_ret (v := .tuple #[.agg #[.int .i64 v, .slice (some ⟨gb, 0, none⟩) v cp], .bool true]) (by simp [results, Tryz.results142, go_sem, y0, y1]) rfl ?_
        exact ⟨f, gb, cp, Hvg.out, Hlen.out, rfl, hgw, HhFR.out, HhF.out⟩

theorem named_any (s : ByteArray) (hs : s ∈ namesG) (N : Nat) (w : World) (h1 : 1 ≤ N) (h7 : N ≤ 7) :
    Calls Tryz.prog 142 #[.string s, .int .i64 N] w (RetMade N w) := by
  simp only [namesG, List.mem_cons, List.not_mem_nil, or_false] at hs
  rcases hs with rfl | rfl | rfl | rfl | rfl
  · exact named_path N w h1 h7
  · exact named_cycle N w h1 h7
  · exact named_complete N w h1 h7
  · exact named_star N w h1 h7
  · exact named_wheel N w h1 h7

end Go.Proofs.YtjikmjhpmkakoaaGreatDoor
