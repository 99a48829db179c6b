/-
  The drawing of a graph and a list: DrawIsCliqueCover. For texts of at most 2^20 bytes.
-/
import Derived.Test.YtkefkmjfjghggaaDrawK
import Derived.Test.YtkefkmjfjghggaaCoverOf
namespace Go.Proofs.Ytkefkmjfjghggaa
open Go.RowKit

/-- A graph and a list have been drawn. -/
def RetGL (w : World) (e : Ending) (w' : World) : Prop :=
  ∃ (x : Int) (f l : List Int) (g cap : Nat) (lo : Option Addr) (lc : Nat), (1 ≤ f.length ∧ f.length ≤ 7) ∧ l.length ≤ 1048576 ∧ e = .returned (.tuple #[.agg #[.int .i64 x, .slice (some ⟨g, 0, none⟩) f.length cap], .slice lo l.length lc]) ∧ RowAt w' g cap f ∧ IntsAt w' lo l ∧ Below w.heap.size w w'

theorem IntsAt.onlyOne {w w' : World} {base cap b1 : Nat} {ao : Option Addr} {xs : List Int} (h : OwnE w base ao cap xs) (k : Only (fun b => b = b1) w.heap.size w w') (hb : b1 < base) : IntsAt w' ao xs := (h.onlyOne k hb).ints

set_option maxRecDepth 100000 in
set_option maxHeartbeats 4000000 in
theorem DrawIsCliqueCover_any (n c : Nat) (bo : Option Addr) (w : World) (h : BytesU w.heap.size w bo n) (hn : n ≤ 1048576) :
    Calls Try.prog 24 #[.slice bo n c] w (RetGL w) := by
  go_enter Try.func24, Try.ntmps24
  go_wp2_with fail
  generalize hW : World.alloc _ _ = W1
  obtain ⟨hB, hs, k0⟩ := alloc1 hW
  have hs1 : w.heap.size < W1.heap.size := by omega
  have hb1 : BytesU W1.heap.size W1 bo n := (h.only (Only.of (X := fun _ => False) hB) fun _ _ h => h).mono (by omega)
  clear hW hs
  refine (l1New_any n c bo W1 hb1 hn).mono ?_
  rintro e w1 ⟨cb, rfl, hB1, hcb, hC⟩
  replace k0 := k0.below hB1 hs1
  have hs2 := hB1.size
  replace hB := hB.trans (hB1.mono (by omega))
  have hcl := hC.lt
  clear hb1 hB1 h
  go_wp2_with fail
  refine (l2Any_any cb n c bo w1 hC).mono ?_
  rintro e w2 ⟨x, f, g, cap, hf, rfl, hg, hR, hD⟩
  have hsz := hD.only.size
  have hO := hD.only.mono (Nat.le_refl _) (Y := fun b => b = cb ∨ b = w.heap.size) fun _ _ e => .inl e
  have hC2 := hD.cur
  replace k0 := hD.blk k0 (by omega)
  clear hD hC
  go_wp2_with fail
  generalize hWb : World.alloc _ _ = Wb
  obtain ⟨hBb, hzb, kb⟩ := alloc1 hWb
  have hg4 : g < w2.heap.size := hR.lt
  replace hC2 := hC2.below hBb
  replace hO := hO.more hBb hsz
  have hR1 := hR.below hBb
  replace k0 := k0.below hBb (by omega)
  clear hWb hBb hR
  have hF := specCoverOwn_any x f (some ⟨g, 0, none⟩) cap Wb hR1.ints (by omega)
  have hl := coverOf_len x f
  generalize w2.heap.size = yb at *
  have hyl := kb.lt
  have x0 := kb.cell 0
  have x1 := kb.cell 1
  simp at x0 x1
  have HhB := Lib.hid hB
  clear hB
  have HhO := Lib.hid hO
  clear hO
  have Hk0 := Lib.hid k0
  clear k0
  have HhR1 := Lib.hid hR1
  clear hR1
  have Hkb := Lib.hid kb
  clear kb
  have HhC2 := Lib.hid hC2
  clear hC2
  go_wp2_with fail
  refine hF.mono ?_
  rintro e w3 ⟨lo, lc, rfl, hB3, hL⟩
  clear hF x0 x1
  generalize coverOf x f = l at *
  have hs3 := hB3.size
  have hO3 := HhO.out.more hB3 (by omega)
  have hC3 := HhC2.out.below hB3
  have hR3 := HhR1.out.below hB3
  have k3 := Hk0.out.below hB3 (by omega)
  have kb3 := Hkb.out.below hB3 hyl
  clear HhO HhC2 HhR1 Hk0 Hkb hB3
  have hbase : yb < Wb.heap.size := hyl
  have hfin : ∀ (wr : World) (l : List Int) (lo : Option Addr) (lc : Nat), Only (fun b => b = cb ∨ b = w.heap.size) w1.heap.size w1 wr → RowAt wr g cap f → OwnE wr Wb.heap.size lo lc l → l.length ≤ 1048576 →
      Hid (RetGL w (.returned (.tuple #[.agg #[.int .i64 x, .slice (some ⟨g, 0, none⟩) f.length cap], .slice lo l.length lc])) ((wr.setCell ⟨w.heap.size, 0, none⟩ (.int .i64 x)).setCell ⟨w.heap.size, 1, none⟩ (.slice (some ⟨g, 0, none⟩) f.length cap))) := fun wr l lo lc hO hR hL hl => Lib.hid (by
    have hS : Only (fun b => b = w.heap.size) wr.heap.size wr ((wr.setCell ⟨w.heap.size, 0, none⟩ (.int .i64 x)).setCell ⟨w.heap.size, 1, none⟩ (.slice (some ⟨g, 0, none⟩) f.length cap)) :=
      ((Only.refl (fun b => b = w.heap.size) _ _).setCell (p := ⟨w.heap.size, 0, none⟩) (.inl rfl) _).setCell (p := ⟨w.heap.size, 1, none⟩) (.inl rfl) _
    exact ⟨x, f, l, g, cap, lo, lc, hf, hl, rfl, (hR.otherCell (by simp; omega)).otherCell (by simp; omega), (hL.onlyOne hS (by omega)).ints, ((HhB.out.trans (hO.below (by omega) fun b hb e => by rcases e with e | e <;> omega)).setCell (by simp) _).setCell (by simp) _⟩)
  have Hfin := Lib.hid hfin
  clear hfin HhB
  by_cases h0 : 0 < l.length
  · have d0 : decide ((0 : Int) < (l.length : Int)) = true := decide_eq_true (by omega)
    go_wp2_with fail
    refine (l1Once_any 3 cb n c bo w3 hC3 (by omega) (by omega)).mono ?_
    rintro e w4 ⟨b3, rfl, hD4⟩
    have hO4 := hO3.trans (hD4.only.mono (by omega) fun _ _ e => .inl e)
    have hL4 := hL.onlyOne hD4.only (by omega)
    have hR4 := hD4.row hR3 (by omega)
    have k4 := hD4.blk k3 (by omega)
    have kb4 := hD4.blk kb3 (by omega)
    have hC4 := hD4.cur
    clear hO3 hC3 hR3 k3 kb3 hL hD4
    cases b3
    · have HE := Hfin.out _ l lo lc hO4 hR4 hL4 hl
      have x0 := kb4.cell 0
      have x1 := kb4.cell 1
      have x4 := kb4.lt
      have y0 := k4.cell 0
      have y1 := k4.cell 1
      have y2 := k4.frozen 0
      have y3 := k4.frozen 1
      have y4 := k4.lt
      simp at x0 x1 y0 y1
      clear k4 kb4 hO4 hR4 hL4 hC4 Hfin
      go_wp2_with fail
      refine bodyPost_ret (v := .tuple #[.agg #[.int .i64 x, .slice (some ⟨g, 0, none⟩) f.length cap], .slice lo l.length lc]) (by simp [results, Try.results24, go_sem, y0, y1]) rfl ?_
      exact HE.out
    · go_wp2_with fail
      generalize hW5 : World.alloc _ _ = W5
      obtain ⟨hB5, hz5, ks⟩ := alloc1 hW5
      have hs4 : w4.heap.size < W5.heap.size := ks.lt
      have hcw4 := hC4.lt
      have hcell : ∀ j, j < [(0 : Int), 1, 3, -1].length → W5.cell? ⟨w4.heap.size, j, none⟩ = some (.int .i64 (gi [0, 1, 3, -1] j)) := fun j hj => by
        rw [ks.cell]
        match j, hj with
        | 0, _ => rfl
        | 1, _ => rfl
        | 2, _ => rfl
        | 3, _ => rfl
      have hP := l1PickInt_any [0, 1, 3, -1] w4.heap.size 4 cb n c bo W5 (hC4.below hB5) (by decide) (by decide) (by omega) ks.lt hcell
      have hs45 := hO4.size
      have hO5 := hO4.more hB5 (by omega)
      have hL5 := hL4.below hB5
      have hR5 := hR4.below hB5
      have k5 := k4.below hB5 k4.lt
      have kb5 := kb4.below hB5 kb4.lt
      clear hW5 ks hcell hB5 hO4 hL4 hR4 k4 kb4 hC4
      refine hP.mono ?_
      rintro e w6 ⟨j, hj, rfl, hD6⟩
      clear hP
      have hO6 := hO5.trans (hD6.only.mono (by have := hO5.size; omega) fun _ _ e => .inl e)
      have hL6 := hL5.onlyOne hD6.only (by omega)
      have hR6 := hD6.row hR5 (by omega)
      have k6 := hD6.blk k5 (by omega)
      have kb6 := hD6.blk kb5 (by omega)
      clear hO5 hL5 hR5 k5 kb5 hD6
      generalize gi [0, 1, 3, -1] j = z at *
      obtain ⟨gl, rfl, hgl, hRl⟩ := hL6.row h0
      have hO7 := hO6.setCell (p := ⟨gl, 0, none⟩) (.inr (by show w1.heap.size ≤ gl; omega)) (.int .i64 z)
      have hRl7 := hRl.store 0 z
      have hR7 := hR6.otherCell (a := ⟨gl, 0, none⟩) (v := .int .i64 z) (by simp; omega)
      have k7 := k6.other (a := ⟨gl, 0, none⟩) (.int .i64 z) (by simp; omega)
      have kb7 := kb6.other (a := ⟨gl, 0, none⟩) (.int .i64 z) (by simp; omega)
      have z0 := hRl.cell 0 h0
      have z1 := hRl.frozen 0
      have z4 := hRl.lt
      have HE := Hfin.out _ (l.set 0 z) _ _ hO7 hR7 (hRl7.own hgl) (by rw [List.length_set]; exact hl)
      rw [List.length_set] at HE
      have hLl : ((0 : Nat) : Int) < l.length := by omega
      clear hO6 hO7 hRl hRl7 hR6 hR7 hL6 Hfin
      have n1 : ¬yb = gl := by omega
      have n2 : ¬gl = yb := by omega
      have n3 : ¬w.heap.size = gl := by omega
      have n4 : ¬gl = w.heap.size := by omega
      have x0 := kb6.cell 0
      have x1 := kb6.cell 1
      have x4 := kb6.lt
      have y0 := k6.cell 0
      have y1 := k6.cell 1
      have y2 := k6.frozen 0
      have y3 := k6.frozen 1
      have y4 := k6.lt
      simp at x0 x1 y0 y1
      clear k7 kb7 k6 kb6
      have HHE := Lib.hid HE
      clear HE
      go_wp2_with fail
      refine bodyPost_ret (v := .tuple #[.agg #[.int .i64 x, .slice (some ⟨g, 0, none⟩) f.length cap], .slice (some ⟨gl, 0, none⟩) l.length lc]) (by simp [results, Try.results24, go_sem, y0, y1]) rfl ?_
      exact HHE.out.out
  · have d0 : decide ((0 : Int) < (l.length : Int)) = false := decide_eq_false (by omega)
    have HE := Hfin.out _ l lo lc hO3 hR3 hL hl
    have x0 := kb3.cell 0
    have x1 := kb3.cell 1
    have x4 := kb3.lt
    have y0 := k3.cell 0
    have y1 := k3.cell 1
    have y2 := k3.frozen 0
    have y3 := k3.frozen 1
    have y4 := k3.lt
    simp at x0 x1 y0 y1
    clear k3 kb3 hO3 hR3 hL hC3 Hfin
    go_wp2_with fail
    refine bodyPost_ret (v := .tuple #[.agg #[.int .i64 x, .slice (some ⟨g, 0, none⟩) f.length cap], .slice lo l.length lc]) (by simp [results, Try.results24, go_sem, y0, y1]) rfl ?_
    exact HE.out

end Go.Proofs.Ytkefkmjfjghggaa
