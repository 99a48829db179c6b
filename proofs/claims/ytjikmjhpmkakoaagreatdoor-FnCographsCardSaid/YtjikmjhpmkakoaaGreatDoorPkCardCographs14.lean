/-
  The drawing of graphs that often are cographs or keep distances: l17Graph, l21Graph. For texts of at most 2^20 bytes.
-/
import Derived.Test.YtjikmjhpmkakoaaGreatDoorPkCardCographs11
import Derived.Test.YtjikmjhpmkakoaaGreatDoorPkCardCographs13
import Derived.Test.YtjikmjhpmkakoaaGreatDoorPkCardCographs10
namespace Go.Proofs.YtjikmjhpmkakoaaGreatDoor
open Go.RowKit

/-- 'append(xs, y)' at a row of the call's own: the row itself or a new block. -/
theorem wp_append_R {o : Oper} {a : Act} {K : Act → World → Prop} {Q : Exit → Act → World → Prop} {w : World} (s x : Operand)
    (ho : o.op = .call { callee := .builtin .append, args := #[s, x], argTypes := #[24, 24] })
    (g cap : Nat) (xs : List Int) (y : Int) (B : Nat) (hs : a.eval s = .slice (some ⟨g, 0, none⟩) xs.length cap) (hR : RowAt w g cap xs) (h0 : 0 < xs.length) (hx : a.eval x = .slice (some ⟨B, 0, none⟩) 1 1)
    (hc : w.cell? ⟨B, 0, none⟩ = some (.int .i64 y)) (hlen : xs.length ≤ 1048576)
    (h : ∀ g' cap' w', RowAt w' g' cap' (xs ++ [y]) → Only (fun b => b = g) w.heap.size w w' → (g' = g ∨ w.heap.size ≤ g') → K (a.put o.dst (.slice (some ⟨g', 0, none⟩) (xs.length + 1) cap')) w') : o.wp Tryz.prog a w K Q := by
  have hown : OwnL w 0 (.slice (some ⟨g, 0, none⟩) xs.length cap) xs := by
    rcases hR.own (base := 0) (Nat.zero_le _) with h | ⟨rfl, -, -⟩
    · exact h
    · simp at h0
  have e1 : (Value.slice (some ⟨g, 0, none⟩) xs.length cap).ownBlock = some g := rfl
  refine wp_append_L s x ho 0 _ xs y B hs hown hx hc (Nat.zero_le _) hlen _ rfl fun g' cap' w' h1 hg hgg => h g' cap' w' ?_ ?_ ?_
  · have h2 : (xs ++ [y]).length = xs.length + 1 := by simp
    obtain ⟨g2, e, -, hR2⟩ := (OwnE.own (base := 0) (cap := cap') (by rw [h2]; exact h1) : OwnE w' 0 (some ⟨g', 0, none⟩) cap' (xs ++ [y])).row (by simp)
    cases e
    exact hR2
  · exact ⟨hg.os, hg.tape, hg.output, hg.size, fun k hk hx => hg.block k hk (fun e => hx (by rw [e1] at e; exact Option.some.inj e))⟩
  · rcases hgg with h | h
    · left; rw [e1] at h; exact (Option.some.inj h).symm
    · right; omega
theorem step_append_R {ops : Array Oper} {o : Oper} {a : Act} {K : Act → World → Prop} {Q : Exit → Act → World → Prop} {E : Prop} {w : World} (hgd : o.guard = none) (s x : Operand)
    (ho : o.op = .call { callee := .builtin .append, args := #[s, x], argTypes := #[24, 24] })
    (g cap : Nat) (xs : List Int) (y : Int) (B : Nat) (hs : a.eval s = .slice (some ⟨g, 0, none⟩) xs.length cap) (hR : RowAt w g cap xs) (h0 : 0 < xs.length) (hx : a.eval x = .slice (some ⟨B, 0, none⟩) 1 1)
    (hc : w.cell? ⟨B, 0, none⟩ = some (.int .i64 y)) (hlen : xs.length ≤ 1048576)
    (h : ∀ g' cap' w', RowAt w' g' cap' (xs ++ [y]) → Only (fun b => b = g) w.heap.size w w' → (g' = g ∨ w.heap.size ≤ g') → K (a.put o.dst (.slice (some ⟨g', 0, none⟩) (xs.length + 1) cap')) w') :
    if Region.wanted o (yielded ops a.tmps) = true then Oper.wp Tryz.prog o a w K Q else E := by
  have hw : Region.wanted o (yielded ops a.tmps) = true := by simp [Region.wanted, hgd]
  rw [if_pos hw]
  exact wp_append_R s x ho g cap xs y B hs hR h0 hx hc hlen h

theorem Only.blk1 {w w' : World} {b g : Nat} {cs : Array Value} {T : TypeId} (hO : Only (fun b => b = g) w.heap.size w w') (hb : Blk w b cs T) (hne : b ≠ g) : Blk w' b cs T := hO.blk hb hb.lt hne
theorem snoc_VG {f : List Int} (g : VG f) (h6 : f.length ≤ 6) : VG (f ++ [0]) := by
  have hl : ∀ v, v < f.length → gi (f ++ [0]) v = gi f v := fun v hv => gi_left hv
  have hz : gi (f ++ [0]) f.length = 0 := gi_last
  have hgl : ∀ v, v < f.length → gn (f ++ [0]) v = gn f v := fun v hv => by unfold gn; rw [hl v hv]
  have hgz : gn (f ++ [0]) f.length = 0 := by unfold gn; rw [hz]; rfl
  have hlen : (f ++ [0]).length = f.length + 1 := by simp
  have hp : 2 ^ f.length ≤ 2 ^ (f.length + 1) := Nat.pow_le_pow_right (by decide) (by omega)
  have hbig : ∀ v, v < f.length → (gn f v).testBit f.length = false := fun v hv => testBit_ge (g.lt v hv) (Nat.le_refl _)
  have hc : ∀ v, v < f.length + 1 → v < f.length ∨ v = f.length := fun v hv => by omega
  refine ⟨by omega, by omega, fun v hv => ?_, fun v hv => ?_, fun v hv => ?_, fun v hv u hu => ?_⟩ <;> rw [hlen] at *
  · rcases hc v hv with h | rfl
    · rw [hl v h, hgl v h]; exact g.row v h
    · rw [hz, hgz]; rfl
  · rcases hc v hv with h | rfl
    · rw [hgl v h]; exact Nat.lt_of_lt_of_le (g.lt v h) hp
    · rw [hgz]; exact Nat.two_pow_pos _
  · rcases hc v hv with h | rfl
    · rw [hgl v h]; exact g.irr v h
    · rw [hgz]; simp
  · rcases hc v hv with h | rfl
    · rcases hc u hu with h' | rfl
      · rw [hgl v h, hgl u h']; exact g.sym v h u h'
      · rw [hgl v h, hgz, hbig v h]; simp
    · rcases hc u hu with h' | rfl
      · rw [hgl u h', hgz, hbig u h']; simp
      · rfl

/-- A box with a graph whose rows lie beside it, both made since w. -/
def HB (w wx : World) (hp : Value) (N : Nat) (xs : List Int) : Prop :=
  ∃ hb g cp : Nat, hp = .pointer (some ⟨hb, 0, none⟩) ∧ Blk wx hb #[.int .i64 N, .slice (some ⟨g, 0, none⟩) N cp] 26 ∧ RowAt wx g cp xs ∧ w.heap.size ≤ hb ∧ w.heap.size ≤ g ∧ g ≠ hb ∧ Below w.heap.size w wx
theorem HB.last {w w7 : World} {N M g cp : Nat} {z : Int} {xs : List Int} (hz : z = (N : Int)) (hN : M = N) (hR : RowAt w7 g cp xs) (hB : Below w.heap.size w w7) (hg : w.heap.size ≤ g) :
    HB w (w7.alloc (.cells #[.int .i64 z, .slice (some ⟨g, 0, none⟩) M cp] 26)) (.pointer (some ⟨w7.heap.size, 0, none⟩)) N xs := by
  subst hN hz
  have := hR.lt
  exact ⟨_, g, cp, rfl, Blk.made _ _ _ rfl, hR.below ((Below.refl _ _).alloc (Nat.le_refl _) _), hB.size, hg, by omega, hB.alloc hB.size _⟩
theorem HB.early {w w7 : World} {N M g cp hb : Nat} {z : Int} {xs : List Int} {a b : Value} (hz : z = (N : Int)) (hN : M = N) (hk : Blk w7 hb #[a, b] 26) (hR : RowAt w7 g cp xs) (hB : Below w.heap.size w w7) (hg : w.heap.size ≤ g) (hb1 : w.heap.size ≤ hb) (hne : g ≠ hb) :
    HB w ((w7.setCell ⟨hb, 0, none⟩ (.int .i64 z)).setCell ⟨hb, 1, none⟩ (.slice (some ⟨g, 0, none⟩) M cp)) (.pointer (some ⟨hb, 0, none⟩)) N xs := by
  subst hN hz
  refine ⟨hb, g, cp, rfl, ?_, (hR.otherCell (by exact hne)).otherCell (by exact hne), hb1, hg, hne, (hB.setCell hb1 _).setCell hb1 _⟩
  have := (hk.store 0 (.int .i64 M)).store 1 (.slice (some ⟨g, 0, none⟩) M cp)
  simpa using this

theorem DrewC.madeH {cb n c y lo N gb cp : Nat} {bo : Option Addr} {W1 W6 wr : World} {f : List Int} (h : DrewC cb bo n c W1 W6) (hm : MakeG W6 wr lo y N gb cp f) (hy : W1.heap.size ≤ y) (hc : cb < y) : DrewC cb bo n c W1 wr :=
  ⟨h.only.trans (hm.only.mono h.only.size fun b hb e => by have e2 : b = y := e; omega), h.cur.only hm.only fun b hb e => by have e2 : b = y := e; omega⟩

set_option maxRecDepth 100000 in
set_option maxHeartbeats 8000000 in
theorem l17Graph_any (cb n c : Nat) (bo : Option Addr) (w : World) (h : CurAt w cb bo n c) :
    Calls Tryz.prog 75 #[.pointer (some ⟨cb, 0, none⟩)] w (RetAG cb bo n c w) := by
  have hcw := h.lt
  go_enter Tryz.func75, Tryz.ntmps75
  go_wp2_with fail
  generalize hW : World.alloc _ _ = W1
  obtain ⟨hB, hs, k0⟩ := alloc1 hW
  have hD := DrewC.refl (h.below hB)
  have hs1 : w.heap.size < W1.heap.size := by omega
  clear hW hs
  have HhB := Lib.hid hB
  clear hB
  have Hk0 := Lib.hid k0
  clear k0
  refine (l1Once_any 3 cb n c bo W1 hD.cur (by omega) (by omega)).mono ?_
  rintro e w2 ⟨b3, rfl, hD1⟩
  replace hD := hD.trans hD1
  clear hD1
  have hend : ∀ (wr : World) (x : Int) (f : List Int) (g cap : Nat), (1 ≤ f.length ∧ f.length ≤ 6) → DrewC cb bo n c W1 wr → w.heap.size < g → RowAt wr g cap f → Hid (RetAG cb bo n c w (.returned (.agg #[.int .i64 x, .slice (some ⟨g, 0, none⟩) f.length cap])) ((wr.setCell ⟨w.heap.size, 0, none⟩ (.int .i64 x)).setCell ⟨w.heap.size, 1, none⟩ (.slice (some ⟨g, 0, none⟩) f.length cap))) := fun wr x f g cap hv hD hg hR => Lib.hid (by
    obtain ⟨h1, h2⟩ := end_graph (N := f.length) (x := x) HhB.out hcw hD hg hR
    exact ⟨x, f, g, cap, hv, rfl, Nat.le_of_lt hg, h1, h2⟩)
  have hblk : ∀ wr, DrewC cb bo n c W1 wr → Blk wr w.heap.size #[.int .i64 0, .slice none 0 0] 26 := fun wr hD => hD.blk Hk0.out (by omega)
  have Hend := Lib.hid hend
  have Hblk := Lib.hid hblk
  clear hend hblk
  cases b3
  · go_wp2_with fail
    generalize hW3 : World.alloc _ _ = W3
    obtain ⟨hB3, hz3, kr, kb⟩ := alloc2 hW3
    have hR3 : RowAt W3 w2.heap.size 1 [0] := RowAt.of (xs := [0]) kr (by simp)
    have hcb2 := hD.cur.lt
    have hs2 := hD.only.size
    replace hD := hD.below hB3
    have hy : W1.heap.size ≤ w2.heap.size := hs2
    have hcy : cb < w2.heap.size := hcb2
    clear hW3 hB3 hz3 kr
    have hyy : w2.heap.size < w2.heap.size + 1 := by omega
    have hvg : VG [0] := zero_VG (N := 1) (by omega) (by omega)
    generalize w2.heap.size + 1 = y at *
    generalize w2.heap.size = r0 at *
    refine (l1Below_any 6 cb n c bo W3 hD.cur (by omega) (by omega)).mono ?_
    rintro e w4 ⟨u, hu, rfl, hD1⟩
    replace hR3 := hD1.row hR3 (by omega)
    replace kb := hD1.blk kb (by omega)
    replace hD := hD.trans hD1
    clear hD1
    have HhD := Lib.hid hD
    clear hD
    have HhR3 := Lib.hid hR3
    clear hR3
    have Hkb := Lib.hid kb
    clear kb
    have Hhvg := Lib.hid hvg
    clear hvg
    go_wp2_with fail
    go_loopw [4] (fun i wr => ∃ (k gb cp : Nat) (f : List Int), k + f.length ≤ 6 ∧ i = .int .i64 k ∧ VG f ∧ gb ≠ y ∧ r0 ≤ gb ∧ Blk wr y #[.int .i64 f.length, .slice (some ⟨gb, 0, none⟩) f.length cp] 26 ∧ RowAt wr gb cp f ∧ DrewC cb bo n c W1 wr) (fun i _ => (intOf i).toNat)
    case atStart => exact ⟨u, r0, 1, [0], by simp; omega, rfl, Hhvg.out, by omega, Nat.le_refl _, Hkb.out, HhR3.out, HhD.out⟩
    case round =>
      clear HhD HhR3 Hkb Hhvg
      obtain ⟨k, gb, cp, f, hkf, rfl, hvg, hne, hgr, kb, hR, hD⟩ := hrel
      have hf1 := hvg.pos
      by_cases hlt : 0 < k
      · obtain ⟨k, rfl⟩ : ∃ j, k = j + 1 := ⟨k - 1, by omega⟩
        have z0 := kb.cell 0
        have z1 := kb.cell 1
        have z4 := kb.lt
        simp at z0 z1
        go_wp2_with fail
        refine (l1Below_any f.length cb n c bo wr hD.cur hf1 (by omega)).mono ?_
        rintro e w5 ⟨v, hv, rfl, hD1⟩
        replace hR := hD1.row hR (by omega)
        replace kb := hD1.blk kb (by omega)
        replace hD := hD.trans hD1
        clear hD1 z0 z1 z4
        have z0 := kb.cell 0
        have z1 := kb.cell 1
        have z4 := kb.lt
        simp at z0 z1
        have hRi := hR.ints
        have hRl := hR.lt
        go_upto_region 8 with fail
        obtain ⟨N, hN⟩ : ∃ N, f.length + 1 = N := ⟨_, rfl⟩
        have hw1 : IntKind.i64.wrap ((f.length : Int) + 1) = (N : Int) := by rw [IntKind_i64_in _ (by omega) (by omega)]; omega
        have HhN := Lib.hid hN
        clear hN
        have Hhw1 := Lib.hid hw1
        clear hw1
        go_cut [6] from 17 to 68 (fun hp wx => HB w5 wx hp N (f ++ [0]))
        case first =>
          have hS' : ∀ w', Below w5.heap.size w5 w' → Below w5.heap.size w5 w' ∧ w'.cell? ⟨y, 0, none⟩ = some (.int .i64 f.length) ∧ w'.cell? ⟨y, 1, none⟩ = some (.slice (some ⟨gb, 0, none⟩) f.length cp) := fun w' h => ⟨h, (h.cell z4).trans z0, (h.cell z4).trans z1⟩
          go_region_held3 (fun w' => Below w5.heap.size w5 w' ∧ w'.cell? ⟨y, 0, none⟩ = some (.int .i64 f.length) ∧ w'.cell? ⟨y, 1, none⟩ = some (.slice (some ⟨gb, 0, none⟩) f.length cp))
            (exact hS' _ (by first | exact (Below.refl _ _).drew | assumption | exact Below.alloc (And.left (by assumption : Below w5.heap.size w5 _ ∧ _)) (And.left (by assumption : Below w5.heap.size w5 _ ∧ _)).size _ | exact ((And.left (by assumption : Below w5.heap.size w5 _ ∧ _)).setCell (by first | (simp; done) | (simp; omega)) _).setCell (by first | (simp; done) | (simp; omega)) _ | exact hB3.alloc hB3.size _))
            (first
              | ((refine step_append_copy (by rfl) (.tmp 28) (.tmp 30) (by rfl) _ _ ⟨gb, 0, none⟩ f cp (by rfl) (by rfl) (hRi.below (And.left (by assumption : Below w5.heap.size w5 _ ∧ _))) (Nat.le_refl _) (by omega) ?_); intro ao1 cap1 w6 hne1 hown1 hBw1; have hB2 : Below w5.heap.size w5 w6 := below_more (And.left (by assumption : Below w5.heap.size w5 _ ∧ _)) hBw1; obtain ⟨g1, rfl, hg1, hR6⟩ := hown1.row hf1; have hg5 : w5.heap.size ≤ g1 := Nat.le_trans (And.left (by assumption : Below w5.heap.size w5 _ ∧ _)).size hg1; have hR6l := hR6.lt; (try simp at hg1); (first | (refine (fun (kx : Blk w6 (w5.heap.size) #[.int .i64 0, .slice none 0 0] 26) => ?_) (Blk.below ?_ hBw1 ?_); rotate_left; (· (repeat' (first | ((with_reducible refine Blk.made _ _ _ ?_); first | rfl | (simp; done)) | with_reducible refine Blk.alloc ?_ _ | with_reducible refine Blk.drew ?_)) ); (· first | omega | (simp; omega) | (simp; done))) | (refine (fun (kx : Blk w6 (w5.heap.size + 1) #[.int .i64 0, .slice none 0 0] 26) => ?_) (Blk.below ?_ hBw1 ?_); rotate_left; (· (repeat' (first | ((with_reducible refine Blk.made _ _ _ ?_); first | rfl | (simp; done)) | with_reducible refine Blk.alloc ?_ _ | with_reducible refine Blk.drew ?_)) ); (· first | omega | (simp; omega) | (simp; done))) | (refine (fun (kx : Blk w6 (w5.heap.size + 1 + 1) #[.int .i64 0, .slice none 0 0] 26) => ?_) (Blk.below ?_ hBw1 ?_); rotate_left; (· (repeat' (first | ((with_reducible refine Blk.made _ _ _ ?_); first | rfl | (simp; done)) | with_reducible refine Blk.alloc ?_ _ | with_reducible refine Blk.drew ?_)) ); (· first | omega | (simp; omega) | (simp; done))) | skip))
              | ((refine step_append_R (by rfl) (.tmp 31) (.tmp 32) (by rfl) g1 cap1 f 0 _ (by rfl) (by first | with_reducible exact hR6 | with_reducible exact hR6.below ((Below.refl _ _).alloc (Nat.le_refl _) _) | with_reducible exact hR6.below (((Below.refl _ _).alloc (Nat.le_refl _) _).alloc (by simp) _)) hf1 (by rfl) (Blk.cell (cs := #[.int .i64 0]) (T := 3) (by repeat' first | ((with_reducible refine Blk.made _ _ _ ?_); first | rfl | (simp; done)) | with_reducible refine Blk.alloc ?_ _ | ((with_reducible refine Blk.below ?_ hBw1 ?_); rotate_left; (· first | (simp; done) | (simp; omega))) | with_reducible refine Blk.drew ?_) 0) (by omega) ?_); intro g2 cap2 w7 hR7 hO7 hg7; have hB3 : Below w5.heap.size w5 w7 := (And.left (by assumption : Below w5.heap.size w5 _ ∧ _)).trans (hO7.below (And.left (by assumption : Below w5.heap.size w5 _ ∧ _)).size fun b hb e => by have e2 : b = g1 := e; omega); (first | ((first | (refine (fun (kx2 : Blk w7 (w5.heap.size) #[.int .i64 0, .slice none 0 0] 26) => ?_) (hO7.blk1 ?_ ?_); rotate_left; (· (repeat' (first | with_reducible exact kx | ((with_reducible refine Blk.made _ _ _ ?_); first | rfl | (simp; done)) | with_reducible refine Blk.alloc ?_ _ | with_reducible refine Blk.drew ?_)) ); (· first | omega | (simp; omega))) | (refine (fun (kx2 : Blk w7 (w5.heap.size + 1) #[.int .i64 0, .slice none 0 0] 26) => ?_) (hO7.blk1 ?_ ?_); rotate_left; (· (repeat' (first | with_reducible exact kx | ((with_reducible refine Blk.made _ _ _ ?_); first | rfl | (simp; done)) | with_reducible refine Blk.alloc ?_ _ | with_reducible refine Blk.drew ?_)) ); (· first | omega | (simp; omega))) | (refine (fun (kx2 : Blk w7 (w5.heap.size + 1 + 1) #[.int .i64 0, .slice none 0 0] 26) => ?_) (hO7.blk1 ?_ ?_); rotate_left; (· (repeat' (first | with_reducible exact kx | ((with_reducible refine Blk.made _ _ _ ?_); first | rfl | (simp; done)) | with_reducible refine Blk.alloc ?_ _ | with_reducible refine Blk.drew ?_)) ); (· first | omega | (simp; omega))) | (refine (fun (kx2 : Blk w7 (w6.heap.size) #[.int .i64 0, .slice none 0 0] 26) => ?_) (hO7.blk1 ?_ ?_); rotate_left; (· (repeat' (first | with_reducible exact kx | ((with_reducible refine Blk.made _ _ _ ?_); first | rfl | (simp; done)) | with_reducible refine Blk.alloc ?_ _ | with_reducible refine Blk.drew ?_)) ); (· first | omega | (simp; omega))) | (refine (fun (kx2 : Blk w7 (w6.heap.size + 1) #[.int .i64 0, .slice none 0 0] 26) => ?_) (hO7.blk1 ?_ ?_); rotate_left; (· (repeat' (first | with_reducible exact kx | ((with_reducible refine Blk.made _ _ _ ?_); first | rfl | (simp; done)) | with_reducible refine Blk.alloc ?_ _ | with_reducible refine Blk.drew ?_)) ); (· first | omega | (simp; omega)))); have q0 := kx2.cell 0; have q1 := kx2.cell 1; have q2 := kx2.frozen 0; have q3 := kx2.frozen 1; have q4 := kx2.lt; simp at q0 q1) | skip)))
          all_goals
            have hs6 := hB2.size
            (try simp at hg7)
            have hw5g : w5.heap.size ≤ g2 := by rcases hg7 with h | h <;> omega
            go_wp2_with fail
            go_meet
            first
              | exact HB.last Hhw1.out HhN.out hR7 hB3 hw5g
              | exact HB.early Hhw1.out HhN.out kx2 hR7 hB3 hw5g (by omega) (by first | (have hkl := kx.lt; rcases hg7 with h | h <;> omega) | (rcases hg7 with h | h <;> omega))
        case rest =>
          obtain ⟨hb, g2, cp2, rfl, kh, hRh, hhb, hg2, hgh, hBx⟩ := hcut
          have kb := kb.below hBx z4
          have hR := hR.below hBx
          have hD := hD.below hBx
          have hT7 := hvg.lt128 hv
          have hrv := (hR.cell v hv).trans (by rw [hvg.row v hv])
          have hTl : ∀ u, (gn f v).testBit u = true → u < f.length := fun u hu => testBit_lt (hvg.lt v hv) hu
          have hvg2 := snoc_VG hvg (by omega)
          have hl2 : (f ++ [0]).length = N := by simpa using HhN.out
          clear z0 z1 hRi hBx
          have hyl := kb.lt
          have z0 := kb.cell 0
          have z1 := kb.cell 1
          simp at z0 z1
          have hcb5 := hD.cur.lt
          have hW15 := hD.only.size
          have hy5 : y < w5.heap.size := z4
          have hcy2 : cb < y := by omega
          have HTl := Lib.hid hTl
          clear hTl hR
          generalize hT : gn f v = T at *
          have Hkh := Lib.hid kh
          clear kh
          have HhRh := Lib.hid hRh
          clear hRh
          have HhD := Lib.hid hD
          clear hD
          have Hhvg2 := Lib.hid hvg2
          clear hvg2
          have Hkb := Lib.hid kb
          clear kb
          have Hhl2 := Lib.hid hl2
          clear hl2
          have Hhvg := Lib.hid hvg
          clear hvg
          go_wp2_with fail
          refine (specListB_any T hT7 _).mono ?_
          rintro e w6 ⟨lo, lc, rfl, hB6, hL⟩
          replace hL : 0 < (els T).length → ∃ g, lo = some ⟨g, 0, none⟩ ∧ wc.heap.size ≤ g ∧ g < w6.heap.size ∧ ∀ k, k < (els T).length → w6.cell? ⟨g, k, none⟩ = some (.int .i64 (eln (els T) k : Int)) := hL
          have hhl := Hkh.out.lt
          have kh6 := Hkh.out.below hB6 hhl
          have hRh6 := HhRh.out.below hB6
          have kb6 := Hkb.out.below hB6 hyl
          have hD6 := HhD.out.below hB6
          have hG6 : MakeG w6 w6 w5.heap.size hb N g2 cp2 (f ++ [0]) := ⟨Only.refl _ _ _, hhb, hgh, hg2, kh6, hRh6, Hhvg2.out, Hhl2.out⟩
          have HL := Lib.hid (fun (t : Nat) (ht : t < (els T).length) => (show ∃ g, lo = some ⟨g, 0, none⟩ ∧ g ≠ hb ∧ g < w6.heap.size ∧ w6.cell? ⟨g, t, none⟩ = some (.int .i64 (eln (els T) t : Int)) by
            obtain ⟨g, h1, h2, h3, h4⟩ := hL (by omega)
            exact ⟨g, h1, by omega, h3, h4 t ht⟩))
          have HTt := Lib.hid (fun t ht => HTl.out _ ((els_has (S := T) (v := eln (els T) t) (N := 7) hT7 (by omega)).2 ⟨t, ht, rfl⟩))
          have hyh : y ≠ hb := by omega
          have hyl6 : y < w6.heap.size := kb6.lt
          have hcT := cnt_le T
          clear hL hrv z0 z1 hB6 Hkh HhRh HhD Hkb Hhvg2 hgh HTl kh6 hRh6
          have HhG6 := Lib.hid hG6
          clear hG6
          have HhD6 := Lib.hid hD6
          clear hD6
          have Hkb6 := Lib.hid kb6
          clear kb6
          go_wp2_with fail
          go_loopw [8] (fun ix wx => ∃ (t gc cp : Nat) (f' : List Int), t ≤ cnt T ∧ ix = .int .i64 t ∧ MakeG w6 wx w5.heap.size hb N gc cp f') (fun ix _ => cnt T - (intOf ix).toNat)
          case atStart => exact ⟨0, g2, cp2, _, by omega, rfl, HhG6.out⟩
          case round =>
            clear HhG6
            obtain ⟨t, gc, cp3, f', ht, rfl, hG⟩ := hrel
            by_cases htt : t < cnt T
            · obtain ⟨gl, rfl, hgl, hgl2, p1⟩ := HL.out t htt
              have hul := HTt.out t htt
              generalize eln (els T) t = uu at *
              have x0 := hG.box.cell 0
              have x1 := hG.box.cell 1
              have ozr := hG.box.lt
              simp at x0 x1
              have kb2 := hG.only.blk Hkb6.out hyl6 hyh
              have y0 := kb2.cell 0
              simp at y0
              have hA := specAddF_any f' uu f.length gc cp3 N wr.drew hG.len (hG.row.below (Below.refl _ _).drew) hG.vg (by have := HhN.out; omega) (by have := HhN.out; omega) (by omega)
              have hT0 : ∀ w', Only (fun b => b = hb) wr.heap.size wr w' → Only (fun b => b = hb) wr.heap.size wr w' ∧ w'.cell? ⟨gl, t, none⟩ = some (.int .i64 uu) ∧ w'.cell? ⟨y, 0, none⟩ = some (.int .i64 f.length) := fun w' h =>
                ⟨h, (h.cell (p := ⟨gl, t, none⟩) (Nat.lt_of_lt_of_le hgl2 hG.only.size) (fun e => hgl e)).trans ((hG.only.cell (p := ⟨gl, t, none⟩) hgl2 (fun e => hgl e)).trans p1), (h.cell (p := ⟨y, 0, none⟩) kb2.lt (fun e => hyh e)).trans y0⟩
              have hO0 : Only (fun b => b = hb) wr.heap.size wr wr.drew := Only.of (Below.refl _ _).drew
              have hab : uu ≠ f.length := by omega
              clear kb2 y0
              have HhA := Lib.hid hA
              clear hA
              have HhG := Lib.hid hG
              clear hG
              go_upto_region 13 with fail
              refine wp_region_B (fun w' => Only (fun b => b = hb) wr.heap.size wr w' ∧ w'.cell? ⟨gl, t, none⟩ = some (.int .i64 uu) ∧ w'.cell? ⟨y, 0, none⟩ = some (.int .i64 f.length)) (fun w' => w'.cell? ⟨hb, 0, none⟩ = some (.int .i64 N) ∧ w'.cell? ⟨hb, 1, none⟩ = some (.slice (some ⟨gc, 0, none⟩) N cp3)) [11] (by kernel_rfl) (hT0 _ hO0) (⟨x0, x1⟩) (fun hM => ?_)
              refine wpAnyB_take (i := 0) (v := ?_) true rfl (by kernel_rfl) (by kernel_rfl) (by kernel_rfl) (by kernel_rfl) (by kernel_rfl) (fun _ _ _ h => h) (Or.inl ⟨by rfl, ?_⟩) hM (fun hM2 => ?_)
              rotate_left
              · (intro w hSw; have hSl := hSw.2 rfl; replace hSw := hSw.1; (try dsimp only at hSl); (try dsimp only at hSw); go_simp; try with_reducible rfl)
              replace hM := hM2
              clear hM2
              try simp only [List.getElem_toArray, List.getElem_cons_zero, Act.put, List.setIfInBounds_toArray, List.set_cons_zero, List.set_cons_succ]
              refine wpAnyB_take (i := 1) (v := ?_) false rfl (by kernel_rfl) (by kernel_rfl) (by kernel_rfl) (by kernel_rfl) (by kernel_rfl) (fun _ _ _ h => h) (Or.inl ⟨by rfl, ?_⟩) hM (fun hM2 => ?_)
              rotate_left
              · (intro w hSw; replace hSw := hSw.1; (try dsimp only at hSw); go_simp; try with_reducible rfl)
              replace hM := hM2
              clear hM2
              try simp only [List.getElem_toArray, List.getElem_cons_succ, List.getElem_cons_zero, Act.put, List.setIfInBounds_toArray, List.set_cons_zero, List.set_cons_succ]
              refine wpAnyB_take (i := 2) (v := ?_) false rfl (by kernel_rfl) (by kernel_rfl) (by kernel_rfl) (by kernel_rfl) (by kernel_rfl) (fun _ _ _ h => h) (Or.inl ⟨by rfl, ?_⟩) hM (fun hM2 => ?_)
              rotate_left
              · (intro w hSw; replace hSw := hSw.1; (try dsimp only at hSw); go_simp; try with_reducible rfl)
              replace hM := hM2
              clear hM2
              try simp only [List.getElem_toArray, List.getElem_cons_succ, List.getElem_cons_zero, Act.put, List.setIfInBounds_toArray, List.set_cons_zero, List.set_cons_succ]
              refine wpAnyB_take (i := 3) (v := ?_) false rfl (by kernel_rfl) (by kernel_rfl) (by kernel_rfl) (by kernel_rfl) (by kernel_rfl) (fun _ _ _ h => h) (Or.inl ⟨by rfl, ?_⟩) hM (fun hM2 => ?_)
              rotate_left
              · (intro w hSw; replace hSw := hSw.1; (try dsimp only at hSw); go_simp; try with_reducible rfl)
              replace hM := hM2
              clear hM2
              try simp only [List.getElem_toArray, List.getElem_cons_succ, List.getElem_cons_zero, Act.put, List.setIfInBounds_toArray, List.set_cons_zero, List.set_cons_succ]
              refine wpAnyB_take (i := 4) (v := ?_) false rfl (by kernel_rfl) (by kernel_rfl) (by kernel_rfl) (by kernel_rfl) (by kernel_rfl) (fun _ _ _ h => h) (Or.inl ⟨by rfl, ?_⟩) hM (fun hM2 => ?_)
              rotate_left
              · (intro w hSw; replace hSw := hSw.1; (try dsimp only at hSw); go_simp; try with_reducible rfl)
              replace hM := hM2
              clear hM2
              try simp only [List.getElem_toArray, List.getElem_cons_succ, List.getElem_cons_zero, Act.put, List.setIfInBounds_toArray, List.set_cons_zero, List.set_cons_succ]
              refine wpAnyB_take (i := 5) (v := ?_) false rfl (by kernel_rfl) (by kernel_rfl) (by kernel_rfl) (by kernel_rfl) (by kernel_rfl) (fun _ _ _ h => h) (Or.inl ⟨by rfl, ?_⟩) hM (fun hM2 => ?_)
              rotate_left
              · (intro w hSw; replace hSw := hSw.1; (try dsimp only at hSw); go_simp; try with_reducible rfl)
              replace hM := hM2
              clear hM2
              try simp only [List.getElem_toArray, List.getElem_cons_succ, List.getElem_cons_zero, Act.put, List.setIfInBounds_toArray, List.set_cons_zero, List.set_cons_succ]
              refine wpAnyB_take (i := 6) (v := ?_) false rfl (by kernel_rfl) (by kernel_rfl) (by kernel_rfl) (by kernel_rfl) (by kernel_rfl) (fun _ _ _ h => h) (Or.inl ⟨by rfl, ?_⟩) hM (fun hM2 => ?_)
              rotate_left
              · (intro w hSw; replace hSw := hSw.1; (try dsimp only at hSw); go_simp; try with_reducible rfl)
              replace hM := hM2
              clear hM2
              try simp only [List.getElem_toArray, List.getElem_cons_succ, List.getElem_cons_zero, Act.put, List.setIfInBounds_toArray, List.set_cons_zero, List.set_cons_succ]
              refine wpAnyB_one (i := 7) (by kernel_rfl) rfl (fun K hK => ?_)
              (go_simp; go_at_call 65; refine HhA.out.mono ?_; rintro e w7 ⟨g5, cp5, ok5, rfl, hB7, hg5, hR7⟩; have k5 := (HhG.out.box.drew).below hB7 ozr; have hO5 : Only (fun b => b = hb) wr.heap.size wr w7 := hO0.trans (Only.of (hB7.mono (Nat.le_refl _))); dsimp only)
              refine hK.out _ _ (meetB.both (hT0 _ hO5) ⟨by simpa using k5.cell 0, by simpa using k5.cell 1⟩) (fun hM2 => ?_)
              clear hK K
              replace hM := hM2
              clear hM2
              try simp only [List.getElem_toArray, List.getElem_cons_succ, List.getElem_cons_zero, Act.put, List.setIfInBounds_toArray, List.set_cons_zero, List.set_cons_succ]
              have q0 := k5.cell 0
              have q1 := k5.cell 1
              have q2 := k5.frozen 0
              have q3 := k5.frozen 1
              have q4 := k5.lt
              simp at q0 q1
              have hG7 := HhG.out.edge (w5 := w7) (((Below.refl _ _).drew).trans hB7) hg5 hR7 hab
              refine wpAnyB_take (i := 8) (v := ?_) false rfl (by kernel_rfl) (by kernel_rfl) (by kernel_rfl) (by kernel_rfl) (by kernel_rfl) (fun _ _ _ h => h) (Or.inl ⟨by rfl, ?_⟩) hM (fun hM2 => ?_)
              rotate_left
              · (intro w hSw; replace hSw := hSw.1; (try dsimp only at hSw); go_simp; try with_reducible rfl)
              replace hM := hM2
              clear hM2
              try simp only [List.getElem_toArray, List.getElem_cons_succ, List.getElem_cons_zero, Act.put, List.setIfInBounds_toArray, List.set_cons_zero, List.set_cons_succ]
              refine wpAnyB_take (i := 9) (v := ?_) false rfl (by kernel_rfl) (by kernel_rfl) (by kernel_rfl) (by kernel_rfl) (by kernel_rfl) (fun _ _ _ h => h) (Or.inl ⟨by rfl, ?_⟩) hM (fun hM2 => ?_)
              rotate_left
              · (intro w hSw; replace hSw := hSw.1; (try dsimp only at hSw); go_simp; try with_reducible rfl)
              replace hM := hM2
              clear hM2
              try simp only [List.getElem_toArray, List.getElem_cons_succ, List.getElem_cons_zero, Act.put, List.setIfInBounds_toArray, List.set_cons_zero, List.set_cons_succ]
              refine wpAnyB_take (i := 10) (v := ?_) false rfl (by kernel_rfl) (by kernel_rfl) (by kernel_rfl) (by kernel_rfl) (by kernel_rfl) (fun _ _ _ h => h) (Or.inl ⟨by rfl, ?_⟩) hM (fun hM2 => ?_)
              rotate_left
              · (intro w hSw; replace hSw := hSw.1; (try dsimp only at hSw); go_simp; try with_reducible rfl)
              replace hM := hM2
              clear hM2
              try simp only [List.getElem_toArray, List.getElem_cons_succ, List.getElem_cons_zero, Act.put, List.setIfInBounds_toArray, List.set_cons_zero, List.set_cons_succ]
              have hO6 : Only (fun b => b = hb) wr.heap.size wr ((w7.setCell ⟨hb, 0, none⟩ (.int .i64 N)).setCell ⟨hb, 1, none⟩ (.slice (some ⟨g5, 0, none⟩) N cp5)) := (hO5.setCell (p := ⟨hb, 0, none⟩) (.inl rfl) _).setCell (p := ⟨hb, 1, none⟩) (.inl rfl) _
              refine wpAnyB_one (i := 11) (by kernel_rfl) rfl (fun K hK => ?_)
              go_simp
              refine hK.out _ _ (meetB.late (hT0 _ hO6) (by kernel_rfl)) (fun hM2 => ?_)
              clear hK K
              replace hM := hM2
              clear hM2
              try simp only [List.getElem_toArray, List.getElem_cons_succ, List.getElem_cons_zero, Act.put, List.setIfInBounds_toArray, List.set_cons_zero, List.set_cons_succ]
              refine wpAnyB_done (by kernel_rfl) ?_ _
              have HhG7 := Lib.hid hG7
              clear hG7
              clear q0 q1 q2 q3 q4 k5 hO6 hO5 hT0 hM p1 x0 x1 HhA HhG hB7 hg5 hR7 hO0
              generalize World.setCell _ _ _ = W9 at *
              go_wp2_with fail
              go_roundw
              case rel => first | exact ⟨t + 1, g5, cp5, _, by omega, by go_num, HhG7.out⟩ | ((repeat apply Exists.intro); exact ⟨⟨t + 1, g5, cp5, _, by omega, by go_num, HhG7.out⟩, rfl⟩)
              case measure => simp [intOf]; omega
            · obtain rfl : t = cnt T := by omega
              have kb8 := hG.only.blk Hkb6.out hyl6 hyh
              have hD8 := HhD6.out.madeH hG (by omega) (by omega)
              have kh8 := hG.box
              have hR8 := hG.row
              have hvg8 := hG.vg
              have hln8 := hG.len
              have hg8 := hG.lo
              have hgh8 := hG.ne
              clear hG HhD6 Hkb6 HL HTt
              have hN2 := HhN.out
              have Hfin := Lib.hid (fun (wz : World) (g5 cp5 : Nat) (f5 : List Int) (hl : f5.length = N) (hD : DrewC cb bo n c W1 wz) (kb : Blk wz y #[.int .i64 f.length, .slice (some ⟨gb, 0, none⟩) f.length cp] 26) (hR : RowAt wz g5 cp5 f5) (hg : y < g5) => (by
                refine ⟨?_, (hR.otherCell (by show g5 ≠ y; omega)).otherCell (by show g5 ≠ y; omega), (hD.store (a := ⟨y, 0, none⟩) (by show W1.heap.size ≤ y; omega) hcy2 _).store (a := ⟨y, 1, none⟩) (by show W1.heap.size ≤ y; omega) hcy2 _⟩
                rw [hl]
                have := (kb.store 0 (.int .i64 N)).store 1 (.slice (some ⟨g5, 0, none⟩) N cp5)
                simpa using this : Blk ((wz.setCell ⟨y, 0, none⟩ (.int .i64 N)).setCell ⟨y, 1, none⟩ (.slice (some ⟨g5, 0, none⟩) N cp5)) y #[.int .i64 f5.length, .slice (some ⟨g5, 0, none⟩) f5.length cp5] 26 ∧ RowAt ((wz.setCell ⟨y, 0, none⟩ (.int .i64 N)).setCell ⟨y, 1, none⟩ (.slice (some ⟨g5, 0, none⟩) N cp5)) g5 cp5 f5 ∧ DrewC cb bo n c W1 ((wz.setCell ⟨y, 0, none⟩ (.int .i64 N)).setCell ⟨y, 1, none⟩ (.slice (some ⟨g5, 0, none⟩) N cp5))))
              go_wp2_with fail
              refine (l1Once_any 2 cb n c bo wr hD8.cur (by omega) (by omega)).mono ?_
              rintro e w9 ⟨bb, rfl, hD1⟩
              have kb9 := hD1.blk kb8 (by omega)
              have kh9 := hD1.blk kh8 (by omega)
              have hR9 := hD1.row hR8 (by omega)
              have hD9 := hD8.trans hD1
              clear hD1 kb8 kh8 hR8 hD8
              have z0 := kb9.cell 0
              have z1 := kb9.cell 1
              have z2 := kb9.frozen 0
              have z3 := kb9.frozen 1
              have z4 := kb9.lt
              have x0 := kh9.cell 0
              have x1 := kh9.cell 1
              have x4 := kh9.lt
              simp at z0 z1 x0 x1
              cases bb
              · obtain ⟨E1, E2, E3⟩ := Hfin.out w9 gc cp3 f' hln8 hD9 kb9 hR9 (by omega)
                have HE1 := Lib.hid E1
                clear E1
                have HE2 := Lib.hid E2
                clear E2
                have HE3 := Lib.hid E3
                clear E3
                have Hhvg8 := Lib.hid hvg8
                clear hvg8
                have Hhln8 := Lib.hid hln8
                clear hln8
                clear kb9 kh9 hR9 hD9 Hfin
                go_wp2_with fail
                go_roundw
                case rel => first | exact ⟨k, gc, cp3, f', by have := Hhln8.out; omega, by go_num, Hhvg8.out, by omega, by omega, HE1.out, HE2.out, HE3.out⟩ | ((repeat apply Exists.intro); exact ⟨⟨k, gc, cp3, f', by have := Hhln8.out; omega, by go_num, Hhvg8.out, by omega, by omega, HE1.out, HE2.out, HE3.out⟩, rfl⟩)
                case measure => first | (simp [intOf]; done) | (simp [intOf]; omega)
              · have hA := specAddF_any f' v f.length gc cp3 N w9 hln8 hR9 hvg8 (by omega) (by omega) (by omega)
                have hvf : v ≠ f.length := by omega
                have hyh2 : ¬y = hb := by omega
                have hhy2 : ¬hb = y := by omega
                have hs9 := hD9.only.size
                have Hkb9 := Lib.hid kb9
                clear kb9
                have Hkh9 := Lib.hid kh9
                clear kh9
                have HhD9 := Lib.hid hD9
                clear hD9
                have HhA := Lib.hid hA
                clear hA
                have Hhvg8 := Lib.hid hvg8
                clear hvg8
                have Hhln8 := Lib.hid hln8
                clear hln8
                clear hR9 z2 z3
                go_wp2_with fail
                refine HhA.out.mono ?_
                rintro e w10 ⟨g5, cp5, ok5, rfl, hB10, hg5, hR10⟩
                have kb10 := Hkb9.out.below hB10 z4
                have kh10 := Hkh9.out.below hB10 x4
                have hD10 := HhD9.out.below hB10
                clear HhA z0 z1 x0 x1 Hkb9 Hkh9 HhD9 hB10
                have x0 := kh10.cell 0
                have x1 := kh10.cell 1
                have x2 := kh10.frozen 0
                have x3 := kh10.frozen 1
                simp at x0 x1
                have kh11 : Blk ((w10.setCell ⟨hb, 0, none⟩ (.int .i64 N)).setCell ⟨hb, 1, none⟩ (.slice (some ⟨g5, 0, none⟩) N cp5)) hb #[.int .i64 N, .slice (some ⟨g5, 0, none⟩) N cp5] 26 := by
                  have := (kh10.store 0 (.int .i64 N)).store 1 (.slice (some ⟨g5, 0, none⟩) N cp5)
                  simpa using this
                have kb11 : Blk ((w10.setCell ⟨hb, 0, none⟩ (.int .i64 N)).setCell ⟨hb, 1, none⟩ (.slice (some ⟨g5, 0, none⟩) N cp5)) y _ _ := (kb10.other (a := ⟨hb, 0, none⟩) (.int .i64 N) hyh2).other (a := ⟨hb, 1, none⟩) (.slice (some ⟨g5, 0, none⟩) N cp5) hyh2
                have hD11 := (hD10.store (a := ⟨hb, 0, none⟩) (by show W1.heap.size ≤ hb; omega) (by show cb < hb; omega) (.int .i64 N)).store (a := ⟨hb, 1, none⟩) (by show W1.heap.size ≤ hb; omega) (by show cb < hb; omega) (.slice (some ⟨g5, 0, none⟩) N cp5)
                have hR11 : RowAt ((w10.setCell ⟨hb, 0, none⟩ (.int .i64 N)).setCell ⟨hb, 1, none⟩ (.slice (some ⟨g5, 0, none⟩) N cp5)) g5 cp5 (addE f' v f.length) := (hR10.otherCell (by show g5 ≠ hb; omega)).otherCell (by show g5 ≠ hb; omega)
                clear kb10 kh10 hD10 hR10
                have Hkh11 := Lib.hid kh11
                clear kh11
                have Hkb11 := Lib.hid kb11
                clear kb11
                have HhD11 := Lib.hid hD11
                clear hD11
                have HhR11 := Lib.hid hR11
                clear hR11
                go_upto_region 16 with fail
                have kh11 := Hkh11.out
                have kb11 := Hkb11.out
                have hD11 := HhD11.out
                have hR11 := HhR11.out
                clear Hkh11 Hkb11 HhD11 HhR11 x0 x1 x2 x3
                generalize World.setCell _ _ _ = w11 at *
                have z0 := kb11.cell 0
                have z1 := kb11.cell 1
                have z2 := kb11.frozen 0
                have z3 := kb11.frozen 1
                have z4 := kb11.lt
                have x0 := kh11.cell 0
                have x1 := kh11.cell 1
                have x4 := kh11.lt
                simp at z0 z1 x0 x1
                have hln11 : (addE f' v f.length).length = N := by rw [addE_len]; exact Hhln8.out
                have hvg11 := addE_VG Hhvg8.out hvf
                obtain ⟨E1, E2, E3⟩ := Hfin.out w11 g5 cp5 _ hln11 hD11 kb11 hR11 (by omega)
                have HE1 := Lib.hid E1
                clear E1
                have HE2 := Lib.hid E2
                clear E2
                have HE3 := Lib.hid E3
                clear E3
                have Hhvg11 := Lib.hid hvg11
                clear hvg11
                have Hhln11 := Lib.hid hln11
                clear hln11
                clear kb11 kh11 hR11 hD11 Hfin
                go_wp2_with fail
                go_roundw
                case rel => first | exact ⟨k, g5, cp5, _, by have := Hhln11.out; omega, by go_num, Hhvg11.out, by omega, by omega, HE1.out, HE2.out, HE3.out⟩ | ((repeat apply Exists.intro); exact ⟨⟨k, g5, cp5, _, by have := Hhln11.out; omega, by go_num, Hhvg11.out, by omega, by omega, HE1.out, HE2.out, HE3.out⟩, rfl⟩)
                case measure => first | (simp [intOf]; done) | (simp [intOf]; omega)
      · obtain rfl : k = 0 := by omega
        have k9 := Hblk.out _ hD
        have y0 := k9.cell 0
        have y1 := k9.cell 1
        have y2 := k9.frozen 0
        have y3 := k9.frozen 1
        have y4 := k9.lt
        have z0 := kb.cell 0
        have z1 := kb.cell 1
        have z4 := kb.lt
        simp at y0 y1 z0 z1
        have HE := Hend.out wr f.length f gb cp ⟨hf1, by omega⟩ hD (by omega) hR
        clear k9 kb hD hR Hblk Hend
        go_wp2_with fail
        refine bodyPost_ret (v := .agg #[.int .i64 f.length, .slice (some ⟨gb, 0, none⟩) f.length cp]) (by simp [results, Tryz.results75, go_sem, y0, y1]) rfl ?_
        exact HE.out
  · go_wp2_with fail
    refine (l2Any_any cb n c bo w2 hD.cur).mono ?_
    rintro e w3 ⟨x, f, g, cap, hf, rfl, hg, hR, hD1⟩
    have hs2 := hD.only.size
    have hD3 := hD.trans hD1
    have k9 := Hblk.out _ hD3
    have y0 := k9.cell 0
    have y1 := k9.cell 1
    have y2 := k9.frozen 0
    have y3 := k9.frozen 1
    have y4 := k9.lt
    simp at y0 y1
    have HE := Hend.out w3 x f g cap hf hD3 (by omega) hR
    clear k9 hD hD1 hD3 hR Hblk Hend
    go_wp2_with fail
    refine bodyPost_ret (v := .agg #[.int .i64 x, .slice (some ⟨g, 0, none⟩) f.length cap]) (by simp [results, Tryz.results75, go_sem, y0, y1]) rfl ?_
    exact HE.out

end Go.Proofs.YtjikmjhpmkakoaaGreatDoor
