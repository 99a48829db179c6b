/-
  The drawing of graphs that often have a hole: l4Holey, and the functions that draw for colours. For texts of at most 2^20 bytes.
  The drawing of a list: l4List. For texts of at most 2^20 bytes.
  areJoined of the program for whatever pattern. For at most 2^20 rows and list elements.
-/
import Derived.Test.YtfkehmpckhmkbaaGreatPkLawPerfect10
import Derived.Test.YtfkehmpckhmkbaaGreatPkLawPerfect06
namespace Go.Proofs.YtfkehmpckhmkbaaGreat
open Go.RowKit

set_option maxRecDepth 100000 in
set_option maxHeartbeats 4000000 in
theorem l4Holey_any (cb n c : Nat) (bo : Option Addr) (w : World) (h : CurAt w cb bo n c) :
    Calls Tryz.prog 59 #[.pointer (some ⟨cb, 0, none⟩)] w (RetAG cb bo n c w) := by
  have hcw := h.lt
  go_enter Tryz.func59, Tryz.ntmps59
  go_wp2_with fail
  generalize hW : World.alloc _ _ = W1
  obtain ⟨hB, hs, k0⟩ := alloc1 hW
  have hD := DrewC.refl (h.below hB)
  have hs1 : w.heap.size < W1.heap.size := by omega
  clear hW hs
  have HhB := Lib.hid hB
  clear hB
  have Hk0 := Lib.hid k0
  clear k0
  refine (l1Once_any 3 cb n c bo W1 hD.cur (by omega) (by omega)).mono ?_
  rintro e w1 ⟨b3, rfl, hD1⟩
  replace hD := hD.trans hD1
  clear hD1
  have hend : ∀ (wr : World) (x : Int) (f : List Int) (g cap : Nat), (1 ≤ f.length ∧ f.length ≤ 6) → DrewC cb bo n c W1 wr → w.heap.size < g → RowAt wr g cap f → Hid (RetAG cb bo n c w (.returned (.agg #[.int .i64 x, .slice (some ⟨g, 0, none⟩) f.length cap])) ((wr.setCell ⟨w.heap.size, 0, none⟩ (.int .i64 x)).setCell ⟨w.heap.size, 1, none⟩ (.slice (some ⟨g, 0, none⟩) f.length cap))) := fun wr x f g cap hv hD hg hR => Lib.hid (by
    obtain ⟨h1, h2⟩ := end_graph (N := f.length) (x := x) HhB.out hcw hD hg hR
    exact ⟨x, f, g, cap, hv, rfl, Nat.le_of_lt hg, h1, h2⟩)
  have hblk : ∀ wr, DrewC cb bo n c W1 wr → Blk wr w.heap.size #[.int .i64 0, .slice none 0 0] 26 := fun wr hD => hD.blk Hk0.out (by omega)
  have Hend := Lib.hid hend
  have Hblk := Lib.hid hblk
  clear hend hblk
  cases b3
  · go_wp2_with fail
    refine (l1Below_any 3 cb n c bo w1 hD.cur (by omega) (by omega)).mono ?_
    rintro e w3 ⟨u, hu, rfl, hD1⟩
    replace hD := hD.trans hD1
    clear hD1
    go_wp2_with fail
    have eu : (4 : Int) + (u : Int) = ((u + 4 : Nat) : Int) := by omega
    rw [eu]
    clear eu
    obtain ⟨N, hN⟩ : ∃ N, N = u + 4 := ⟨_, rfl⟩
    have hN1 : 1 ≤ N := by omega
    have hN7 : N ≤ 7 := by omega
    have hN6 : N ≤ 6 := by omega
    rw [← hN]
    clear hN
    have hN := named_cycle N w3 hN1 hN7
    refine hN.mono ?_
    rintro e w4 ⟨f, g, cap, hv, hfl, rfl, hg, hR, hB4⟩
    subst hfl
    have HN6 := Lib.hid hN6
    clear hN6
    have hgw : w.heap.size < g := by have := hD.only.size; omega
    replace hD := hD.below hB4
    clear hN hg hB4
    go_wp2_with fail
    generalize hWb : World.alloc _ _ = Wb
    obtain ⟨hBb, hzb, kb⟩ := alloc1 hWb
    have hg4 : g < w4.heap.size := hR.lt
    have hcb4 : cb < w4.heap.size := hD.cur.lt
    have hw4 := hD.only.size
    replace hD := hD.below hBb
    replace hR := hR.below hBb
    clear hWb hBb hzb
    generalize w4.heap.size = yb at *
    refine (l1Below_any f.length cb n c bo Wb hD.cur hv.pos (by have := hv.le; omega)).mono ?_
    rintro e w5 ⟨a, ha, rfl, hD1⟩
    replace hR := hD1.row hR (by omega)
    replace kb := hD1.blk kb (by omega)
    replace hD := hD.trans hD1
    clear hD1
    have z0 := kb.cell 0
    simp at z0
    go_wp2_with fail
    clear z0
    refine (l1Below_any f.length cb n c bo w5 hD.cur hv.pos (by have := hv.le; omega)).mono ?_
    rintro e w6 ⟨b, hb, rfl, hD1⟩
    replace hR := hD1.row hR (by omega)
    replace kb := hD1.blk kb (by omega)
    replace hD := hD.trans hD1
    clear hD1
    go_wp2_with fail
    refine (l1Once_any 3 cb n c bo w6 hD.cur (by omega) (by omega)).mono ?_
    rintro e w7 ⟨bb, rfl, hD1⟩
    replace hR := hD1.row hR (by omega)
    replace kb := hD1.blk kb (by omega)
    replace hD := hD.trans hD1
    clear hD1
    have k9 := Hblk.out _ hD
    have y0 := k9.cell 0
    have y1 := k9.cell 1
    have y2 := k9.frozen 0
    have y3 := k9.frozen 1
    have y4 := k9.lt
    simp at y0 y1
    have z0 := kb.cell 0
    have z1 := kb.cell 1
    have z4 := kb.lt
    simp at z0 z1
    cases bb
    · have HE := Hend.out _ f.length f g cap ⟨hv.pos, HN6.out⟩ hD (by omega) hR
      clear k9 kb hD hR
      go_wp2_with fail
      refine bodyPost_ret (v := .agg #[.int .i64 f.length, .slice (some ⟨g, 0, none⟩) f.length cap]) (by simp [results, Tryz.results59, go_sem, y0, y1]) rfl ?_
      exact HE.out
    · have hA := specAddEdge_any f.length f a b (some ⟨g, 0, none⟩) cap w7 hR.ints (by have := hv.le; omega) hv.pos
      clear k9
      have HhR := Lib.hid hR
      clear hR
      have Hkb := Lib.hid kb
      clear kb
      have HhD := Lib.hid hD
      clear hD
      go_wp2_with fail
      refine hA.mono ?_
      rintro e w8 ⟨g5, cp5, rfl, hB8, hg5, hR5⟩
      have hw7 := HhD.out.only.size
      have k5 := Hkb.out.below hB8 z4
      have r0 := k5.cell 0
      have r1 := k5.cell 1
      have r2 := k5.frozen 0
      have r3 := k5.frozen 1
      have r4 := k5.lt
      simp at r0 r1
      have hv2 := addV_VG hv f.length a b
      have hl2 := addV_len f.length f a b
      have hD2 := ((HhD.out.below hB8).store (a := ⟨yb, 0, none⟩) hw4 hcb4 (.int .i64 f.length)).store (a := ⟨yb, 1, none⟩) hw4 hcb4 (.slice (some ⟨g5, 0, none⟩) f.length cp5)
      have hR2 : RowAt ((w8.setCell ⟨yb, 0, none⟩ (.int .i64 f.length)).setCell ⟨yb, 1, none⟩ (.slice (some ⟨g5, 0, none⟩) f.length cp5)) g5 cp5 _ := (hR5.otherCell (by simp; omega)).otherCell (by simp; omega)
      have k6 : Blk ((w8.setCell ⟨yb, 0, none⟩ (.int .i64 f.length)).setCell ⟨yb, 1, none⟩ (.slice (some ⟨g5, 0, none⟩) f.length cp5)) yb #[.int .i64 f.length, .slice (some ⟨g5, 0, none⟩) f.length cp5] 26 := by
        have := (k5.store 0 (.int .i64 f.length)).store 1 (.slice (some ⟨g5, 0, none⟩) f.length cp5)
        simpa using this
      have k8 := Hblk.out _ (HhD.out.below hB8)
      have HE := Hend.out _ f.length _ g5 cp5 ⟨hv2.pos, by rw [hl2]; exact HN6.out⟩ hD2 (by omega) hR2
      rw [hl2] at HE
      clear y0 y1 y2 y3 y4 z0 z1 hA HhR hR5 hB8 hg5 k5 hv2 hl2 hD2 hR2
      have y0 := k8.cell 0
      have y1 := k8.cell 1
      have y2 := k8.frozen 0
      have y3 := k8.frozen 1
      have y4 := k8.lt
      simp at y0 y1
      have hne : ¬w.heap.size = yb := by omega
      have hne2 : ¬yb = w.heap.size := by omega
      clear k8 k6 HhD Hkb z4
      generalize addOk f.length f a b = BB at *
      go_wp2_with fail
      refine bodyPost_ret (v := .agg #[.int .i64 f.length, .slice (some ⟨g5, 0, none⟩) f.length cp5]) (by simp [results, Tryz.results59, go_sem, y0, y1]) rfl ?_
      exact HE.out
  · go_wp2_with fail
    refine (l2Any_any cb n c bo w1 hD.cur).mono ?_
    rintro e w2 ⟨x, f, g, cap, hf, rfl, hg, hR, hD1⟩
    have hw1 := hD.only.size
    replace hD := hD.trans hD1
    have k9 := Hblk.out _ hD
    have y0 := k9.cell 0
    have y1 := k9.cell 1
    have y2 := k9.frozen 0
    have y3 := k9.frozen 1
    have y4 := k9.lt
    simp at y0 y1
    have HE := Hend.out _ x f g cap hf hD (by omega) hR
    clear k9 hD hR hD1
    go_wp2_with fail
    refine bodyPost_ret (v := .agg #[.int .i64 x, .slice (some ⟨g, 0, none⟩) f.length cap]) (by simp [results, Tryz.results59, go_sem, y0, y1]) rfl ?_
    exact HE.out






end Go.Proofs.YtfkehmpckhmkbaaGreat

namespace Go.Proofs.YtfkehmpckhmkbaaGreat
open Go.RowKit

theorem Only.from {base : Nat} {w w' : World} (h : Below base w w') : Only (fun b => base ≤ b) w.heap.size w w' := ⟨h.os, h.tape, h.output, h.size, fun k _ hx => h.block k (by omega)⟩
theorem DrewC.grow {cb n c base : Nat} {bo : Option Addr} {w w1 w2 : World} (h : DrewC cb bo n c w w1) (hb : Below base w1 w2) (h1 : w.heap.size ≤ base) (h2 : cb < base) : DrewC cb bo n c w w2 :=
  ⟨h.only.more hb h1, h.cur.only (Only.from hb) fun b hb e => by have e2 : base ≤ b := e; omega⟩

/-- A list of numbers has been drawn. -/
def RetLi (cb : Nat) (bo : Option Addr) (n c : Nat) (w : World) (e : Ending) (w' : World) : Prop :=
  ∃ (l : List Int) (ao : Option Addr) (cap : Nat), l.length ≤ 8 ∧ e = .returned (.slice ao l.length cap) ∧ OwnE w' w.heap.size ao cap l ∧ DrewC cb bo n c w w'

theorem l1BelowI_any (z : Int) (cb n c : Nat) (bo : Option Addr) (w : World) (h : CurAt w cb bo n c) (h1 : 1 ≤ z) (h2 : z ≤ 256) :
    Calls Tryz.prog 89 #[.pointer (some ⟨cb, 0, none⟩), .int .i64 z] w (RetN cb bo n c z.toNat w) := by
  obtain ⟨k, rfl⟩ := Int.eq_ofNat_of_zero_le (show 0 ≤ z by omega)
  exact l1Below_any k cb n c bo w h (by omega) (by omega)

set_option maxRecDepth 100000 in
set_option maxHeartbeats 4000000 in
theorem l4List_any (cb n c : Nat) (bo : Option Addr) (x : Int) (v : Value) (w : World) (h : CurAt w cb bo n c) :
    Calls Tryz.prog 57 #[.pointer (some ⟨cb, 0, none⟩), .agg #[.int .i64 x, v]] w (RetLi cb bo n c w) := by
  have hcw := h.lt
  go_enter Tryz.func57, Tryz.ntmps57
  go_wp2_with fail
  generalize hW : World.alloc _ _ = W1
  obtain ⟨hB, hs, k0, -⟩ := alloc2 hW
  have hD := DrewC.refl (h.below hB)
  have hs1 : w.heap.size + 2 = W1.heap.size := by omega
  clear hW hs
  generalize (⟨w.heap.size + 1, 0, none⟩ : Addr) = na
  have hO : OwnE W1 W1.heap.size (some na) 0 [] := OwnE.empty _ _ _
  have HhB := Lib.hid hB
  clear hB
  have Hk0 := Lib.hid k0
  clear k0
  have HhO := Lib.hid hO
  clear hO
  refine (l1Below_any 6 cb n c bo W1 hD.cur (by omega) (by omega)).mono ?_
  rintro e w1 ⟨u, hu, rfl, hD1⟩
  have hO := HhO.out.onlyOne hD1.only (by omega)
  replace hD := hD.trans hD1
  clear hD1 HhO
  have HhD := Lib.hid hD
  clear hD
  have HhO := Lib.hid hO
  clear hO
  go_wp2_with fail
  go_loopw [5, 6] (fun l i wr => ∃ (xs : List Int) (ao : Option Addr) (cap u : Nat), u + xs.length ≤ 5 ∧ l = .slice ao xs.length cap ∧ i = .int .i64 u ∧ DrewC cb bo n c W1 wr ∧ OwnE wr W1.heap.size ao cap xs) (fun _ i _ => (intOf i).toNat)
  case atStart => exact ⟨[], _, _, u, by simp; omega, rfl, rfl, HhD.out, HhO.out⟩
  case round =>
    clear HhD HhO hu
    obtain ⟨xs, ao, cap, k, hu, rfl, rfl, hD, hO⟩ := hrel
    have k1 := hD.blk Hk0.out (by omega)
    have x0 := k1.cell 0
    have x4 := k1.lt
    simp at x0
    have hcl := hD.cur.lt
    have hsz := hD.only.size
    by_cases h0 : 0 < k
    · have d0 : decide (0 < (k : Int)) = true := decide_eq_true (by omega)
      have hxs : xs.length ≤ 1048576 := by omega
      have hq : (k : Int) - 1 = ((k - 1 : Nat) : Int) := by omega
      have hW : ∀ y : Int, 1 ≤ y → y ≤ 256 → Calls Tryz.prog 89 #[.pointer (some ⟨cb, 0, none⟩), .int .i64 y] wr fun e w2 => ∃ u : Nat, e = .returned (.int .i64 (u : Int)) ∧ DrewC cb bo n c W1 w2 ∧ OwnE w2 W1.heap.size ao cap xs := fun y h1 h2 =>
        (l1BelowI_any y cb n c bo wr hD.cur h1 h2).mono fun e w2 ⟨u, hu, he, hD1⟩ => ⟨u, he, hD.trans hD1, hO.onlyOne hD1.only (by omega)⟩
      clear hD hO k1
      by_cases hx7 : x < 7 <;> by_cases hx1 : 1 < x <;> try (exfalso; omega)
      all_goals
        go_wp2_with fail
        refine (hW _ (by omega) (by omega)).mono ?_
        rintro e w2 ⟨z, rfl, hD2, hO2⟩
        have hs2 := hD2.only.size
        have HD2 := Lib.hid hD2
        have HO2 := Lib.hid hO2
        clear hD2 hO2 hW
        go_wp2_with (at_builtin; go_must (refine wpList_append_e rfl _ _ rfl W1.heap.size cap ao xs (z : Int) rfl HO2.out rfl hs2 hxs ?_); intro ao' cap' w3 hown3 hB3)
        go_roundw
        case rel => exact ⟨xs ++ [(z : Int)], ao', cap', k - 1, by simp; omega, by simp, rfl, HD2.out.grow hB3 (Nat.le_refl _) (by omega), hown3⟩
        case measure => simp [intOf]; omega
    · have d0 : decide (0 < (k : Int)) = false := decide_eq_false (by omega)
      have hxs : xs.length ≤ 1048576 := by omega
      have hxs5 : xs.length ≤ 5 := by omega
      have HhD := Lib.hid hD
      clear hD
      have HhO := Lib.hid hO
      clear hO
      have Hk1 := Lib.hid k1
      clear k1
      go_wp2_with fail
      refine (l1Once_any 14 cb n c bo wr HhD.out.cur (by omega) (by omega)).mono ?_
      rintro e w2 ⟨bb, rfl, hD2⟩
      have hO2 := HhO.out.onlyOne hD2.only (by omega)
      replace hD2 := HhD.out.trans hD2
      clear HhD HhO Hk1 x0 x4
      cases bb
      · have HhD2 := Lib.hid hD2
        clear hD2
        have HhO2 := Lib.hid hO2
        clear hO2
        go_wp2_with fail
        go_ret
        exact ⟨xs, ao, cap, by omega, rfl, HhO2.out.mono' (by omega), HhD2.out.front HhB.out⟩
      · have hs2 := hD2.only.size
        have hcl2 := hD2.cur.lt
        have HD2 := Lib.hid hD2
        have HO2 := Lib.hid hO2
        clear hD2 hO2
        go_wp2_with fail
        generalize hW3 : World.alloc _ _ = W3
        obtain ⟨hB3, hs3, k3⟩ := alloc1 hW3
        have hcell : ∀ j, j < [(-1 : Int), 7].length → W3.cell? ⟨w2.heap.size, j, none⟩ = some (.int .i64 (gi [-1, 7] j)) := fun j hj => by
          rw [k3.cell]
          match j, hj with
          | 0, _ => rfl
          | 1, _ => rfl
        have hD3 := HD2.out.below hB3
        have hO3 := HO2.out.below hB3
        have hP := l1PickInt_any [-1, 7] w2.heap.size 2 cb n c bo W3 hD3.cur (by decide) (by decide) (by omega) k3.lt hcell
        clear hW3 k3 hcell hB3 HD2 HO2
        refine hP.mono ?_
        rintro e w4 ⟨j, hj, rfl, hD4⟩
        have hO4 := hO3.onlyOne hD4.only (by omega)
        have hD5 := hD3.trans hD4
        have hs4 := hD5.only.size
        have HD5 := Lib.hid hD5
        have HO4 := Lib.hid hO4
        clear hP hD3 hO3 hD4 hO4 hD5
        generalize gi [-1, 7] j = z
        go_wp2_with (at_builtin; go_must (refine wpList_append_e rfl _ _ rfl W1.heap.size cap ao xs z rfl HO4.out rfl hs4 hxs ?_); intro ao' cap' w5 hown5 hB5)
        go_ret
        exact ⟨xs ++ [z], ao', cap', by simp; omega, by simp, hown5.mono' (by omega), (HD5.out.grow hB5 (Nat.le_refl _) (by omega)).front HhB.out⟩

theorem list_of {P : Nat → Int → Prop} : ∀ n, (∀ k, k < n → ∃ z, P k z) → ∃ l : List Int, l.length = n ∧ ∀ k, k < n → P k (gi l k)
  | 0, _ => ⟨[], rfl, fun k h => by omega⟩
  | n + 1, h => by
    obtain ⟨l, h1, h2⟩ := list_of n fun k hk => h k (by omega)
    obtain ⟨z, hz⟩ := h n (by omega)
    refine ⟨l ++ [z], by simp [h1], fun k hk => ?_⟩
    by_cases e : k < n
    · rw [show gi (l ++ [z]) k = gi l k by simp [gi, List.getElem?_append, h1, e]]; exact h2 k e
    · obtain rfl : k = n := by omega
      rw [show gi (l ++ [z]) k = z by simp [gi, ← h1]]; exact hz
/-- A list of numbers stays one when the cursor moves and a graph is stored. -/
theorem IntsAt.moved {w w' : World} {cb r n c n1 c1 n2 c2 : Nat} {lo a a1 a2 : Option Addr} {l : List Int} {i j i' j' u u' : Int} {T T1 : TypeId} (h : IntsAt w lo l) (hO : Only (fun b => b = cb ∨ b = r) w.heap.size w w')
    (kc : Blk w cb #[.slice a n c, .int .i64 i, .int .i64 j] T) (kc' : Blk w' cb #[.slice a n c, .int .i64 i', .int .i64 j'] T) (kr : Blk w r #[.int .i64 u, .slice a1 n1 c1] T1) (kr' : Blk w' r #[.int .i64 u', .slice a2 n2 c2] T1) : ∃ l' : List Int, l'.length = l.length ∧ IntsAt w' lo l' := by
  by_cases h0 : 0 < l.length
  · obtain ⟨b, off, rfl, hb, hc⟩ := h h0
    have hv : ∀ k, k < l.length → ∃ z : Int, w'.cell? ⟨b, off + k, none⟩ = some (.int .i64 z) := fun k hk => by
      have h1 := hc k hk
      by_cases e1 : b = cb
      · subst e1
        rw [kc.cell] at h1
        rw [kc'.cell]
        generalize off + k = m at *
        match m, h1 with
        | 0, h1 => simp at h1
        | 1, h1 => exact ⟨_, rfl⟩
        | 2, h1 => exact ⟨_, rfl⟩
        | m + 3, h1 => simp at h1
      · by_cases e2 : b = r
        · subst e2
          rw [kr.cell] at h1
          rw [kr'.cell]
          generalize off + k = m at *
          match m, h1 with
          | 0, h1 => exact ⟨_, rfl⟩
          | 1, h1 => simp at h1
          | m + 2, h1 => simp at h1
        · exact ⟨_, (hO.cell (p := ⟨b, off + k, none⟩) hb (fun e => e.elim e1 e2)).trans h1⟩
    obtain ⟨l', h1, h2⟩ := list_of l.length hv
    exact ⟨l', h1, fun _ => ⟨b, off, rfl, Nat.lt_of_lt_of_le hb hO.size, fun k hk => h2 k (by omega)⟩⟩
  · exact ⟨l, rfl, fun h => absurd h h0⟩

/-- A graph and a list have been drawn. -/
def RetGLC (w : World) (e : Ending) (w' : World) : Prop :=
  ∃ (x : Int) (f l : List Int) (g cap : Nat) (lo : Option Addr) (lc : Nat), (1 ≤ f.length ∧ f.length ≤ 6) ∧ l.length ≤ 1048576 ∧ l.length ≤ lc ∧ e = .returned (.tuple #[.agg #[.int .i64 x, .slice (some ⟨g, 0, none⟩) f.length cap], .slice lo l.length lc]) ∧ RowAt w' g cap f ∧ IntsAt w' lo l ∧ Below w.heap.size w w'

end Go.Proofs.YtfkehmpckhmkbaaGreat

namespace Go.Proofs.YtfkehmpckhmkbaaGreat
open Go.RowKit

/-- A vertex of a list of different vertices, as a natural number. -/
theorem vertex_at {n : Int} {rs l : List Int} (h : vertsB n rs l = true) {j : Nat} (hj : j < l.length) : ∃ v : Nat, gi l j = v ∧ v < rs.length := by
  obtain ⟨a, b⟩ := ((vertsB_true.1 h).2 j hj).1
  exact ⟨(gi l j).toNat, by omega, by omega⟩

def joinedAt (rs l : List Int) (pat : Nat → Nat → Bool) (i j : Nat) : Bool := (gn rs (gi l j).toNat).testBit (gi l i).toNat == pat j i
def joinB (n : Int) (rs l : List Int) (pat : Nat → Nat → Bool) : Bool := vertsB n rs l && decide (∀ i, i < l.length → ∀ j, j < i → joinedAt rs l pat i j = true)
theorem joinB_no {n : Int} {rs l : List Int} {pat : Nat → Nat → Bool} (h : vertsB n rs l = false) : joinB n rs l pat = false := by unfold joinB; rw [h]; rfl
theorem joinB_bad {n : Int} {rs l : List Int} {pat : Nat → Nat → Bool} {i j : Nat} (hi : i < l.length) (hj : j < i) (h : joinedAt rs l pat i j = false) : joinB n rs l pat = false := by
  unfold joinB; rw [decide_eq_false, Bool.and_false]; intro a; rw [a i hi j hj] at h; cases h
theorem joinB_ok {n : Int} {rs l : List Int} {pat : Nat → Nat → Bool} (hv : vertsB n rs l = true) (h : ∀ i, i < l.length → ∀ j, j < i → joinedAt rs l pat i j = true) : joinB n rs l pat = true := by
  unfold joinB; rw [hv, decide_eq_true h]; rfl
/-- A function that answers the pattern. -/
def PatOf (K : Nat) (n : Nat) (pat : Nat → Nat → Bool) : Prop :=
  ∀ (j i : Nat) (w : World), j < i → i < n → Calls Tryz.prog K #[.int .i64 j, .int .i64 i] w fun e w' => e = .returned (.bool (pat j i)) ∧ w = w'

set_option maxRecDepth 100000 in
set_option maxHeartbeats 1000000 in
theorem areJoined_any (n : Int) (rs l : List Int) (ro lo : Option Addr) (rc lc K : Nat) (pat : Nat → Nat → Bool) (w : World) (hr : IntsAt w ro rs) (hrl : rs.length ≤ 1048576) (hl : IntsAt w lo l) (hll : l.length ≤ 1048576) (hcap : l.length ≤ lc)
    (hE : ∀ args w, Sem.run Tryz.prog (callFunc K args) w = .ok (.enter K args) w) (hK : PatOf K l.length pat) :
    Calls Tryz.prog 71 #[.agg #[.int .i64 n, .slice ro rs.length rc], .slice lo l.length lc, .func (.func K) #[] #[]] w fun e w' => e = .returned (.bool (joinB n rs l pat)) ∧ Below w.heap.size w w' := by
  replace hK := Lib.hid hK
  go_enter Tryz.func71, Tryz.ntmps71
  go_wp2_with fail
  generalize hW : w.alloc _ = W1
  obtain ⟨hB, -, k0⟩ := alloc1 hW
  replace hr := hr.below hB
  replace hl := hl.below hB
  have hb0 := k0.lt
  have hc0 := k0.cell 0
  have hc1 := k0.cell 1
  simp at hc0 hc1
  clear hW k0
  have HhB := Lib.hid hB
  clear hB
  obtain ⟨m, hm0⟩ : ∃ m : Later W1, m.w = W1 := ⟨Later.refl _, rfl⟩
  refine (fun h => hm0 ▸ h) ?_
  clear hm0
  cases hv : vertsB n rs l
  · have HE := Lib.hid (joinB_no (pat := pat) hv)
    go_wp2_with (first | (go_at_call 100; refine (Calls.later m (areVertices_any _ _ _ _ _ _ _ _ (hr.later m) hrl (hl.later m) hll hcap)).mono ?_; rintro e w' ⟨rfl, m, rfl⟩))
    go_ret
    exact ⟨retB (by rw [HE.out]), below_later HhB.out m⟩
  · obtain ⟨rfl, g⟩ := VG.of (vertsB_true.1 hv).1
    have hg2 := g.le
    go_wp2_with (first | (go_at_call 100; refine (Calls.later m (areVertices_any _ _ _ _ _ _ _ _ (hr.later m) hrl (hl.later m) hll hcap)).mono ?_; rintro e w' ⟨rfl, m, rfl⟩))
    clear hcap
    go_loopw [15] (fun i wr => (∃ m : Later W1, wr = m.w) ∧ ∃ k : Nat, k ≤ l.length ∧ i = .int .i64 k ∧ ∀ i, i < k → ∀ j, j < i → joinedAt rs l pat i j = true) (fun i _ => l.length - (intOf i).toNat)
    case atStart => exact ⟨⟨m, rfl⟩, 0, by omega, rfl, fun j h => by omega⟩
    case round =>
      obtain ⟨⟨m, rfl⟩, k, hk, rfl, hP⟩ := hrel
      have HhP := Lib.hid hP
      clear hP
      by_cases hlt : k < l.length
      · go_wp2_with fail
        go_loopw [19] (fun i wr => (∃ m : Later W1, wr = m.w) ∧ ∃ t : Nat, t ≤ k ∧ i = .int .i64 t ∧ ∀ j, j < t → joinedAt rs l pat k j = true) (fun i _ => k - (intOf i).toNat)
        case atStart => exact ⟨⟨m, rfl⟩, 0, by omega, rfl, fun j h => by omega⟩
        case round =>
          obtain ⟨⟨m, rfl⟩, t, ht, rfl, hR⟩ := hrel
          have HhR := Lib.hid hR
          clear hR
          by_cases htt : t < k
          · obtain ⟨lb, lofs, rfl, hlb, hlc⟩ := hl (by omega)
            obtain ⟨rb, rofs, rfl, hrb, hrc⟩ := hr.graph g
            have htl : t < l.length := by omega
            obtain ⟨u, hu, hu2⟩ := vertex_at hv htl
            obtain ⟨v, hv1, hv2⟩ := vertex_at hv hlt
            have hcu := hlc t htl
            have hcv := hlc k hlt
            rw [hu] at hcu
            rw [hv1] at hcv
            have HQ : Hid (joinedAt rs l pat k t = ((gn rs u).testBit v == pat t k)) := by show joinedAt rs l pat k t = _; unfold joinedAt; rw [hu, hv1]; rfl
            clear hlc hu hv1
            have hA := fun m : Later W1 => has_any (gn rs u) v (by omega) (by omega) m.w
            simp only [Int.toNat_natCast, hasN_nat] at hA
            have hK' := fun m : Later W1 => hK.out t k m.w htt hlt
            go_wp2_with fail
            cases he : (gn rs u).testBit v <;> cases hq : pat t k
            all_goals
              simp only [he] at hA
              simp only [hq] at hK'
              refine wp_region_later m rfl (by kernel_rfl) (by kernel_rfl) ?_
              repeat (go_big_quiet_step ((first | (go_at_call 61; exact Calls.later_same _ (hA _)) | (with_reducible exact Calls.later_same _ (hK' _)))))
              refine wpQuiet_nil ?_
              rintro _ ⟨m, rfl⟩
              go_wp2_with fail
            · go_roundw
              case rel => exact ⟨⟨m, rfl⟩, t + 1, by omega, by go_num, all_succ HhR.out (by rw [HQ.out, he, hq]; rfl)⟩
              case measure => simp [intOf]; omega
            · go_ret
              exact ⟨retB (by rw [joinB_bad hlt htt (by rw [HQ.out, he, hq]; rfl)]), below_later HhB.out m⟩
            · go_ret
              exact ⟨retB (by rw [joinB_bad hlt htt (by rw [HQ.out, he, hq]; rfl)]), below_later HhB.out m⟩
            · go_roundw
              case rel => exact ⟨⟨m, rfl⟩, t + 1, by omega, by go_num, all_succ HhR.out (by rw [HQ.out, he, hq]; rfl)⟩
              case measure => simp [intOf]; omega
          · go_wp2_with fail
            go_roundw
            case rel => exact ⟨⟨m, rfl⟩, k + 1, by omega, by go_num, all_succ HhP.out (fun j h => HhR.out j (by omega))⟩
            case measure => simp [intOf]; omega
      · have HE := Lib.hid (joinB_ok hv (fun i h => HhP.out i (by omega)))
        go_wp2_with fail
        go_ret
        exact ⟨retB (by rw [HE.out]), below_later HhB.out m⟩

end Go.Proofs.YtfkehmpckhmkbaaGreat
