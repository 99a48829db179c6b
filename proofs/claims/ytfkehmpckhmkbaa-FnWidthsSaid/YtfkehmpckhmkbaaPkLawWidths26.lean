/-
  The drawing of a graph and an order: l6Reverse, l6Both, DrawCutOf. For texts of at most 2^20 bytes.
-/
import Derived.Test.YtfkehmpckhmkbaaPkLawWidths25
import Derived.Test.YtfkehmpckhmkbaaPkLawWidths23
namespace Go.Proofs.Ytfkehmpckhmkbaa
open Go.RowKit

/-- Some list of as many numbers. -/
def RetRv (n : Nat) (w : World) (e : Ending) (w' : World) : Prop :=
  ∃ (R : List Int) (ao : Option Addr) (cap : Nat), R.length = n ∧ e = .returned (.slice ao R.length cap) ∧ Below w.heap.size w w' ∧ OwnE w' w.heap.size ao cap R

set_option maxRecDepth 100000 in
set_option maxHeartbeats 2000000 in
theorem l6Reverse_any (l : List Int) (lo : Option Addr) (lc : Nat) (w : World) (hl : IntsAt w lo l) (hn : l.length ≤ 1048576) :
    Calls Try.prog 78 #[.slice lo l.length lc] w (RetRv l.length w) := by
  go_enter Try.func78, Try.ntmps78
  go_wp2_with fail
  generalize hW : World.alloc _ _ = W1
  obtain ⟨hB, hs, -⟩ := alloc1 hW
  have hO : OwnE W1 W1.heap.size (some ⟨w.heap.size, 0, none⟩) 0 [] := OwnE.empty _ _ _
  generalize (⟨w.heap.size, 0, none⟩ : Addr) = na at *
  have hwW : w.heap.size ≤ W1.heap.size := hB.size
  clear hW hs
  have HhB := Lib.hid hB
  clear hB
  have HhO := Lib.hid hO
  clear hO
  go_loopw [3, 4] (fun o i wr => ∃ (z : Int) (xs : List Int) (ao : Option Addr) (cap : Nat), z + 1 + xs.length = l.length ∧ -1 ≤ z ∧ i = .int .i64 z ∧ o = .slice ao xs.length cap ∧ Below W1.heap.size W1 wr ∧ OwnE wr W1.heap.size ao cap xs) (fun _ i _ => (intOf i + 1).toNat)
  case atStart => exact ⟨(l.length : Int) - 1, [], _, _, by simp, by omega, by go_num, rfl, Below.refl _ _, HhO.out⟩
  case round =>
    clear HhO
    obtain ⟨z, xs, ao, cap, hz, hz1, rfl, rfl, hBr, hO⟩ := hrel
    by_cases h0 : 0 ≤ z
    · obtain ⟨j, rfl⟩ := Int.eq_ofNat_of_zero_le h0
      have d0 : decide (0 ≤ (j : Int)) = true := decide_eq_true (by omega)
      have hjl : j < l.length := by omega
      have hlw := (hl.below HhB.out).below hBr
      obtain ⟨b, off, rfl, hb, hc⟩ := hlw (by omega)
      have hcj := hc j hjl
      have hxs : xs.length ≤ 1048576 := by omega
      have hs2 := hBr.size
      have Hz := Lib.hid hz
      clear hc hlw hz
      generalize gi l j = y at *
      have HhBr := Lib.hid hBr
      clear hBr
      have HhO := Lib.hid hO
      clear hO
      go_wp2_with (at_builtin; go_must (refine wpList_append_e rfl _ _ rfl W1.heap.size cap ao xs y rfl HhO.out rfl hs2 hxs ?_); intro ao' cap' w3 hown3 hB3)
      go_roundw
      case rel => exact ⟨(j : Int) - 1, xs ++ [y], ao', cap', by have := Hz.out; rw [List.length_append, List.length_singleton]; omega, by omega, by go_num, by simp, HhBr.out.trans hB3, hown3⟩
      case measure => first | (simp [intOf]; done) | (simp [intOf]; omega)
    · have d0 : decide (0 ≤ z) = false := decide_eq_false (by omega)
      have hlen : xs.length = l.length := by omega
      have hBB := below_more' HhB.out hBr
      have hOO := hO.mono' hwW
      clear hz hBr hO
      have Hhlen := Lib.hid hlen
      clear hlen
      have HhBB := Lib.hid hBB
      clear hBB
      have HhOO := Lib.hid hOO
      clear hOO
      go_wp2_with fail
      go_ret
      exact ⟨xs, ao, cap, Hhlen.out, rfl, HhBB.out, HhOO.out⟩

set_option maxRecDepth 100000 in
set_option maxHeartbeats 8000000 in
theorem l6Both_any (n c : Nat) (bo : Option Addr) (w : World) (h : BytesU w.heap.size w bo n) (hn : n ≤ 1048576) :
    Calls Try.prog 45 #[.slice bo n c] w (RetGLC w) := by
  go_enter Try.func45, Try.ntmps45
  go_wp2_with fail
  generalize hW : World.alloc _ _ = W1
  obtain ⟨hB, hs, k0⟩ := alloc1 hW
  have hs1 : w.heap.size < W1.heap.size := by omega
  have hb1 : BytesU W1.heap.size W1 bo n := (h.only (Only.of (X := fun _ => False) hB) fun _ _ h => h).mono (by omega)
  clear hW hs
  refine (l1New_any n c bo W1 hb1 hn).mono ?_
  rintro e w1 ⟨cb, rfl, hB1, hcb, hC⟩
  replace k0 := k0.below hB1 hs1
  have hs2 := hB1.size
  replace hB := hB.trans (hB1.mono (by omega))
  have hcl := hC.lt
  clear hb1 hB1 h
  go_wp2_with fail
  refine (l2Any_any cb n c bo w1 hC).mono ?_
  rintro e w2 ⟨x, f, g, cap, hf, rfl, hg, hR, hD⟩
  have hsz := hD.only.size
  have hO := hD.only.mono (Nat.le_refl _) (Y := fun b => b = cb ∨ b = w.heap.size) fun _ _ e => .inl e
  have hC2 := hD.cur
  replace k0 := hD.blk k0 (by omega)
  clear hD hC
  go_upto_region 3 with fail
  generalize hWb : World.alloc _ _ = Wb
  obtain ⟨hBb, hzb, kb⟩ := alloc1 hWb
  have hg4 : g < w2.heap.size := hR.lt
  replace hC2 := hC2.below hBb
  replace hO := hO.more hBb hsz
  have hR1 := hR.below hBb
  replace k0 := k0.below hBb (by omega)
  clear hWb hBb hR
  have hF := specElimC_any x f (some ⟨g, 0, none⟩) cap Wb hR1.ints (by omega)
  have hl := elimV_len x f
  generalize w2.heap.size = yb at *
  have hyl := kb.lt
  have x0 := kb.cell 0
  have x1 := kb.cell 1
  simp at x0 x1
  have hcy : cb < yb := by omega
  have HhB := Lib.hid hB
  clear hB
  have HhO := Lib.hid hO
  clear hO
  have Hk0 := Lib.hid k0
  clear k0
  have HhR1 := Lib.hid hR1
  clear hR1
  have Hkb := Lib.hid kb
  clear kb
  have HhC2 := Lib.hid hC2
  clear hC2
  go_wp2_with fail
  refine hF.mono ?_
  rintro e w3 ⟨lo, lc, rfl, hB3, hL, hlc⟩
  clear hF x0 x1
  generalize (elimV x f).getD [] = l at *
  generalize (elimV x f).isSome = is at *
  have hs3 := hB3.size
  have hO3 := HhO.out.more hB3 (by omega)
  have hC3 := HhC2.out.below hB3
  have hR3 := HhR1.out.below hB3
  have k3 := Hk0.out.below hB3 (by omega)
  have kb3 := Hkb.out.below hB3 hyl
  clear HhO HhC2 HhR1 Hk0 Hkb hB3
  have hfin : ∀ (wr : World) (l : List Int) (lo : Option Addr) (lc : Nat), Only (fun b => b = cb ∨ b = w.heap.size) w1.heap.size w1 wr → RowAt wr g cap f → IntsAt ((wr.setCell ⟨w.heap.size, 0, none⟩ (.int .i64 x)).setCell ⟨w.heap.size, 1, none⟩ (.slice (some ⟨g, 0, none⟩) f.length cap)) lo l → l.length ≤ 1048576 → l.length ≤ lc →
      Hid (RetGLC w (.returned (.tuple #[.agg #[.int .i64 x, .slice (some ⟨g, 0, none⟩) f.length cap], .slice lo l.length lc])) ((wr.setCell ⟨w.heap.size, 0, none⟩ (.int .i64 x)).setCell ⟨w.heap.size, 1, none⟩ (.slice (some ⟨g, 0, none⟩) f.length cap))) := fun wr l lo lc hO hR hL hl hc => Lib.hid
    ⟨x, f, l, g, cap, lo, lc, hf, hl, hc, rfl, (hR.otherCell (by simp; omega)).otherCell (by simp; omega), hL, ((HhB.out.trans (hO.below (by omega) fun b hb e => by rcases e with e | e <;> omega)).setCell (by simp) _).setCell (by simp) _⟩
  have Hfin := Lib.hid hfin
  clear hfin HhB
  have hI0 : w.heap.size ≠ cb := by omega
  have v0 := kb3.cell 0
  have v1 := kb3.cell 1
  have v4 := kb3.lt
  simp at v0 v1
  have HL := Lib.hid hL
  have Hk3 := Lib.hid k3
  have Hkb3 := Lib.hid kb3
  have HR3 := Lib.hid hR3
  have HO3 := Lib.hid hO3
  clear hL k3 kb3 hR3 hO3
  go_upto_region 4 with fail
  refine wp_region_B (fun w' => w'.cell? ⟨yb, 0, none⟩ = some (.int .i64 x) ∧ w'.cell? ⟨yb, 1, none⟩ = some (.slice (some ⟨g, 0, none⟩) f.length cap)) (fun _ => True) [] (by kernel_rfl) (⟨v0, v1⟩) (trivial) (fun hM => ?_)
  refine wpAnyB_take (i := 0) (v := ?_) false rfl (by kernel_rfl) (by kernel_rfl) (by kernel_rfl) (by kernel_rfl) (by kernel_rfl) (fun _ _ _ h => h) (Or.inl ⟨by rfl, ?_⟩) hM (fun hM2 => ?_)
  rotate_left
  · (intro w hSw; replace hSw := hSw.1; (try dsimp only at hSw); go_simp; try with_reducible rfl)
  replace hM := hM2
  clear hM2
  try simp only [List.getElem_toArray, List.getElem_cons_zero, Act.put, List.setIfInBounds_toArray, List.set_cons_zero, List.set_cons_succ]
  refine wpAnyB_take (i := 1) (v := ?_) false rfl (by kernel_rfl) (by kernel_rfl) (by kernel_rfl) (by kernel_rfl) (by kernel_rfl) (fun _ _ _ h => h) (Or.inl ⟨by rfl, ?_⟩) hM (fun hM2 => ?_)
  rotate_left
  · (intro w hSw; replace hSw := hSw.1; (try dsimp only at hSw); go_simp; try with_reducible rfl)
  replace hM := hM2
  clear hM2
  try simp only [List.getElem_toArray, List.getElem_cons_succ, List.getElem_cons_zero, Act.put, List.setIfInBounds_toArray, List.set_cons_zero, List.set_cons_succ]
  refine wpAnyB_one (i := 2) (by kernel_rfl) rfl (fun K hK => ?_)
  (go_simp; go_at_call 60; refine (l1Below_any 3 cb n c bo _ (hC3.below (Below.refl _ _).drew) (by omega) (by omega)).mono ?_; rintro e w4 ⟨s, hs, rfl, hD1⟩; have kb4 := hD1.blk Hkb3.out.drew (by omega); have q0 := kb4.cell 0; have q1 := kb4.cell 1; simp at q0 q1; dsimp only)
  refine hK.out _ _ (meetB.both ⟨q0, q1⟩ trivial) (fun hM2 => ?_)
  clear hK K
  replace hM := hM2
  clear hM2
  try simp only [List.getElem_toArray, List.getElem_cons_succ, List.getElem_cons_zero, Act.put, List.setIfInBounds_toArray, List.set_cons_zero, List.set_cons_succ]
  have hR4 := hD1.row (HR3.out.below (Below.refl _ _).drew) (by omega)
  have hs4 := hD1.only.size
  refine wpAnyB_one (i := 3) (by kernel_rfl) rfl (fun K hK => ?_)
  (go_simp; go_at_call 77; refine (LexOrder_any x f s (some ⟨g, 0, none⟩) cap w4 hR4.ints (by omega) (by omega)).mono ?_; rintro e w5 ⟨l5, la5, lc5, bl, rfl, hB5, hl5i, hlo5⟩; have kb5 := kb4.below hB5 kb4.lt; have u0 := kb5.cell 0; have u1 := kb5.cell 1; simp at u0 u1; dsimp only)
  refine hK.out _ _ (meetB.both ⟨u0, u1⟩ trivial) (fun hM2 => ?_)
  clear hK K
  replace hM := hM2
  clear hM2
  try simp only [List.getElem_toArray, List.getElem_cons_succ, List.getElem_cons_zero, Act.put, List.setIfInBounds_toArray, List.set_cons_zero, List.set_cons_succ]
  refine wpAnyB_take (i := 4) (v := ?_) false rfl (by kernel_rfl) (by kernel_rfl) (by kernel_rfl) (by kernel_rfl) (by kernel_rfl) (fun _ _ _ h => h) (Or.inl ⟨by rfl, ?_⟩) hM (fun hM2 => ?_)
  rotate_left
  · (intro w hSw; replace hSw := hSw.1; (try dsimp only at hSw); go_simp; try with_reducible rfl)
  replace hM := hM2
  clear hM2
  try simp only [List.getElem_toArray, List.getElem_cons_succ, List.getElem_cons_zero, Act.put, List.setIfInBounds_toArray, List.set_cons_zero, List.set_cons_succ]
  refine wpAnyB_take (i := 5) (v := ?_) false rfl (by kernel_rfl) (by kernel_rfl) (by kernel_rfl) (by kernel_rfl) (by kernel_rfl) (fun _ _ _ h => h) (Or.inl ⟨by rfl, ?_⟩) hM (fun hM2 => ?_)
  rotate_left
  · (intro w hSw; replace hSw := hSw.1; (try dsimp only at hSw); go_simp; try with_reducible rfl)
  replace hM := hM2
  clear hM2
  try simp only [List.getElem_toArray, List.getElem_cons_succ, List.getElem_cons_zero, Act.put, List.setIfInBounds_toArray, List.set_cons_zero, List.set_cons_succ]
  refine wpAnyB_take (i := 6) (v := ?_) false rfl (by kernel_rfl) (by kernel_rfl) (by kernel_rfl) (by kernel_rfl) (by kernel_rfl) (fun _ _ _ h => h) (Or.inl ⟨by rfl, ?_⟩) hM (fun hM2 => ?_)
  rotate_left
  · (intro w hSw; replace hSw := hSw.1; (try dsimp only at hSw); go_simp; try with_reducible rfl)
  replace hM := hM2
  clear hM2
  try simp only [List.getElem_toArray, List.getElem_cons_succ, List.getElem_cons_zero, Act.put, List.setIfInBounds_toArray, List.set_cons_zero, List.set_cons_succ]
  refine wpAnyB_take (i := 7) (v := ?_) false rfl (by kernel_rfl) (by kernel_rfl) (by kernel_rfl) (by kernel_rfl) (by kernel_rfl) (fun _ _ _ h => h) (Or.inl ⟨by rfl, ?_⟩) hM (fun hM2 => ?_)
  rotate_left
  · (intro w hSw; replace hSw := hSw.1; (try dsimp only at hSw); go_simp; try with_reducible rfl)
  replace hM := hM2
  clear hM2
  try simp only [List.getElem_toArray, List.getElem_cons_succ, List.getElem_cons_zero, Act.put, List.setIfInBounds_toArray, List.set_cons_zero, List.set_cons_succ]
  refine wpAnyB_take (i := 8) (v := ?_) false rfl (by kernel_rfl) (by kernel_rfl) (by kernel_rfl) (by kernel_rfl) (by kernel_rfl) (fun _ _ _ h => h) (Or.inl ⟨by rfl, ?_⟩) hM (fun hM2 => ?_)
  rotate_left
  · (intro w hSw; replace hSw := hSw.1; (try dsimp only at hSw); go_simp; try with_reducible rfl)
  replace hM := hM2
  clear hM2
  try simp only [List.getElem_toArray, List.getElem_cons_succ, List.getElem_cons_zero, Act.put, List.setIfInBounds_toArray, List.set_cons_zero, List.set_cons_succ]
  refine wpAnyB_done (by kernel_rfl) ?_ _
  have hD5 := (((DrewC.refl hC3).below (Below.refl _ _).drew).trans hD1).below hB5
  have hs5 := hD5.only.size
  have hO5 := HO3.out.trans (hD5.only.mono (by have := HO3.out.size; omega) fun _ _ e => .inl e)
  have hR5 := hD5.row HR3.out (by omega)
  have k5 := hD5.blk Hk3.out (by omega)
  have hC5 := hD5.cur
  have hcb4 : cb < w4.heap.size := Nat.lt_of_lt_of_le hC3.lt hs4
  have Hlo5 := Lib.hid hlo5
  have HD5 := Lib.hid hD5
  clear hM q0 q1 u0 u1 v0 v1 v4 kb4 hR4 hB5 hD1 hlo5 hD5 HR3 HO3 Hkb3
  have Hhl5i := Lib.hid hl5i
  clear hl5i
  cases is
  · clear HL hlc hl
    cases bl
    · clear Hlo5 Hhl5i HD5
      obtain ⟨hO, hC, hR, k, kb⟩ : _ ∧ _ ∧ _ ∧ _ ∧ _ := ⟨hO5, hC5, hR5, k5, kb5⟩
      clear hO5 hC5 hR5 k5 kb5
      have hyW := kb.lt
      have h0W := k.lt
      have hsW := hO.size
      have hkb := kb
      have hcW := hC.lt
      have hT0 : ∀ w', Only (fun b => b = cb ∨ b = w.heap.size) w5.heap.size w5 w' → w'.cell? ⟨yb, 0, none⟩ = some (.int .i64 x) ∧ w'.cell? ⟨yb, 1, none⟩ = some (.slice (some ⟨g, 0, none⟩) f.length cap) := fun w' h => by
        have := h.blk hkb hyW (fun e => by rcases e with e | e <;> omega)
        exact ⟨by simpa using this.cell 0, by simpa using this.cell 1⟩
      have hX0 : ∀ (w' : World), Only (fun b => b = cb ∨ b = w.heap.size) w5.heap.size w5 w' → Only (fun b => b = cb ∨ b = w.heap.size) w5.heap.size w5 ((w'.setCell ⟨w.heap.size, 0, none⟩ (.int .i64 x)).setCell ⟨w.heap.size, 1, none⟩ (.slice (some ⟨g, 0, none⟩) f.length cap)) := fun w' h => (h.setCell (p := ⟨w.heap.size, 0, none⟩) (.inl (.inr rfl)) _).setCell (p := ⟨w.heap.size, 1, none⟩) (.inl (.inr rfl)) _
      have hSet : ∀ (w' : World), CurAt w' cb bo n c → Hid (Calls Try.prog 79 #[.pointer (some ⟨cb, 0, none⟩), .agg #[.int .i64 x, .slice (some ⟨g, 0, none⟩) f.length cap]] w' (RetLi cb bo n c w')) := fun w' h => Lib.hid (l4List_any cb n c bo x _ w' h)
      have HX := Lib.hid hX0
      have Hk0 := Lib.hid k
      have HO := Lib.hid hO
      have HR := Lib.hid hR
      have hnec : ¬cb = w.heap.size := by omega
      have z0 := kb.cell 0
      have z1 := kb.cell 1
      have z4 := kb.lt
      simp at z0 z1
      clear hX0 hkb kb k hR hO
      go_wp2_with fail
      have hO0 : Only (fun b => b = cb ∨ b = w.heap.size) w5.heap.size w5 w5.drew := Only.of (Below.refl _ _).drew
      refine wp_region_B (fun w' => Only (fun b => b = cb ∨ b = w.heap.size) w5.heap.size w5 w' ∧ w'.cell? ⟨yb, 0, none⟩ = some (.int .i64 x) ∧ w'.cell? ⟨yb, 1, none⟩ = some (.slice (some ⟨g, 0, none⟩) f.length cap)) (fun _ => True) [] (by kernel_rfl) (⟨hO0, hT0 _ hO0⟩) (trivial) (fun hM => ?_)
      refine wpAnyB_take (i := 0) (v := ?_) false rfl (by kernel_rfl) (by kernel_rfl) (by kernel_rfl) (by kernel_rfl) (by kernel_rfl) (fun _ _ _ h => h) (Or.inl ⟨by rfl, ?_⟩) hM (fun hM2 => ?_)
      rotate_left
      · (intro w hSw; replace hSw := hSw.1; (try dsimp only at hSw); go_simp; try with_reducible rfl)
      replace hM := hM2
      clear hM2
      try simp only [List.getElem_toArray, List.getElem_cons_zero, Act.put, List.setIfInBounds_toArray, List.set_cons_zero, List.set_cons_succ]
      refine wpAnyB_take (i := 1) (v := ?_) false rfl (by kernel_rfl) (by kernel_rfl) (by kernel_rfl) (by kernel_rfl) (by kernel_rfl) (fun _ _ _ h => h) (Or.inl ⟨by rfl, ?_⟩) hM (fun hM2 => ?_)
      rotate_left
      · (intro w hSw; replace hSw := hSw.1; (try dsimp only at hSw); go_simp; try with_reducible rfl)
      replace hM := hM2
      clear hM2
      try simp only [List.getElem_toArray, List.getElem_cons_succ, List.getElem_cons_zero, Act.put, List.setIfInBounds_toArray, List.set_cons_zero, List.set_cons_succ]
      refine wpAnyB_take (i := 2) (v := ?_) false rfl (by kernel_rfl) (by kernel_rfl) (by kernel_rfl) (by kernel_rfl) (by kernel_rfl) (fun _ _ _ h => h) (Or.inl ⟨by rfl, ?_⟩) hM (fun hM2 => ?_)
      rotate_left
      · (intro w hSw; replace hSw := hSw.1; (try dsimp only at hSw); go_simp; try with_reducible rfl)
      replace hM := hM2
      clear hM2
      try simp only [List.getElem_toArray, List.getElem_cons_succ, List.getElem_cons_zero, Act.put, List.setIfInBounds_toArray, List.set_cons_zero, List.set_cons_succ]
      refine wpAnyB_one (i := 3) (by kernel_rfl) rfl (fun K hK => ?_)
      (go_simp; go_at_call 79; refine (hSet _ (hC.below (Below.refl _ _).drew)).out.mono ?_; rintro e w6 ⟨l2, ao2, cap2, hl2, rfl, hOw2, hD1⟩; have hO4 : Only (fun b => b = cb ∨ b = w.heap.size) w5.heap.size w5 w6 := hO0.trans (hD1.only.mono (Nat.le_refl _) fun _ _ e => .inl e); dsimp only)
      refine hK.out _ _ (meetB.both ⟨hO4, hT0 _ hO4⟩ trivial) (fun hM2 => ?_)
      clear hK K
      replace hM := hM2
      clear hM2
      try simp only [List.getElem_toArray, List.getElem_cons_succ, List.getElem_cons_zero, Act.put, List.setIfInBounds_toArray, List.set_cons_zero, List.set_cons_succ]
      have k4 := hD1.only.blk (Hk0.out.drew) h0W (fun e => hnec (Eq.symm e))
      have x0 := k4.cell 0
      have x1 := k4.cell 1
      have x2 := k4.frozen 0
      have x3 := k4.frozen 1
      have x4 := k4.lt
      simp at x0 x1
      refine wpAnyB_one (i := 4) (by kernel_rfl) rfl (fun K hK => ?_)
      go_simp
      refine hK.out _ _ (meetB.both ⟨HX.out _ hO4, hT0 _ (HX.out _ hO4)⟩ trivial) (fun hM2 => ?_)
      clear hK K
      replace hM := hM2
      clear hM2
      try simp only [List.getElem_toArray, List.getElem_cons_succ, List.getElem_cons_zero, Act.put, List.setIfInBounds_toArray, List.set_cons_zero, List.set_cons_succ]
      refine wpAnyB_take (i := 5) (v := ?_) false rfl (by kernel_rfl) (by kernel_rfl) (by kernel_rfl) (by kernel_rfl) (by kernel_rfl) (fun _ _ _ h => h) (Or.inl ⟨by rfl, ?_⟩) hM (fun hM2 => ?_)
      rotate_left
      · (intro w hSw; replace hSw := hSw.1; (try dsimp only at hSw); go_simp; try with_reducible rfl)
      replace hM := hM2
      clear hM2
      try simp only [List.getElem_toArray, List.getElem_cons_succ, List.getElem_cons_zero, Act.put, List.setIfInBounds_toArray, List.set_cons_zero, List.set_cons_succ]
      refine wpAnyB_done (by kernel_rfl) ?_ _
      have hdr : w5.drew.heap.size = w5.heap.size := rfl
      have hS : Only (fun b => b = w.heap.size) w6.heap.size w6 ((w6.setCell ⟨w.heap.size, 0, none⟩ (.int .i64 x)).setCell ⟨w.heap.size, 1, none⟩ (.slice (some ⟨g, 0, none⟩) f.length cap)) :=
        ((Only.refl (fun b => b = w.heap.size) _ _).setCell (p := ⟨w.heap.size, 0, none⟩) (.inl rfl) _).setCell (p := ⟨w.heap.size, 1, none⟩) (.inl rfl) _
      have HE := Hfin.out w6 l2 ao2 cap2 (HO.out.trans (hO4.mono hsW fun _ _ e => e)) (hD1.row (show RowAt w5.drew g cap f from HR.out) (by omega)) (hOw2.onlyOne hS (by omega)).ints (by omega) hOw2.room'
      have k5 : Blk ((w6.setCell ⟨w.heap.size, 0, none⟩ (.int .i64 x)).setCell ⟨w.heap.size, 1, none⟩ (.slice (some ⟨g, 0, none⟩) f.length cap)) w.heap.size #[.int .i64 x, .slice (some ⟨g, 0, none⟩) f.length cap] 26 := by
        have := (k4.store 0 (.int .i64 x)).store 1 (.slice (some ⟨g, 0, none⟩) f.length cap)
        simpa using this
      have y0 := k5.cell 0
      have y1 := k5.cell 1
      have y4 := k5.lt
      simp at y0 y1
      clear k4 k5 x0 x1 x2 x3 x4 Hfin hT0 HX hSet Hk0 HO HR hO0 hO4 hD1 hC hM z0 z1 z4 hS hOw2
      generalize World.setCell _ _ _ = W9 at *
      go_wp2_with fail
      refine bodyPost_ret (v := .tuple #[.agg #[.int .i64 x, .slice (some ⟨g, 0, none⟩) f.length cap], .slice ao2 l2.length cap2]) (by simp [results, Try.results45, go_sem, y0, y1]) rfl ?_
      exact HE.out
    · obtain ⟨hord, g0, rfl, hg0⟩ := Hlo5.out rfl
      have hl5 : l5.length ≤ 1048576 := by have := (orderB_true hord).2.2.2; omega
      have hI5 := Hhl5i.out
      clear Hlo5 Hhl5i HD5 hord
      generalize (some (⟨g0, 0, none⟩ : Addr)) = la5 at *
      obtain ⟨hO, hC, hR, k, kb⟩ : _ ∧ _ ∧ _ ∧ _ ∧ _ := ⟨hO5, hC5, hR5, k5, kb5⟩
      clear hO5 hC5 hR5 k5 kb5
      have hyW := kb.lt
      have h0W := k.lt
      have hsW := hO.size
      have hkb := kb
      have hcW := hC.lt
      have hT0 : ∀ w', Only (fun b => b = cb ∨ b = w.heap.size) w5.heap.size w5 w' → w'.cell? ⟨yb, 0, none⟩ = some (.int .i64 x) ∧ w'.cell? ⟨yb, 1, none⟩ = some (.slice (some ⟨g, 0, none⟩) f.length cap) := fun w' h => by
        have := h.blk hkb hyW (fun e => by rcases e with e | e <;> omega)
        exact ⟨by simpa using this.cell 0, by simpa using this.cell 1⟩
      have hX0 : ∀ (w' : World), Only (fun b => b = cb ∨ b = w.heap.size) w5.heap.size w5 w' → Only (fun b => b = cb ∨ b = w.heap.size) w5.heap.size w5 ((w'.setCell ⟨w.heap.size, 0, none⟩ (.int .i64 x)).setCell ⟨w.heap.size, 1, none⟩ (.slice (some ⟨g, 0, none⟩) f.length cap)) := fun w' h => (h.setCell (p := ⟨w.heap.size, 0, none⟩) (.inl (.inr rfl)) _).setCell (p := ⟨w.heap.size, 1, none⟩) (.inl (.inr rfl)) _
      have hSet := Lib.hid (l6Reverse_any l5 la5 lc5 w5.drew (hI5.below (Below.refl _ _).drew) hl5)
      have HX := Lib.hid hX0
      have Hk0 := Lib.hid k
      have HO := Lib.hid hO
      have HR := Lib.hid hR
      have z0 := kb.cell 0
      have z1 := kb.cell 1
      have z4 := kb.lt
      simp at z0 z1
      clear hX0 hkb kb k hR hO
      go_wp2_with fail
      have hO0 : Only (fun b => b = cb ∨ b = w.heap.size) w5.heap.size w5 w5.drew := Only.of (Below.refl _ _).drew
      refine wp_region_B (fun w' => Only (fun b => b = cb ∨ b = w.heap.size) w5.heap.size w5 w' ∧ w'.cell? ⟨yb, 0, none⟩ = some (.int .i64 x) ∧ w'.cell? ⟨yb, 1, none⟩ = some (.slice (some ⟨g, 0, none⟩) f.length cap)) (fun _ => True) [] (by kernel_rfl) (⟨hO0, hT0 _ hO0⟩) (trivial) (fun hM => ?_)
      refine wpAnyB_take (i := 0) (v := ?_) false rfl (by kernel_rfl) (by kernel_rfl) (by kernel_rfl) (by kernel_rfl) (by kernel_rfl) (fun _ _ _ h => h) (Or.inl ⟨by rfl, ?_⟩) hM (fun hM2 => ?_)
      rotate_left
      · (intro w hSw; replace hSw := hSw.1; (try dsimp only at hSw); go_simp; try with_reducible rfl)
      replace hM := hM2
      clear hM2
      try simp only [List.getElem_toArray, List.getElem_cons_zero, Act.put, List.setIfInBounds_toArray, List.set_cons_zero, List.set_cons_succ]
      refine wpAnyB_take (i := 1) (v := ?_) false rfl (by kernel_rfl) (by kernel_rfl) (by kernel_rfl) (by kernel_rfl) (by kernel_rfl) (fun _ _ _ h => h) (Or.inl ⟨by rfl, ?_⟩) hM (fun hM2 => ?_)
      rotate_left
      · (intro w hSw; replace hSw := hSw.1; (try dsimp only at hSw); go_simp; try with_reducible rfl)
      replace hM := hM2
      clear hM2
      try simp only [List.getElem_toArray, List.getElem_cons_succ, List.getElem_cons_zero, Act.put, List.setIfInBounds_toArray, List.set_cons_zero, List.set_cons_succ]
      refine wpAnyB_one (i := 2) (by kernel_rfl) rfl (fun K hK => ?_)
      (go_simp; go_at_call 78; refine hSet.out.mono ?_; rintro e w6 ⟨l2, ao2, cap2, hl2, rfl, hBR, hOw2⟩; have hO4 : Only (fun b => b = cb ∨ b = w.heap.size) w5.heap.size w5 w6 := hO0.more hBR (Nat.le_refl _); dsimp only)
      refine hK.out _ _ (meetB.both ⟨hO4, hT0 _ hO4⟩ trivial) (fun hM2 => ?_)
      clear hK K
      replace hM := hM2
      clear hM2
      try simp only [List.getElem_toArray, List.getElem_cons_succ, List.getElem_cons_zero, Act.put, List.setIfInBounds_toArray, List.set_cons_zero, List.set_cons_succ]
      have hBd : Below w5.heap.size w5 w6 := (Below.refl _ _).drew.trans hBR
      have hl2n : l2.length ≤ 1048576 := by omega
      clear hl2
      have k4 := Hk0.out.below hBd h0W
      have x0 := k4.cell 0
      have x1 := k4.cell 1
      have x2 := k4.frozen 0
      have x3 := k4.frozen 1
      have x4 := k4.lt
      simp at x0 x1
      refine wpAnyB_one (i := 3) (by kernel_rfl) rfl (fun K hK => ?_)
      go_simp
      refine hK.out _ _ (meetB.both ⟨HX.out _ hO4, hT0 _ (HX.out _ hO4)⟩ trivial) (fun hM2 => ?_)
      clear hK K
      replace hM := hM2
      clear hM2
      try simp only [List.getElem_toArray, List.getElem_cons_succ, List.getElem_cons_zero, Act.put, List.setIfInBounds_toArray, List.set_cons_zero, List.set_cons_succ]
      refine wpAnyB_take (i := 4) (v := ?_) false rfl (by kernel_rfl) (by kernel_rfl) (by kernel_rfl) (by kernel_rfl) (by kernel_rfl) (fun _ _ _ h => h) (Or.inl ⟨by rfl, ?_⟩) hM (fun hM2 => ?_)
      rotate_left
      · (intro w hSw; replace hSw := hSw.1; (try dsimp only at hSw); go_simp; try with_reducible rfl)
      replace hM := hM2
      clear hM2
      try simp only [List.getElem_toArray, List.getElem_cons_succ, List.getElem_cons_zero, Act.put, List.setIfInBounds_toArray, List.set_cons_zero, List.set_cons_succ]
      refine wpAnyB_done (by kernel_rfl) ?_ _
      have hdr : w5.drew.heap.size = w5.heap.size := rfl
      have hS : Only (fun b => b = w.heap.size) w6.heap.size w6 ((w6.setCell ⟨w.heap.size, 0, none⟩ (.int .i64 x)).setCell ⟨w.heap.size, 1, none⟩ (.slice (some ⟨g, 0, none⟩) f.length cap)) :=
        ((Only.refl (fun b => b = w.heap.size) _ _).setCell (p := ⟨w.heap.size, 0, none⟩) (.inl rfl) _).setCell (p := ⟨w.heap.size, 1, none⟩) (.inl rfl) _
      have HE := Hfin.out w6 l2 ao2 cap2 (HO.out.trans (hO4.mono hsW fun _ _ e => e)) (HR.out.below hBd) (hOw2.onlyOne hS (by omega)).ints (by omega) hOw2.room'
      have k5 : Blk ((w6.setCell ⟨w.heap.size, 0, none⟩ (.int .i64 x)).setCell ⟨w.heap.size, 1, none⟩ (.slice (some ⟨g, 0, none⟩) f.length cap)) w.heap.size #[.int .i64 x, .slice (some ⟨g, 0, none⟩) f.length cap] 26 := by
        have := (k4.store 0 (.int .i64 x)).store 1 (.slice (some ⟨g, 0, none⟩) f.length cap)
        simpa using this
      have y0 := k5.cell 0
      have y1 := k5.cell 1
      have y4 := k5.lt
      simp at y0 y1
      clear k4 k5 x0 x1 x2 x3 x4 Hfin hT0 HX hSet Hk0 HO HR hO0 hO4 hBR hBd hC hI5 hM z0 z1 z4 hS hOw2
      generalize World.setCell _ _ _ = W9 at *
      go_wp2_with fail
      refine bodyPost_ret (v := .tuple #[.agg #[.int .i64 x, .slice (some ⟨g, 0, none⟩) f.length cap], .slice ao2 l2.length cap2]) (by simp [results, Try.results45, go_sem, y0, y1]) rfl ?_
      exact HE.out
  · go_wp2_with fail
    refine (l1Once_any 2 cb n c bo w5 hC5 (by omega) (by omega)).mono ?_
    rintro e w6 ⟨b3, rfl, hD6⟩
    have hO6 := hO5.trans (hD6.only.mono (by have := hO5.size; omega) fun _ _ e => .inl e)
    have hR6 := hD6.row hR5 (by omega)
    have k6 := hD6.blk k5 (by omega)
    have kb6 := hD6.blk kb5 (by omega)
    have hC6 := hD6.cur
    have hD36 := HD5.out.trans hD6
    cases b3
    · clear HL hlc hl
      cases bl
      · clear Hlo5 Hhl5i HD5 hD6 hD36
        obtain ⟨hO, hC, hR, k, kb⟩ : _ ∧ _ ∧ _ ∧ _ ∧ _ := ⟨hO6, hC6, hR6, k6, kb6⟩
        clear hO6 hC6 hR6 k6 kb6 hO5 hC5 hR5 k5 kb5
        have hyW := kb.lt
        have h0W := k.lt
        have hsW := hO.size
        have hkb := kb
        have hcW := hC.lt
        have hT0 : ∀ w', Only (fun b => b = cb ∨ b = w.heap.size) w6.heap.size w6 w' → w'.cell? ⟨yb, 0, none⟩ = some (.int .i64 x) ∧ w'.cell? ⟨yb, 1, none⟩ = some (.slice (some ⟨g, 0, none⟩) f.length cap) := fun w' h => by
          have := h.blk hkb hyW (fun e => by rcases e with e | e <;> omega)
          exact ⟨by simpa using this.cell 0, by simpa using this.cell 1⟩
        have hX0 : ∀ (w' : World), Only (fun b => b = cb ∨ b = w.heap.size) w6.heap.size w6 w' → Only (fun b => b = cb ∨ b = w.heap.size) w6.heap.size w6 ((w'.setCell ⟨w.heap.size, 0, none⟩ (.int .i64 x)).setCell ⟨w.heap.size, 1, none⟩ (.slice (some ⟨g, 0, none⟩) f.length cap)) := fun w' h => (h.setCell (p := ⟨w.heap.size, 0, none⟩) (.inl (.inr rfl)) _).setCell (p := ⟨w.heap.size, 1, none⟩) (.inl (.inr rfl)) _
        have hSet : ∀ (w' : World), CurAt w' cb bo n c → Hid (Calls Try.prog 79 #[.pointer (some ⟨cb, 0, none⟩), .agg #[.int .i64 x, .slice (some ⟨g, 0, none⟩) f.length cap]] w' (RetLi cb bo n c w')) := fun w' h => Lib.hid (l4List_any cb n c bo x _ w' h)
        have HX := Lib.hid hX0
        have Hk0 := Lib.hid k
        have HO := Lib.hid hO
        have HR := Lib.hid hR
        have hnec : ¬cb = w.heap.size := by omega
        have z0 := kb.cell 0
        have z1 := kb.cell 1
        have z4 := kb.lt
        simp at z0 z1
        clear hX0 hkb kb k hR hO
        go_wp2_with fail
        have hO0 : Only (fun b => b = cb ∨ b = w.heap.size) w6.heap.size w6 w6.drew := Only.of (Below.refl _ _).drew
        refine wp_region_B (fun w' => Only (fun b => b = cb ∨ b = w.heap.size) w6.heap.size w6 w' ∧ w'.cell? ⟨yb, 0, none⟩ = some (.int .i64 x) ∧ w'.cell? ⟨yb, 1, none⟩ = some (.slice (some ⟨g, 0, none⟩) f.length cap)) (fun _ => True) [] (by kernel_rfl) (⟨hO0, hT0 _ hO0⟩) (trivial) (fun hM => ?_)
        refine wpAnyB_take (i := 0) (v := ?_) false rfl (by kernel_rfl) (by kernel_rfl) (by kernel_rfl) (by kernel_rfl) (by kernel_rfl) (fun _ _ _ h => h) (Or.inl ⟨by rfl, ?_⟩) hM (fun hM2 => ?_)
        rotate_left
        · (intro w hSw; replace hSw := hSw.1; (try dsimp only at hSw); go_simp; try with_reducible rfl)
        replace hM := hM2
        clear hM2
        try simp only [List.getElem_toArray, List.getElem_cons_zero, Act.put, List.setIfInBounds_toArray, List.set_cons_zero, List.set_cons_succ]
        refine wpAnyB_take (i := 1) (v := ?_) false rfl (by kernel_rfl) (by kernel_rfl) (by kernel_rfl) (by kernel_rfl) (by kernel_rfl) (fun _ _ _ h => h) (Or.inl ⟨by rfl, ?_⟩) hM (fun hM2 => ?_)
        rotate_left
        · (intro w hSw; replace hSw := hSw.1; (try dsimp only at hSw); go_simp; try with_reducible rfl)
        replace hM := hM2
        clear hM2
        try simp only [List.getElem_toArray, List.getElem_cons_succ, List.getElem_cons_zero, Act.put, List.setIfInBounds_toArray, List.set_cons_zero, List.set_cons_succ]
        refine wpAnyB_take (i := 2) (v := ?_) false rfl (by kernel_rfl) (by kernel_rfl) (by kernel_rfl) (by kernel_rfl) (by kernel_rfl) (fun _ _ _ h => h) (Or.inl ⟨by rfl, ?_⟩) hM (fun hM2 => ?_)
        rotate_left
        · (intro w hSw; replace hSw := hSw.1; (try dsimp only at hSw); go_simp; try with_reducible rfl)
        replace hM := hM2
        clear hM2
        try simp only [List.getElem_toArray, List.getElem_cons_succ, List.getElem_cons_zero, Act.put, List.setIfInBounds_toArray, List.set_cons_zero, List.set_cons_succ]
        refine wpAnyB_one (i := 3) (by kernel_rfl) rfl (fun K hK => ?_)
        (go_simp; go_at_call 79; refine (hSet _ (hC.below (Below.refl _ _).drew)).out.mono ?_; rintro e w7 ⟨l2, ao2, cap2, hl2, rfl, hOw2, hD1⟩; have hO4 : Only (fun b => b = cb ∨ b = w.heap.size) w6.heap.size w6 w7 := hO0.trans (hD1.only.mono (Nat.le_refl _) fun _ _ e => .inl e); dsimp only)
        refine hK.out _ _ (meetB.both ⟨hO4, hT0 _ hO4⟩ trivial) (fun hM2 => ?_)
        clear hK K
        replace hM := hM2
        clear hM2
        try simp only [List.getElem_toArray, List.getElem_cons_succ, List.getElem_cons_zero, Act.put, List.setIfInBounds_toArray, List.set_cons_zero, List.set_cons_succ]
        have k4 := hD1.only.blk (Hk0.out.drew) h0W (fun e => hnec (Eq.symm e))
        have x0 := k4.cell 0
        have x1 := k4.cell 1
        have x2 := k4.frozen 0
        have x3 := k4.frozen 1
        have x4 := k4.lt
        simp at x0 x1
        refine wpAnyB_one (i := 4) (by kernel_rfl) rfl (fun K hK => ?_)
        go_simp
        refine hK.out _ _ (meetB.both ⟨HX.out _ hO4, hT0 _ (HX.out _ hO4)⟩ trivial) (fun hM2 => ?_)
        clear hK K
        replace hM := hM2
        clear hM2
        try simp only [List.getElem_toArray, List.getElem_cons_succ, List.getElem_cons_zero, Act.put, List.setIfInBounds_toArray, List.set_cons_zero, List.set_cons_succ]
        refine wpAnyB_take (i := 5) (v := ?_) false rfl (by kernel_rfl) (by kernel_rfl) (by kernel_rfl) (by kernel_rfl) (by kernel_rfl) (fun _ _ _ h => h) (Or.inl ⟨by rfl, ?_⟩) hM (fun hM2 => ?_)
        rotate_left
        · (intro w hSw; replace hSw := hSw.1; (try dsimp only at hSw); go_simp; try with_reducible rfl)
        replace hM := hM2
        clear hM2
        try simp only [List.getElem_toArray, List.getElem_cons_succ, List.getElem_cons_zero, Act.put, List.setIfInBounds_toArray, List.set_cons_zero, List.set_cons_succ]
        refine wpAnyB_done (by kernel_rfl) ?_ _
        have hdr : w6.drew.heap.size = w6.heap.size := rfl
        have hS : Only (fun b => b = w.heap.size) w7.heap.size w7 ((w7.setCell ⟨w.heap.size, 0, none⟩ (.int .i64 x)).setCell ⟨w.heap.size, 1, none⟩ (.slice (some ⟨g, 0, none⟩) f.length cap)) :=
          ((Only.refl (fun b => b = w.heap.size) _ _).setCell (p := ⟨w.heap.size, 0, none⟩) (.inl rfl) _).setCell (p := ⟨w.heap.size, 1, none⟩) (.inl rfl) _
        have HE := Hfin.out w7 l2 ao2 cap2 (HO.out.trans (hO4.mono hsW fun _ _ e => e)) (hD1.row (show RowAt w6.drew g cap f from HR.out) (by omega)) (hOw2.onlyOne hS (by omega)).ints (by omega) hOw2.room'
        have k5 : Blk ((w7.setCell ⟨w.heap.size, 0, none⟩ (.int .i64 x)).setCell ⟨w.heap.size, 1, none⟩ (.slice (some ⟨g, 0, none⟩) f.length cap)) w.heap.size #[.int .i64 x, .slice (some ⟨g, 0, none⟩) f.length cap] 26 := by
          have := (k4.store 0 (.int .i64 x)).store 1 (.slice (some ⟨g, 0, none⟩) f.length cap)
          simpa using this
        have y0 := k5.cell 0
        have y1 := k5.cell 1
        have y4 := k5.lt
        simp at y0 y1
        clear k4 k5 x0 x1 x2 x3 x4 Hfin hT0 HX hSet Hk0 HO HR hO0 hO4 hD1 hC hM z0 z1 z4 hS hOw2
        generalize World.setCell _ _ _ = W9 at *
        go_wp2_with fail
        refine bodyPost_ret (v := .tuple #[.agg #[.int .i64 x, .slice (some ⟨g, 0, none⟩) f.length cap], .slice ao2 l2.length cap2]) (by simp [results, Try.results45, go_sem, y0, y1]) rfl ?_
        exact HE.out
      · obtain ⟨hord, g0, rfl, hg0⟩ := Hlo5.out rfl
        have hl5 : l5.length ≤ 1048576 := by have := (orderB_true hord).2.2.2; omega
        have hI5 := Hhl5i.out.only hD6.only (fun b off e e2 => by cases e; have e3 : g0 = cb := e2; omega)
        clear Hlo5 Hhl5i HD5 hord hD6 hD36
        generalize (some (⟨g0, 0, none⟩ : Addr)) = la5 at *
        obtain ⟨hO, hC, hR, k, kb⟩ : _ ∧ _ ∧ _ ∧ _ ∧ _ := ⟨hO6, hC6, hR6, k6, kb6⟩
        clear hO6 hC6 hR6 k6 kb6 hO5 hC5 hR5 k5 kb5
        have hyW := kb.lt
        have h0W := k.lt
        have hsW := hO.size
        have hkb := kb
        have hcW := hC.lt
        have hT0 : ∀ w', Only (fun b => b = cb ∨ b = w.heap.size) w6.heap.size w6 w' → w'.cell? ⟨yb, 0, none⟩ = some (.int .i64 x) ∧ w'.cell? ⟨yb, 1, none⟩ = some (.slice (some ⟨g, 0, none⟩) f.length cap) := fun w' h => by
          have := h.blk hkb hyW (fun e => by rcases e with e | e <;> omega)
          exact ⟨by simpa using this.cell 0, by simpa using this.cell 1⟩
        have hX0 : ∀ (w' : World), Only (fun b => b = cb ∨ b = w.heap.size) w6.heap.size w6 w' → Only (fun b => b = cb ∨ b = w.heap.size) w6.heap.size w6 ((w'.setCell ⟨w.heap.size, 0, none⟩ (.int .i64 x)).setCell ⟨w.heap.size, 1, none⟩ (.slice (some ⟨g, 0, none⟩) f.length cap)) := fun w' h => (h.setCell (p := ⟨w.heap.size, 0, none⟩) (.inl (.inr rfl)) _).setCell (p := ⟨w.heap.size, 1, none⟩) (.inl (.inr rfl)) _
        have hSet := Lib.hid (l6Reverse_any l5 la5 lc5 w6.drew (hI5.below (Below.refl _ _).drew) hl5)
        have HX := Lib.hid hX0
        have Hk0 := Lib.hid k
        have HO := Lib.hid hO
        have HR := Lib.hid hR
        have z0 := kb.cell 0
        have z1 := kb.cell 1
        have z4 := kb.lt
        simp at z0 z1
        clear hX0 hkb kb k hR hO
        go_wp2_with fail
        have hO0 : Only (fun b => b = cb ∨ b = w.heap.size) w6.heap.size w6 w6.drew := Only.of (Below.refl _ _).drew
        refine wp_region_B (fun w' => Only (fun b => b = cb ∨ b = w.heap.size) w6.heap.size w6 w' ∧ w'.cell? ⟨yb, 0, none⟩ = some (.int .i64 x) ∧ w'.cell? ⟨yb, 1, none⟩ = some (.slice (some ⟨g, 0, none⟩) f.length cap)) (fun _ => True) [] (by kernel_rfl) (⟨hO0, hT0 _ hO0⟩) (trivial) (fun hM => ?_)
        refine wpAnyB_take (i := 0) (v := ?_) false rfl (by kernel_rfl) (by kernel_rfl) (by kernel_rfl) (by kernel_rfl) (by kernel_rfl) (fun _ _ _ h => h) (Or.inl ⟨by rfl, ?_⟩) hM (fun hM2 => ?_)
        rotate_left
        · (intro w hSw; replace hSw := hSw.1; (try dsimp only at hSw); go_simp; try with_reducible rfl)
        replace hM := hM2
        clear hM2
        try simp only [List.getElem_toArray, List.getElem_cons_zero, Act.put, List.setIfInBounds_toArray, List.set_cons_zero, List.set_cons_succ]
        refine wpAnyB_take (i := 1) (v := ?_) false rfl (by kernel_rfl) (by kernel_rfl) (by kernel_rfl) (by kernel_rfl) (by kernel_rfl) (fun _ _ _ h => h) (Or.inl ⟨by rfl, ?_⟩) hM (fun hM2 => ?_)
        rotate_left
        · (intro w hSw; replace hSw := hSw.1; (try dsimp only at hSw); go_simp; try with_reducible rfl)
        replace hM := hM2
        clear hM2
        try simp only [List.getElem_toArray, List.getElem_cons_succ, List.getElem_cons_zero, Act.put, List.setIfInBounds_toArray, List.set_cons_zero, List.set_cons_succ]
        refine wpAnyB_one (i := 2) (by kernel_rfl) rfl (fun K hK => ?_)
        (go_simp; go_at_call 78; refine hSet.out.mono ?_; rintro e w7 ⟨l2, ao2, cap2, hl2, rfl, hBR, hOw2⟩; have hO4 : Only (fun b => b = cb ∨ b = w.heap.size) w6.heap.size w6 w7 := hO0.more hBR (Nat.le_refl _); dsimp only)
        refine hK.out _ _ (meetB.both ⟨hO4, hT0 _ hO4⟩ trivial) (fun hM2 => ?_)
        clear hK K
        replace hM := hM2
        clear hM2
        try simp only [List.getElem_toArray, List.getElem_cons_succ, List.getElem_cons_zero, Act.put, List.setIfInBounds_toArray, List.set_cons_zero, List.set_cons_succ]
        have hBd : Below w6.heap.size w6 w7 := (Below.refl _ _).drew.trans hBR
        have hl2n : l2.length ≤ 1048576 := by omega
        clear hl2
        have k4 := Hk0.out.below hBd h0W
        have x0 := k4.cell 0
        have x1 := k4.cell 1
        have x2 := k4.frozen 0
        have x3 := k4.frozen 1
        have x4 := k4.lt
        simp at x0 x1
        refine wpAnyB_one (i := 3) (by kernel_rfl) rfl (fun K hK => ?_)
        go_simp
        refine hK.out _ _ (meetB.both ⟨HX.out _ hO4, hT0 _ (HX.out _ hO4)⟩ trivial) (fun hM2 => ?_)
        clear hK K
        replace hM := hM2
        clear hM2
        try simp only [List.getElem_toArray, List.getElem_cons_succ, List.getElem_cons_zero, Act.put, List.setIfInBounds_toArray, List.set_cons_zero, List.set_cons_succ]
        refine wpAnyB_take (i := 4) (v := ?_) false rfl (by kernel_rfl) (by kernel_rfl) (by kernel_rfl) (by kernel_rfl) (by kernel_rfl) (fun _ _ _ h => h) (Or.inl ⟨by rfl, ?_⟩) hM (fun hM2 => ?_)
        rotate_left
        · (intro w hSw; replace hSw := hSw.1; (try dsimp only at hSw); go_simp; try with_reducible rfl)
        replace hM := hM2
        clear hM2
        try simp only [List.getElem_toArray, List.getElem_cons_succ, List.getElem_cons_zero, Act.put, List.setIfInBounds_toArray, List.set_cons_zero, List.set_cons_succ]
        refine wpAnyB_done (by kernel_rfl) ?_ _
        have hdr : w6.drew.heap.size = w6.heap.size := rfl
        have hS : Only (fun b => b = w.heap.size) w7.heap.size w7 ((w7.setCell ⟨w.heap.size, 0, none⟩ (.int .i64 x)).setCell ⟨w.heap.size, 1, none⟩ (.slice (some ⟨g, 0, none⟩) f.length cap)) :=
          ((Only.refl (fun b => b = w.heap.size) _ _).setCell (p := ⟨w.heap.size, 0, none⟩) (.inl rfl) _).setCell (p := ⟨w.heap.size, 1, none⟩) (.inl rfl) _
        have HE := Hfin.out w7 l2 ao2 cap2 (HO.out.trans (hO4.mono hsW fun _ _ e => e)) (HR.out.below hBd) (hOw2.onlyOne hS (by omega)).ints (by omega) hOw2.room'
        have k5 : Blk ((w7.setCell ⟨w.heap.size, 0, none⟩ (.int .i64 x)).setCell ⟨w.heap.size, 1, none⟩ (.slice (some ⟨g, 0, none⟩) f.length cap)) w.heap.size #[.int .i64 x, .slice (some ⟨g, 0, none⟩) f.length cap] 26 := by
          have := (k4.store 0 (.int .i64 x)).store 1 (.slice (some ⟨g, 0, none⟩) f.length cap)
          simpa using this
        have y0 := k5.cell 0
        have y1 := k5.cell 1
        have y4 := k5.lt
        simp at y0 y1
        clear k4 k5 x0 x1 x2 x3 x4 Hfin hT0 HX hSet Hk0 HO HR hO0 hO4 hBR hBd hC hI5 hM z0 z1 z4 hS hOw2
        generalize World.setCell _ _ _ = W9 at *
        go_wp2_with fail
        refine bodyPost_ret (v := .tuple #[.agg #[.int .i64 x, .slice (some ⟨g, 0, none⟩) f.length cap], .slice ao2 l2.length cap2]) (by simp [results, Try.results45, go_sem, y0, y1]) rfl ?_
        exact HE.out
    · have hS4 : Only (fun b => b = cb ∨ b = w.heap.size) w3.heap.size w3 ((w6.setCell ⟨w.heap.size, 0, none⟩ (.int .i64 x)).setCell ⟨w.heap.size, 1, none⟩ (.slice (some ⟨g, 0, none⟩) f.length cap)) :=
        ((hD36.only.mono (Nat.le_refl _) fun _ _ e => .inl e).setCell (p := ⟨w.heap.size, 0, none⟩) (.inl (.inr rfl)) _).setCell (p := ⟨w.heap.size, 1, none⟩) (.inl (.inr rfl)) _
      have k7 : Blk ((w6.setCell ⟨w.heap.size, 0, none⟩ (.int .i64 x)).setCell ⟨w.heap.size, 1, none⟩ (.slice (some ⟨g, 0, none⟩) f.length cap)) w.heap.size #[.int .i64 x, .slice (some ⟨g, 0, none⟩) f.length cap] 26 := by
        have := (k6.store 0 (.int .i64 x)).store 1 (.slice (some ⟨g, 0, none⟩) f.length cap)
        simpa using this
      obtain ⟨i3, j3, -, kc3⟩ := hC3.box
      obtain ⟨i4, j4, -, kc4⟩ := hC6.box
      have kc5 := (kc4.other (a := ⟨w.heap.size, 0, none⟩) (.int .i64 x) (by simp; omega)).other (a := ⟨w.heap.size, 1, none⟩) (.slice (some ⟨g, 0, none⟩) f.length cap) (by simp; omega)
      obtain ⟨l2, hl2, hL2⟩ := HL.out.moved hS4 kc3 kc5 Hk3.out k7
      have HE := Hfin.out _ l2 lo lc hO6 hR6 hL2 (by rw [hl2]; exact hl) (by rw [hl2]; exact hlc)
      rw [hl2] at HE
      have x0 := kb6.cell 0
      have x1 := kb6.cell 1
      have x4 := kb6.lt
      have y0 := k6.cell 0
      have y1 := k6.cell 1
      have y2 := k6.frozen 0
      have y3 := k6.frozen 1
      have y4 := k6.lt
      simp at x0 x1 y0 y1
      clear k6 kb6 hO6 hR6 hC6 Hfin HL hL2 hl2 kc3 kc4 kc5 k7 hS4 hD36 hD6 HD5 Hlo5 Hhl5i hO5 hC5 hR5 k5 kb5 Hk3
      go_wp2_with fail
      refine bodyPost_ret (v := .tuple #[.agg #[.int .i64 x, .slice (some ⟨g, 0, none⟩) f.length cap], .slice lo l.length lc]) (by simp [results, Try.results45, go_sem, y0, y1]) rfl ?_
      exact HE.out

/-- A list of numbers stays one when a graph is stored. -/
theorem IntsAt.stored {w w' : World} {r n1 c1 n2 c2 : Nat} {lo a1 a2 : Option Addr} {l : List Int} {u u' : Int} {T1 : TypeId} (h : IntsAt w lo l) (hO : Only (fun b => b = r) w.heap.size w w')
    (kr : Blk w r #[.int .i64 u, .slice a1 n1 c1] T1) (kr' : Blk w' r #[.int .i64 u', .slice a2 n2 c2] T1) : ∃ l' : List Int, l'.length = l.length ∧ IntsAt w' lo l' := by
  by_cases h0 : 0 < l.length
  · obtain ⟨b, off, rfl, hb, hc⟩ := h h0
    have hv : ∀ k, k < l.length → ∃ z : Int, w'.cell? ⟨b, off + k, none⟩ = some (.int .i64 z) := fun k hk => by
      have h1 := hc k hk
      by_cases e2 : b = r
      · subst e2
        rw [kr.cell] at h1
        rw [kr'.cell]
        generalize off + k = m at *
        match m, h1 with
        | 0, h1 => exact ⟨_, rfl⟩
        | 1, h1 => simp at h1
        | m + 2, h1 => simp at h1
      · exact ⟨_, (hO.cell (p := ⟨b, off + k, none⟩) hb (fun e => e2 e)).trans h1⟩
    obtain ⟨l', h1, h2⟩ := list_of l.length hv
    exact ⟨l', h1, fun _ => ⟨b, off, rfl, Nat.lt_of_lt_of_le hb hO.size, fun k hk => h2 k (by omega)⟩⟩
  · exact ⟨l, rfl, fun h => absurd h h0⟩

set_option maxRecDepth 100000 in
set_option maxHeartbeats 4000000 in
theorem DrawCutOf_any (n c : Nat) (bo : Option Addr) (w : World) (h : BytesU w.heap.size w bo n) (hn : n ≤ 1048576) :
    Calls Try.prog 19 #[.slice bo n c] w (RetGLC w) := by
  go_enter Try.func19, Try.ntmps19
  go_wp2_with fail
  generalize hW : World.alloc _ _ = W1
  obtain ⟨hB, hs, k0⟩ := alloc1 hW
  have hs1 : w.heap.size < W1.heap.size := by omega
  have hb1 : BytesU W1.heap.size W1 bo n := (h.only (Only.of (X := fun _ => False) hB) fun _ _ h => h).mono (by omega)
  clear hW hs
  refine (l6Both_any n c bo W1 hb1 hn).mono ?_
  rintro e w1 ⟨x, f, l, g, cap, lo, lc, hf, hll, hlc, rfl, hR, hL, hB1⟩
  replace k0 := k0.below hB1 hs1
  have hs2 := hB1.size
  replace hB := hB.trans (hB1.mono (by omega))
  clear hb1 hB1 h
  go_upto_region 2 with fail
  generalize hW2 : World.alloc _ _ = W2
  obtain ⟨hB2, hz2, kb⟩ := alloc1 hW2
  replace k0 := k0.below hB2 k0.lt
  replace hB := hB.trans (hB2.mono (by omega))
  replace hR := hR.below hB2
  replace hL := hL.below hB2
  clear hW2 hB2 hz2
  generalize w1.heap.size = yb at *
  have hgne : g ≠ w.heap.size := fun e => by
    obtain ⟨cur, hb, -⟩ := hR
    rw [e] at hb
    have h1 : W2.heap[w.heap.size]? = some (.cells cur 3) := hb
    have h2 : W2.heap[w.heap.size]? = some (.cells #[.int .i64 0, .slice none 0 0] 26) := k0
    rw [h1] at h2
    simp at h2
  have hS : Only (fun b => b = w.heap.size) W2.heap.size W2 ((W2.setCell ⟨w.heap.size, 0, none⟩ (.int .i64 x)).setCell ⟨w.heap.size, 1, none⟩ (.slice (some ⟨g, 0, none⟩) f.length cap)) :=
    Only.setCell (X := fun b => b = w.heap.size) (Only.setCell (X := fun b => b = w.heap.size) (Only.refl _ _ _) (p := ⟨w.heap.size, 0, none⟩) (.inl rfl) _) (p := ⟨w.heap.size, 1, none⟩) (.inl rfl) _
  have k7 : Blk ((W2.setCell ⟨w.heap.size, 0, none⟩ (.int .i64 x)).setCell ⟨w.heap.size, 1, none⟩ (.slice (some ⟨g, 0, none⟩) f.length cap)) w.heap.size #[.int .i64 x, .slice (some ⟨g, 0, none⟩) f.length cap] 26 := by
    have := (k0.store 0 (.int .i64 x)).store 1 (.slice (some ⟨g, 0, none⟩) f.length cap)
    simpa using this
  obtain ⟨l2, hl2, hL2⟩ := hL.stored hS k0 k7
  have HE := Lib.hid (show RetGLC w (.returned (.tuple #[.agg #[.int .i64 x, .slice (some ⟨g, 0, none⟩) f.length cap], .slice lo l2.length lc])) ((W2.setCell ⟨w.heap.size, 0, none⟩ (.int .i64 x)).setCell ⟨w.heap.size, 1, none⟩ (.slice (some ⟨g, 0, none⟩) f.length cap)) from
    ⟨x, f, l2, g, cap, lo, lc, hf, by omega, by omega, rfl, (hR.otherCell (by simp; omega)).otherCell (by simp; omega), hL2, (hB.setCell (by simp) _).setCell (by simp) _⟩)
  rw [hl2] at HE
  have y0 := k0.cell 0
  have y1 := k0.cell 1
  have y2 := k0.frozen 0
  have y3 := k0.frozen 1
  have y4 := k0.lt
  have z0 := kb.cell 0
  have z1 := kb.cell 1
  have z4 := kb.lt
  simp at y0 y1 z0 z1
  clear k0 kb hR hL hB hS k7 hL2 hl2 hgne
  go_wp2_with fail
  refine bodyPost_ret (v := .tuple #[.agg #[.int .i64 x, .slice (some ⟨g, 0, none⟩) f.length cap], .slice lo l.length lc]) (by simp [results, Try.results19, go_sem, y0, y1]) rfl ?_
  exact HE.out

end Go.Proofs.Ytfkehmpckhmkbaa
