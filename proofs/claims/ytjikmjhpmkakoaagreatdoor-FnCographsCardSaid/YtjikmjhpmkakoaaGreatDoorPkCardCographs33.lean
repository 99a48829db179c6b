/-
  l17Read of the reference where no set begins: its mirror is rdS. For texts of at most 60 bytes.
-/
import Derived.Test.YtjikmjhpmkakoaaGreatDoorPkCardCographs29
import Derived.Test.YtjikmjhpmkakoaaGreatDoorPkCardCographs07
import Derived.Test.YtjikmjhpmkakoaaGreatDoorPkCardCographs01
import Derived.Test.YtjikmjhpmkakoaaGreatDoorPkCardCographs10
namespace Go.Proofs.YtjikmjhpmkakoaaGreatDoor
open Go.RowKit

/-- AddEdge of the reference at two vertices of a graph whose rows lie in a row of their own. -/
theorem specAddE2_any (rs : List Int) (a b gb cp N : Nat) (w : World) (hN : rs.length = N) (hR : RowAt w gb cp rs) (g : VG rs) (ha : a < N) (hb : b < N) (hab : a ≠ b) :
    Calls Tryz.prog 65 #[.agg #[.int .i64 N, .slice (some ⟨gb, 0, none⟩) N cp], .int .i64 a, .int .i64 b] w fun e w' => ∃ g1 cap ok, e = .returned (.tuple #[.agg #[.int .i64 N, .slice (some ⟨g1, 0, none⟩) N cap], .bool ok]) ∧ Below w.heap.size w w' ∧ w.heap.size ≤ g1 ∧ RowAt w' g1 cap (addE rs a b) := by
  subst hN
  have h7 := g.le
  have hA := specAddEdge_any rs.length rs a b _ cp w hR.ints (by omega) (by omega)
  have hV : addV rs.length rs a b = addE rs a b := by
    unfold addV; rw [if_pos (pair_ok g ha hb hab), Int.toNat_natCast, Int.toNat_natCast]
  rw [hV] at hA
  exact hA.mono fun e w' ⟨g1, cap, h⟩ => ⟨g1, cap, _, h⟩

/-- What l17Read hands back: the mirror's answer; where that is none, some graph. -/
def RetRd (r : Option (List Int × Nat × Nat)) (w : World) (e : Ending) (w' : World) : Prop :=
  Below w.heap.size w w' ∧ match r with
    | none => ∃ (N : Int) (ao : Option Addr) (k c : Nat), e = .returned (.tuple #[.agg #[.int .i64 N, .slice ao k c], .int .i64 0, .int .i64 (-1)])
    | some (rs, S, q) => ∃ gb cap : Nat, e = .returned (.tuple #[.agg #[.int .i64 rs.length, .slice (some ⟨gb, 0, none⟩) rs.length cap], .int .i64 S, .int .i64 q]) ∧ RowAt w' gb cap rs

theorem RowAt.onlyP2 {X : Nat → Prop} {w w' : World} {g cap : Nat} {xs : List Int} (h : RowAt w g cap xs) (hO : Only X w.heap.size w w') (hx : ¬X g) : RowAt w' g cap xs := by
  obtain ⟨cur, hb, r⟩ := h
  exact ⟨cur, hO.blk hb hb.lt hx, r⟩
theorem bs_get (L : List UInt8) (q : Nat) (h : q < (bs L).size) : L.getD q 0 = (bs L)[q]'h := by
  have hq : q < L.length := by rw [← bs_size]; exact h
  show _ = L.toArray[q]'_
  simp only [List.getD_eq_getElem?_getD, List.getElem?_eq_getElem hq, Option.getD_some]
  exact (List.getElem_toArray _).symm
theorem u8_sub {cn : Nat} (h : 48 ≤ cn) (h2 : cn ≤ 54) : IntKind.u8.wrap ((cn : Int) - 48) = ((cn - 48 : Nat) : Int) := by
  rw [show (cn : Int) - 48 = ((cn - 48 : Nat) : Int) by omega]
  simp only [IntKind.wrap, IntKind.bits, IntKind.signed]; simp; omega
theorem u8_bne {c : UInt8} {k : Nat} (h : c ≠ UInt8.ofNat k) (hk : k < 256) : ((c.toNat : Int) != (k : Int)) = true := by
  rw [bne_iff_ne]
  intro e
  exact h (UInt8.toNat_inj.1 (by rw [UInt8.toNat_ofNat']; omega))
set_option maxRecDepth 100000 in
set_option maxHeartbeats 4000000 in
theorem specRead_leaf (L : List UInt8) (hL : L.length ≤ 60) (N F p : Nat) (rs : List Int) (gb cap : Nat) (w : World) (g : VG rs) (hN : rs.length = N) (hp : p ≤ L.length) (hR : RowAt w gb cap rs) (hno : ¬(p + 1 < L.length ∧ L.getD p 0 = 40 ∧ (L.getD (p + 1) 0 = 43 ∨ L.getD (p + 1) 0 = 42))) :
    Calls Tryz.prog 97 #[.string (bs L), .int .i64 p, .agg #[.int .i64 N, .slice (some ⟨gb, 0, none⟩) N cap]] w (RetRd (rdS L (F + 1) none rs p) w) := by
  have hz := bs_size L
  have hE := rdS_end (L := L) (F := F) (rs := rs) (p := p)
  have hO := rdS_digit (L := L) (F := F) (rs := rs) (p := p)
  have hW := rdS_wrong (L := L) (F := F) (rs := rs) (p := p)
  have hOp := rdS_open (L := L) (F := F) (rs := rs) (p := p)
  generalize rdS L (F + 1) none rs p = R at *
  go_enter Tryz.func97, Tryz.ntmps97
  go_upto_region 1 with fail
  generalize hW : World.alloc _ _ = W1
  obtain ⟨hB, hs, k0, k1⟩ := alloc2 hW
  have hR1 := hR.below hB
  have hgb0 := hR.lt
  have hgb1 : ¬gb = w.heap.size + 1 := by omega
  have hgb2 : gb ≠ w.heap.size := by omega
  have x0 := k0.cell 0
  have x1 := k0.cell 1
  have xl := k0.lt
  have y0 := k1.cell 0
  have y1 := k1.cell 1
  have y2 := k1.frozen 0
  have y3 := k1.frozen 1
  have yl := k1.lt
  simp at x0 x1 y0 y1
  clear hW hR
  by_cases hpL : L.length ≤ p
  · have hR := hE hpL
    subst hR
    clear hE hO hW hOp
    have hst := (k1.store 0 (.int .i64 N)).store 1 (.slice (some ⟨gb, 0, none⟩) N cap)
    have z0 := hst.cell 0
    have z1 := hst.cell 1
    simp at z0 z1
    have Hhst := Lib.hid hst
    clear hst
    have HhB := Lib.hid hB
    clear hB
    go_wp2_with fail
    refine bodyPost_ret (v := .tuple #[.agg #[.int .i64 N, .slice (some ⟨gb, 0, none⟩) N cap], .int .i64 0, .int .i64 (-1)]) (by simp [results, Tryz.results97, go_sem, z0, z1]) rfl ?_
    exact ⟨(HhB.out.setCell (by simp) _).setCell (by simp) _, _, _, _, _, rfl⟩
  · have hp2 : p < L.length := by omega
    have d0 : decide ((L.length : Int) ≤ (p : Int)) = false := decide_eq_false (by omega)
    have hps : p < (bs L).size := by omega
    have hgp := bs_get L p hps
    replace hO := hO hp2
    replace hW := hW hp2
    replace hOp := hOp hp2
    clear hE
    rw [hgp] at hO hW hOp
    have hc8 : ((bs L)[p]'hps).toNat < 256 := UInt8.toNat_lt _
    by_cases hdg : 48 ≤ ((bs L)[p]'hps).toNat ∧ ((bs L)[p]'hps).toNat ≤ 54
    · have hR := hO hdg
      subst hR
      clear hO hW hOp
      have d1 : decide (48 ≤ (((bs L)[p]'hps).toNat : Int)) = true := decide_eq_true (by omega)
      have d2 : decide ((((bs L)[p]'hps).toNat : Int) ≤ 54) = true := decide_eq_true (by omega)
      have hsub := u8_sub hdg.1 hdg.2
      have hwp : IntKind.i64.wrap ((p : Int) + 1) = (p : Int) + 1 := IntKind_i64_in _ (by omega) (by omega)
      have hpw : pwN (((bs L)[p]'hps).toNat - 48) = ((2 ^ (((bs L)[p]'hps).toNat - 48) : Nat) : Int) := pwN_small _ (by omega)
      have hT : ∀ w', Only (fun b => b = w.heap.size + 1) W1.heap.size W1 w' → w'.cell? ⟨w.heap.size, 0, none⟩ = some (.int .i64 N) ∧ w'.cell? ⟨w.heap.size, 1, none⟩ = some (.slice (some ⟨gb, 0, none⟩) N cap) := fun w' h => ⟨(h.cell (p := ⟨w.heap.size, 0, none⟩) xl (by simp)).trans x0, (h.cell (p := ⟨w.heap.size, 1, none⟩) xl (by simp)).trans x1⟩
      have hOs : Only (fun b => b = w.heap.size + 1) W1.heap.size W1 ((W1.setCell ⟨w.heap.size + 1, 0, none⟩ (.int .i64 N)).setCell ⟨w.heap.size + 1, 1, none⟩ (.slice (some ⟨gb, 0, none⟩) N cap)).drew := ((Only.of (X := fun b => b = w.heap.size + 1) (Below.refl _ _).drew).setCell (p := ⟨w.heap.size + 1, 0, none⟩) (.inl rfl) _).setCell (p := ⟨w.heap.size + 1, 1, none⟩) (.inl rfl) _
      have hst := ((k1.store 0 (.int .i64 N)).store 1 (.slice (some ⟨gb, 0, none⟩) N cap)).drew
      have hRs := hR1.onlyP2 hOs hgb1
      have HE := Lib.hid (hB.trans (hOs.below hB.size fun b hb e => by have e2 : b = w.heap.size + 1 := e; omega))
      have Hk0 := Lib.hid k0
      clear k0
      have Hk1 := Lib.hid k1
      clear k1
      have HhR1 := Lib.hid hR1
      clear hR1
      have HhB := Lib.hid hB
      clear hB
      have HhRs := Lib.hid hRs
      clear hRs
      have HhOs := Lib.hid hOs
      clear hOs
      have Hhst := Lib.hid hst
      clear hst
      go_upto_region 4 with fail
      refine wp_region_B (fun w' => w'.cell? ⟨w.heap.size, 0, none⟩ = some (.int .i64 N) ∧ w'.cell? ⟨w.heap.size, 1, none⟩ = some (.slice (some ⟨gb, 0, none⟩) N cap)) (fun _ => True) [] (by kernel_rfl) (⟨x0, x1⟩) (trivial) (fun hM => ?_)
      refine wpAnyB_take (i := 0) (v := ?_) false rfl (by kernel_rfl) (by kernel_rfl) (by kernel_rfl) (by kernel_rfl) (by kernel_rfl) (fun _ _ _ h => h) (Or.inl ⟨by rfl, ?_⟩) hM (fun hM2 => ?_)
      rotate_left
      · (intro w hSw; replace hSw := hSw.1; (try dsimp only at hSw); go_simp; try with_reducible rfl)
      replace hM := hM2
      clear hM2
      try simp only [List.getElem_toArray, List.getElem_cons_zero, Act.put, List.setIfInBounds_toArray, List.set_cons_zero, List.set_cons_succ]
      refine wpAnyB_take (i := 1) (v := ?_) false rfl (by kernel_rfl) (by kernel_rfl) (by kernel_rfl) (by kernel_rfl) (by kernel_rfl) (fun _ _ _ h => h) (Or.inl ⟨by rfl, ?_⟩) hM (fun hM2 => ?_)
      rotate_left
      · (intro w hSw; replace hSw := hSw.1; (try dsimp only at hSw); go_simp; try with_reducible rfl)
      replace hM := hM2
      clear hM2
      try simp only [List.getElem_toArray, List.getElem_cons_succ, List.getElem_cons_zero, Act.put, List.setIfInBounds_toArray, List.set_cons_zero, List.set_cons_succ]
      refine wpAnyB_take (i := 2) (v := ?_) false rfl (by kernel_rfl) (by kernel_rfl) (by kernel_rfl) (by kernel_rfl) (by kernel_rfl) (fun _ _ _ h => h) (Or.inl ⟨by rfl, ?_⟩) hM (fun hM2 => ?_)
      rotate_left
      · (intro w hSw; replace hSw := hSw.1; (try dsimp only at hSw); go_simp; try with_reducible rfl)
      replace hM := hM2
      clear hM2
      try simp only [List.getElem_toArray, List.getElem_cons_succ, List.getElem_cons_zero, Act.put, List.setIfInBounds_toArray, List.set_cons_zero, List.set_cons_succ]
      refine wpAnyB_take (i := 3) (v := ?_) false rfl (by kernel_rfl) (by kernel_rfl) (by kernel_rfl) (by kernel_rfl) (by kernel_rfl) (fun _ _ _ h => h) (Or.inl ⟨by rfl, ?_⟩) hM (fun hM2 => ?_)
      rotate_left
      · (intro w hSw; replace hSw := hSw.1; (try dsimp only at hSw); go_simp; try with_reducible rfl)
      replace hM := hM2
      clear hM2
      try simp only [List.getElem_toArray, List.getElem_cons_succ, List.getElem_cons_zero, Act.put, List.setIfInBounds_toArray, List.set_cons_zero, List.set_cons_succ]
      refine wpAnyB_take (i := 4) (v := ?_) false rfl (by kernel_rfl) (by kernel_rfl) (by kernel_rfl) (by kernel_rfl) (by kernel_rfl) (fun _ _ _ h => h) (Or.inl ⟨by rfl, ?_⟩) hM (fun hM2 => ?_)
      rotate_left
      · (intro w hSw; replace hSw := hSw.1; (try dsimp only at hSw); go_simp; try with_reducible rfl)
      replace hM := hM2
      clear hM2
      try simp only [List.getElem_toArray, List.getElem_cons_succ, List.getElem_cons_zero, Act.put, List.setIfInBounds_toArray, List.set_cons_zero, List.set_cons_succ]
      refine wpAnyB_take (i := 5) (v := ?_) false rfl (by kernel_rfl) (by kernel_rfl) (by kernel_rfl) (by kernel_rfl) (by kernel_rfl) (fun _ _ _ h => h) (Or.inl ⟨by rfl, ?_⟩) hM (fun hM2 => ?_)
      rotate_left
      · (intro w hSw; replace hSw := hSw.1; (try dsimp only at hSw); go_simp; try with_reducible rfl)
      replace hM := hM2
      clear hM2
      try simp only [List.getElem_toArray, List.getElem_cons_succ, List.getElem_cons_zero, Act.put, List.setIfInBounds_toArray, List.set_cons_zero, List.set_cons_succ]
      refine wpAnyB_take (i := 6) (v := ?_) false rfl (by kernel_rfl) (by kernel_rfl) (by kernel_rfl) (by kernel_rfl) (by kernel_rfl) (fun _ _ _ h => h) (Or.inl ⟨by rfl, ?_⟩) hM (fun hM2 => ?_)
      rotate_left
      · (intro w hSw; replace hSw := hSw.1; (try dsimp only at hSw); go_simp; try with_reducible rfl)
      replace hM := hM2
      clear hM2
      try simp only [List.getElem_toArray, List.getElem_cons_succ, List.getElem_cons_zero, Act.put, List.setIfInBounds_toArray, List.set_cons_zero, List.set_cons_succ]
      refine wpAnyB_take (i := 7) (v := ?_) false rfl (by kernel_rfl) (by kernel_rfl) (by kernel_rfl) (by kernel_rfl) (by kernel_rfl) (fun _ _ _ h => h) (Or.inl ⟨by rfl, ?_⟩) hM (fun hM2 => ?_)
      rotate_left
      · (intro w hSw; replace hSw := hSw.1; (try dsimp only at hSw); go_simp; try with_reducible rfl)
      replace hM := hM2
      clear hM2
      try simp only [List.getElem_toArray, List.getElem_cons_succ, List.getElem_cons_zero, Act.put, List.setIfInBounds_toArray, List.set_cons_zero, List.set_cons_succ]
      refine wpAnyB_one (i := 8) (by kernel_rfl) rfl (fun K hK => ?_)
      go_simp
      refine hK.out _ _ (meetB.both (hT _ HhOs.out) trivial) (fun hM2 => ?_)
      clear hK K
      replace hM := hM2
      clear hM2
      try simp only [List.getElem_toArray, List.getElem_cons_succ, List.getElem_cons_zero, Act.put, List.setIfInBounds_toArray, List.set_cons_zero, List.set_cons_succ]
      refine wpAnyB_take (i := 9) (v := ?_) false rfl (by kernel_rfl) (by kernel_rfl) (by kernel_rfl) (by kernel_rfl) (by kernel_rfl) (fun _ _ _ h => h) (Or.inl ⟨by rfl, ?_⟩) hM (fun hM2 => ?_)
      rotate_left
      · (intro w hSw; replace hSw := hSw.1; (try dsimp only at hSw); go_simp; try with_reducible rfl)
      replace hM := hM2
      clear hM2
      try simp only [List.getElem_toArray, List.getElem_cons_succ, List.getElem_cons_zero, Act.put, List.setIfInBounds_toArray, List.set_cons_zero, List.set_cons_succ]
      refine wpAnyB_take (i := 10) (v := ?_) false rfl (by kernel_rfl) (by kernel_rfl) (by kernel_rfl) (by kernel_rfl) (by kernel_rfl) (fun _ _ _ h => h) (Or.inl ⟨by rfl, ?_⟩) hM (fun hM2 => ?_)
      rotate_left
      · (intro w hSw; replace hSw := hSw.1; (try dsimp only at hSw); go_simp; try with_reducible rfl)
      replace hM := hM2
      clear hM2
      try simp only [List.getElem_toArray, List.getElem_cons_succ, List.getElem_cons_zero, Act.put, List.setIfInBounds_toArray, List.set_cons_zero, List.set_cons_succ]
      refine wpAnyB_done (by kernel_rfl) ?_ _
      have z0 := (Hhst.out.cell 0).trans (show _ = some (Value.int .i64 (N : Int)) by simp)
      have z1 := (Hhst.out.cell 1).trans (show _ = some (Value.slice (some ⟨gb, 0, none⟩) N cap) by simp)
      clear hT hM
      generalize World.drew _ = W5 at *
      go_wp2_with fail
      refine bodyPost_ret (v := .tuple #[.agg #[.int .i64 N, .slice (some ⟨gb, 0, none⟩) N cap], .int .i64 ((2 ^ (((bs L)[p]'hps).toNat - 48) : Nat) : Int), .int .i64 ((p + 1 : Nat) : Int)]) (by simp [results, Tryz.results97, go_sem, z0, z1, hwp]) rfl ?_
      exact ⟨HE.out, gb, cap, by rw [hN], HhRs.out⟩
    · clear hO
      replace hW := hW hdg
      replace hOp := hOp hdg
      have hst := (k1.store 0 (.int .i64 N)).store 1 (.slice (some ⟨gb, 0, none⟩) N cap)
      have z0 := hst.cell 0
      have z1 := hst.cell 1
      simp at z0 z1
      have Hhst := Lib.hid hst
      clear hst
      have HhB := Lib.hid hB
      clear hB
      by_cases h40 : (bs L)[p]'hps = 40
      · have d3 : ((((bs L)[p]'hps).toNat : Int) != 40) = false := by rw [h40]; decide
        have d1 : decide (48 ≤ (((bs L)[p]'hps).toNat : Int)) = false := by rw [h40]; decide
        by_cases hp3 : L.length ≤ p + 1
        · have d4 : decide ((L.length : Int) ≤ (p : Int) + 1) = true := decide_eq_true (by omega)
          have hR := hW (.inr (.inl hp3))
          subst hR
          go_upto_region 5 with fail
          clear hW hOp h40
          go_wp2_with fail
          refine bodyPost_ret (v := .tuple #[.agg #[.int .i64 N, .slice (some ⟨gb, 0, none⟩) N cap], .int .i64 0, .int .i64 (-1)]) (by simp [results, Tryz.results97, go_sem, z0, z1]) rfl ?_
          exact ⟨(HhB.out.setCell (by simp) _).setCell (by simp) _, _, _, _, _, rfl⟩
        · have hps2 : p + 1 < (bs L).size := by omega
          have hgp2 := bs_get L (p + 1) hps2
          rw [hgp2] at hW hOp
          have d4 : decide ((L.length : Int) ≤ (p : Int) + 1) = false := decide_eq_false (by omega)
          go_upto_region 5 with fail
          by_cases hq : ((bs L)[p + 1]'hps2 ≠ 43 ∧ (bs L)[p + 1]'hps2 ≠ 42)
          · have hR := hW (.inr (.inr hq))
            subst hR
            have e1 : ((((bs L)[p + 1]'hps2).toNat : Int) != 43) = true := u8_bne (k := 43) hq.1 (by decide)
            have e2 : ((((bs L)[p + 1]'hps2).toNat : Int) != 42) = true := u8_bne (k := 42) hq.2 (by decide)
            clear hW hOp h40 hq
            go_wp2_with fail
            refine bodyPost_ret (v := .tuple #[.agg #[.int .i64 N, .slice (some ⟨gb, 0, none⟩) N cap], .int .i64 0, .int .i64 (-1)]) (by simp [results, Tryz.results97, go_sem, z0, z1]) rfl ?_
            exact ⟨(HhB.out.setCell (by simp) _).setCell (by simp) _, _, _, _, _, rfl⟩
          · refine absurd ⟨by omega, by rw [hgp, h40], ?_⟩ hno
            rw [hgp2]
            by_cases h43 : (bs L)[p + 1]'hps2 = 43
            · exact .inl h43
            · exact .inr (Classical.byContradiction fun h => hq ⟨h43, h⟩)
      · have hR := hW (.inl h40)
        have d3 : ((((bs L)[p]'hps).toNat : Int) != 40) = true := by
          rw [bne_iff_ne]
          intro e
          exact h40 (UInt8.toNat_inj.1 (by have : ((bs L)[p]'hps).toNat = 40 := by omega
                                           rw [this]; rfl))
        subst hR
        clear hW hOp h40
        by_cases h48 : 48 ≤ ((bs L)[p]'hps).toNat
        · have d1 : decide (48 ≤ (((bs L)[p]'hps).toNat : Int)) = true := decide_eq_true (by omega)
          have d2 : decide ((((bs L)[p]'hps).toNat : Int) ≤ 54) = false := decide_eq_false (by omega)
          clear hdg h48
          go_wp2_with fail
          refine bodyPost_ret (v := .tuple #[.agg #[.int .i64 N, .slice (some ⟨gb, 0, none⟩) N cap], .int .i64 0, .int .i64 (-1)]) (by simp [results, Tryz.results97, go_sem, z0, z1]) rfl ?_
          exact ⟨(HhB.out.setCell (by simp) _).setCell (by simp) _, _, _, _, _, rfl⟩
        · have d1 : decide (48 ≤ (((bs L)[p]'hps).toNat : Int)) = false := decide_eq_false (by omega)
          clear hdg h48
          go_wp2_with fail
          refine bodyPost_ret (v := .tuple #[.agg #[.int .i64 N, .slice (some ⟨gb, 0, none⟩) N cap], .int .i64 0, .int .i64 (-1)]) (by simp [results, Tryz.results97, go_sem, z0, z1]) rfl ?_
          exact ⟨(HhB.out.setCell (by simp) _).setCell (by simp) _, _, _, _, _, rfl⟩

end Go.Proofs.YtjikmjhpmkakoaaGreatDoor
