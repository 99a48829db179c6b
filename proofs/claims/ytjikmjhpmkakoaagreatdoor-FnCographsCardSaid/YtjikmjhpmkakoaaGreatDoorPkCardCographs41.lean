/-
  PermutationModelOf and IsPermutationGraph of the program on a graph without a path of four vertices: there is a model.
-/
import Derived.Test.YtjikmjhpmkakoaaGreatDoorPkCardCographs40
import Derived.Test.YtjikmjhpmkakoaaGreatDoorPkCardCographs41a
import Derived.Test.YtjikmjhpmkakoaaGreatDoorPkCardCographs12
import Derived.Test.YtjikmjhpmkakoaaGreatDoorPkCardCographs13
import Derived.Test.YtjikmjhpmkakoaaGreatDoorPkCardCographs10
namespace Go.Proofs.YtjikmjhpmkakoaaGreatDoor
open Go.RowKit

theorem RowAt.onlyP {X : Nat → Prop} {w w' : World} {g cap : Nat} {xs : List Int} (h : RowAt w g cap xs) (hO : Only X w.heap.size w w') (hx : ¬X g) : RowAt w' g cap xs := by
  obtain ⟨cur, hb, r⟩ := h
  exact ⟨cur, hO.blk hb hb.lt hx, r⟩
/-- A model has been returned. -/
def RetPm (w : World) (e : Ending) (w' : World) : Prop := ∃ (a b : Option Addr) (k k2 c c2 : Nat), e = .returned (.tuple #[.slice a k c, .slice b k2 c2, .bool true]) ∧ Below w.heap.size w w'

set_option maxRecDepth 100000 in
set_option maxHeartbeats 4000000 in
theorem implModel_any (rs : List Int) (ro : Option Addr) (rc : Nat) (w : World) (hr : IntsAt w ro rs) (hv : isGraphB rs.length rs = true) (hp : noP4 rs) :
    Calls Tryz.prog 94 #[.agg #[.int .i64 rs.length, .slice ro rs.length rc]] w (RetPm w) := by
  have g := (VG.of hv).2
  have hg1 := g.pos
  have hg2 := g.le
  have HOb := Lib.hid fun (go : Option Addr) (c : Nat) (w' : World) (h : IntsAt w' go (compl rs)) => (by
    have h2 := implOrient_any (compl rs) go c w' h (by rw [compl_len]; exact compl_graph g) (compl_noP4 g hp)
    rw [compl_len] at h2
    exact h2 : Calls Tryz.prog 135 #[.agg #[.int .i64 rs.length, .slice go rs.length c]] w' (RetOw rs.length w'))
  go_enter Tryz.func94, Tryz.ntmps94
  go_wp2_with fail
  generalize hW : w.alloc _ = W1
  obtain ⟨hB, -, k0⟩ := alloc1 hW
  replace hr := hr.below hB
  have hb0 := k0.lt
  have hc0 := k0.cell 0
  have hc1 := k0.cell 1
  simp at hc0 hc1
  clear hW k0
  have HhB := Lib.hid hB
  clear hB
  have hco := implCompl_any rs ro rc W1 hr hv
  refine hco.mono ?_
  rintro e w2 ⟨g1, cap, rfl, hB2, hI⟩
  clear hco
  go_upto_region 2 with fail
  generalize hW : World.alloc _ _ = W3
  obtain ⟨hB3, hs3, k3⟩ := alloc1 hW
  have hBx := below_more hB2 hB3
  have hr3 := hr.below hBx
  have x0 := (hBx.cell (p := ⟨w.heap.size, 0, none⟩) hb0).trans hc0
  have x1 := (hBx.cell (p := ⟨w.heap.size, 1, none⟩) hb0).trans hc1
  have xl := Nat.lt_of_lt_of_le hb0 hBx.size
  have hI3 := hI.below hB3
  have hOr := implOrient_any rs ro rc W3 hr3 hv hp
  have HB := Lib.hid (HhB.out.trans (hBx.mono HhB.out.size))
  generalize w2.heap.size = cb at *
  clear hW hB2 hB3 hBx hs3 hr hr3 hI HhB hc0 hc1 hb0
  have Hk3 := Lib.hid k3
  clear k3
  have HhI3 := Lib.hid hI3
  clear hI3
  go_wp2_with fail
  refine hOr.mono ?_
  rintro e w4 ⟨tB, ys, rfl, hB4, hyl, hys, htb, kT⟩
  clear hOr x0 x1 xl
  go_upto_region 3 with fail
  generalize hW : World.alloc _ _ = W5
  obtain ⟨hB5, hs5, k5⟩ := alloc1 hW
  have hBx := below_more hB4 hB5
  have k3 := Hk3.out.below hBx Hk3.out.lt
  have hI5 := HhI3.out.below hBx
  have kT5 := kT.below hB5 kT.lt
  have x0 := k3.cell 0
  have x1 := k3.cell 1
  have xl := k3.lt
  simp at x0 x1
  have hOr := HOb.out (some ⟨g1, 0, none⟩) cap W5 hI5
  have HB := Lib.hid (HB.out.trans (hBx.mono HB.out.size))
  generalize w4.heap.size = fb at *
  clear hW hB4 hB5 hBx hs5 HhI3 hI5 Hk3 kT HOb k3 htb
  have Hk5 := Lib.hid k5
  clear k5
  have HkT5 := Lib.hid kT5
  clear kT5
  go_wp2_with fail
  refine hOr.mono ?_
  rintro e w6 ⟨tC, zs, rfl, hB6, hzl, hzs, htc, kC⟩
  clear hOr x0 x1 xl
  go_upto_region 4 with fail
  generalize hW : World.alloc _ _ = W7
  obtain ⟨hB7, hs7, k7⟩ := alloc1 hW
  have hBx := below_more hB6 hB7
  have k5 := Hk5.out.below hBx Hk5.out.lt
  have kT := HkT5.out.below hBx HkT5.out.lt
  have kC7 := kC.below hB7 kC.lt
  have HB := Lib.hid (HB.out.trans (hBx.mono HB.out.size))
  have hIC : IntsAt W7 (some ⟨tC, 0, none⟩) zs := fun h0 => ⟨tC, 0, rfl, kC7.lt, fun k hk => by rw [Nat.zero_add]; exact (kC7.cell k).trans (intRow_get zs k hk)⟩
  have y0 := k7.cell 0
  have yl := k7.lt
  simp at y0
  generalize w6.heap.size = sb at *
  clear hW hB6 hB7 hBx hs7 Hk5 HkT5 kC htc hzs kC7
  have hcl := fun (w' : World) (h : Below W7.heap.size W7 w') => clone_any zs ⟨tC, 0, none⟩ rs.length rs.length w' (hIC.below h) hzl.symm (by omega)
  have hT : ∀ w', Below W7.heap.size W7 w' → Below W7.heap.size W7 w' ∧ w'.cell? ⟨sb, 0, none⟩ = some (.slice (some ⟨tC, 0, none⟩) rs.length rs.length) := fun w' h => ⟨h, (h.cell yl).trans y0⟩
  have Hk5 := Lib.hid k5
  clear k5
  have HkT := Lib.hid kT
  clear kT
  have Hhcl := Lib.hid hcl
  clear hcl
  have Hk7 := Lib.hid k7
  clear k7
  go_upto_region 6 with fail
  have hD : Below W7.heap.size W7 W7.drew := (Below.refl _ _).drew
  refine wp_region_B (fun w' => Below W7.heap.size W7 w' ∧ w'.cell? ⟨sb, 0, none⟩ = some (.slice (some ⟨tC, 0, none⟩) rs.length rs.length)) (fun _ => True) [] (by kernel_rfl) (hT _ hD) (trivial) (fun hM => ?_)
  refine wpAnyB_take (i := 0) (v := ?_) false rfl (by kernel_rfl) (by kernel_rfl) (by kernel_rfl) (by kernel_rfl) (by kernel_rfl) (fun _ _ _ h => h) (Or.inl ⟨by rfl, ?_⟩) hM (fun hM2 => ?_)
  rotate_left
  · (intro w hSw; replace hSw := hSw.1; (try dsimp only at hSw); go_simp; try with_reducible rfl)
  replace hM := hM2
  clear hM2
  try simp only [List.getElem_toArray, List.getElem_cons_zero, Act.put, List.setIfInBounds_toArray, List.set_cons_zero, List.set_cons_succ]
  refine wpAnyB_take (i := 1) (v := ?_) false rfl (by kernel_rfl) (by kernel_rfl) (by kernel_rfl) (by kernel_rfl) (by kernel_rfl) (fun _ _ _ h => h) (Or.inl ⟨by rfl, ?_⟩) hM (fun hM2 => ?_)
  rotate_left
  · (intro w hSw; replace hSw := hSw.1; (try dsimp only at hSw); go_simp; try with_reducible rfl)
  replace hM := hM2
  clear hM2
  try simp only [List.getElem_toArray, List.getElem_cons_succ, List.getElem_cons_zero, Act.put, List.setIfInBounds_toArray, List.set_cons_zero, List.set_cons_succ]
  refine wpAnyB_take (i := 3) (v := ?_) false rfl (by kernel_rfl) (by kernel_rfl) (by kernel_rfl) (by kernel_rfl) (by kernel_rfl) (fun _ _ _ h => h) (Or.inl ⟨by rfl, ?_⟩) hM (fun hM2 => ?_)
  rotate_left
  · (intro w hSw; replace hSw := hSw.1; (try dsimp only at hSw); go_simp; try with_reducible rfl)
  replace hM := hM2
  clear hM2
  try simp only [List.getElem_toArray, List.getElem_cons_succ, List.getElem_cons_zero, Act.put, List.setIfInBounds_toArray, List.set_cons_zero, List.set_cons_succ]
  refine wpAnyB_take (i := 4) (v := ?_) false rfl (by kernel_rfl) (by kernel_rfl) (by kernel_rfl) (by kernel_rfl) (by kernel_rfl) (fun _ _ _ h => h) (Or.inl ⟨by rfl, ?_⟩) hM (fun hM2 => ?_)
  rotate_left
  · (intro w hSw; replace hSw := hSw.1; (try dsimp only at hSw); go_simp; try with_reducible rfl)
  replace hM := hM2
  clear hM2
  try simp only [List.getElem_toArray, List.getElem_cons_succ, List.getElem_cons_zero, Act.put, List.setIfInBounds_toArray, List.set_cons_zero, List.set_cons_succ]
  refine wpAnyB_one (i := 2) (by kernel_rfl) rfl (fun K hK => ?_)
  (go_simp; go_at_call 89; refine (Hhcl.out _ hD).mono ?_; rintro e w8 ⟨ao, ca, rfl, -, hO8, hB8⟩; have hB8' : Below W7.heap.size W7 w8 := hD.trans hB8; dsimp only)
  refine hK.out _ _ (meetB.both (hT _ hB8') trivial) (fun hM2 => ?_)
  clear hK K
  replace hM := hM2
  clear hM2
  try simp only [List.getElem_toArray, List.getElem_cons_succ, List.getElem_cons_zero, Act.put, List.setIfInBounds_toArray, List.set_cons_zero, List.set_cons_succ]
  refine wpAnyB_one (i := 5) (by kernel_rfl) rfl (fun K hK => ?_)
  (go_simp; go_at_call 89; refine (Hhcl.out _ hB8').mono ?_; rintro e w9 ⟨bo, cb2, rfl, -, hO9, hB9⟩; have hB9' : Below W7.heap.size W7 w9 := hB8'.trans (hB9.mono hB8'.size); dsimp only)
  refine hK.out _ _ (meetB.both (hT _ hB9') trivial) (fun hM2 => ?_)
  clear hK K
  replace hM := hM2
  clear hM2
  try simp only [List.getElem_toArray, List.getElem_cons_succ, List.getElem_cons_zero, Act.put, List.setIfInBounds_toArray, List.set_cons_zero, List.set_cons_succ]
  refine wpAnyB_take (i := 6) (v := ?_) false rfl (by kernel_rfl) (by kernel_rfl) (by kernel_rfl) (by kernel_rfl) (by kernel_rfl) (fun _ _ _ h => h) (Or.inl ⟨by rfl, ?_⟩) hM (fun hM2 => ?_)
  rotate_left
  · (intro w hSw; replace hSw := hSw.1; (try dsimp only at hSw); go_simp; try with_reducible rfl)
  replace hM := hM2
  clear hM2
  try simp only [List.getElem_toArray, List.getElem_cons_succ, List.getElem_cons_zero, Act.put, List.setIfInBounds_toArray, List.set_cons_zero, List.set_cons_succ]
  refine wpAnyB_take (i := 7) (v := ?_) false rfl (by kernel_rfl) (by kernel_rfl) (by kernel_rfl) (by kernel_rfl) (by kernel_rfl) (fun _ _ _ h => h) (Or.inl ⟨by rfl, ?_⟩) hM (fun hM2 => ?_)
  rotate_left
  · (intro w hSw; replace hSw := hSw.1; (try dsimp only at hSw); go_simp; try with_reducible rfl)
  replace hM := hM2
  clear hM2
  try simp only [List.getElem_toArray, List.getElem_cons_succ, List.getElem_cons_zero, Act.put, List.setIfInBounds_toArray, List.set_cons_zero, List.set_cons_succ]
  refine wpAnyB_done (by kernel_rfl) ?_ _
  obtain ⟨ga, rfl, hga, hRa⟩ := hO8.row (by omega)
  obtain ⟨gb, rfl, hgb, hRb⟩ := hO9.row (by omega)
  replace hRa := hRa.below hB9
  have hab : ga < gb := by
    obtain ⟨g9, e9, -, h9⟩ := hO8.row (by omega)
    obtain rfl : ga = g9 := by simpa using e9
    have := h9.lt
    omega
  have hga7 : W7.heap.size ≤ ga := hga
  have hwga : w.heap.size ≤ ga := Nat.le_trans HB.out.size hga7
  have kf := Hk5.out.below hB9' Hk5.out.lt
  have kT := HkT.out.below hB9' HkT.out.lt
  have hTa : tB ≠ ga ∧ tB ≠ gb := by have := HkT.out.lt; omega
  have HB := Lib.hid (HB.out.trans (hB9'.mono HB.out.size))
  have x0 := kf.cell 0
  have xl := kf.lt
  simp at x0
  clear hM hO8 hO9 hB8 hB8' hB9 hB9' hD hT Hhcl Hk7 hIC y0 yl Hk5 HkT hga hgb hga7 kf
  have HkT := Lib.hid kT
  clear kT
  have Hhys := Lib.hid hys
  clear hys
  go_wp2_with fail
  go_loopw [47] (fun i wr => ∃ (k : Nat) (ya yb : List Int), i = .int .i64 (k : Int) ∧ k ≤ rs.length ∧ Only (fun b => b = ga ∨ b = gb) w9.heap.size w9 wr ∧ RowAt wr ga ca ya ∧ RowAt wr gb cb2 yb ∧ ya.length = rs.length ∧ yb.length = rs.length) (fun i _ => rs.length - (intOf i).toNat)
  case atStart => exact ⟨0, zs, zs, rfl, by omega, Only.refl _ _ _, hRa, hRb, hzl, hzl⟩
  case round =>
    clear hRa hRb x0 xl
    obtain ⟨k, ya, yb, rfl, hk, hO, hRa, hRb, hla, hlb⟩ := hrel
    by_cases hlt : k < rs.length
    · obtain ⟨y, hy1, hy2⟩ := Hhys.out k hlt
      have h27 : 2 ^ rs.length ≤ 2 ^ 7 := Nat.pow_le_pow_right (by decide) hg2
      have hy7 : y < 128 := by omega
      clear h27
      have kT := hO.blk HkT.out HkT.out.lt (fun h => by rcases h with h | h <;> omega)
      have c1 : _ = some (Value.int .i64 (gi ys k)) := (kT.cell k).trans (intRow_get ys k (by omega))
      rw [hy1] at c1
      have cl := kT.lt
      have a1 := hRa.cell k (by omega)
      have a2 := hRa.frozen k
      have al := hRa.lt
      have hLi := fun w' => implListB_any y hy7 w'
      generalize gi ya k = xa at *
      clear kT hy1
      have HhO := Lib.hid hO
      clear hO
      have HhRa := Lib.hid hRa
      clear hRa
      have HhRb := Lib.hid hRb
      clear hRb
      go_upto_region 11 with fail
      generalize bits BinOp.or IntKind.i64 xa (y : Int) = Z at *
      have hRa1 := HhRa.out.store k Z
      have hRb1 := HhRb.out.otherCell (a := ⟨ga, k, none⟩) (v := .int .i64 Z) (by show gb ≠ ga; omega)
      have hO1 := HhO.out.setCell (p := ⟨ga, k, none⟩) (.inl (.inl rfl)) (.int .i64 Z)
      clear c1 cl a1 a2 al HhRa HhRb HhO
      generalize World.setCell _ _ _ = W10 at *
      have hgb10 := hRb1.lt
      have hc7 := cnt_le y
      have HhO1 := Lib.hid hO1
      clear hO1
      have HhRa1 := Lib.hid hRa1
      clear hRa1
      have HhRb1 := Lib.hid hRb1
      clear hRb1
      go_wp2_with fail
      refine (hLi W10).mono ?_
      rintro e w11 ⟨lo, lc, rfl, hB11, hN⟩
      have hRa2 := HhRa1.out.below hB11
      have hRb2 := HhRb1.out.below hB11
      have hO2 := HhO1.out.more hB11 HhO1.out.size
      clear hLi HhO1 HhRa1 HhRb1 hB11
      have HN := Lib.hid hN
      clear hN
      have HhO2 := Lib.hid hO2
      clear hO2
      have HhRa2 := Lib.hid hRa2
      clear hRa2
      go_wp2_with fail
      go_loopw [62] (fun i wr => ∃ (j : Nat) (yb : List Int), i = .int .i64 (j : Int) ∧ j ≤ cnt y ∧ Only (fun b => b = gb) w11.heap.size w11 wr ∧ RowAt wr gb cb2 yb ∧ yb.length = rs.length) (fun i _ => cnt y - (intOf i).toNat)
      case atStart => exact ⟨0, yb, rfl, by omega, Only.refl _ _ _, hRb2, hlb⟩
      case round =>
        clear hRb2 hlb
        obtain ⟨j, yb, rfl, hj, hO3, hRb, hlb⟩ := hrel
        by_cases hjt : j < cnt y
        · obtain ⟨lg, rfl, hlg, hll, hlc⟩ := HN.out (by unfold cnt at hjt; omega)
          have hgl : lg ≠ gb := by omega
          have c1 := (hO3.cell (p := ⟨lg, j, none⟩) hll hgl).trans (hlc j hjt)
          have cl := Nat.lt_of_lt_of_le hll hO3.size
          obtain ⟨hE, -⟩ := els_at hy2 hg2 hjt
          have b1 := hRb.cell (eln (els y) j) (by omega)
          have b2 := hRb.frozen (eln (els y) j)
          have bl := hRb.lt
          generalize eln (els y) j = E at *
          generalize gi yb E = xb at *
          clear hlc
          have HhO3 := Lib.hid hO3
          clear hO3
          have HhRb := Lib.hid hRb
          clear hRb
          go_upto_region 14 with fail
          obtain ⟨m, hm0⟩ : ∃ m : Later wr, m.w = wr := ⟨Later.refl _, rfl⟩
          refine (fun h => hm0 ▸ h) ?_
          clear hm0
          go_still_tail 8, (by kernel_rfl)
          refine wpList_drew_on m fun m => ?_
          go_upto_region 15 with fail
          generalize bits BinOp.or IntKind.i64 xb (pwN k) = Z at *
          have hRb1 := (HhRb.out.below m.below).store E Z
          have hO4 := (HhO3.out.more m.below HhO3.out.size).setCell (p := ⟨gb, E, none⟩) (.inl rfl) (.int .i64 Z)
          clear c1 cl b1 b2 bl HhRb HhO3
          generalize World.setCell _ _ _ = W12 at *
          clear m
          have HhRb1 := Lib.hid hRb1
          clear hRb1
          have HhO4 := Lib.hid hO4
          clear hO4
          go_wp2_with fail
          go_roundw
          case rel => exact ⟨j + 1, yb.set E Z, by go_num, by omega, HhO4.out, HhRb1.out, by rw [List.length_set]; exact hlb⟩
          case measure => simp [intOf]; omega
        · obtain rfl : j = cnt y := by omega
          have hRa3 := HhRa2.out.onlyP hO3 (by show ¬ga = gb; omega)
          have hO4 := HhO2.out.trans (hO3.mono HhO2.out.size fun b _ e => .inr e)
          have HhO4 := Lib.hid hO4
          clear hO4
          have HhRa3 := Lib.hid hRa3
          clear hRa3
          have HhRb := Lib.hid hRb
          clear hRb
          have HhO3 := Lib.hid hO3
          clear hO3
          go_wp2_with fail
          go_roundw
          case rel => exact ⟨k + 1, ya.set k Z, yb, by go_num, by omega, HhO4.out, HhRa3.out, HhRb.out, by rw [List.length_set]; exact hla, hlb⟩
          case measure => simp [intOf]; omega
    · obtain rfl : k = rs.length := by omega
      have h1 := implOrderOf_any ya ga ca rs.length wr hla hg1 hg2 hRa.lt (fun k hk => hRa.cell k (by omega))
      have h2 := fun (w5 : World) (h : Below wr.heap.size wr w5) => implOrderOf_any yb gb cb2 rs.length w5 hlb hg1 hg2 (hRb.below h).lt (fun k hk => (hRb.below h).cell k (by omega))
      have HB2 := Lib.hid (HB.out.trans (hO.below HB.out.size fun b hb e => by rcases e with e | e <;> omega))
      have HH2 := Lib.hid h2
      clear h2 hO hRa hRb
      go_wp2_with fail
      refine h1.mono ?_
      rintro e w5 ⟨ob, rfl, hB5⟩
      have h2 := HH2.out w5 hB5
      have HhB5 := Lib.hid hB5
      clear hB5
      clear h1 HH2
      go_wp2_with fail
      refine h2.mono ?_
      rintro e w6 ⟨ob2, rfl, hB6⟩
      have HhB6 := Lib.hid hB6
      clear hB6
      clear h2
      go_wp2_with fail
      refine bodyPost_ret (v := .tuple #[.slice (some ⟨ob, 0, none⟩) rs.length rs.length, .slice (some ⟨ob2, 0, none⟩) rs.length rs.length, .bool true]) (by simp [results, Tryz.results94, go_sem]) rfl ?_
      exact ⟨_, _, _, _, _, _, rfl, (HB2.out.trans (HhB5.out.mono HB2.out.size)).trans (HhB6.out.mono (Nat.le_trans HB2.out.size HhB5.out.size))⟩

set_option maxRecDepth 100000 in
set_option maxHeartbeats 1000000 in
theorem implIsPerm_any (rs : List Int) (ro : Option Addr) (rc : Nat) (w : World) (hr : IntsAt w ro rs) (hv : isGraphB rs.length rs = true) (hp : noP4 rs) :
    Calls Tryz.prog 37 #[.agg #[.int .i64 rs.length, .slice ro rs.length rc]] w fun e w' => e = .returned (.bool true) ∧ Below w.heap.size w w' := by
  go_enter Tryz.func37, Tryz.ntmps37
  go_wp2_with fail
  generalize hW : w.alloc _ = W1
  obtain ⟨hB, -, k0⟩ := alloc1 hW
  replace hr := hr.below hB
  have hb0 := k0.lt
  have hc0 := k0.cell 0
  have hc1 := k0.cell 1
  simp at hc0 hc1
  clear hW k0
  have HhB := Lib.hid hB
  clear hB
  have h1 := implModel_any rs ro rc W1 hr hv hp
  refine h1.mono ?_
  rintro e w2 ⟨a, b, k, k2, c, c2, rfl, hB2⟩
  have HB := Lib.hid (HhB.out.trans (hB2.mono HhB.out.size))
  clear h1 hB2 HhB
  go_wp2_with fail
  go_ret
  exact ⟨rfl, HB.out⟩

end Go.Proofs.YtjikmjhpmkakoaaGreatDoor
