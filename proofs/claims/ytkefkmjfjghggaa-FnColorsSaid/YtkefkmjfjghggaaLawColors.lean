/-
  FnColors: for every input the law returns true, and its argument reads as it did. No conditions.
-/
import Derived.Test.YtkefkmjfjghggaaDrawL
import Derived.Test.YtkefkmjfjghggaaColR
import Derived.Test.YtkefkmjfjghggaaCoverOfI
import Derived.Test.YtkefkmjfjghggaaCriticalI
import Derived.Test.YtkefkmjfjghggaaCountS
import Derived.Test.YtkefkmjfjghggaaSameL
import Derived.Test.YtkefkmjfjghggaaOpen
import Derived.Deep.CutRange
namespace Go.Proofs.Ytkefkmjfjghggaa.lawColors
open Go.Proofs.Ytkefkmjfjghggaa Go.RowKit

theorem facts (x : Int) (f : List Int) : decide (chromV x f < clqN x f) = false ∧ (chromV x f = -1 ∨ ∃ (k : Nat) (l : List Int), chromV x f = k ∧ 1 ≤ k ∧ k ≤ 7 ∧ isGraphB x f = true ∧ colWith x f k = some l ∧ l.length = f.length ∧ (∀ i, i < f.length → 0 ≤ gi l i ∧ gi l i ≤ 6) ∧ properC f l ∧
    colWith x f ((k : Int) - 1) = none ∧ (k ≤ 4 → 1 ≤ countV x f k) ∧ (1 < k → k ≤ 5 → countV x f ((k : Int) - 1) = 0)) := by
  cases hv : isGraphB x f
  · rw [chrom_no hv, clqN_no hv]
    exact ⟨rfl, .inl rfl⟩
  · obtain ⟨k, l, h1, h2, h3, h4, h5, h6, h7, h8, h9, h10, h11⟩ := col_facts hv
    exact ⟨decide_eq_false (by omega), .inr ⟨k, l, h1, h2, h3, rfl, h5, h6, h7, h8, h9, h10, h11⟩⟩

set_option maxRecDepth 100000 in
set_option maxHeartbeats 16000000 in
theorem law_any (n c : Nat) (bo : Option Addr) (w : World) (hb : BytesU w.heap.size w bo n) (hn : n ≤ 9223372036854775807) :
    Calls Try.prog 3 #[.slice bo n c] w fun e w' => e = .returned (.bool true) ∧ Below w.heap.size w w' := by
  by_cases hbig : 1048576 < n
  · have d0 : decide (1048576 < n) = true := decide_eq_true hbig
    go_enter Try.func3, Try.ntmps3
    go_wp2_with fail
    refine (big_any n c bo w hn).mono ?_
    rintro e w' ⟨rfl, rfl⟩
    go_wp2_with fail
    go_ret
    exact ⟨rfl, Below.refl _ _⟩
  · have d0 : decide (1048576 < n) = false := decide_eq_false hbig
    replace hn : n ≤ 1048576 := by omega
    clear hbig
    go_enter Try.func3, Try.ntmps3
    go_wp2_with fail
    refine (big_any n c bo w (by omega)).mono ?_
    rintro e w' ⟨rfl, rfl⟩
    clear d0
    go_wp2_with fail
    refine (DrawChromaticNumber_any n c bo w hb hn).mono ?_
    rintro e w1 ⟨x, f, g, cap, ⟨hf1, hf7⟩, rfl, hg, hR, hB1⟩
    have hb1 : ∀ w', Below w.heap.size w w' → BytesU w'.heap.size w' bo n := fun w' h => (hb.only (Only.of (X := fun _ => False) h) fun _ _ h => h).mono h.size
    clear hb
    go_wp2_with fail
    generalize hW2 : World.alloc _ _ = W2
    obtain ⟨hB2, hz2, k2⟩ := alloc1 hW2
    have hr := (hR.below hB2).ints
    have hs1 := hB1.size
    have hB : Below w.heap.size w W2 := hB1.trans (hB2.mono hs1)
    have hb0 := k2.lt
    have hc0 := k2.cell 0
    have hc1 := k2.cell 1
    simp at hc0 hc1
    clear hW2 hz2 k2 hB1 hB2 hR hg hf1 hs1
    have hrl : f.length ≤ 1048576 := by omega
    generalize w1.heap.size = yb at *
    obtain ⟨hKQ, hK⟩ := facts x f
    have h1 := fun m : Later W2 => implChrom_any x f (some ⟨g, 0, none⟩) cap m.w (hr.later m) hrl
    have h2 := fun m : Later W2 => specChrom_any x f (some ⟨g, 0, none⟩) cap m.w (hr.later m) hrl
    have h3 := fun m : Later W2 => specClqN_any x f (some ⟨g, 0, none⟩) cap m.w (hr.later m) hrl
    generalize chromV x f = K at *
    generalize clqN x f = Q at *
    have HhB := Lib.hid hB
    clear hB
    have Hhb1 := Lib.hid hb1
    clear hb1
    have HhK := Lib.hid hK
    clear hK
    obtain ⟨m, hm0⟩ : ∃ m : Later W2, m.w = W2 := ⟨Later.refl _, rfl⟩
    refine (fun h => hm0 ▸ h) ?_
    clear hm0
    go_wp2_with fail
    refine (Calls.later m (h1 m)).mono ?_
    rintro e w' ⟨rfl, m, rfl⟩
    go_wp2_with fail
    refine (Calls.later m (h2 m)).mono ?_
    rintro e w' ⟨rfl, m, rfl⟩
    go_wp2_with fail
    refine (Calls.later m (h3 m)).mono ?_
    rintro e w' ⟨rfl, m, rfl⟩
    go_upto_if 40 with fail
    clear h1 h2 h3
    go_cut [5, 6, 7, 8] from 23 to 183 (fun _ _ _ _ wx => ∃ m' : Later W2, wx = m'.w)
    case first =>
      rcases HhK.out with rfl | ⟨k, l, rfl, k1, k7, hv, e1, e2, e3, e4, e5, e6, e7⟩
      · go_wp2_with fail
        go_meet
        case rel => exact ⟨m, rfl⟩
      · clear HhK
        obtain ⟨rfl, gv⟩ := VG.of hv
        have c1 : ∀ m : Later W2, Calls Try.prog 11 #[.agg #[.int .i64 f.length, .slice (some ⟨g, 0, none⟩) f.length cap], .int .i64 k] m.w fun e w' => ∃ ao lc, e = .returned (.tuple #[.slice ao l.length lc, .bool true]) ∧ Below m.w.heap.size m.w w' ∧ IntsAt w' ao l := fun m => by
          have := implColW_any f.length f k (some ⟨g, 0, none⟩) cap m.w (hr.later m) hrl
          rw [e1] at this
          exact this.mono fun e w' ⟨ao, lc, he, hB, hO⟩ => ⟨ao, lc, he, hB, hO.ints⟩
        have c2 : ∀ m : Later W2, Calls Try.prog 11 #[.agg #[.int .i64 f.length, .slice (some ⟨g, 0, none⟩) f.length cap], .int .i64 ((k : Int) - 1)] m.w fun e w' => ∃ ao lc, e = .returned (.tuple #[.slice ao 0 lc, .bool false]) ∧ Below m.w.heap.size m.w w' := fun m => by
          have := implColW_any f.length f ((k : Int) - 1) (some ⟨g, 0, none⟩) cap m.w (hr.later m) hrl
          rw [e5] at this
          exact this.mono fun e w' ⟨ao, lc, he, hB, hO⟩ => ⟨ao, lc, he, hB⟩
        have c3 := fun (m : Later W2) (lo : Option Addr) (lc : Nat) (hl : IntsAt m.w lo l) => implIsColoring_ok f l (some ⟨g, 0, none⟩) lo cap lc m.w (hr.later m) hl hv e2 e3 fun i j hi hj hb => e4 i j (by omega) hj hb
        have c4 := fun m : Later W2 => implCount'_any f.length f k (some ⟨g, 0, none⟩) cap m.w (hr.later m) hrl
        have c5 := fun m : Later W2 => implCount'_any f.length f ((k : Int) - 1) (some ⟨g, 0, none⟩) cap m.w (hr.later m) hrl
        generalize countV f.length f k = C at *
        generalize countV f.length f ((k : Int) - 1) = C' at *
        have HX := Lib.hid e6
        have HY := Lib.hid e7
        clear e1 e2 e3 e4 e5 e6 e7 gv hv
        have hk0 : decide ((0 : Int) < (k : Int)) = true := decide_eq_true (by omega)
        go_wp2_with fail
        refine (c1 m).mono ?_
        rintro e w3 ⟨lo, lc, rfl, hB3, hl⟩
        obtain ⟨m, rfl⟩ : ∃ m2 : Later W2, m2.w = w3 := ⟨m.on hB3, rfl⟩
        clear hB3 c1
        go_wp2_with fail
        refine (c2 m).mono ?_
        rintro e w3 ⟨lo2, lc2, rfl, hB3⟩
        replace hl := hl.below hB3
        obtain ⟨m, rfl⟩ : ∃ m2 : Later W2, m2.w = w3 := ⟨m.on hB3, rfl⟩
        have c3' := c3 m lo lc hl
        clear hB3 c2 c3 hl
        go_wp2_with fail
        refine (Calls.later m (c3')).mono ?_
        rintro e w' ⟨rfl, m, rfl⟩
        clear c3'
        by_cases b4 : k ≤ 4
        · have d4 : decide ((k : Int) ≤ 4) = true := decide_eq_true (by omega)
          have d5 : decide ((k : Int) ≤ 5) = true := decide_eq_true (by omega)
          have dC : decide (C < 1) = false := decide_eq_false (by have := HX.out b4; omega)
          go_wp2_with fail
          refine (Calls.later m (c4 m)).mono ?_
          rintro e w' ⟨rfl, m, rfl⟩
          by_cases b1 : 1 < k
          · have d1 : decide ((1 : Int) < (k : Int)) = true := decide_eq_true (by omega)
            obtain rfl : C' = 0 := HY.out b1 (by omega)
            go_wp2_with fail
            refine (Calls.later m (c5 m)).mono ?_
            rintro e w' ⟨rfl, m, rfl⟩
            go_wp2_with fail
            go_meet
            case rel => exact ⟨m, rfl⟩
          · have d1 : decide ((1 : Int) < (k : Int)) = false := decide_eq_false (by omega)
            go_wp2_with fail
            go_meet
            case rel => exact ⟨m, rfl⟩
        · have d4 : decide ((k : Int) ≤ 4) = false := decide_eq_false (by omega)
          have d1 : decide ((1 : Int) < (k : Int)) = true := decide_eq_true (by omega)
          by_cases b5 : k ≤ 5
          · have d5 : decide ((k : Int) ≤ 5) = true := decide_eq_true (by omega)
            obtain rfl : C' = 0 := HY.out (by omega) b5
            go_wp2_with fail
            refine (Calls.later m (c5 m)).mono ?_
            rintro e w' ⟨rfl, m, rfl⟩
            go_wp2_with fail
            go_meet
            case rel => exact ⟨m, rfl⟩
          · have d5 : decide ((k : Int) ≤ 5) = false := decide_eq_false (by omega)
            go_wp2_with fail
            go_meet
            case rel => exact ⟨m, rfl⟩
    case rest =>
      obtain ⟨m, rfl⟩ := hcut
      clear hKQ HhK hc0 hc1 hb0 hr hrl hf7
      have hA := DrawCliqueCoverOf_any n c bo m.w (Hhb1.out _ (below_later HhB.out m)) hn
      have hBm := below_later HhB.out m
      generalize m.w = W3 at *
      clear m HhB
      go_wp2_with fail
      refine hA.mono ?_
      rintro e w4 ⟨xa, fa, ga, ca, ⟨-, ha7⟩, rfl, -, hRa, hBa⟩
      clear hA
      replace hBm := hBm.trans (hBa.mono hBm.size)
      clear hBa
      go_wp2_with fail
      generalize hW5 : World.alloc _ _ = W5
      obtain ⟨hB5, hz5, k5⟩ := alloc1 hW5
      have hr := (hRa.below hB5).ints
      have hB := hBm.trans (hB5.mono hBm.size)
      have hb0 := k5.lt
      have hc0 := k5.cell 0
      have hc1 := k5.cell 1
      simp at hc0 hc1
      clear hW5 hz5 k5 hB5 hRa hBm
      generalize w4.heap.size = ya at *
      have hrl : fa.length ≤ 1048576 := by omega
      have hcl := coverOf_len xa fa
      have h1 := implCoverOf_any xa fa (some ⟨ga, 0, none⟩) ca W5 hr hrl
      have HhB := Lib.hid hB
      clear hB
      go_wp2_with fail
      refine h1.mono ?_
      rintro e w6 ⟨ao, ac, rfl, hB6, hO⟩
      have ha := hO.ints
      replace hr := hr.below hB6
      have hc0 : w6.cell? ⟨ya, 0, none⟩ = _ := (hB6.cell hb0).trans hc0
      have hc1 : w6.cell? ⟨ya, 1, none⟩ = _ := (hB6.cell hb0).trans hc1
      have hb0 := Nat.lt_of_lt_of_le hb0 hB6.size
      have HhB := Lib.hid (HhB.out.trans (hB6.mono HhB.out.size))
      clear h1 hO hB6
      go_upto_region 14 with fail
      go_cut [116] from 92 to 183 (fun v wx => v = .bool false ∧ ∃ m' : Later w6, wx = m'.w)
      case first =>
        have h2 := fun m : Later w6 => specCoverOf_any xa fa (some ⟨ga, 0, none⟩) ca m.w (hr.later m) hrl
        have h3 := fun m : Later w6 => specIsGraph_any xa fa (some ⟨ga, 0, none⟩) ca m.w (hr.later m) hrl
        have h4 := fun m : Later w6 => implCover_any xa fa (coverOf xa fa) (some ⟨ga, 0, none⟩) ao ca ac m.w (hr.later m) hrl (ha.later m) hcl
        have h5 := fun m : Later w6 => specLargestIndep_any xa fa (some ⟨ga, 0, none⟩) ca m.w (hr.later m) hrl
        have h6 := fun m : Later w6 => specCountSet_any (largestV xa fa fun S => indepB fa.length fa S) m.w
        have hS := fun (m : Later w6) (bo : Option Addr) (bc : Nat) (hb : IntsAt m.w bo (coverOf xa fa)) => lawSameInts_any ao bo (coverOf xa fa) (coverOf xa fa) ac bc m.w (ha.later m) hb (by omega) (by omega)
        have hF : isGraphB xa fa = true → _ := fun h => cover_law h
        simp only [sameInts_refl] at hS
        generalize coverB xa fa (coverOf xa fa) = cB at *
        generalize (largestV xa fa fun S => indepB fa.length fa S) = V at *
        generalize (listOf V).length = N at *
        generalize coverOf xa fa = l at *
        generalize isGraphB xa fa = gB at *
        obtain ⟨m, hm0⟩ : ∃ m : Later w6, m.w = w6 := ⟨Later.refl _, rfl⟩
        refine (fun h => hm0 ▸ h) ?_
        clear hm0
        go_wp2_with fail
        refine (h2 m).mono ?_
        rintro e w7 ⟨so, sc, rfl, hB7, hs⟩
        obtain ⟨m, rfl⟩ : ∃ m2 : Later w6, m2.w = w7 := ⟨m.on hB7, rfl⟩
        have hS' := hS m so sc hs
        clear h2 hB7 hs hS
        go_wp2_with fail
        refine (Calls.later m (hS')).mono ?_
        rintro e w' ⟨rfl, m, rfl⟩
        clear hS'
        go_wp2_with fail
        refine (Calls.later m (h3 m)).mono ?_
        rintro e w' ⟨rfl, m, rfl⟩
        clear h3
        cases gB
        · clear hF
          go_wp2_with fail
          go_meet
          case rel => exact ⟨rfl, m, rfl⟩
        · obtain ⟨rfl, hd⟩ := hF rfl
          clear hF
          go_wp2_with fail
          refine (Calls.later m (h4 m)).mono ?_
          rintro e w' ⟨rfl, m, rfl⟩
          go_wp2_with fail
          refine (Calls.later m (h5 m)).mono ?_
          rintro e w' ⟨rfl, m, rfl⟩
          go_wp2_with fail
          refine (Calls.later m (h6 m)).mono ?_
          rintro e w' ⟨rfl, m, rfl⟩
          go_wp2_with fail
          go_meet
          case rel => exact ⟨congrArg Value.bool (decide_eq_false (by have := of_decide_eq_false hd; omega)), m, rfl⟩
      case rest =>
        obtain ⟨rfl, m, rfl⟩ := hcut
        clear hc0 hc1 hb0 hr ha hrl hcl ha7
        have hBm := below_later HhB.out m
        generalize m.w = W7 at *
        clear m HhB
        have hA := DrawColoringWith_any n c bo W7 (Hhb1.out _ hBm) hn
        go_wp2_with fail
        refine hA.mono ?_
        rintro e w8 ⟨xb, zb, fb, gb, cb, ⟨-, hb7⟩, rfl, -, hRb, hBb⟩
        clear hA
        replace hBm := hBm.trans (hBb.mono hBm.size)
        clear hBb
        go_wp2_with fail
        generalize hW9 : World.alloc _ _ = W9
        obtain ⟨hB9, hz9, k9⟩ := alloc1 hW9
        have hr := (hRb.below hB9).ints
        have hB := hBm.trans (hB9.mono hBm.size)
        have hb0 := k9.lt
        have hc0 := k9.cell 0
        have hc1 := k9.cell 1
        simp at hc0 hc1
        clear hW9 hz9 k9 hB9 hRb hBm
        generalize w8.heap.size = yb9 at *
        have c1 : ∀ m : Later W9, Calls Try.prog 11 #[.agg #[.int .i64 xb, .slice (some ⟨gb, 0, none⟩) fb.length cb], .int .i64 zb] m.w fun e w' => ∃ ao lc, e = .returned (.tuple #[.slice ao ((colWith xb fb zb).getD []).length lc, .bool (colWith xb fb zb).isSome]) ∧ Below m.w.heap.size m.w w' ∧ IntsAt w' ao ((colWith xb fb zb).getD []) := fun m =>
          (implColW_any xb fb zb (some ⟨gb, 0, none⟩) cb m.w (hr.later m) (by omega)).mono fun e w' ⟨ao, lc, he, hB, hO⟩ => ⟨ao, lc, he, hB, hO.ints⟩
        have c2 : ∀ m : Later W9, Calls Try.prog 23 #[.agg #[.int .i64 xb, .slice (some ⟨gb, 0, none⟩) fb.length cb], .int .i64 zb] m.w fun e w' => ∃ ao lc, e = .returned (.tuple #[.slice ao ((colWith xb fb zb).getD []).length lc, .bool (colWith xb fb zb).isSome]) ∧ Below m.w.heap.size m.w w' ∧ IntsAt w' ao ((colWith xb fb zb).getD []) := fun m =>
          specColW_any xb fb zb (some ⟨gb, 0, none⟩) cb m.w (hr.later m) (by omega)
        have hsl := colWith_len xb fb zb
        generalize (colWith xb fb zb).getD [] = sx at *
        generalize (colWith xb fb zb).isSome = sb at *
        have HhB := Lib.hid hB
        clear hB
        obtain ⟨m, hm0⟩ : ∃ m : Later W9, m.w = W9 := ⟨Later.refl _, rfl⟩
        refine (fun h => hm0 ▸ h) ?_
        clear hm0
        go_wp2_with fail
        refine (c1 m).mono ?_
        rintro e w10 ⟨xo, xc, rfl, hB10, hX⟩
        obtain ⟨m, rfl⟩ : ∃ m2 : Later W9, m2.w = w10 := ⟨m.on hB10, rfl⟩
        clear hB10
        go_wp2_with fail
        refine (c2 m).mono ?_
        rintro e w10 ⟨yo, yc, rfl, hB10, hY⟩
        replace hX := hX.below hB10
        obtain ⟨m, rfl⟩ : ∃ m2 : Later W9, m2.w = w10 := ⟨m.on hB10, rfl⟩
        have hBm := below_later HhB.out m
        clear hB10 c1 c2 hc0 hc1 hb0 hr hb7 HhB
        generalize m.w = W10 at *
        clear m
        have hA := DrawIsCliqueCover_any n c bo W10 (Hhb1.out _ hBm) hn
        go_wp2_with fail
        refine hA.mono ?_
        rintro e w11 ⟨xd, fd, ld, gd, cd, lo, lc, ⟨-, hd7⟩, hld, rfl, hRd, hLd, hBd⟩
        clear hA
        replace hX := hX.below hBd
        replace hY := hY.below hBd
        replace hBm := hBm.trans (hBd.mono hBm.size)
        clear hBd
        go_wp2_with fail
        generalize hW12 : World.alloc _ _ = W12
        obtain ⟨hB12, hz12, k12⟩ := alloc1 hW12
        replace hX := hX.below hB12
        replace hY := hY.below hB12
        replace hLd := hLd.below hB12
        have hrd := (hRd.below hB12).ints
        replace hBm := hBm.trans (hB12.mono hBm.size)
        clear hW12 hz12 hB12 hRd
        generalize w11.heap.size = yd at *
        have hA := DrawCountColorings_any n c bo W12 (Hhb1.out _ hBm) hn
        refine hA.mono ?_
        rintro e w13 ⟨xf, zf, ff, gf, cf, ⟨-, hf7⟩, rfl, -, hRf, hBf⟩
        clear hA
        replace hX := hX.below hBf
        replace hY := hY.below hBf
        replace hLd := hLd.below hBf
        replace hrd := hrd.below hBf
        replace k12 := k12.below hBf k12.lt
        replace hBm := hBm.trans (hBf.mono hBm.size)
        clear hBf
        go_wp2_with fail
        generalize hW14 : World.alloc _ _ = W14
        obtain ⟨hB14, hz14, k14⟩ := alloc1 hW14
        replace hX := hX.below hB14
        replace hY := hY.below hB14
        replace hLd := hLd.below hB14
        replace hrd := hrd.below hB14
        replace k12 := k12.below hB14 k12.lt
        have hrf := (hRf.below hB14).ints
        replace hBm := hBm.trans (hB14.mono hBm.size)
        clear hW14 hz14 hB14 hRf
        generalize w13.heap.size = yf at *
        have hA := DrawIsCritical_any n c bo W14 (Hhb1.out _ hBm) hn
        refine hA.mono ?_
        rintro e w15 ⟨xh, zh, fh, gh, ch, ⟨-, hh7⟩, rfl, -, hRh, hBh⟩
        clear hA
        replace hX := hX.below hBh
        replace hY := hY.below hBh
        replace hLd := hLd.below hBh
        replace hrd := hrd.below hBh
        replace k12 := k12.below hBh k12.lt
        replace k14 := k14.below hBh k14.lt
        replace hrf := hrf.below hBh
        replace hBm := hBm.trans (hBh.mono hBm.size)
        clear hBh
        go_wp2_with fail
        generalize hW16 : World.alloc _ _ = W16
        obtain ⟨hB16, hz16, k16⟩ := alloc1 hW16
        replace hX := hX.below hB16
        replace hY := hY.below hB16
        replace hLd := hLd.below hB16
        replace hrd := hrd.below hB16
        replace k12 := k12.below hB16 k12.lt
        replace k14 := k14.below hB16 k14.lt
        replace hrf := hrf.below hB16
        have hrh := (hRh.below hB16).ints
        have HB := Lib.hid (hBm.trans (hB16.mono hBm.size))
        clear hW16 hz16 hB16 hRh hBm Hhb1
        generalize w15.heap.size = yh at *
        have p0 := k12.cell 0
        have p1 := k12.cell 1
        have p4 := k12.lt
        have q0 := k14.cell 0
        have q1 := k14.cell 1
        have q4 := k14.lt
        have r0 := k16.cell 0
        have r1 := k16.cell 1
        have r4 := k16.lt
        simp at p0 p1 q0 q1 r0 r1
        clear k12 k14 k16
        have g1 := fun m : Later W16 => lawSameInts_any xo yo sx sx xc yc m.w (hX.later m) (hY.later m) (by omega) (by omega)
        have g2 := fun m : Later W16 => implCover_any xd fd ld (some ⟨gd, 0, none⟩) lo cd lc m.w (hrd.later m) (by omega) (hLd.later m) hld
        have g3 := fun m : Later W16 => specCover_any xd fd ld (some ⟨gd, 0, none⟩) lo cd lc m.w (hrd.later m) (by omega) (hLd.later m) hld
        have g4 := fun m : Later W16 => implCount'_any xf ff zf (some ⟨gf, 0, none⟩) cf m.w (hrf.later m) (by omega)
        have g5 := fun m : Later W16 => specCount'_any xf ff zf (some ⟨gf, 0, none⟩) cf m.w (hrf.later m) (by omega)
        have g6 := fun m : Later W16 => implCrit_any xh fh zh (some ⟨gh, 0, none⟩) ch m.w (hrh.later m) (by omega)
        have g7 := fun m : Later W16 => specCrit_any xh fh zh (some ⟨gh, 0, none⟩) ch m.w (hrh.later m) (by omega)
        simp only [sameInts_refl] at g1
        generalize coverB xd fd ld = A at *
        generalize countV xf ff zf = B at *
        generalize critB xh fh zh = C at *
        clear hX hY hLd hrd hrf hrh hld hd7 hf7 hh7 hsl
        obtain ⟨m, hm0⟩ : ∃ m : Later W16, m.w = W16 := ⟨Later.refl _, rfl⟩
        refine (fun h => hm0 ▸ h) ?_
        clear hm0
        refine wp_region_later m rfl (by kernel_rfl) (by kernel_rfl) ?_
        repeat (go_big_quiet_step ((first | (go_at_call 16; exact Calls.later _ (g1 _)) | (go_at_call 19; exact Calls.later _ (g2 _)) | (go_at_call 27; exact Calls.later _ (g3 _)) | (go_at_call 13; exact Calls.later _ (g4 _)) | (go_at_call 28; exact Calls.later _ (g5 _)) | (go_at_call 29; exact Calls.later _ (g6 _)) | (go_at_call 30; exact Calls.later _ (g7 _)))))
        refine wpQuiet_nil ?_
        rintro _ ⟨m, rfl⟩
        go_wp2_with fail
        go_ret
        exact ⟨by simp, below_later HB.out m⟩

open Go.ChangeShapes Go.WideShapes Go.ChangeAt

set_option maxRecDepth 100000 in
set_option maxHeartbeats 2000000 in
theorem lifted (os : Os) (started : os.Started) (H : Type) (enc : TypeId × Value → H) :
    ReturnsInHanded {} Try.checked os 3 .any (Rows.fnColorsSpec.pre6 enc Try.prog Try.f3 Rows.fnColorsRow.domain false) (Rows.fnColorsSpec.post enc Try.prog Try.f3 false true false false) := by
  refine returnsInHanded_of_change (C := Try.checked) own started (by kernel_rfl) Try.func3
    (ChangeSpec.witness6 (enc := enc) (C := Try.checked) false ⟨#[], #[.slice none 0 0], []⟩ 8 (by kernel_rfl) (by kernel_rfl) (by kernel_rfl) (by kernel_rfl)) ?_
  intro W base args ds gs before hval0 hW hcnd _
  have hval : ∀ (j : Nat) t v, Try.f3.params[j]? = some t → args[j]? = some v → Value.okWide Try.prog W .any base t v := hval0
  have hW' := hW
  obtain ⟨p, q, hA0, hV, rfl, hfz, hnd⟩ := hW
  have hA : DataW.TrodAll enc Try.prog W 0 (fun _ => true) true Try.f3.params.toList args.toList ds p := hA0
  rw [Try.params3] at hA hval
  obtain ⟨v0, vs0, d0, ds0, p0, q0, hargs, rfl, rfl, h0, r0⟩ := trodAll_cons hA
  obtain ⟨rfl, rfl, rfl⟩ := trodAll_nil r0
  obtain rfl : args = #[v0] := by cases args; simp_all
  obtain ⟨rfl, rfl⟩ := trodVars_none hV
  have k0 := h0
  have lt0 : ∀ x ∈ p0, x.block < W.heap.size := by obtain ⟨m, hm⟩ := k0; exact DataW.trod_lt m _ _ _ hm
  obtain ⟨m, hm⟩ := h0
  obtain ⟨v1, v2, v3, rfl⟩ := okWide_slice Try.underlying22 (hval 0 22 v0 rfl rfl)
  obtain ⟨bo, n, c, e0, hb, hn⟩ := bytes_of_trod hm
  obtain ⟨rfl, rfl, rfl⟩ : v1 = bo ∧ v2 = n ∧ v3 = c := by simpa using e0
  clear hA0 hval0
  refine (law_any _ _ _ W hb hn).mono fun e W' ⟨he, bel⟩ => ?_
  subst he
  exact ⟨_, rfl, _, _, _, [], _, [], hW', trodAll_mk1 (shut_bool Try.underlying4 _), (trodAll_cons_mk (Below.trod laidOut (by kernel_rfl) (of_decide_eq_true (by kernel_rfl)) k0 bel lt0) trodAll_mk0), rfl, bel.frame _, fun h => by cases h⟩

theorem holds : Rows.FnColorsSaid :=
  OpenClaim.holds_of_wide 3 Try.f3 rfl rfl rfl rfl rfl rfl rfl ⟨rfl, rfl, rfl, rfl, rfl⟩ rfl rfl rfl rfl rfl (by kernel_rfl) Try.func3 (by kernel_rfl)
    (of_decide_eq_true (by kernel_rfl)) (by unfold Func.isWrapper; first | (rw [if_pos (by decide +kernel)]; kernel_rfl) | (rw [if_neg (by decide +kernel)]; exact ⟨rfl, rfl⟩))
    (fun os started H enc _ => lifted os started H enc)
#print axioms holds

end Go.Proofs.Ytkefkmjfjghggaa.lawColors
