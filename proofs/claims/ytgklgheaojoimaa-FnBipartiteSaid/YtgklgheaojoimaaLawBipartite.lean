/-
  FnBipartite: for every input the law returns true, and its argument reads as it did. No conditions.
-/
import Derived.Test.YtgklgheaojoimaaDrawM
import Derived.Test.YtgklgheaojoimaaMatchI
import Derived.Test.YtgklgheaojoimaaSidesW
import Derived.Test.YtgklgheaojoimaaOddP
import Derived.Test.YtgklgheaojoimaaPk44
import Derived.Test.YtgklgheaojoimaaOpen
import Derived.Deep.CutRange
namespace Go.Proofs.Ytgklgheaojoimaa.lawBipartite
open Go.Proofs.Ytgklgheaojoimaa Go.RowKit

theorem facts (x : Int) (f : List Int) : (isGraphB x f = false ∧ sidesB x f = false ∧ (oddV x f).isSome = false) ∨ (isGraphB x f = true ∧ sidesB x f = true ∧ (oddV x f).isSome = false) ∨
    (isGraphB x f = true ∧ sidesB x f = false ∧ (oddV x f).isSome = true ∧ oddB x f ((oddV x f).getD []) = true) := by
  cases hv : isGraphB x f
  · exact .inl ⟨rfl, sidesB_no hv, by unfold oddV; rw [hv]; rfl⟩
  · obtain ⟨rfl, g⟩ := VG.of hv
    have h := odd_sides hv
    cases hs : sidesB f.length f
    · rw [hs] at h
      refine .inr (.inr ⟨rfl, rfl, h, ?_⟩)
      cases q : oddV f.length f with
      | none => rw [q] at h; cases h
      | some y => exact oddV_true q
    · rw [hs] at h
      exact .inr (.inl ⟨rfl, rfl, h⟩)
theorem facts2 (x : Int) (f : List Int) : isGraphB x f = true → ∃ C : Nat, C < 128 ∧ fewestV x f (fun S => covB f.length f S) = (C : Int) ∧ covB x f (C : Int) = true ∧ matchB x f (lsOf (bestM (edgesV x f) 0)) = true ∧
    (bestM (edgesV x f) 0).length ≤ cnt C ∧ (sidesB x f = true → (bestM (edgesV x f) 0).length = cnt C) := fun hv => by
  obtain ⟨rfl, g⟩ := VG.of hv
  obtain ⟨C, h1, h2, h3, h4, h5⟩ := match_law hv
  have hp := g.pow.1
  rw [edgesV_of hv]
  have hsub := bestM_sub (edgesTo f f.length) 0
  refine ⟨C, by omega, h2, h3, matchB_ok hv (bestM_ok _ _).1 fun e he => hsub.subset he, h4, fun hs => ?_⟩
  unfold sidesB at hs
  rw [Bool.and_eq_true, Bool.and_eq_true] at hs
  exact h5 _ (sideN_lt f) hs.2.1 hs.2.2

set_option maxRecDepth 100000 in
set_option maxHeartbeats 16000000 in
theorem law_any (n c : Nat) (bo : Option Addr) (w : World) (hb : BytesU w.heap.size w bo n) (hn : n ≤ 9223372036854775807) :
    Calls Try.prog 3 #[.slice bo n c] w fun e w' => e = .returned (.bool true) ∧ Below w.heap.size w w' := by
  by_cases hbig : 1048576 < n
  · have d0 : decide (1048576 < n) = true := decide_eq_true hbig
    go_enter Try.func3, Try.ntmps3
    go_wp2_with fail
    refine (big_any n c bo w hn).mono ?_
    rintro e w' ⟨rfl, rfl⟩
    go_wp2_with fail
    go_ret
    exact ⟨rfl, Below.refl _ _⟩
  · have d0 : decide (1048576 < n) = false := decide_eq_false hbig
    replace hn : n ≤ 1048576 := by omega
    clear hbig
    go_enter Try.func3, Try.ntmps3
    go_wp2_with fail
    refine (big_any n c bo w (by omega)).mono ?_
    rintro e w' ⟨rfl, rfl⟩
    clear d0
    go_wp2_with fail
    refine (DrawSidesOf_any n c bo w hb hn).mono ?_
    rintro e w1 ⟨x, f, g, cap, ⟨hf1, hf7⟩, rfl, hg, hR, hB1⟩
    have hb1 : ∀ w', Below w.heap.size w w' → BytesU w'.heap.size w' bo n := fun w' h => (hb.only (Only.of (X := fun _ => False) h) fun _ _ h => h).mono h.size
    clear hb
    go_wp2_with fail
    generalize hW2 : World.alloc _ _ = W2
    obtain ⟨hB2, hz2, k2⟩ := alloc1 hW2
    have hr := (hR.below hB2).ints
    have hs1 := hB1.size
    have hB : Below w.heap.size w W2 := hB1.trans (hB2.mono hs1)
    have hb0 := k2.lt
    have hc0 := k2.cell 0
    have hc1 := k2.cell 1
    simp at hc0 hc1
    clear hW2 hz2 k2 hB1 hB2 hR hg hf1 hs1
    have hrl : f.length ≤ 1048576 := by omega
    generalize w1.heap.size = yb at *
    have F := facts x f
    have hol := oddV_len x f
    have h1 := fun m : Later W2 => implSides_any x f (some ⟨g, 0, none⟩) cap m.w (hr.later m) hrl
    have h2 := fun m : Later W2 => specSides_any x f (some ⟨g, 0, none⟩) cap m.w (hr.later m) hrl
    have h3 := fun m : Later W2 => implFindOdd_any x f (some ⟨g, 0, none⟩) cap m.w (hr.later m) hrl
    have h4 := fun m : Later W2 => specFindOddC_any x f (some ⟨g, 0, none⟩) cap m.w (hr.later m) hrl
    generalize oddV x f = O at *
    have HhB := Lib.hid hB
    clear hB
    have Hhb1 := Lib.hid hb1
    clear hb1
    have HF := Lib.hid F
    clear F
    obtain ⟨m, hm0⟩ : ∃ m : Later W2, m.w = W2 := ⟨Later.refl _, rfl⟩
    refine (fun h => hm0 ▸ h) ?_
    clear hm0
    go_wp2_with fail
    refine (Calls.later m (h1 m)).mono ?_
    rintro e w' ⟨rfl, m, rfl⟩
    go_wp2_with fail
    refine (Calls.later m (h2 m)).mono ?_
    rintro e w' ⟨rfl, m, rfl⟩
    go_wp2_with fail
    refine (h3 m).mono ?_
    rintro e w3 ⟨lo, lc, rfl, hB3, hL⟩
    have hL := hL.ints
    obtain ⟨m, rfl⟩ : ∃ m2 : Later W2, m2.w = w3 := ⟨m.on hB3, rfl⟩
    clear hB3 h1 h2 h3
    go_wp2_with fail
    refine (h4 m).mono ?_
    rintro e w3 ⟨lo2, lc2, rfl, hB3, hL2, hc2⟩
    replace hL := hL.below hB3
    obtain ⟨m, rfl⟩ : ∃ m2 : Later W2, m2.w = w3 := ⟨m.on hB3, rfl⟩
    clear hB3 h4
    replace hr := hr.later m
    replace hc0 : m.w.cell? _ = _ := (m.cell _ _ hb0).trans hc0
    replace hc1 : m.w.cell? _ = _ := (m.cell _ _ hb0).trans hc1
    replace hb0 := Nat.lt_of_lt_of_le hb0 m.size
    replace HhB := Lib.hid (below_later HhB.out m)
    generalize m.w = W3 at *
    clear m
    obtain ⟨m, hm0⟩ : ∃ m : Later W3, m.w = W3 := ⟨Later.refl _, rfl⟩
    refine (fun h => hm0 ▸ h) ?_
    clear hm0
    have F2 := facts2 x f
    have s1 := fun m : Later W3 => lawSameInts_any lo lo2 (O.getD []) (O.getD []) lc lc2 m.w (hL.later m) (hL2.later m) (by omega) (by omega)
    have s2 := fun m : Later W3 => implBip_any x f (some ⟨g, 0, none⟩) cap m.w (hr.later m) hrl
    have s3 := fun m : Later W3 => specIsGraph_any x f (some ⟨g, 0, none⟩) cap m.w (hr.later m) hrl
    have s4 := fun m : Later W3 => implIsOddCycle_any x f (O.getD []) (some ⟨g, 0, none⟩) lo2 cap lc2 m.w (hr.later m) hrl (hL2.later m) hol hc2
    have s5 : ∀ m : Later W3, Calls Try.prog 16 #[.agg #[.int .i64 x, .slice (some ⟨g, 0, none⟩) f.length cap]] m.w fun e w' => ∃ ao ac, e = .returned (.slice ao (lsOf (bestM (edgesV x f) 0)).length ac) ∧ Below m.w.heap.size m.w w' ∧ RowsAt w' ao (lsOf (bestM (edgesV x f) 0)) := fun m =>
      (implMatchOf_any x f (some ⟨g, 0, none⟩) cap m.w (hr.later m) hrl).mono fun e w' ⟨ao, ac, xs, he, hB, hO, hV⟩ => ⟨some ao, ac, by rw [he, lsOf_len, hV.1], hB, rowsL_of hO hV⟩
    have s6 : ∀ m : Later W3, Calls Try.prog 19 #[.agg #[.int .i64 x, .slice (some ⟨g, 0, none⟩) f.length cap]] m.w fun e w' => ∃ ao ac, e = .returned (.slice ao (lsOf (bestM (edgesV x f) 0)).length ac) ∧ Below m.w.heap.size m.w w' ∧ RowsAt w' ao (lsOf (bestM (edgesV x f) 0)) := fun m =>
      (specMatchOf_any x f (some ⟨g, 0, none⟩) cap m.w (hr.later m) hrl).mono fun e w' ⟨ao, ac, xs, he, hB, hO, hV⟩ => ⟨some ao, ac, by rw [he, lsOf_len, hV.1], hB, rowsL_of hO hV⟩
    have s7 := fun m : Later W3 => implCovOf_any x f (some ⟨g, 0, none⟩) cap m.w (hr.later m) hrl
    have s8 := fun m : Later W3 => specCovOf_any x f (some ⟨g, 0, none⟩) cap m.w (hr.later m) hrl
    have s9 := fun (C : Nat) (m : Later W3) => implIsCov_any x f (C : Int) (some ⟨g, 0, none⟩) cap m.w (hr.later m) hrl
    have s10 := fun (m : Later W3) (ao : Option Addr) (ac : Nat) (h : RowsAt m.w ao (lsOf (bestM (edgesV x f) 0))) => implIsMatch_any x f (lsOf (bestM (edgesV x f) 0)) (some ⟨g, 0, none⟩) ao cap ac m.w (hr.later m) hrl h (by rw [lsOf_len]; exact Nat.le_trans (Nat.le_trans (bestM_len _ _) edgesV_small.2) (by omega))
    simp only [sameInts_refl] at s1
    have hml : (lsOf (bestM (edgesV x f) 0)).length ≤ 49 := by rw [lsOf_len]; exact Nat.le_trans (bestM_len _ _) edgesV_small.2
    have hll : ∀ k, k < (lsOf (bestM (edgesV x f) 0)).length → (rowL (lsOf (bestM (edgesV x f) 0)) k).length ≤ 1048576 := fun k hk => by
      rw [lsOf_len] at hk
      rw [lsOf_at hk]; simp
    rw [← lsOf_len (bestM (edgesV x f) 0)] at F2
    generalize oddB x f (O.getD []) = oB at *
    generalize O.isSome = od at *
    generalize O.getD [] = l at *
    generalize sidesB x f = sB at *
    generalize sidesV x f = sV at *
    generalize isGraphB x f = gB at *
    generalize lsOf (bestM (edgesV x f) 0) = L at *
    generalize matchB x f L = mB at *
    generalize (fewestV x f fun S => covB f.length f S) = V at *
    have HF2 := Lib.hid F2
    have Hll := Lib.hid hll
    clear hll
    have S5 := Lib.hid s5
    have S6 := Lib.hid s6
    have S7 := Lib.hid s7
    have S8 := Lib.hid s8
    have S9 := Lib.hid s9
    have S10 := Lib.hid s10
    have HO2 := Lib.hid hL2
    clear F2 s5 s6 s7 s8 s9 s10 hL hL2
    go_upto_region 8 with fail
    go_cut [86] from 44 to 175 (fun v wx => v = .bool false ∧ ∃ m' : Later W3, wx = m'.w)
    case first =>
      rcases HF.out with ⟨rfl, rfl, rfl⟩ | ⟨rfl, rfl, rfl⟩ | ⟨rfl, rfl, rfl, rfl⟩
      · clear HF
        go_wp2_with fail
        refine (Calls.later m (s1 m)).mono ?_
        rintro e w' ⟨rfl, m, rfl⟩
        go_wp2_with fail
        refine (Calls.later m (s2 m)).mono ?_
        rintro e w' ⟨rfl, m, rfl⟩
        go_wp2_with fail
        refine (Calls.later m (s3 m)).mono ?_
        rintro e w' ⟨rfl, m, rfl⟩
        go_wp2_with fail
        go_meet
        case rel => exact ⟨rfl, m, rfl⟩
      · clear HF
        go_wp2_with fail
        refine (Calls.later m (s1 m)).mono ?_
        rintro e w' ⟨rfl, m, rfl⟩
        go_wp2_with fail
        refine (Calls.later m (s2 m)).mono ?_
        rintro e w' ⟨rfl, m, rfl⟩
        go_wp2_with fail
        refine (Calls.later m (s3 m)).mono ?_
        rintro e w' ⟨rfl, m, rfl⟩
        go_wp2_with fail
        go_meet
        case rel => exact ⟨rfl, m, rfl⟩
      · clear HF
        go_wp2_with fail
        refine (Calls.later m (s1 m)).mono ?_
        rintro e w' ⟨rfl, m, rfl⟩
        go_wp2_with fail
        refine (Calls.later m (s2 m)).mono ?_
        rintro e w' ⟨rfl, m, rfl⟩
        go_wp2_with fail
        refine (Calls.later m (s3 m)).mono ?_
        rintro e w' ⟨rfl, m, rfl⟩
        go_wp2_with fail
        refine (Calls.later m (s4 m)).mono ?_
        rintro e w' ⟨rfl, m, rfl⟩
        go_wp2_with fail
        go_meet
        case rel => exact ⟨rfl, m, rfl⟩
    case rest =>
      obtain ⟨rfl, m, rfl⟩ := hcut
      clear s1 s2 s4
      go_wp2_with fail
      refine (S5.out m).mono ?_
      rintro e w4 ⟨ao, ac, rfl, hB4, hRA⟩
      obtain ⟨m, rfl⟩ : ∃ m2 : Later W3, m2.w = w4 := ⟨m.on hB4, rfl⟩
      clear hB4 S5
      go_wp2_with fail
      refine (S7.out m).mono ?_
      rintro e w9 ⟨rfl, hB9⟩
      replace hRA := hRA.below hB9
      obtain ⟨m, rfl⟩ : ∃ m2 : Later W3, m2.w = w9 := ⟨m.on hB9, rfl⟩
      clear hB9
      clear S7
      go_upto_region 12 with fail
      go_cut [134] from 91 to 175 (fun v wx => v = .bool false ∧ ∃ m' : Later W3, wx = m'.w)
      case first =>
        go_wp2_with fail
        refine (S6.out m).mono ?_
        rintro e w5 ⟨ao2, ac2, rfl, hB5, hRB⟩
        replace hRA := hRA.below hB5
        obtain ⟨m, rfl⟩ : ∃ m2 : Later W3, m2.w = w5 := ⟨m.on hB5, rfl⟩
        clear hB5 S6
        go_wp2_with fail
        refine (sameLists_eq ao ao2 L ac ac2 m.w hRA hRB (by omega) Hll.out).mono ?_
        rintro e w9 ⟨rfl, hB9⟩
        replace hRA := hRA.below hB9
        obtain ⟨m, rfl⟩ : ∃ m2 : Later W3, m2.w = w9 := ⟨m.on hB9, rfl⟩
        clear hB9
        clear hRB
        go_wp2_with fail
        refine (S8.out m).mono ?_
        rintro e w9 ⟨rfl, hB9⟩
        replace hRA := hRA.below hB9
        obtain ⟨m, rfl⟩ : ∃ m2 : Later W3, m2.w = w9 := ⟨m.on hB9, rfl⟩
        clear hB9
        go_wp2_with fail
        refine (s3 m).mono ?_
        rintro e w9 ⟨rfl, hB9⟩
        replace hRA := hRA.below hB9
        obtain ⟨m, rfl⟩ : ∃ m2 : Later W3, m2.w = w9 := ⟨m.on hB9, rfl⟩
        clear hB9
        clear s3 S8
        cases gB
        · clear HF2 HF S9 S10 hRA
          go_wp2_with fail
          go_meet
          case rel => exact ⟨rfl, m, rfl⟩
        · obtain ⟨C, c1, rfl, c3, rfl, c5, c6⟩ := HF2.out rfl
          have hS := S9.out C
          rw [c3] at hS
          have hM := S10.out m ao ac hRA
          clear HF2 HF S9 S10 c3 hRA
          have dC : decide ((cnt C : Int) < (L.length : Int)) = false := decide_eq_false (by omega)
          have dC2 : decide (cnt C < L.length) = false := decide_eq_false (by omega)
          go_wp2_with fail
          refine (Calls.later m (hM)).mono ?_
          rintro e w' ⟨rfl, m, rfl⟩
          go_wp2_with fail
          refine (Calls.later m (hS m)).mono ?_
          rintro e w' ⟨rfl, m, rfl⟩
          go_wp2_with fail
          refine (Calls.later m (specCount_any C c1 _)).mono ?_
          rintro e w' ⟨rfl, m, rfl⟩
          clear c5
          cases sB
          · clear c6
            go_wp2_with fail
            go_meet
            case rel => exact ⟨rfl, m, rfl⟩
          · have dE : ((L.length : Int) != (cnt C : Int)) = false := by rw [c6 rfl]; exact bne_self_eq_false _
            have dE2 : (L.length != cnt C) = false := by rw [c6 rfl]; exact bne_self_eq_false _
            clear c6
            go_wp2_with fail
            refine (Calls.later m (specCount_any C c1 _)).mono ?_
            rintro e w' ⟨rfl, m, rfl⟩
            go_wp2_with fail
            go_meet
            case rel => exact ⟨rfl, m, rfl⟩
      case rest =>
        obtain ⟨rfl, m, rfl⟩ := hcut
        clear hc0 hc1 hb0 hr hrl hf7 s3 S6 S8 S9 S10 HF HF2 Hll HO2 hol hml hc2 hRA
        have hBm := below_later HhB.out m
        generalize m.w = W7 at *
        clear m HhB
        have hA := DrawIsOddCycle_any n c bo W7 (Hhb1.out _ hBm) hn
        go_wp2_with fail
        refine hA.mono ?_
        rintro e w8 ⟨xb, fb, lb, gb, cb, lob, lcb, ⟨-, hb7⟩, hlb, hlcb, rfl, hRb, hLb, hBb⟩
        clear hA
        replace hBm := hBm.trans (hBb.mono hBm.size)
        clear hBb
        go_wp2_with fail
        generalize hW9 : World.alloc _ _ = W9
        obtain ⟨hB9, hz9, k9⟩ := alloc1 hW9
        have hrb := (hRb.below hB9).ints
        replace hLb := hLb.below hB9
        replace hBm := hBm.trans (hB9.mono hBm.size)
        clear hW9 hz9 hB9 hRb
        generalize w8.heap.size = yb9 at *
        have hA := DrawIsMatching_any n c bo W9 (Hhb1.out _ hBm) hn
        refine hA.mono ?_
        rintro e w10 ⟨xd, fd, ld, gd, cd, lod, lcd, ⟨-, hd7⟩, hld, rfl, hRd, hLd, hBd⟩
        clear hA
        replace hLb := hLb.below hBd
        replace hrb := hrb.below hBd
        replace k9 := k9.below hBd k9.lt
        replace hBm := hBm.trans (hBd.mono hBm.size)
        clear hBd
        go_wp2_with fail
        generalize hW11 : World.alloc _ _ = W11
        obtain ⟨hB11, hz11, k11⟩ := alloc1 hW11
        replace hLb := hLb.below hB11
        replace hrb := hrb.below hB11
        replace k9 := k9.below hB11 k9.lt
        replace hLd := hLd.below hB11
        have hrd := (hRd.below hB11).ints
        replace hBm := hBm.trans (hB11.mono hBm.size)
        clear hW11 hz11 hB11 hRd
        generalize w10.heap.size = yd at *
        have hA := DrawIsCover_any n c bo W11 (Hhb1.out _ hBm) hn
        refine hA.mono ?_
        rintro e w12 ⟨xf, zf, ff, gf, cf, ⟨-, hf7⟩, rfl, -, hRf, hBf⟩
        clear hA
        replace hLb := hLb.below hBf
        replace hrb := hrb.below hBf
        replace k9 := k9.below hBf k9.lt
        replace hLd := hLd.below hBf
        replace hrd := hrd.below hBf
        replace k11 := k11.below hBf k11.lt
        replace hBm := hBm.trans (hBf.mono hBm.size)
        clear hBf
        go_wp2_with fail
        generalize hW13 : World.alloc _ _ = W13
        obtain ⟨hB13, hz13, k13⟩ := alloc1 hW13
        replace hLb := hLb.below hB13
        replace hrb := hrb.below hB13
        replace k9 := k9.below hB13 k9.lt
        replace hLd := hLd.below hB13
        replace hrd := hrd.below hB13
        replace k11 := k11.below hB13 k11.lt
        have hrf := (hRf.below hB13).ints
        have HB := Lib.hid (hBm.trans (hB13.mono hBm.size))
        clear hW13 hz13 hB13 hRf hBm Hhb1
        generalize w12.heap.size = yf at *
        have p0 := k9.cell 0
        have p1 := k9.cell 1
        have p4 := k9.lt
        have q0 := k11.cell 0
        have q1 := k11.cell 1
        have q4 := k11.lt
        have r0 := k13.cell 0
        have r1 := k13.cell 1
        have r4 := k13.lt
        simp at p0 p1 q0 q1 r0 r1
        clear k9 k11 k13
        have g2 := fun m : Later W13 => implIsOddCycle_any xb fb lb (some ⟨gb, 0, none⟩) lob cb lcb m.w (hrb.later m) (by omega) (hLb.later m) hlb hlcb
        have g3 := fun m : Later W13 => specIsOddCycle_any xb fb lb (some ⟨gb, 0, none⟩) lob cb lcb m.w (hrb.later m) (by omega) (hLb.later m) hlb
        have g4 := fun m : Later W13 => implIsMatch_any xd fd ld (some ⟨gd, 0, none⟩) lod cd lcd m.w (hrd.later m) (by omega) (hLd.later m) hld
        have g5 := fun m : Later W13 => specIsMatch_any xd fd ld (some ⟨gd, 0, none⟩) lod cd lcd m.w (hrd.later m) (by omega) (hLd.later m) hld
        have g6 := fun m : Later W13 => implIsCov_any xf ff zf (some ⟨gf, 0, none⟩) cf m.w (hrf.later m) (by omega)
        have g7 := fun m : Later W13 => specIsCov_any xf ff zf (some ⟨gf, 0, none⟩) cf m.w (hrf.later m) (by omega)
        generalize oddB xb fb lb = A at *
        generalize matchB xd fd ld = B at *
        generalize covB xf ff zf = C at *
        clear hLb hLd hrb hrd hrf hlb hld hlcb hd7 hf7 hb7
        obtain ⟨m, hm0⟩ : ∃ m : Later W13, m.w = W13 := ⟨Later.refl _, rfl⟩
        refine (fun h => hm0 ▸ h) ?_
        clear hm0
        refine wp_region_later m rfl (by kernel_rfl) (by kernel_rfl) ?_
        repeat (go_big_quiet_step ((first | (go_at_call 15; exact Calls.later _ (g2 _)) | (go_at_call 27; exact Calls.later _ (g3 _)) | (go_at_call 21; exact Calls.later _ (g4 _)) | (go_at_call 28; exact Calls.later _ (g5 _)) | (go_at_call 22; exact Calls.later _ (g6 _)) | (go_at_call 29; exact Calls.later _ (g7 _)))))
        refine wpQuiet_nil ?_
        rintro _ ⟨m, rfl⟩
        go_wp2_with fail
        go_ret
        exact ⟨by simp, below_later HB.out m⟩

open Go.ChangeShapes Go.WideShapes Go.ChangeAt

set_option maxRecDepth 100000 in
set_option maxHeartbeats 2000000 in
theorem lifted (os : Os) (started : os.Started) (H : Type) (enc : TypeId × Value → H) :
    ReturnsInHanded {} Try.checked os 3 .any (Rows.fnBipartiteSpec.pre6 enc Try.prog Try.f3 Rows.fnBipartiteRow.domain false) (Rows.fnBipartiteSpec.post enc Try.prog Try.f3 false true false false) := by
  refine returnsInHanded_of_change (C := Try.checked) own started (by kernel_rfl) Try.func3
    (ChangeSpec.witness6 (enc := enc) (C := Try.checked) false ⟨#[], #[.slice none 0 0], []⟩ 8 (by kernel_rfl) (by kernel_rfl) (by kernel_rfl) (by kernel_rfl)) ?_
  intro W base args ds gs before hval0 hW hcnd _
  have hval : ∀ (j : Nat) t v, Try.f3.params[j]? = some t → args[j]? = some v → Value.okWide Try.prog W .any base t v := hval0
  have hW' := hW
  obtain ⟨p, q, hA0, hV, rfl, hfz, hnd⟩ := hW
  have hA : DataW.TrodAll enc Try.prog W 0 (fun _ => true) true Try.f3.params.toList args.toList ds p := hA0
  rw [Try.params3] at hA hval
  obtain ⟨v0, vs0, d0, ds0, p0, q0, hargs, rfl, rfl, h0, r0⟩ := trodAll_cons hA
  obtain ⟨rfl, rfl, rfl⟩ := trodAll_nil r0
  obtain rfl : args = #[v0] := by cases args; simp_all
  obtain ⟨rfl, rfl⟩ := trodVars_none hV
  have k0 := h0
  have lt0 : ∀ x ∈ p0, x.block < W.heap.size := by obtain ⟨m, hm⟩ := k0; exact DataW.trod_lt m _ _ _ hm
  obtain ⟨m, hm⟩ := h0
  obtain ⟨v1, v2, v3, rfl⟩ := okWide_slice Try.underlying22 (hval 0 22 v0 rfl rfl)
  obtain ⟨bo, n, c, e0, hb, hn⟩ := bytes_of_trod hm
  obtain ⟨rfl, rfl, rfl⟩ : v1 = bo ∧ v2 = n ∧ v3 = c := by simpa using e0
  clear hA0 hval0
  refine (law_any _ _ _ W hb hn).mono fun e W' ⟨he, bel⟩ => ?_
  subst he
  exact ⟨_, rfl, _, _, _, [], _, [], hW', trodAll_mk1 (shut_bool Try.underlying4 _), (trodAll_cons_mk (Below.trod laidOut (by kernel_rfl) (of_decide_eq_true (by kernel_rfl)) k0 bel lt0) trodAll_mk0), rfl, bel.frame _, fun h => by cases h⟩

theorem holds : Rows.FnBipartiteSaid :=
  OpenClaim.holds_of_wide 3 Try.f3 rfl rfl rfl rfl rfl rfl rfl ⟨rfl, rfl, rfl, rfl, rfl⟩ rfl rfl rfl rfl rfl (by kernel_rfl) Try.func3 (by kernel_rfl)
    (of_decide_eq_true (by kernel_rfl)) (by unfold Func.isWrapper; first | (rw [if_pos (by decide +kernel)]; kernel_rfl) | (rw [if_neg (by decide +kernel)]; exact ⟨rfl, rfl⟩))
    (fun os started H enc _ => lifted os started H enc)
#print axioms holds

end Go.Proofs.Ytgklgheaojoimaa.lawBipartite
