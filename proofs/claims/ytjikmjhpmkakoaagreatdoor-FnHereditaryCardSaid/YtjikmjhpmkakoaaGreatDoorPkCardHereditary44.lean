/-
  FnHereditary: for every input the law returns true, and its argument reads as it did. No conditions.
-/
import Derived.Test.YtjikmjhpmkakoaaGreatDoorPkCardHereditary27
import Derived.Test.YtjikmjhpmkakoaaGreatDoorPkCardHereditary37
import Derived.Test.YtjikmjhpmkakoaaGreatDoorPkCardHereditary39
import Derived.Test.YtjikmjhpmkakoaaGreatDoorPkCardHereditary41
import Derived.Test.YtjikmjhpmkakoaaGreatDoorPkCardHereditary40
import Derived.Test.YtjikmjhpmkakoaaGreatDoorPkCardHereditary43
import Derived.Test.YtjikmjhpmkakoaaGreatDoorPkCardHereditary09
import Derived.Deep.RegionHeld3
import Derived.Deep.CutRange
namespace Go.Proofs.YtjikmjhpmkakoaaGreatDoor.lawHereditary
open Go.Proofs.YtjikmjhpmkakoaaGreatDoor Go.RowKit

set_option maxRecDepth 100000 in
set_option maxHeartbeats 16000000 in
theorem law_any (n c : Nat) (bo : Option Addr) (w : World) (hb : BytesU w.heap.size w bo n) (hn : n ≤ 9223372036854775807) :
    Calls Tryz.prog 3 #[.slice bo n c] w fun e w' => e = .returned (.bool true) ∧ Below w.heap.size w w' := by
  by_cases hbig : 1048576 < n
  · have d0 : decide (1048576 < n) = true := decide_eq_true hbig
    go_enter Tryz.func3, Tryz.ntmps3
    go_wp2_with fail
    refine (big_any n c bo w hn).mono ?_
    rintro e w' ⟨rfl, rfl⟩
    go_wp2_with fail
    go_ret
    exact ⟨rfl, Below.refl _ _⟩
  · have d0 : decide (1048576 < n) = false := decide_eq_false hbig
    replace hn : n ≤ 1048576 := by omega
    clear hbig
    go_enter Tryz.func3, Tryz.ntmps3
    go_wp2_with fail
    refine (big_any n c bo w (by omega)).mono ?_
    rintro e w' ⟨rfl, rfl⟩
    clear d0
    go_wp2_with fail
    refine (DrawPruneOrder_any n c bo w hb hn).mono ?_
    rintro e w1 ⟨x, f, g, cap, ⟨hf1, hf6⟩, rfl, hg, hR, hB1⟩
    have hb1 : ∀ w', Below w.heap.size w w' → BytesU w'.heap.size w' bo n := fun w' h => (hb.only (Only.of (X := fun _ => False) h) fun _ _ h => h).mono h.size
    clear hb
    go_wp2_with fail
    generalize hW2 : World.alloc _ _ = W2
    obtain ⟨hB2, hz2, k2⟩ := alloc1 hW2
    have hr := (hR.below hB2).ints
    have hs1 := hB1.size
    have hB : Below w.heap.size w W2 := hB1.trans (hB2.mono hs1)
    have hb0 := k2.lt
    have hc0 := k2.cell 0
    have hc1 := k2.cell 1
    simp at hc0 hc1
    clear hW2 hz2 k2 hB1 hB2 hR hg hf1 hs1
    have hrl : f.length ≤ 1048576 := by omega
    generalize w1.heap.size = yb at *
    have F := her_facts x f hf6
    have G := her_put x f
    have hpl := prunesV_len x f
    have h1 := fun m : Later W2 => implPrunes_ret x f (some ⟨g, 0, none⟩) cap m.w (hr.later m) hrl
    have h2 := fun m : Later W2 => specPrunes_ret x f (some ⟨g, 0, none⟩) cap m.w (hr.later m) hrl
    have h3 := fun m : Later W2 => implStretch_any x f (some ⟨g, 0, none⟩) cap m.w (hr.later m) hrl
    have h4 := fun m : Later W2 => specStretch_any x f (some ⟨g, 0, none⟩) cap m.w (hr.later m) hrl
    have H5 := Lib.hid (fun (w' : World) (h : IntsAt w' (some ⟨g, 0, none⟩) f) => implHered_any x f (some ⟨g, 0, none⟩) cap w' h hrl)
    have H6 := Lib.hid (fun (w' : World) (h : IntsAt w' (some ⟨g, 0, none⟩) f) => specIsGraph_any x f (some ⟨g, 0, none⟩) cap w' h hrl)
    have H7 := Lib.hid (fun (w' : World) (h : IntsAt w' (some ⟨g, 0, none⟩) f) => implKeeps_any x f (leastI (strO x f)) (some ⟨g, 0, none⟩) cap w' h hrl)
    generalize hQ : prunesV x f = Q at *
    generalize leastI (strO x f) = bi at *
    generalize (strO x f).isSome = bs at *
    generalize keepB x f bi = kb at *
    generalize hP : Q.isSome = P at *
    generalize Q.getD [] = R at *
    generalize isGraphB x f = gB at *
    clear hP hQ hf6
    have HhB := Lib.hid hB
    clear hB
    have Hhb1 := Lib.hid hb1
    clear hb1
    have HF := Lib.hid F
    clear F
    have HG := Lib.hid G
    clear G
    obtain ⟨m, hm0⟩ : ∃ m : Later W2, m.w = W2 := ⟨Later.refl _, rfl⟩
    refine (fun h => hm0 ▸ h) ?_
    clear hm0
    go_wp2_with fail
    refine (h1 m).mono ?_
    rintro e w3 ⟨lo, lc, rfl, hB3, hL⟩
    replace hL := hL.ints
    obtain ⟨m, rfl⟩ : ∃ m2 : Later W2, m2.w = w3 := ⟨m.on hB3, rfl⟩
    clear hB3 h1
    go_wp2_with fail
    refine (h2 m).mono ?_
    rintro e w3 ⟨lo2, lc2, rfl, hB3, hL2⟩
    replace hL2 := hL2.ints
    replace hL := hL.below hB3
    obtain ⟨m, rfl⟩ : ∃ m2 : Later W2, m2.w = w3 := ⟨m.on hB3, rfl⟩
    clear hB3 h2
    go_wp2_with fail
    refine (h3 m).mono ?_
    rintro e w3 ⟨rfl, hB3⟩
    replace hL := hL.below hB3
    replace hL2 := hL2.below hB3
    obtain ⟨m, rfl⟩ : ∃ m2 : Later W2, m2.w = w3 := ⟨m.on hB3, rfl⟩
    clear hB3 h3
    go_wp2_with fail
    refine (h4 m).mono ?_
    rintro e w3 ⟨rfl, hB3⟩
    replace hL := hL.below hB3
    replace hL2 := hL2.below hB3
    obtain ⟨m, rfl⟩ : ∃ m2 : Later W2, m2.w = w3 := ⟨m.on hB3, rfl⟩
    clear hB3 h4
    replace hr := hr.later m
    replace hc0 : m.w.cell? _ = _ := (m.cell _ _ hb0).trans hc0
    replace hc1 : m.w.cell? _ = _ := (m.cell _ _ hb0).trans hc1
    replace hb0 := Nat.lt_of_lt_of_le hb0 m.size
    replace HhB := Lib.hid (below_later HhB.out m)
    generalize m.w = W3 at *
    clear m
    obtain ⟨m, hm0⟩ : ∃ m : Later W3, m.w = W3 := ⟨Later.refl _, rfl⟩
    refine (fun h => hm0 ▸ h) ?_
    clear hm0
    have s5 := fun m : Later W3 => H5.out m.w (hr.later m)
    have s6 := fun m : Later W3 => H6.out m.w (hr.later m)
    have s7 := fun m : Later W3 => H7.out m.w (hr.later m)
    clear H5 H6 H7
    go_upto_region 8 with fail
    go_cut [88] from 46 to 167 (fun v wx => v = .bool false ∧ ∃ m' : Later W3, wx = m'.w)
    case first =>
      rcases HF.out with ⟨rfl, rfl, rfl⟩ | ⟨rfl, rfl, rfl⟩ | ⟨rfl, rfl, rfl, rfl⟩
      · go_wp2_with fail
        refine (Calls.later m (s5 m)).mono ?_
        rintro e w' ⟨rfl, m, rfl⟩
        go_wp2_with fail
        refine (Calls.later m (s6 m)).mono ?_
        rintro e w' ⟨rfl, m, rfl⟩
        go_wp2_with fail
        go_meet
        case rel => exact ⟨rfl, m, rfl⟩
      · go_wp2_with fail
        refine (Calls.later m (s5 m)).mono ?_
        rintro e w' ⟨rfl, m, rfl⟩
        go_wp2_with fail
        refine (Calls.later m (s6 m)).mono ?_
        rintro e w' ⟨rfl, m, rfl⟩
        go_wp2_with fail
        go_meet
        case rel => exact ⟨rfl, m, rfl⟩
      · go_wp2_with fail
        refine (Calls.later m (s5 m)).mono ?_
        rintro e w' ⟨rfl, m, rfl⟩
        go_wp2_with fail
        refine (Calls.later m (s6 m)).mono ?_
        rintro e w' ⟨rfl, m, rfl⟩
        go_wp2_with fail
        refine (Calls.later m (s7 m)).mono ?_
        rintro e w' ⟨rfl, m, rfl⟩
        go_wp2_with fail
        go_meet
        case rel => exact ⟨rfl, m, rfl⟩
    case rest =>
      obtain ⟨rfl, m, rfl⟩ := hcut
      clear s5 s6 s7 HF
      go_wp2_with fail
      have hlp := flatP_len R
      have Hhlp := Lib.hid hlp
      clear hlp
      go_loopw [12] (fun i wr => (∃ m : Later W3, wr = m.w) ∧ ∃ k : Nat, k ≤ R.length ∧ i = .int .i64 k) (fun i _ => R.length - (intOf i).toNat)
      case atStart => exact ⟨⟨m, rfl⟩, 0, by omega, rfl⟩
      case round =>
        obtain ⟨⟨m, rfl⟩, k, hk, rfl⟩ := hrel
        by_cases hlt : k < R.length
        · have hlp := Hhlp.out
          obtain ⟨b, off, rfl, hb1, hc⟩ := hL (by omega)
          obtain ⟨b2, off2, rfl, hb2, hc2⟩ := hL2 (by omega)
          have x0 := hc (k * 3) (by omega)
          have x1 := hc (k * 3 + 1) (by omega)
          have x2 := hc (k * 3 + 2) (by omega)
          have y0 := hc2 (k * 3) (by omega)
          have y1 := hc2 (k * 3 + 1) (by omega)
          have y2 := hc2 (k * 3 + 2) (by omega)
          rw [← Nat.add_assoc] at x1 x2 y1 y2
          clear hc hc2 hlp
          generalize gi (flatP R) (k * 3) = X at *
          generalize gi (flatP R) (k * 3 + 1) = Y at *
          generalize gi (flatP R) (k * 3 + 2) = Z at *
          go_wp2_with fail
          refine wp_region_later m rfl (by kernel_rfl) (by kernel_rfl) ?_
          repeat (go_big_quiet_step (fail))
          refine wpQuiet_nil ?_
          rintro _ ⟨m, rfl⟩
          go_wp2_with fail
          go_roundw
          case rel => exact ⟨⟨m, rfl⟩, k + 1, by omega, by go_num⟩
          case measure => simp [intOf]; omega
        · go_upto_if 104 with fail
          go_cut [13, 14] from 105 to 167 (fun _ _ wx => ∃ m' : Later W3, wx = m'.w)
          case first =>
            cases P
            · go_wp2_with fail
              go_meet
              case rel => exact ⟨m, rfl⟩
            · obtain ⟨rfl, hput⟩ := HG.out rfl
              have t1 := implPut_any (flatP R) R.length lo2 lc2 m.w (hL2.later m) Hhlp.out hpl
              rw [hput] at t1
              simp only [Option.getD_some, Option.isSome_some] at t1
              clear hput HG hlt hk
              go_wp2_with fail
              refine t1.mono ?_
              rintro e w4 ⟨ao, cp, rfl, hB4, hO⟩
              replace hO := hO.ints
              obtain ⟨m, rfl⟩ : ∃ m2 : Later W3, m2.w = w4 := ⟨m.on hB4, rfl⟩
              clear hB4 t1
              go_upto_region 17 with fail
              generalize hW5 : World.alloc _ _ = W5
              obtain ⟨hB5, hz5, k5⟩ := alloc1 hW5
              have hBm5 := below_more m.below hB5
              have x0 := (hBm5.cell (p := ⟨yb, 0, none⟩) hb0).trans hc0
              have x1 := (hBm5.cell (p := ⟨yb, 1, none⟩) hb0).trans hc1
              have x4 := Nat.lt_of_lt_of_le hb0 hBm5.size
              have q1 := fun m : Later W5 => specEqG_any f.length f ao (some ⟨g, 0, none⟩) cp cap m.w ((hO.below hB5).later m) ((hr.below hBm5).later m) hrl
              have y0 := k5.cell 0
              have y1 := k5.cell 1
              have y4 := k5.lt
              simp at y0 y1
              have hfin : ∀ m' : Later W5, ∃ m2 : Later W3, m'.w = m2.w := fun m' => ⟨⟨m'.w, hBm5.trans (m'.below.mono hBm5.size)⟩, rfl⟩
              have HF5 := Lib.hid hfin
              generalize m.w.heap.size = yh at *
              clear hW5 hz5 hB5 hBm5 hO k5 hc0 hc1 hb0 hfin hr hL hL2 m
              obtain ⟨m, hm0⟩ : ∃ m : Later W5, m.w = W5 := ⟨Later.refl _, rfl⟩
              refine (fun h => hm0 ▸ h) ?_
              clear hm0
              go_wp2_with fail
              refine (Calls.later m (q1 m)).mono ?_
              rintro e w' ⟨rfl, m, rfl⟩
              go_wp2_with fail
              go_meet
              case rel => exact HF5.out m
          case rest =>
            obtain ⟨m, rfl⟩ := hcut
            clear hc0 hc1 hb0 hr hL hL2 HG Hhlp hk hlt hpl hrl
            have hBm := below_later HhB.out m
            generalize m.w = W7 at *
            clear m HhB
            have hA := DrawGraphOfPrunes_any n c bo W7 (Hhb1.out _ hBm) hn
            go_wp2_with fail
            refine hA.mono ?_
            rintro e w8 ⟨l, K, lo3, lc3, ⟨hl, hK⟩, rfl, hI, hB8⟩
            clear hA
            replace hBm := hBm.trans (hB8.mono hBm.size)
            clear hB8
            have t1 := implPut_any l K lo3 lc3 w8 hI hl (by omega)
            have t2 := fun (w' : World) (h : Below w8.heap.size w8 w') => specPut_any l K lo3 lc3 w' (hI.below h) hl (by omega)
            obtain ⟨hq6, hqh⟩ := her_back l K hK
            generalize (putV l K).getD [] = R2 at *
            generalize (putV l K).isSome = ok at *
            have HhBm := Lib.hid hBm
            clear hBm
            have HhI := Lib.hid hI
            clear hI
            have Hhl := Lib.hid hl
            clear hl
            have Hhqh := Lib.hid hqh
            clear hqh
            have T2 := Lib.hid t2
            clear t2
            go_wp2_with fail
            refine t1.mono ?_
            rintro e w9 ⟨ao, c3, rfl, hB9, hO⟩
            replace hO := hO.ints
            replace hI := HhI.out.below hB9
            have hBm := HhBm.out.trans (hB9.mono HhBm.out.size)
            clear t1 HhI HhBm
            go_upto_region 21 with fail
            generalize hW10 : World.alloc _ _ = W10
            obtain ⟨hB10, hz10, k10⟩ := alloc1 hW10
            have t3 := T2.out W10 (below_more hB9 hB10)
            replace hO := hO.below hB10
            replace hI := hI.below hB10
            replace hBm := hBm.trans (hB10.mono hBm.size)
            clear hW10 hz10 hB10 hB9 T2
            generalize w9.heap.size = ya at *
            have HhBm := Lib.hid hBm
            clear hBm
            have HhI := Lib.hid hI
            clear hI
            have HhO := Lib.hid hO
            clear hO
            have Hk10 := Lib.hid k10
            clear k10
            go_wp2_with fail
            refine t3.mono ?_
            rintro e w11 ⟨ao2, c4, rfl, hB11, hO2⟩
            replace hO2 := hO2.ints
            have hO := HhO.out.below hB11
            have hI := HhI.out.below hB11
            have hBm := HhBm.out.trans (hB11.mono HhBm.out.size)
            have k10 := Hk10.out.below hB11 Hk10.out.lt
            clear t3 HhI HhBm HhO Hk10 hB11
            go_upto_region 22 with fail
            generalize hW12 : World.alloc _ _ = W12
            obtain ⟨hB12, hz12, k12⟩ := alloc1 hW12
            replace hO := hO.below hB12
            replace hO2 := hO2.below hB12
            replace hI := hI.below hB12
            replace k10 := k10.below hB12 k10.lt
            replace hBm := hBm.trans (hB12.mono hBm.size)
            clear hW12 hz12 hB12
            generalize w11.heap.size = yc at *
            have hA := DrawKeepsDistances_any n c bo W12 (Hhb1.out _ hBm) hn
            have HhBm := Lib.hid hBm
            clear hBm
            have HhI := Lib.hid hI
            clear hI
            have HhO := Lib.hid hO
            clear hO
            have HhO2 := Lib.hid hO2
            clear hO2
            have Hk10 := Lib.hid k10
            clear k10
            have Hk12 := Lib.hid k12
            clear k12
            go_wp2_with fail
            refine hA.mono ?_
            rintro e w13 ⟨xd, z, fd, gd, cd, ⟨-, hd6⟩, rfl, -, hRd, hB13⟩
            clear hA
            have hO := HhO.out.below hB13
            have hO2 := HhO2.out.below hB13
            have hI := HhI.out.below hB13
            have hBm := HhBm.out.trans (hB13.mono HhBm.out.size)
            have k10 := Hk10.out.below hB13 Hk10.out.lt
            have k12 := Hk12.out.below hB13 Hk12.out.lt
            clear hB13 HhI HhBm HhO HhO2 Hk10 Hk12 Hhb1
            go_upto_region 23 with fail
            generalize hW14 : World.alloc _ _ = W14
            obtain ⟨hB14, hz14, k14⟩ := alloc1 hW14
            replace hO := hO.below hB14
            replace hO2 := hO2.below hB14
            replace hI := hI.below hB14
            have hrd := (hRd.below hB14).ints
            replace k10 := k10.below hB14 k10.lt
            replace k12 := k12.below hB14 k12.lt
            replace hBm := hBm.trans (hB14.mono hBm.size)
            clear hW14 hz14 hB14 hRd
            generalize w13.heap.size = yd at *
            have HB := Lib.hid hBm
            have m0 := k10.cell 0
            have m1 := k10.cell 1
            have m4 := k10.lt
            have n0 := k12.cell 0
            have n1 := k12.cell 1
            have n4 := k12.lt
            have o0 := k14.cell 0
            have o1 := k14.cell 1
            have o4 := k14.lt
            simp at m0 m1 n0 n1 o0 o1
            clear hBm k10 k12 k14
            have g1 := fun m : Later W14 => specEqG_any R2.length R2 ao ao2 c3 c4 m.w (hO.later m) (hO2.later m) (by omega)
            have g2 := fun m : Later W14 => implHered_any R2.length R2 ao2 c4 m.w (hO2.later m) (by omega)
            have g3 := fun m : Later W14 => implKeeps_any xd fd z (some ⟨gd, 0, none⟩) cd m.w (hrd.later m) (by omega)
            have g4 := fun m : Later W14 => specKeeps_any xd fd z (some ⟨gd, 0, none⟩) cd m.w (hrd.later m) (by omega)
            have g5 := fun m : Later W14 => implFmtPr_any l lo3 K lc3 m.w (hI.later m) Hhl.out (by omega)
            have g6 := fun m : Later W14 => specFmtPr_any l lo3 K lc3 m.w (hI.later m) Hhl.out (by omega)
            generalize fmtPr l K = S at *
            generalize keepB xd fd z = kd at *
            clear hO hO2 hI hrd hd6 Hhl hq6
            cases ok
            · clear Hhqh
              obtain ⟨m, hm0⟩ : ∃ m : Later W14, m.w = W14 := ⟨Later.refl _, rfl⟩
              refine (fun h => hm0 ▸ h) ?_
              clear hm0
              refine wp_region_later m rfl (by kernel_rfl) (by kernel_rfl) ?_
              repeat (go_big_quiet_step ((first | (go_at_call 15; exact Calls.later _ (g1 _)) | (go_at_call 13; exact Calls.later _ (g3 _)) | (go_at_call 19; exact Calls.later _ (g4 _)) | (go_at_call 20; exact Calls.later _ (g5 _)) | (go_at_call 21; exact Calls.later _ (g6 _)))))
              refine wpQuiet_nil ?_
              rintro _ ⟨m, rfl⟩
              go_wp2_with fail
              go_ret
              exact ⟨by simp, below_later HB.out m⟩
            · rw [Hhqh.out rfl] at g2
              clear Hhqh
              obtain ⟨m, hm0⟩ : ∃ m : Later W14, m.w = W14 := ⟨Later.refl _, rfl⟩
              refine (fun h => hm0 ▸ h) ?_
              clear hm0
              refine wp_region_later m rfl (by kernel_rfl) (by kernel_rfl) ?_
              repeat (go_big_quiet_step ((first | (go_at_call 15; exact Calls.later _ (g1 _)) | (go_at_call 11; exact Calls.later _ (g2 _)) | (go_at_call 13; exact Calls.later _ (g3 _)) | (go_at_call 19; exact Calls.later _ (g4 _)) | (go_at_call 20; exact Calls.later _ (g5 _)) | (go_at_call 21; exact Calls.later _ (g6 _)))))
              refine wpQuiet_nil ?_
              rintro _ ⟨m, rfl⟩
              go_wp2_with fail
              go_ret
              exact ⟨by simp, below_later HB.out m⟩

end Go.Proofs.YtjikmjhpmkakoaaGreatDoor.lawHereditary
