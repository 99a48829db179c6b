/-
  FnWidths: for every input the law returns true, and its argument reads as it did. No conditions.
-/
import Derived.Test.YtfkehmpckhmkbaaPkLawWidths24
import Derived.Test.YtfkehmpckhmkbaaPkLawWidths26
import Derived.Test.YtfkehmpckhmkbaaPkLawWidths35
import Derived.Test.YtfkehmpckhmkbaaPkLawWidths36
import Derived.Test.YtfkehmpckhmkbaaPkLawWidths28
import Derived.Test.YtfkehmpckhmkbaaPkLawWidths38
import Derived.Test.YtfkehmpckhmkbaaPkLawWidths22
import Derived.Test.YtfkehmpckhmkbaaPkLawWidths40
import Derived.Test.YtfkehmpckhmkbaaPkLawWidths29
import Derived.Test.YtfkehmpckhmkbaaPkLawWidths07
import Derived.Deep.CutRange
namespace Go.Proofs.Ytfkehmpckhmkbaa.lawWidths
open Go.Proofs.Ytfkehmpckhmkbaa Go.RowKit

set_option maxRecDepth 100000 in
set_option maxHeartbeats 16000000 in
theorem law_any (n c : Nat) (bo : Option Addr) (w : World) (hb : BytesU w.heap.size w bo n) (hn : n ≤ 9223372036854775807) :
    Calls Try.prog 3 #[.slice bo n c] w fun e w' => e = .returned (.bool true) ∧ Below w.heap.size w w' := by
  by_cases hbig : 1048576 < n
  · have d0 : decide (1048576 < n) = true := decide_eq_true hbig
    go_enter Try.func3, Try.ntmps3
    go_wp2_with fail
    refine (big_any n c bo w hn).mono ?_
    rintro e w' ⟨rfl, rfl⟩
    go_wp2_with fail
    go_ret
    exact ⟨rfl, Below.refl _ _⟩
  · have d0 : decide (1048576 < n) = false := decide_eq_false hbig
    replace hn : n ≤ 1048576 := by omega
    clear hbig
    go_enter Try.func3, Try.ntmps3
    go_wp2_with fail
    refine (big_any n c bo w (by omega)).mono ?_
    rintro e w' ⟨rfl, rfl⟩
    clear d0
    go_wp2_with fail
    refine (DrawBandwidthOf_any n c bo w hb hn).mono ?_
    rintro e w1 ⟨x, f, ao, cap, hf7, rfl, hF, hB1⟩
    have hb1 : ∀ w', Below w.heap.size w w' → BytesU w'.heap.size w' bo n := fun w' h => (hb.only (Only.of (X := fun _ => False) h) fun _ _ h => h).mono h.size
    clear hb
    go_upto_region 4 with fail
    generalize hW2 : World.alloc _ _ = W2
    obtain ⟨hB2, hz2, k2⟩ := alloc1 hW2
    have hr := hF.below hB2
    have hs1 := hB1.size
    have hB : Below w.heap.size w W2 := hB1.trans (hB2.mono hs1)
    have hb0 := k2.lt
    have hc0 := k2.cell 0
    have hc1 := k2.cell 1
    simp at hc0 hc1
    clear hW2 hz2 k2 hB1 hB2 hF hs1
    have hrl : f.length ≤ 1048576 := by omega
    generalize w1.heap.size = yb at *
    have FW := Lib.hid (fun h : isGraphB x f = true => And.intro (width_facts h) (clq_small h))
    have h1 := fun m : Later W2 => implBandwidth_any x f ao cap m.w (hr.later m) hrl
    have h2 := fun m : Later W2 => implPath_any x f ao cap m.w (hr.later m) hrl
    have h3 := fun m : Later W2 => implTree_any x f ao cap m.w (hr.later m) hrl
    have h4 := fun m : Later W2 => specBandwidth_any x f ao cap m.w (hr.later m) hrl
    have h5 := fun m : Later W2 => specPath_any x f ao cap m.w (hr.later m) hrl
    have h6 := fun m : Later W2 => specTree_any x f ao cap m.w (hr.later m) hrl
    have h7 := fun m : Later W2 => specIsGraph_any x f ao cap m.w (hr.later m) hrl
    have h8 := fun m : Later W2 => specClqN_any x f ao cap m.w (hr.later m) hrl
    have h9 := fun m : Later W2 => implBestBand_any x f ao cap m.w (hr.later m) hrl
    have hgx : isGraphB x f = true → x = f.length := fun h => (VG.of h).1
    have HBd := Lib.hid (fun (hg : isGraphB x f = true) (l : List Int) (lo : Option Addr) (lc : Nat) (m : Later W2) (i1 : IntsAt m.w lo l) (i2 : l.length ≤ 1048576) (i3 : l.length ≤ lc) => (by
      obtain rfl := hgx hg
      exact implBandOf_any f l ao lo cap lc hg m.w (hr.later m) hrl i1 i2 i3 : Calls Try.prog 15 #[.agg #[.int .i64 x, .slice ao f.length cap], .slice lo l.length lc] m.w fun e w' => e = .returned (.int .i64 (bandV x f l)) ∧ Below m.w.heap.size m.w w'))
    have h10 := fun m : Later W2 => specChordal_any x f ao cap m.w (hr.later m) hrl
    have h11 := fun m : Later W2 => specIvl_any x f ao cap m.w (hr.later m) hrl
    have h12 := fun m : Later W2 => specProper_any x f ao cap m.w (hr.later m) hrl
    have hbl := bestBandV_len x f
    clear hgx
    have HhB := Lib.hid hB
    clear hB
    have Hhb1 := Lib.hid hb1
    clear hb1
    generalize bandwidthV x f = b at *
    generalize pathV x f = p at *
    generalize treeV x f = t at *
    have H8 := Lib.hid h8
    have H9 := Lib.hid h9
    have H10 := Lib.hid h10
    have H11 := Lib.hid h11
    have H12 := Lib.hid h12
    clear h8 h9 h10 h11 h12
    obtain ⟨m, hm0⟩ : ∃ m : Later W2, m.w = W2 := ⟨Later.refl _, rfl⟩
    refine (fun h => hm0 ▸ h) ?_
    clear hm0
    go_wp2_with fail
    refine (Calls.later m (h1 m)).mono ?_
    rintro e w' ⟨rfl, m, rfl⟩
    clear h1
    go_wp2_with fail
    refine (Calls.later m (h2 m)).mono ?_
    rintro e w' ⟨rfl, m, rfl⟩
    clear h2
    go_wp2_with fail
    refine (Calls.later m (h3 m)).mono ?_
    rintro e w' ⟨rfl, m, rfl⟩
    clear h3
    go_upto_region 7 with fail
    go_cut [46] from 31 to 179 (fun v wx => v = .bool false ∧ ∃ m' : Later W2, wx = m'.w)
    case first =>
      go_wp2_with fail
      refine (Calls.later m (h4 m)).mono ?_
      rintro e w' ⟨rfl, m, rfl⟩
      go_wp2_with fail
      refine (Calls.later m (h5 m)).mono ?_
      rintro e w' ⟨rfl, m, rfl⟩
      go_wp2_with fail
      refine (Calls.later m (h6 m)).mono ?_
      rintro e w' ⟨rfl, m, rfl⟩
      go_wp2_with fail
      go_meet
      case rel => exact ⟨rfl, m, rfl⟩
    case rest =>
      obtain ⟨rfl, m, rfl⟩ := hcut
      clear h4 h5 h6
      go_wp2_with fail
      refine (Calls.later m (h7 m)).mono ?_
      rintro e w' ⟨rfl, m, rfl⟩
      clear h7
      generalize hgB : isGraphB x f = gB at *
      go_upto_if 48 with fail
      go_cut [7, 8, 9] from 49 to 179 (fun _ _ _ wx => ∃ m' : Later W2, wx = m'.w)
      case first =>
        cases gB
        · clear hgB
          go_wp2_with fail
          go_meet
          case rel => exact ⟨m, rfl⟩
        · obtain ⟨⟨⟨z, hz1, hz2⟩, e1, e2, e3, e4, e5, e6⟩, e7, e8⟩ := FW.out rfl
          have h8 := H8.out
          have h10 := H10.out
          have hz := hz2
          rw [hz1] at hbl
          have H9b := H9.out
          rw [hz1] at H9b
          have hbd := fun (lo : Option Addr) (lc : Nat) (m : Later W2) h1 h3 => HBd.out rfl z lo lc m h1 hbl h3
          rw [hz2] at hbd
          generalize clqN x f = q at *
          generalize chordalB x f = ch at *
          have hw1 : IntKind.i64.wrap (q - 1) = q - 1 := IntKind_i64_in _ (by omega) (by omega)
          have d1 : decide (p < t) = false := decide_eq_false (by omega)
          have d2 : decide (b < p) = false := decide_eq_false (by omega)
          have d3 : decide (t < q - 1) = false := decide_eq_false (by omega)
          have E4 := Lib.hid e4
          have E5 := Lib.hid e5
          have E6 := Lib.hid e6
          have Hbd := Lib.hid hbd
          clear e1 e2 e3 e4 e5 e6 e7 e8 hz hz1 hz2 hgB FW H9 H8 H10 HBd hbd
          go_wp2_with fail
          refine (Calls.later m (h8 m)).mono ?_
          rintro e w' ⟨rfl, m, rfl⟩
          clear h8
          go_wp2_with fail
          refine (H9b m).mono ?_
          rintro e w3 ⟨lo, lc, rfl, hB3, hO⟩
          have hlc := hO.room'
          replace hO := hO.ints
          obtain ⟨m, rfl⟩ : ∃ m2 : Later W2, m2.w = w3 := ⟨m.on hB3, rfl⟩
          clear hB3 H9b
          have HO := Lib.hid hO
          have Hlc := Lib.hid hlc
          clear hO hlc
          go_wp2_with fail
          refine (Hbd.out lo lc m HO.out Hlc.out).mono ?_
          rintro e w3 ⟨rfl, hB3⟩
          obtain ⟨m, rfl⟩ : ∃ m2 : Later W2, m2.w = w3 := ⟨m.on hB3, rfl⟩
          clear hB3 HO Hlc Hbd
          go_wp2_with fail
          refine (h10 m).mono ?_
          rintro e w3 ⟨rfl, hB3⟩
          obtain ⟨m, rfl⟩ : ∃ m2 : Later W2, m2.w = w3 := ⟨m.on hB3, rfl⟩
          clear hB3 h10
          have hch : ch = false ∨ (ch = true ∧ (t != q - 1) = false) := by
            cases hc : ch
            · exact .inl rfl
            · right
              refine ⟨rfl, ?_⟩
              have := E4.out hc
              rw [bne_eq_false_iff_eq]; omega
          clear E4
          rcases hch with rfl | ⟨rfl, dch⟩
          all_goals
            go_wp2_with fail
            refine (H11.out m).mono ?_
            rintro e w3 ⟨iv, rfl, hB3, hiv⟩
            obtain ⟨m, rfl⟩ : ∃ m2 : Later W2, m2.w = w3 := ⟨m.on hB3, rfl⟩
            clear hB3
            have hih : iv = false ∨ (iv = true ∧ (p != q - 1) = false) := by
              cases hc : iv
              · exact .inl rfl
              · right
                refine ⟨rfl, ?_⟩
                have := E5.out (hiv hc).2.2
                rw [bne_eq_false_iff_eq]; omega
            clear hiv
            rcases hih with rfl | ⟨rfl, div⟩
            all_goals
              go_wp2_with fail
              refine (H12.out m).mono ?_
              rintro e w3 ⟨pr, rfl, hB3, hpr⟩
              obtain ⟨m, rfl⟩ : ∃ m2 : Later W2, m2.w = w3 := ⟨m.on hB3, rfl⟩
              clear hB3
              have hph : pr = false ∨ (pr = true ∧ (b != q - 1) = false) := by
                cases hc : pr
                · exact .inl rfl
                · right
                  refine ⟨rfl, ?_⟩
                  have := E6.out (hpr hc).2
                  rw [bne_eq_false_iff_eq]; omega
              clear hpr
              rcases hph with rfl | ⟨rfl, dpr⟩
              all_goals
                go_wp2_with fail
                go_meet
                case rel => exact ⟨m, rfl⟩
      case rest =>
        obtain ⟨m, rfl⟩ := hcut
        clear FW hgB H8 H9 H10 H11 H12 HBd hbl hc0 hc1 hb0 hr hrl hf7
        have hBm := below_later HhB.out m
        generalize m.w = W7 at *
        clear m HhB
        have hA := DrawCutOf_any n c bo W7 (Hhb1.out _ hBm) hn
        go_wp2_with fail
        refine hA.mono ?_
        rintro e w8 ⟨xa, fa, la, ga, ca, loa, lca, ⟨-, ha6⟩, hla, hlca, rfl, hRa, hLa, hBa⟩
        clear hA
        replace hBm := hBm.trans (hBa.mono hBm.size)
        clear hBa
        go_upto_region 15 with fail
        generalize hW9 : World.alloc _ _ = W9
        obtain ⟨hB9, hz9, k9⟩ := alloc1 hW9
        have hra := (hRa.below hB9).ints
        replace hLa := hLa.below hB9
        replace hBm := hBm.trans (hB9.mono hBm.size)
        clear hW9 hz9 hB9 hRa
        generalize w8.heap.size = ya at *
        have v0 := k9.cell 0
        have v1 := k9.cell 1
        have v4 := k9.lt
        simp at v0 v1
        clear k9
        have t1 := fun m : Later W9 => implCutOf_any xa fa la (some ⟨ga, 0, none⟩) loa ca lca m.w (hra.later m) (by omega) (hLa.later m) hla hlca
        have t2 := fun m : Later W9 => implWidth_any xa fa la (some ⟨ga, 0, none⟩) loa ca lca m.w (hra.later m) (by omega) (hLa.later m) hla hlca
        have t3 := fun m : Later W9 => specCutOf_any xa fa la (some ⟨ga, 0, none⟩) loa ca lca m.w (hra.later m) (by omega) (hLa.later m) hla
        have t4 := fun m : Later W9 => specWidth_any xa fa la (some ⟨ga, 0, none⟩) loa ca lca m.w (hra.later m) (by omega) (hLa.later m) hla
        have t5 := fun m : Later W9 => specPath_any xa fa (some ⟨ga, 0, none⟩) ca m.w (hra.later m) (by omega)
        have t6 := fun m : Later W9 => specTree_any xa fa (some ⟨ga, 0, none⟩) ca m.w (hra.later m) (by omega)
        have HC := Lib.hid (fun h => cut_path (n := xa) (rs := fa) (l := la) h)
        generalize cutV xa fa la = C at *
        generalize widV xa fa la = D at *
        generalize pathV xa fa = P at *
        generalize treeV xa fa = T at *
        have HhBm := Lib.hid hBm
        clear hBm
        clear hla hlca ha6
        obtain ⟨m, hm0⟩ : ∃ m : Later W9, m.w = W9 := ⟨Later.refl _, rfl⟩
        refine (fun h => hm0 ▸ h) ?_
        clear hm0
        go_wp2_with fail
        refine (Calls.later m (t1 m)).mono ?_
        rintro e w' ⟨rfl, m, rfl⟩
        clear t1
        go_wp2_with fail
        refine (Calls.later m (t2 m)).mono ?_
        rintro e w' ⟨rfl, m, rfl⟩
        clear t2
        go_upto_region 17 with fail
        go_cut [146] from 119 to 179 (fun v wx => v = .bool false ∧ ∃ m' : Later W9, wx = m'.w)
        case first =>
          by_cases hc : 0 ≤ C
          · obtain ⟨i1, i2⟩ := HC.out hc
            have d1 : decide (0 ≤ C) = true := decide_eq_true hc
            have d2 : decide (C < P) = false := decide_eq_false (by omega)
            have d3 : decide (D < T) = false := decide_eq_false (by omega)
            clear HC i1 i2 hc
            go_wp2_with fail
            refine (Calls.later m (t3 m)).mono ?_
            rintro e w' ⟨rfl, m, rfl⟩
            go_wp2_with fail
            refine (Calls.later m (t4 m)).mono ?_
            rintro e w' ⟨rfl, m, rfl⟩
            go_wp2_with fail
            refine (Calls.later m (t5 m)).mono ?_
            rintro e w' ⟨rfl, m, rfl⟩
            go_wp2_with fail
            refine (Calls.later m (t6 m)).mono ?_
            rintro e w' ⟨rfl, m, rfl⟩
            go_wp2_with fail
            go_meet
            case rel => exact ⟨rfl, m, rfl⟩
          · have d1 : decide (0 ≤ C) = false := decide_eq_false hc
            clear HC hc
            go_wp2_with fail
            refine (Calls.later m (t3 m)).mono ?_
            rintro e w' ⟨rfl, m, rfl⟩
            go_wp2_with fail
            refine (Calls.later m (t4 m)).mono ?_
            rintro e w' ⟨rfl, m, rfl⟩
            go_wp2_with fail
            go_meet
            case rel => exact ⟨rfl, m, rfl⟩
        case rest =>
          obtain ⟨rfl, m, rfl⟩ := hcut
          clear t3 t4 t5 t6 HC v0 v1 v4 hra hLa
          have hBm := HhBm.out.trans (m.below.mono HhBm.out.size)
          generalize m.w = W10 at *
          clear m HhBm
          have hA := DrawPathwidthOf_any n c bo W10 (Hhb1.out _ hBm) hn
          go_wp2_with fail
          refine hA.mono ?_
          rintro e w11 ⟨xe, fe, aoe, ce, he7, rfl, hFe, hBe⟩
          clear hA
          replace hBm := hBm.trans (hBe.mono hBm.size)
          clear hBe
          go_upto_region 20 with fail
          generalize hW12 : World.alloc _ _ = W12
          obtain ⟨hB12, hz12, k12⟩ := alloc1 hW12
          replace hFe := hFe.below hB12
          replace hBm := hBm.trans (hB12.mono hBm.size)
          clear hW12 hz12 hB12
          generalize w11.heap.size = ye at *
          have hA := DrawTreewidthOf_any n c bo W12 (Hhb1.out _ hBm) hn
          have HhBm := Lib.hid hBm
          clear hBm
          have HhFe := Lib.hid hFe
          clear hFe
          have Hk12 := Lib.hid k12
          clear k12
          go_wp2_with fail
          refine hA.mono ?_
          rintro e w13 ⟨xf, ff, gf, cf, ⟨-, hf6⟩, rfl, -, hRf, hBf⟩
          clear hA
          have hBm := HhBm.out.trans (hBf.mono HhBm.out.size)
          have hFe := HhFe.out.below hBf
          have k12 := Hk12.out.below hBf Hk12.out.lt
          clear hBf HhBm HhFe Hk12
          go_upto_region 21 with fail
          generalize hW14 : World.alloc _ _ = W14
          obtain ⟨hB14, hz14, k14⟩ := alloc1 hW14
          replace hFe := hFe.below hB14
          have hrf := (hRf.below hB14).ints
          replace k12 := k12.below hB14 k12.lt
          replace hBm := hBm.trans (hB14.mono hBm.size)
          clear hW14 hz14 hB14 hRf
          generalize w13.heap.size = yf at *
          have hA := DrawBestBand_any n c bo W14 (Hhb1.out _ hBm) hn
          have HhBm := Lib.hid hBm
          clear hBm
          have HhFe := Lib.hid hFe
          clear hFe
          have Hhrf := Lib.hid hrf
          clear hrf
          have Hk12 := Lib.hid k12
          clear k12
          have Hk14 := Lib.hid k14
          clear k14
          go_wp2_with fail
          refine hA.mono ?_
          rintro e w15 ⟨xh, fh, aoh, ch, hh7, rfl, hFh, hBh⟩
          clear hA
          have hBm := HhBm.out.trans (hBh.mono HhBm.out.size)
          have hFe := HhFe.out.below hBh
          have hrf := Hhrf.out.below hBh
          have k12 := Hk12.out.below hBh Hk12.out.lt
          have k14 := Hk14.out.below hBh Hk14.out.lt
          clear hBh HhBm HhFe Hhrf Hk12 Hk14 Hhb1
          go_upto_region 22 with fail
          generalize hW16 : World.alloc _ _ = W16
          obtain ⟨hB16, hz16, k16⟩ := alloc1 hW16
          replace hFe := hFe.below hB16
          replace hFh := hFh.below hB16
          replace hrf := hrf.below hB16
          replace k12 := k12.below hB16 k12.lt
          replace k14 := k14.below hB16 k14.lt
          have HB := Lib.hid (hBm.trans (hB16.mono hBm.size))
          clear hW16 hz16 hB16 hBm
          generalize w15.heap.size = yh at *
          have m0 := k12.cell 0
          have m1 := k12.cell 1
          have m4 := k12.lt
          have n0 := k14.cell 0
          have n1 := k14.cell 1
          have n4 := k14.lt
          have o0 := k16.cell 0
          have o1 := k16.cell 1
          have o4 := k16.lt
          simp at m0 m1 n0 n1 o0 o1
          clear k12 k14 k16
          have g1 := fun (w' : World) (hw : Below W16.heap.size W16 w') => implPath_any xe fe aoe ce w' (hFe.below hw) (by omega)
          have g2 := fun (w' : World) (hw : Below W16.heap.size W16 w') => specPath_any xe fe aoe ce w' (hFe.below hw) (by omega)
          have g3 := fun (w' : World) (hw : Below W16.heap.size W16 w') => implTree_any xf ff (some ⟨gf, 0, none⟩) cf w' (hrf.below hw) (by omega)
          have g4 := fun (w' : World) (hw : Below W16.heap.size W16 w') => specTree_any xf ff (some ⟨gf, 0, none⟩) cf w' (hrf.below hw) (by omega)
          have g5 := fun (w' : World) (hw : Below W16.heap.size W16 w') => implBestBand_any xh fh aoh ch w' (hFh.below hw) (by omega)
          have g6 := fun (w' : World) (hw : Below W16.heap.size W16 w') => specBestBand_any xh fh aoh ch w' (hFh.below hw) (by omega)
          have hol := bestBandV_len xh fh
          generalize bestBandV xh fh = O at *
          generalize pathV xe fe = V1 at *
          generalize treeV xf ff = V2 at *
          clear hFe hFh hrf he7 hf6 hh7
          obtain ⟨m, hm0⟩ : ∃ m : Later W16, m.w = W16 := ⟨Later.refl _, rfl⟩
          refine (fun h => hm0 ▸ h) ?_
          clear hm0
          go_wp2_with fail
          refine (g5 m.w m.below).mono ?_
          rintro e w17 ⟨lo1, lc1, rfl, hB17, hL1⟩
          replace hL1 := hL1.ints
          obtain ⟨m, rfl⟩ : ∃ m2 : Later W16, m2.w = w17 := ⟨m.on hB17, rfl⟩
          clear hB17 g5
          go_wp2_with fail
          refine (g6 m.w m.below).mono ?_
          rintro e w17 ⟨lo2, lc2, rfl, hB17, hL2⟩
          replace hL1 := hL1.below hB17
          obtain ⟨m, hm17⟩ : ∃ m2 : Later W16, m2.w = w17 := ⟨m.on hB17, rfl⟩
          clear hB17 g6
          have g7 := fun m' : Later w17 => lawSameInts_any lo1 lo2 (O.getD []) (O.getD []) lc1 lc2 m'.w (hL1.later m') (hL2.later m') (by omega) (by omega)
          simp only [sameInts_refl] at g7
          generalize O.getD [] = l at *
          generalize O.isSome = os at *
          subst hm17
          have g1' := fun m' : Later m.w => g1 m'.w (below_more m.below m'.below)
          have g2' := fun m' : Later m.w => g2 m'.w (below_more m.below m'.below)
          have g3' := fun m' : Later m.w => g3 m'.w (below_more m.below m'.below)
          have g4' := fun m' : Later m.w => g4 m'.w (below_more m.below m'.below)
          replace m0 := (m.cell ye 0 m4).trans m0
          replace m1 := (m.cell ye 1 m4).trans m1
          replace n0 := (m.cell yf 0 n4).trans n0
          replace n1 := (m.cell yf 1 n4).trans n1
          have m5 := Nat.lt_of_lt_of_le m4 m.size
          have n5 := Nat.lt_of_lt_of_le n4 m.size
          have HB2 := Lib.hid (below_later HB.out m)
          clear g1 g2 g3 g4 hL1 hL2 hol m4 n4 o0 o1 o4 HB
          generalize m.w = W18 at *
          clear m
          obtain ⟨m, hm0⟩ : ∃ m : Later W18, m.w = W18 := ⟨Later.refl _, rfl⟩
          refine (fun h => hm0 ▸ h) ?_
          clear hm0
          go_upto_region 24 with fail
          refine wp_region_later m rfl (by kernel_rfl) (by kernel_rfl) ?_
          repeat (go_big_quiet_step ((first | (go_at_call 7; exact Calls.later _ (g1' _)) | (go_at_call 10; exact Calls.later _ (g2' _)) | (go_at_call 8; exact Calls.later _ (g3' _)) | (go_at_call 11; exact Calls.later _ (g4' _)) | (go_at_call 28; exact Calls.later _ (g7 _)))))
          refine wpQuiet_nil ?_
          rintro _ ⟨m, rfl⟩
          go_wp2_with fail
          go_ret
          exact ⟨by simp, below_later HB2.out m⟩

open Go.ChangeShapes Go.WideShapes Go.ChangeAt

set_option maxRecDepth 100000 in
set_option maxHeartbeats 2000000 in
theorem lifted (os : Os) (started : os.Started) (H : Type) (enc : TypeId × Value → H) :
    ReturnsInHanded {} Try.checked os 3 .any (Rows.fnWidthsSpec.pre6 enc Try.prog Try.f3 Rows.fnWidthsRow.domain false) (Rows.fnWidthsSpec.post enc Try.prog Try.f3 false true false false) := by
  refine returnsInHanded_of_change (C := Try.checked) own started (by kernel_rfl) Try.func3
    (ChangeSpec.witness6 (enc := enc) (C := Try.checked) false ⟨#[], #[.slice none 0 0], []⟩ 8 (by kernel_rfl) (by kernel_rfl) (by kernel_rfl) (by kernel_rfl)) ?_
  intro W base args ds gs before hval0 hW hcnd _
  have hval : ∀ (j : Nat) t v, Try.f3.params[j]? = some t → args[j]? = some v → Value.okWide Try.prog W .any base t v := hval0
  have hW' := hW
  obtain ⟨p, q, hA0, hV, rfl, hfz, hnd⟩ := hW
  have hA : DataW.TrodAll enc Try.prog W 0 (fun _ => true) true Try.f3.params.toList args.toList ds p := hA0
  rw [Try.params3] at hA hval
  obtain ⟨v0, vs0, d0, ds0, p0, q0, hargs, rfl, rfl, h0, r0⟩ := trodAll_cons hA
  obtain ⟨rfl, rfl, rfl⟩ := trodAll_nil r0
  obtain rfl : args = #[v0] := by cases args; simp_all
  obtain ⟨rfl, rfl⟩ := trodVars_none hV
  have k0 := h0
  have lt0 : ∀ x ∈ p0, x.block < W.heap.size := by obtain ⟨m, hm⟩ := k0; exact DataW.trod_lt m _ _ _ hm
  obtain ⟨m, hm⟩ := h0
  obtain ⟨v1, v2, v3, rfl⟩ := okWide_slice Try.underlying22 (hval 0 22 v0 rfl rfl)
  obtain ⟨bo, n, c, e0, hb, hn⟩ := bytes_of_trod hm
  obtain ⟨rfl, rfl, rfl⟩ : v1 = bo ∧ v2 = n ∧ v3 = c := by simpa using e0
  clear hA0 hval0
  refine (law_any _ _ _ W hb hn).mono fun e W' ⟨he, bel⟩ => ?_
  subst he
  exact ⟨_, rfl, _, _, _, [], _, [], hW', trodAll_mk1 (shut_bool Try.underlying4 _), (trodAll_cons_mk (Below.trod laidOut (by kernel_rfl) (of_decide_eq_true (by kernel_rfl)) k0 bel lt0) trodAll_mk0), rfl, bel.frame _, fun h => by cases h⟩

theorem holds : Rows.FnWidthsSaid :=
  OpenClaim.holds_of_wide 3 Try.f3 rfl rfl rfl rfl rfl rfl rfl ⟨rfl, rfl, rfl, rfl, rfl⟩ rfl rfl rfl rfl rfl (by kernel_rfl) Try.func3 (by kernel_rfl)
    (of_decide_eq_true (by kernel_rfl)) (by unfold Func.isWrapper; first | (rw [if_pos (by decide +kernel)]; kernel_rfl) | (rw [if_neg (by decide +kernel)]; exact ⟨rfl, rfl⟩))
    (fun os started H enc _ => lifted os started H enc)
#print axioms holds

end Go.Proofs.Ytfkehmpckhmkbaa.lawWidths
