/-
  FnArcs: for every input the law returns true, and its argument reads as it did. No conditions.
-/
import Derived.Test.YtfkehmpckhmkbaaDoorPkCardArcs28
import Derived.Test.YtfkehmpckhmkbaaDoorPkCardArcs34
import Derived.Test.YtfkehmpckhmkbaaDoorPkCardArcs36
import Derived.Test.YtfkehmpckhmkbaaDoorPkCardArcs38
import Derived.Test.YtfkehmpckhmkbaaDoorPkCardArcs37
import Derived.Test.YtfkehmpckhmkbaaDoorPkCardArcs40
import Derived.Test.YtfkehmpckhmkbaaDoorPkCardArcs12
import Derived.Deep.RegionHeld3
import Derived.Test.YtfkehmpckhmkbaaDoorCards
import Derived.Test.YtfkehmpckhmkbaaDoorTie
import Derived.LaidMore
import Derived.Stop.Joined
import Derived.SevenTiedAt
import Derived.Deep.CutRange
namespace Go.Proofs.YtfkehmpckhmkbaaDoor.cardArcs
open Go.Proofs.YtfkehmpckhmkbaaDoor Go.RowKit

set_option maxRecDepth 100000 in
set_option maxHeartbeats 16000000 in
theorem law_any (n c : Nat) (bo : Option Addr) (w : World) (hb : BytesU w.heap.size w bo n) (hn : n ≤ 9223372036854775807) :
    Calls Tryd.prog 3 #[.slice bo n c] w fun e w' => e = .returned (.bool true) ∧ Below w.heap.size w w' := by
  by_cases hbig : 1048576 < n
  · have d0 : decide (1048576 < n) = true := decide_eq_true hbig
    go_enter Tryd.func3, Tryd.ntmps3
    go_wp2_with fail
    refine (big_any n c bo w hn).mono ?_
    rintro e w' ⟨rfl, rfl⟩
    go_wp2_with fail
    go_ret
    exact ⟨rfl, Below.refl _ _⟩
  · have d0 : decide (1048576 < n) = false := decide_eq_false hbig
    replace hn : n ≤ 1048576 := by omega
    clear hbig
    go_enter Tryd.func3, Tryd.ntmps3
    go_wp2_with fail
    refine (big_any n c bo w (by omega)).mono ?_
    rintro e w' ⟨rfl, rfl⟩
    clear d0
    go_wp2_with fail
    refine (DrawGraphOfArcs_any n c bo w hb hn).mono ?_
    rintro e w1 ⟨C, f, l, fo, lo, fc, lc, hf6, hl6, rfl, hF, hL, hB1⟩
    have hb1 : ∀ w', Below w.heap.size w w' → BytesU w'.heap.size w' bo n := fun w' h => (hb.only (Only.of (X := fun _ => False) h) fun _ _ h => h).mono h.size
    clear hb
    go_upto_region 4 with fail
    generalize hW2 : World.alloc _ _ = W2
    obtain ⟨hB2, hz2, k2⟩ := alloc1 hW2
    replace hF := hF.below hB2
    replace hL := hL.below hB2
    have hs1 := hB1.size
    have hB : Below w.heap.size w W2 := hB1.trans (hB2.mono hs1)
    have ha4 := k2.lt
    have ha0 := k2.cell 0
    have ha1 := k2.cell 1
    have ha2 := k2.cell 2
    simp at ha0 ha1 ha2
    clear hW2 hz2 hB1 hB2 hs1
    have hfl : f.length ≤ 1048576 := by omega
    have hll : l.length ≤ 1048576 := by omega
    generalize w1.heap.size = ya at *
    have hg1 := implArcG_ret C f l fo lo fc lc W2 hF hL hfl hll
    have hRl := arcGV_len C f l
    have HhB := Lib.hid hB
    clear hB
    have Hhb1 := Lib.hid hb1
    clear hb1
    have HhF := Lib.hid hF
    clear hF
    have HhL := Lib.hid hL
    clear hL
    have Hk2 := Lib.hid k2
    clear k2
    go_wp2_with fail
    refine hg1.mono ?_
    rintro e w3 ⟨ao, c3, rfl, hB3, hO3⟩
    clear hg1 ha0 ha1 ha2
    replace hO3 := hO3.ints
    replace hF := HhF.out.below hB3
    replace hL := HhL.out.below hB3
    replace k2 := Hk2.out.below hB3 ha4
    replace hB := HhB.out.trans (hB3.mono HhB.out.size)
    clear hB3 HhF HhL Hk2 HhB ha4
    go_upto_region 5 with fail
    generalize hW4 : World.alloc _ _ = W4
    obtain ⟨hB4, hz4, k4⟩ := alloc1 hW4
    replace hO3 := hO3.below hB4
    replace hF := hF.below hB4
    replace hL := hL.below hB4
    replace k2 := k2.below hB4 k2.lt
    replace hB := hB.trans (hB4.mono hB.size)
    clear hW4 hz4 hB4
    have ha4 := k2.lt
    have ha0 := k2.cell 0
    have ha1 := k2.cell 1
    have ha2 := k2.cell 2
    simp at ha0 ha1 ha2
    generalize w3.heap.size = yg at *
    have hg1 := specArcG_ret C f l fo lo fc lc W4 hF hL hfl hll
    have HhB := Lib.hid hB
    clear hB
    have HhF := Lib.hid hF
    clear hF
    have HhL := Lib.hid hL
    clear hL
    have Hk2 := Lib.hid k2
    clear k2
    have Hk4 := Lib.hid k4
    clear k4
    have HhO3 := Lib.hid hO3
    clear hO3
    go_wp2_with fail
    refine hg1.mono ?_
    rintro e w5 ⟨ao2, c4, rfl, hB5, hO5⟩
    clear hg1 ha0 ha1 ha2
    replace hO5 := hO5.ints
    replace hO3 := HhO3.out.below hB5
    replace hF := HhF.out.below hB5
    replace hL := HhL.out.below hB5
    replace k2 := Hk2.out.below hB5 Hk2.out.lt
    replace k4 := Hk4.out.below hB5 Hk4.out.lt
    replace hB := HhB.out.trans (hB5.mono HhB.out.size)
    clear hB5 HhF HhL Hk2 Hk4 HhB HhO3 ha4
    go_upto_region 6 with fail
    generalize hW6 : World.alloc _ _ = W6
    obtain ⟨hB6, hz6, k6⟩ := alloc1 hW6
    replace hO3 := hO3.below hB6
    replace hO5 := hO5.below hB6
    replace hF := hF.below hB6
    replace hL := hL.below hB6
    replace k2 := k2.below hB6 k2.lt
    replace k4 := k4.below hB6 k4.lt
    replace hB := hB.trans (hB6.mono hB.size)
    clear hW6 hz6 hB6
    have ha4 := k2.lt
    have ha0 := k2.cell 0
    have ha1 := k2.cell 1
    have ha2 := k2.cell 2
    have hg4 := k4.lt
    have hg0 := k4.cell 0
    have hg1 := k4.cell 1
    have hh4 := k6.lt
    have hh0 := k6.cell 0
    have hh1 := k6.cell 1
    simp at ha0 ha1 ha2 hg0 hg1 hh0 hh1
    generalize w5.heap.size = yh at *
    clear k2 k4 k6
    have HhB := Lib.hid hB
    clear hB
    have FA := Lib.hid (arcs_facts C f l)
    have hR := Lib.hid (arcs_rows C f l)
    have f1 := fun m : Later W6 => implFree_any C f l fo lo fc lc m.w (hF.later m) (hL.later m) hfl hll
    have f2 := fun m : Later W6 => specFree_any C f l fo lo fc lc m.w (hF.later m) (hL.later m) hfl hll
    have e1 := fun m : Later W6 => specEqG_any ((arcGV C f l).length : Int) (arcGV C f l) ao ao2 c3 c4 m.w (hO3.later m) (hO5.later m) hRl
    have e2 := fun m : Later W6 => implIsArcs_any C f l fo lo fc lc m.w (hF.later m) (hL.later m) hfl hll
    have e3 := fun m : Later W6 => implFmtArcs_any C f l fo lo fc lc m.w (hF.later m) (hL.later m) hfl hll
    have e4 := fun m : Later W6 => specFmtArcs_any C f l fo lo fc lc m.w (hF.later m) (hL.later m) hfl hll
    generalize fmtArcs C f l = S at *
    generalize hfp : freePt C f l = fp at *
    generalize hiA : isArcsB C f l = iA at *
    have Hhfp := Lib.hid hfp
    clear hfp
    have HhiA := Lib.hid hiA
    clear hiA
    obtain ⟨m, hm0⟩ : ∃ m : Later W6, m.w = W6 := ⟨Later.refl _, rfl⟩
    refine (fun h => hm0 ▸ h) ?_
    clear hm0
    go_wp2_with fail
    refine (Calls.later m (f1 m)).mono ?_
    rintro e w' ⟨rfl, m, rfl⟩
    clear f1
    go_wp2_with fail
    refine (Calls.later m (f2 m)).mono ?_
    rintro e w' ⟨rfl, m, rfl⟩
    clear f2
    generalize hfn : freeN fp = y at *
    generalize hfr : freeIs fp = fr at *
    have Hhfn := Lib.hid hfn
    clear hfn
    have Hhfr := Lib.hid hfr
    clear hfr
    go_upto_region 8 with fail
    go_cut [80] from 49 to 172 (fun v wx => v = .bool false ∧ ∃ m' : Later W6, wx = m'.w)
    case first =>
      cases iA <;> cases fr
      all_goals
        refine wp_region_later m rfl (by kernel_rfl) (by kernel_rfl) ?_
        repeat (go_big_quiet_step ((first | (go_at_call 10; exact Calls.later _ (e1 _)) | (go_at_call 11; exact Calls.later _ (e2 _)) | (go_at_call 12; exact Calls.later _ (e3 _)) | (go_at_call 13; exact Calls.later _ (e4 _)))))
        refine wpQuiet_nil ?_
        rintro _ ⟨m, rfl⟩
        go_wp2_with fail
        go_meet
        case rel => exact ⟨rfl, m, rfl⟩
    case rest =>
      obtain ⟨rfl, m, rfl⟩ := hcut
      clear e1 e2 e3 e4
      go_upto_if 81 with fail
      go_cut [12, 13] from 82 to 172 (fun _ _ wx => ∃ m' : Later W6, wx = m'.w)
      case first =>
        cases fr
        · go_wp2_with fail
          go_meet
          case rel => exact ⟨m, rfl⟩
        · obtain ⟨k, hk⟩ : ∃ k : Nat, fp = some k := by
            have := Hhfr.out
            unfold freeIs at this
            cases fp with
            | none => cases this
            | some k => exact ⟨k, rfl⟩
          obtain ⟨hok, hiv, hlen, hgr, hcov⟩ := FA.out.1 k hk
          obtain rfl : (k : Int) = y := by rw [← Hhfn.out, hk]; rfl
          have hcu := implCut_any C (k : Int) f l fo lo fc lc m.w (hF.later m) (hL.later m) hfl hll
          rw [hok] at hcu
          have hl1 := (cutV_len C f l (k : Int)).1
          have hl2 := (cutV_len C f l (k : Int)).2
          generalize cutLV C f l (k : Int) = ls at *
          generalize cutRV C f l (k : Int) = rs at *
          have hcv := fun (s : Int) (w' : World) (h : Below W6.heap.size W6 w') => implCovers_any C f l fo lo fc lc s w' (hF.below h) (hL.below h) hfl hll
          simp only [hcov] at hcv
          generalize hRg : arcGV C f l = R at *
          have HRg := Lib.hid hRg
          have Hlen := Lib.hid hlen
          have Hgr := Lib.hid hgr
          have Hiv := Lib.hid hiv
          have Hcv := Lib.hid hcv
          clear hRg hlen hgr hiv hcov hok hcv hk
          go_wp2_with fail
          refine hcu.mono ?_
          rintro e w7 ⟨pa, pb, q1, q2, rfl, hB7, hOa, hOb, -⟩
          replace hOa := hOa.ints
          replace hOb := hOb.ints
          have hBm := below_more m.below hB7
          clear hcu hB7 m
          go_upto_region 12 with fail
          generalize hW8 : World.alloc _ _ = W8
          obtain ⟨hB8, hz8, k8⟩ := alloc1 hW8
          replace hOa := hOa.below hB8
          replace hOb := hOb.below hB8
          have hB9 := below_more hBm hB8
          have hm4 := k8.lt
          have hm0 := k8.cell 0
          have hm1 := k8.cell 1
          simp at hm0 hm1
          generalize w7.heap.size = ym at *
          clear hW8 hz8 hB8 hBm k8 w7
          have a0 := (hB9.cell (p := ⟨ya, 0, none⟩) ha4).trans ha0
          have a1 := (hB9.cell (p := ⟨ya, 1, none⟩) ha4).trans ha1
          have a2 := (hB9.cell (p := ⟨ya, 2, none⟩) ha4).trans ha2
          have a4 := Nat.lt_of_lt_of_le ha4 hB9.size
          have b0 := (hB9.cell (p := ⟨yh, 0, none⟩) hh4).trans hh0
          have b1 := (hB9.cell (p := ⟨yh, 1, none⟩) hh4).trans hh1
          have b4 := Nat.lt_of_lt_of_le hh4 hB9.size
          have g1 := fun m : Later W8 => implIsModelOf_any ls rs R pa pb ao2 q1 q2 c4 m.w Hiv.out Hgr.out (hOa.later m) (hOb.later m) ((hO5.below hB9).later m)
          rw [Hlen.out] at g1
          have HB9 := Lib.hid hB9
          have g2 := fun (s : Int) (m : Later W8) => Hcv.out s m.w (HB9.out.trans (m.below.mono HB9.out.size))
          rw [Hlen.out] at hm0
          clear hB9 Hcv Hiv Hgr hOa hOb
          obtain ⟨m, hm0⟩ : ∃ m : Later W8, m.w = W8 := ⟨Later.refl _, rfl⟩
          refine (fun h => hm0 ▸ h) ?_
          clear hm0
          refine wp_region_later m rfl (by kernel_rfl) (by kernel_rfl) ?_
          repeat (go_big_quiet_step ((first | (go_at_call 15; exact Calls.later _ (g1 _)) | (go_at_call 16; exact Calls.later _ (g2 _ _)))))
          refine wpQuiet_nil ?_
          rintro _ ⟨m, rfl⟩
          go_wp2_with fail
          go_meet
          case rel => exact ⟨⟨m.w, HB9.out.trans (m.below.mono HB9.out.size)⟩, rfl⟩
      case rest =>
        obtain ⟨m, rfl⟩ := hcut
        have e5 := fun (p : Int) (m : Later W6) => implArcsAt_any C f l fo lo fc lc p m.w (hF.later m) (hL.later m) hfl hll
        have e6 := fun (s : Int) (m : Later W6) => specIsClique_any ((arcGV C f l).length : Int) (arcGV C f l) s ao2 c4 m.w (hO5.later m) hRl
        generalize arcGV C f l = R at *
        go_upto_region 14 with fail
        go_wp2_with fail
        go_loopw [14] (fun i wr => (∃ m : Later W6, wr = m.w) ∧ ∃ k : Nat, i = .int .i64 k ∧ k ≤ 30) (fun i _ => 30 - (intOf i).toNat)
        case atStart => exact ⟨⟨m, rfl⟩, 0, rfl, by omega⟩
        case round =>
          obtain ⟨⟨m, rfl⟩, k, rfl, hk⟩ := hrel
          by_cases hgo : iA = true ∧ (k : Int) < C
          · obtain ⟨rfl, hkC⟩ := hgo
            obtain ⟨h3, h30, hcl⟩ := FA.out.2 rfl
            have d1 : decide ((k : Int) < C) = true := decide_eq_true hkC
            have e7 := fun m : Later W6 => e6 (arcsAtV C f l k) m
            rw [hcl k hkC] at e7
            have e8 := fun m : Later W6 => e5 k m
            generalize arcsAtV C f l (k : Int) = V at *
            clear hcl e5 e6 FA
            go_wp2_with fail
            refine wp_region_later m rfl (by kernel_rfl) (by kernel_rfl) ?_
            repeat (go_big_quiet_step ((first | (go_at_call 18; exact Calls.later _ (e8 _)) | (go_at_call 17; exact Calls.later _ (e7 _)))))
            refine wpQuiet_nil ?_
            rintro _ ⟨m, rfl⟩
            go_wp2_with fail
            go_roundw
            case rel => exact ⟨⟨m, rfl⟩, k + 1, by go_num, by omega⟩
            case measure => simp [intOf]; omega
          · clear e5 e6 FA
            have hor : (decide ((k : Int) < C) = false) ∨ (decide ((k : Int) < C) = true ∧ iA = false) := by
              by_cases h : (k : Int) < C
              · right
                refine ⟨decide_eq_true h, ?_⟩
                cases hi : iA
                · rfl
                · exact absurd ⟨hi, h⟩ hgo
              · left; exact decide_eq_false h
            clear hgo
            rcases hor with h | ⟨h, rfl⟩
            all_goals
              go_upto_region 19 with fail
              clear ha0 ha1 ha2 ha4 hg0 hg1 hg4 hh0 hh1 hh4 hF hL hO3 hO5 h hR Hhfp HhiA Hhfn Hhfr
              have hBm := below_later HhB.out m
              generalize m.w = W7 at *
              clear m HhB
              have hA := DrawCutArcs_any n c bo W7 (Hhb1.out _ hBm) hn
              go_wp2_with fail
              refine hA.mono ?_
              rintro e w8 ⟨Cb, z, fb, lb, fob, lob, fcb, lcb, hf6b, hl6b, rfl, hFb, hLb, hBb⟩
              clear hA
              replace hBm := hBm.trans (hBb.mono hBm.size)
              clear hBb
              go_upto_region 20 with fail
              generalize hW9 : World.alloc _ _ = W9
              obtain ⟨hB9, hz9, k9⟩ := alloc1 hW9
              replace hFb := hFb.below hB9
              replace hLb := hLb.below hB9
              replace hBm := hBm.trans (hB9.mono hBm.size)
              clear hW9 hz9 hB9
              generalize w8.heap.size = yb at *
              have t1 := implCut_any Cb z fb lb fob lob fcb lcb W9 hFb hLb (by omega) (by omega)
              have t2 := fun (w' : World) (h : Below W9.heap.size W9 w') => specCut_any Cb z fb lb fob lob fcb lcb w' (hFb.below h) (hLb.below h) (by omega) (by omega)
              have hv1 := (cutV_len Cb fb lb z).1
              have hv2 := (cutV_len Cb fb lb z).2
              generalize cutLV Cb fb lb z = ls at *
              generalize cutRV Cb fb lb z = rs at *
              generalize cutOk Cb fb lb z = ok at *
              have v0 := k9.cell 0
              have v1 := k9.cell 1
              have v2 := k9.cell 2
              have v4 := k9.lt
              simp at v0 v1 v2
              have T2 := Lib.hid t2
              have HhBm := Lib.hid hBm
              clear hBm
              have HhFb := Lib.hid hFb
              clear hFb
              have HhLb := Lib.hid hLb
              clear hLb
              have Hk9 := Lib.hid k9
              clear k9
              clear t2
              go_wp2_with fail
              refine t1.mono ?_
              rintro e w10 ⟨p1, p2, q1, q2, rfl, hB10, hO1, hO2, -⟩
              clear t1 v0 v1 v2 v4
              replace hO1 := hO1.ints
              replace hO2 := hO2.ints
              have hB10s := hB10
              have hBm := HhBm.out.trans (hB10.mono HhBm.out.size)
              have k9 := Hk9.out.below hB10 Hk9.out.lt
              clear HhBm Hk9 HhFb HhLb hB10
              go_upto_region 21 with fail
              generalize hW11 : World.alloc _ _ = W11
              obtain ⟨hB11, hz11, k11⟩ := alloc1 hW11
              have t3 := T2.out W11 (below_more hB10s hB11)
              replace hO1 := hO1.below hB11
              replace hO2 := hO2.below hB11
              replace k9 := k9.below hB11 k9.lt
              replace hBm := hBm.trans (hB11.mono hBm.size)
              clear hW11 hz11 hB11 hB10s T2
              generalize w10.heap.size = yc at *
              have v0 := k9.cell 0
              have v1 := k9.cell 1
              have v2 := k9.cell 2
              have v4 := k9.lt
              simp at v0 v1 v2
              have HhBm := Lib.hid hBm
              clear hBm
              have HhO1 := Lib.hid hO1
              clear hO1
              have HhO2 := Lib.hid hO2
              clear hO2
              have Hk11 := Lib.hid k11
              clear k11
              clear k9
              go_wp2_with fail
              refine t3.mono ?_
              rintro e w12 ⟨p3, p4, q3, q4, rfl, hB12, hO3, hO4, -⟩
              clear t3 v0 v1 v2 v4
              replace hO3 := hO3.ints
              replace hO4 := hO4.ints
              have hBm := HhBm.out.trans (hB12.mono HhBm.out.size)
              have k11 := Hk11.out.below hB12 Hk11.out.lt
              have hO1 := HhO1.out.below hB12
              have hO2 := HhO2.out.below hB12
              clear HhBm Hk11 HhO1 HhO2 hB12
              go_upto_region 22 with fail
              generalize hW13 : World.alloc _ _ = W13
              obtain ⟨hB13, hz13, k13⟩ := alloc1 hW13
              replace hO1 := hO1.below hB13
              replace hO2 := hO2.below hB13
              replace hO3 := hO3.below hB13
              replace hO4 := hO4.below hB13
              replace k11 := k11.below hB13 k11.lt
              replace hBm := hBm.trans (hB13.mono hBm.size)
              clear hW13 hz13 hB13
              generalize w12.heap.size = yd at *
              have hA := DrawArcsAt_any n c bo W13 (Hhb1.out _ hBm) hn
              have HhBm := Lib.hid hBm
              clear hBm
              have HhO1 := Lib.hid hO1
              clear hO1
              have HhO2 := Lib.hid hO2
              clear hO2
              have HhO3 := Lib.hid hO3
              clear hO3
              have HhO4 := Lib.hid hO4
              clear hO4
              have Hk11 := Lib.hid k11
              clear k11
              have Hk13 := Lib.hid k13
              clear k13
              go_wp2_with fail
              refine hA.mono ?_
              rintro e w14 ⟨Ce, q, fe, le, foe, loe, fce, lce, hf6e, hl6e, rfl, hFe, hLe, hBe⟩
              clear hA
              have hBm := HhBm.out.trans (hBe.mono HhBm.out.size)
              have k11 := Hk11.out.below hBe Hk11.out.lt
              have k13 := Hk13.out.below hBe Hk13.out.lt
              have hO1 := HhO1.out.below hBe
              have hO2 := HhO2.out.below hBe
              have hO3 := HhO3.out.below hBe
              have hO4 := HhO4.out.below hBe
              clear hBe HhBm HhO1 HhO2 HhO3 HhO4 Hk11 Hk13
              go_upto_region 23 with fail
              generalize hW15 : World.alloc _ _ = W15
              obtain ⟨hB15, hz15, k15⟩ := alloc1 hW15
              replace hO1 := hO1.below hB15
              replace hO2 := hO2.below hB15
              replace hO3 := hO3.below hB15
              replace hO4 := hO4.below hB15
              replace k11 := k11.below hB15 k11.lt
              replace k13 := k13.below hB15 k13.lt
              replace hFe := hFe.below hB15
              replace hLe := hLe.below hB15
              replace hBm := hBm.trans (hB15.mono hBm.size)
              clear hW15 hz15 hB15
              generalize w14.heap.size = ye at *
              have hA := DrawCoversCircle_any n c bo W15 (Hhb1.out _ hBm) hn
              have HhBm := Lib.hid hBm
              clear hBm
              have HhO1 := Lib.hid hO1
              clear hO1
              have HhO2 := Lib.hid hO2
              clear hO2
              have HhO3 := Lib.hid hO3
              clear hO3
              have HhO4 := Lib.hid hO4
              clear hO4
              have Hk11 := Lib.hid k11
              clear k11
              have Hk13 := Lib.hid k13
              clear k13
              have Hk15 := Lib.hid k15
              clear k15
              have HhFe := Lib.hid hFe
              clear hFe
              have HhLe := Lib.hid hLe
              clear hLe
              go_wp2_with fail
              refine hA.mono ?_
              rintro e w16 ⟨Cf, st, ff, lf, fof, lof, fcf, lcf, hf6f, hl6f, rfl, hFf, hLf, hBf⟩
              clear hA
              have hBm := HhBm.out.trans (hBf.mono HhBm.out.size)
              have k11 := Hk11.out.below hBf Hk11.out.lt
              have k13 := Hk13.out.below hBf Hk13.out.lt
              have k15 := Hk15.out.below hBf Hk15.out.lt
              have hO1 := HhO1.out.below hBf
              have hO2 := HhO2.out.below hBf
              have hO3 := HhO3.out.below hBf
              have hO4 := HhO4.out.below hBf
              have hFe := HhFe.out.below hBf
              have hLe := HhLe.out.below hBf
              clear hBf HhBm HhO1 HhO2 HhO3 HhO4 Hk11 Hk13 Hk15 HhFe HhLe Hhb1
              go_upto_region 24 with fail
              generalize hW17 : World.alloc _ _ = W17
              obtain ⟨hB17, hz17, k17⟩ := alloc1 hW17
              replace hO1 := hO1.below hB17
              replace hO2 := hO2.below hB17
              replace hO3 := hO3.below hB17
              replace hO4 := hO4.below hB17
              replace k11 := k11.below hB17 k11.lt
              replace k13 := k13.below hB17 k13.lt
              replace k15 := k15.below hB17 k15.lt
              replace hFe := hFe.below hB17
              replace hLe := hLe.below hB17
              replace hFf := hFf.below hB17
              replace hLf := hLf.below hB17
              replace hBm := hBm.trans (hB17.mono hBm.size)
              clear hW17 hz17 hB17
              generalize w16.heap.size = yf at *
              have HB := Lib.hid hBm
              have m0 := k11.cell 0
              have m1 := k11.cell 1
              have m4 := k11.lt
              have n0 := k13.cell 0
              have n1 := k13.cell 1
              have n4 := k13.lt
              have o0 := k15.cell 0
              have o1 := k15.cell 1
              have o2 := k15.cell 2
              have o4 := k15.lt
              have r0 := k17.cell 0
              have r1 := k17.cell 1
              have r2 := k17.cell 2
              have r4 := k17.lt
              simp at m0 m1 n0 n1 o0 o1 o2 r0 r1 r2
              clear hBm k11 k13 k15 k17
              have g1 := fun m : Later W17 => sameModel_any ls rs q1 q2 q3 q4 p1 p2 p3 p4 m.w (hO1.later m) (hO2.later m) (hO3.later m) (hO4.later m) hv1 hv2
              have g2 := fun m : Later W17 => implArcsAt_any Ce fe le foe loe fce lce q m.w (hFe.later m) (hLe.later m) (by omega) (by omega)
              have g3 := fun m : Later W17 => specArcsAt_any Ce fe le foe loe fce lce q m.w (hFe.later m) (hLe.later m) (by omega) (by omega)
              have g4 := fun m : Later W17 => implCovers_any Cf ff lf fof lof fcf lcf st m.w (hFf.later m) (hLf.later m) (by omega) (by omega)
              have g5 := fun m : Later W17 => specCovers_any Cf ff lf fof lof fcf lcf st m.w (hFf.later m) (hLf.later m) (by omega) (by omega)
              generalize arcsAtV Ce fe le q = V1 at *
              generalize coversB Cf ff lf st = V2 at *
              clear hO1 hO2 hO3 hO4 hFe hLe hFf hLf hf6e hl6e hf6f hl6f hf6b hl6b hv1 hv2
              obtain ⟨m, hm0⟩ : ∃ m : Later W17, m.w = W17 := ⟨Later.refl _, rfl⟩
              refine (fun h => hm0 ▸ h) ?_
              clear hm0
              refine wp_region_later m rfl (by kernel_rfl) (by kernel_rfl) ?_
              repeat (go_big_quiet_step ((first | (go_at_call 23; exact Calls.later _ (g1 _)) | (go_at_call 18; exact Calls.later _ (g2 _)) | (go_at_call 24; exact Calls.later _ (g3 _)) | (go_at_call 16; exact Calls.later _ (g4 _)) | (go_at_call 25; exact Calls.later _ (g5 _)))))
              refine wpQuiet_nil ?_
              rintro _ ⟨m, rfl⟩
              go_wp2_with fail
              go_ret
              exact ⟨by simp, below_later HB.out m⟩

open Go.ChangeShapes Go.WideShapes Go.ChangeAt
theorem door_met (os : Os) (args : Array Value) : laidMetH Tryd.prog Rows.fnArcsRow.laid ((World.doorLaid Tryd.prog 400 os).forCall (fun _ _ => 0) ⟨#[], args, []⟩).memory :=
  laidMetH_of_parts3 (fuel := 8) (laidMet_of_run' 8 (by kernel_rfl) (by kernel_rfl)) (by kernel_rfl) (by kernel_rfl)

set_option maxRecDepth 100000 in
theorem lifted (os : Os) (started : os.Started) (H : Type) (enc : TypeId × Value → H) :
    ReturnsInHanded {} Tryd.checked os 3 .any (fun w args => (Rows.fnArcsSpec.pre enc Tryd.prog Tryd.f3 Rows.fnArcsRow.domain false w args ∧ laidMetH Tryd.prog Rows.fnArcsRow.laid w) ∧ sizedMet enc Tryd.prog Tryd.f3 (OpenSpec.ofChange Rows.fnArcsSpec) false w args)
      (Rows.fnArcsSpec.post enc Tryd.prog Tryd.f3 false true false false) := by
  refine returnsInHanded_of_change_and (C := Tryd.checked) (X := fun w _ => laidMetH Tryd.prog Rows.fnArcsRow.laid w) (fun _ _ _ hh h => h.of_heap hh) own started (by kernel_rfl) Tryd.func3
    (ChangeSpec.witness_shaped (enc := enc) (C := Tryd.checked) (os := os) (X := fun w _ => laidMetH Tryd.prog Rows.fnArcsRow.laid w) false (World.doorLaid Tryd.prog 400 os) #[.slice none 0 0] 8 rfl (World.shaped_of_RefB (by kernel_rfl) (by kernel_rfl)) (by kernel_rfl) (by kernel_rfl) (by kernel_rfl) (door_met os _)) ?_
  intro W base args ds gs before hval0 hW hcnd _ _ _
  have hval : ∀ (j : Nat) t v, Tryd.f3.params[j]? = some t → args[j]? = some v → Value.okWide Tryd.prog W .any base t v := hval0
  have hW' := hW
  obtain ⟨p, q, hA0, hV, rfl, hfz, hnd⟩ := hW
  have hA : DataW.TrodAll enc Tryd.prog W 0 (fun _ => true) true Tryd.f3.params.toList args.toList ds p := hA0
  rw [Tryd.params3] at hA hval
  obtain ⟨v0, vs0, d0, ds0, p0, q0, hargs, rfl, rfl, h0, r0⟩ := trodAll_cons hA
  obtain ⟨rfl, rfl, rfl⟩ := trodAll_nil r0
  obtain rfl : args = #[v0] := by cases args; simp_all
  obtain ⟨rfl, rfl⟩ := trodVars_none hV
  have k0 := h0
  have lt0 : ∀ x ∈ p0, x.block < W.heap.size := by obtain ⟨m, hm⟩ := k0; exact DataW.trod_lt m _ _ _ hm
  obtain ⟨m, hm⟩ := h0
  obtain ⟨v1, v2, v3, rfl⟩ := okWide_slice Tryd.underlying22 (hval 0 22 v0 rfl rfl)
  obtain ⟨bo, n, c, e0, hb, hn⟩ := bytes_of_trod hm
  obtain ⟨rfl, rfl, rfl⟩ : v1 = bo ∧ v2 = n ∧ v3 = c := by simpa using e0
  clear hA0 hval0
  refine (law_any _ _ _ W hb hn).mono fun e W' ⟨he, bel⟩ => ?_
  subst he
  exact ⟨_, rfl, _, _, _, [], _, [], hW', trodAll_mk1 (shut_bool Tryd.underlying4 _), (trodAll_cons_mk (Below.trod laidOut (by kernel_rfl) (of_decide_eq_true (by kernel_rfl)) k0 bel lt0) trodAll_mk0), rfl, bel.frame _, fun h => by cases h⟩

theorem row_holds : Rows.FnArcsSaid :=
  OpenClaim.holds_of_wide 3 Tryd.f3 rfl rfl rfl rfl rfl rfl rfl ⟨rfl, rfl, rfl, rfl, rfl⟩ rfl rfl rfl rfl rfl (by kernel_rfl) Tryd.func3 (by kernel_rfl)
    (of_decide_eq_true (by kernel_rfl)) (by unfold Func.isWrapper; first | (rw [if_pos (by decide +kernel)]; kernel_rfl) | (rw [if_neg (by decide +kernel)]; exact ⟨rfl, rfl⟩))
    (fun os started H enc _ => lifted os started H enc)

theorem holds : Rows.FnArcsCardSaid :=
  Claim7.holds_tied_plain_at .later [] [.data, .data, .data] true Rows.fnArcsCard.stood.harness false
    row_holds (fun _ h => by cases h) (by kernel_rfl) (fun _ h => by cases h) fnArcs_row_tie rfl ⟨rfl, rfl⟩ (by kernel_rfl) rfl
    (fun f fn hf hfn => by
      obtain rfl : f = 3 := Option.some.inj ((show Tryd.prog.funcNamed "loop.example/g02081/laws.FnArcs" = some 3 by kernel_rfl).symm.trans hf) |>.symm
      obtain rfl : fn = Tryd.f3 := (Option.some.inj (Tryd.func3.symm.trans hfn)).symm
      exact ⟨by kernel_rfl, fun j t ht => by
        have hall : (Tryd.f3.params.toList.all fun u => !Tryd.prog.wantsStandIn u) = true := by kernel_rfl
        have hm : t ∈ Tryd.f3.params.toList := by simpa using Array.mem_of_getElem? ht
        exact (show Tryd.prog.wantsStandIn t = false by simpa using List.all_eq_true.1 hall t hm)⟩)
    (by kernel_rfl)
#print axioms holds

end Go.Proofs.YtfkehmpckhmkbaaDoor.cardArcs
