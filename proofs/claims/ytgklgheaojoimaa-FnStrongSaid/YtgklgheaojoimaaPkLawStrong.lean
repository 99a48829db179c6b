/-
  FnStrong: for every input the law returns true, and its argument reads as it did. No conditions.
-/
import Derived.Test.YtgklgheaojoimaaPkLawStrong34
import Derived.Test.YtgklgheaojoimaaPkLawStrong46
import Derived.Test.YtgklgheaojoimaaPkLawStrong49
import Derived.Test.YtgklgheaojoimaaPkLawStrong40
import Derived.Test.YtgklgheaojoimaaPkLawStrong50
import Derived.Test.YtgklgheaojoimaaPkLawStrong12
import Derived.Deep.CutRange
namespace Go.Proofs.Ytgklgheaojoimaa.lawStrong
open Go.Proofs.Ytgklgheaojoimaa Go.RowKit

theorem facts (x : Int) (f : List Int) (h6 : f.length ≤ 6) : (isGraphB x f = false ∧ (ordV x f).isSome = false ∧ (obst2V x f).isSome = false) ∨ (isGraphB x f = true ∧ (ordV x f).isSome = true ∧ (obst2V x f).isSome = false) ∨
    (isGraphB x f = true ∧ (ordV x f).isSome = false ∧ (obst2V x f).isSome = true) := by
  cases hv : isGraphB x f
  · refine .inl ⟨rfl, by rw [ordV_no hv]; rfl, ?_⟩
    have h1 : holeV x f = none := by unfold holeV; rw [if_neg (by rw [hv]; decide)]
    unfold obst2V
    rw [h1]
    show (sunV x f).isSome = false
    unfold sunV
    rw [hv]; rfl
  · obtain ⟨rfl, g⟩ := VG.of hv
    have h := strong_law hv h6
    cases ho : (obst2V f.length f).isSome
    · rw [ho] at h; exact .inr (.inl ⟨rfl, h, rfl⟩)
    · rw [ho] at h; exact .inr (.inr ⟨rfl, h, rfl⟩)

set_option maxRecDepth 100000 in
set_option maxHeartbeats 16000000 in
theorem law_any (n c : Nat) (bo : Option Addr) (w : World) (hb : BytesU w.heap.size w bo n) (hn : n ≤ 9223372036854775807) :
    Calls Try.prog 4 #[.slice bo n c] w fun e w' => e = .returned (.bool true) ∧ Below w.heap.size w w' := by
  by_cases hbig : 1048576 < n
  · have d0 : decide (1048576 < n) = true := decide_eq_true hbig
    go_enter Try.func4, Try.ntmps4
    go_wp2_with fail
    refine (big_any n c bo w hn).mono ?_
    rintro e w' ⟨rfl, rfl⟩
    go_wp2_with fail
    go_ret
    exact ⟨rfl, Below.refl _ _⟩
  · have d0 : decide (1048576 < n) = false := decide_eq_false hbig
    replace hn : n ≤ 1048576 := by omega
    clear hbig
    go_enter Try.func4, Try.ntmps4
    go_wp2_with fail
    refine (big_any n c bo w (by omega)).mono ?_
    rintro e w' ⟨rfl, rfl⟩
    clear d0
    go_wp2_with fail
    refine (DrawSimpleOrder_any n c bo w hb hn).mono ?_
    rintro e w1 ⟨x, f, g, cap, ⟨hf1, hf7⟩, rfl, hg, hR, hB1⟩
    have hb1 : ∀ w', Below w.heap.size w w' → BytesU w'.heap.size w' bo n := fun w' h => (hb.only (Only.of (X := fun _ => False) h) fun _ _ h => h).mono h.size
    clear hb
    go_wp2_with fail
    generalize hW2 : World.alloc _ _ = W2
    obtain ⟨hB2, hz2, k2⟩ := alloc1 hW2
    have hr := (hR.below hB2).ints
    have hs1 := hB1.size
    have hB : Below w.heap.size w W2 := hB1.trans (hB2.mono hs1)
    have hb0 := k2.lt
    have hc0 := k2.cell 0
    have hc1 := k2.cell 1
    simp at hc0 hc1
    clear hW2 hz2 k2 hB1 hB2 hR hg hf1 hs1
    have hrl : f.length ≤ 1048576 := by omega
    generalize w1.heap.size = yb at *
    have F := facts x f hf7
    have hol := ordV_len x f
    have hpl := obst2V_len x f
    have h1 := fun m : Later W2 => implOrder_any x f (some ⟨g, 0, none⟩) cap m.w (hr.later m) hrl
    have h2 := fun m : Later W2 => specOrderO_any x f (some ⟨g, 0, none⟩) cap m.w (hr.later m) hrl
    have h3 := fun m : Later W2 => implObst2_any x f (some ⟨g, 0, none⟩) cap m.w (hr.later m) hrl
    have h4 := fun m : Later W2 => specObst2_any x f (some ⟨g, 0, none⟩) cap m.w (hr.later m) hrl
    have HB : Hid (strongB x f = (ordV x f).isSome) := rfl
    have HE : Hid (∀ l, ordV x f = some l → x = f.length ∧ orderB f.length f l = true ∧ ∀ i, i < l.length → cliqueN f (laterN f l i) = true) := Lib.hid fun l h => by
      have hg : isGraphB x f = true := by
        cases hv : isGraphB x f
        · rw [ordV_no hv] at h; cases h
        · rfl
      obtain ⟨rfl, -⟩ := VG.of hg
      exact ⟨rfl, simple_elim h⟩
    have HI : Hid (isGraphB x f = true → (∃ d, IvlP f d) → (ordV x f).isSome = true) := Lib.hid fun hv ⟨d, hd⟩ => by
      obtain ⟨rfl, -⟩ := VG.of hv
      exact hd.order hv
    generalize ordV x f = O at *
    generalize obst2V x f = Q at *
    have HhB := Lib.hid hB
    clear hB
    have Hhb1 := Lib.hid hb1
    clear hb1
    have HF := Lib.hid F
    clear F
    obtain ⟨m, hm0⟩ : ∃ m : Later W2, m.w = W2 := ⟨Later.refl _, rfl⟩
    refine (fun h => hm0 ▸ h) ?_
    clear hm0
    go_wp2_with fail
    refine (h1 m).mono ?_
    rintro e w3 ⟨lo, lc, rfl, hB3, hL⟩
    replace hL := hL.ints
    obtain ⟨m, rfl⟩ : ∃ m2 : Later W2, m2.w = w3 := ⟨m.on hB3, rfl⟩
    clear hB3 h1
    go_wp2_with fail
    refine (h2 m).mono ?_
    rintro e w3 ⟨lo2, lc2, rfl, hB3, hL2⟩
    have hc2 := hL2.room'
    replace hL2 := hL2.ints
    replace hL := hL.below hB3
    obtain ⟨m, rfl⟩ : ∃ m2 : Later W2, m2.w = w3 := ⟨m.on hB3, rfl⟩
    clear hB3 h2
    go_wp2_with fail
    refine (h3 m).mono ?_
    rintro e w3 ⟨lo3, lc3, rfl, hB3, hL3⟩
    replace hL3 := hL3.ints
    replace hL := hL.below hB3
    replace hL2 := hL2.below hB3
    obtain ⟨m, rfl⟩ : ∃ m2 : Later W2, m2.w = w3 := ⟨m.on hB3, rfl⟩
    clear hB3 h3
    go_wp2_with fail
    refine (h4 m).mono ?_
    rintro e w3 ⟨lo4, lc4, rfl, hB3, hL4⟩
    replace hL := hL.below hB3
    replace hL2 := hL2.below hB3
    replace hL3 := hL3.below hB3
    obtain ⟨m, rfl⟩ : ∃ m2 : Later W2, m2.w = w3 := ⟨m.on hB3, rfl⟩
    clear hB3 h4
    replace hr := hr.later m
    replace hc0 : m.w.cell? _ = _ := (m.cell _ _ hb0).trans hc0
    replace hc1 : m.w.cell? _ = _ := (m.cell _ _ hb0).trans hc1
    replace hb0 := Nat.lt_of_lt_of_le hb0 m.size
    replace HhB := Lib.hid (below_later HhB.out m)
    generalize m.w = W3 at *
    clear m
    obtain ⟨m, hm0⟩ : ∃ m : Later W3, m.w = W3 := ⟨Later.refl _, rfl⟩
    refine (fun h => hm0 ▸ h) ?_
    clear hm0
    have s1 := fun m : Later W3 => lawSameInts_any lo lo2 (O.getD []) (O.getD []) lc lc2 m.w (hL.later m) (hL2.later m) (by omega) (by omega)
    have s2 := fun m : Later W3 => lawSameInts_any lo3 lo4 (Q.getD []) (Q.getD []) lc3 lc4 m.w (hL3.later m) (hL4.later m) (by omega) (by omega)
    have s3 := fun m : Later W3 => implStrong_any x f (some ⟨g, 0, none⟩) cap m.w (hr.later m) hrl
    rw [HB.out] at s3
    have s4 := fun m : Later W3 => specIsGraph_any x f (some ⟨g, 0, none⟩) cap m.w (hr.later m) hrl
    have s5 : O.isSome = true → ∀ m : Later W3, Calls Try.prog 36 #[.agg #[.int .i64 x, .slice (some ⟨g, 0, none⟩) f.length cap], .slice lo2 (O.getD []).length lc2] m.w fun e w' => e = .returned (.bool true) ∧ Below m.w.heap.size m.w w' := fun hO m => by
      cases hq : O with
      | none => rw [hq] at hO; cases hO
      | some l =>
        obtain ⟨rfl, e1, e2⟩ := HE.out l hq
        rw [hq] at hc2 hL2
        exact implIsElim_any f l (some ⟨g, 0, none⟩) lo2 cap lc2 m.w e1 e2 (hr.later m) (hL2.later m) hc2
    have s6 := fun m : Later W3 => specIvl_any x f (some ⟨g, 0, none⟩) cap m.w (hr.later m) hrl
    simp only [sameInts_refl] at s1 s2
    generalize O.isSome = os at *
    generalize O.getD [] = l at *
    generalize Q.isSome = qs at *
    generalize Q.getD [] = q at *
    generalize isGraphB x f = gB at *
    clear HE hL hL2 hL3 hL4 hc2 HB
    have S5 := Lib.hid s5
    clear s5
    go_upto_region 8 with fail
    go_cut [97] from 46 to 158 (fun v wx => v = .bool false ∧ ∃ m' : Later W3, wx = m'.w)
    case first =>
      rcases HF.out with ⟨rfl, rfl, rfl⟩ | ⟨rfl, rfl, rfl⟩ | ⟨rfl, rfl, rfl⟩
      · clear HF
        go_wp2_with fail
        refine (Calls.later m (s1 m)).mono ?_
        rintro e w' ⟨rfl, m, rfl⟩
        go_wp2_with fail
        refine (Calls.later m (s2 m)).mono ?_
        rintro e w' ⟨rfl, m, rfl⟩
        go_wp2_with fail
        refine (Calls.later m (s3 m)).mono ?_
        rintro e w' ⟨rfl, m, rfl⟩
        go_wp2_with fail
        refine (Calls.later m (s4 m)).mono ?_
        rintro e w' ⟨rfl, m, rfl⟩
        go_wp2_with fail
        refine (s6 m).mono ?_
        rintro e w4 ⟨b, rfl, hB4, hb4⟩
        obtain ⟨m, rfl⟩ : ∃ m2 : Later W3, m2.w = w4 := ⟨m.on hB4, rfl⟩
        obtain rfl : b = false := by
          cases b
          · rfl
          · exact absurd (hb4 rfl).1 (by decide)
        clear hb4 hB4
        go_wp2_with fail
        go_meet
        case rel => exact ⟨rfl, m, rfl⟩
      · have s5 := S5.out rfl
        clear HF S5
        go_wp2_with fail
        refine (Calls.later m (s1 m)).mono ?_
        rintro e w' ⟨rfl, m, rfl⟩
        go_wp2_with fail
        refine (Calls.later m (s2 m)).mono ?_
        rintro e w' ⟨rfl, m, rfl⟩
        go_wp2_with fail
        refine (Calls.later m (s3 m)).mono ?_
        rintro e w' ⟨rfl, m, rfl⟩
        go_wp2_with fail
        refine (Calls.later m (s4 m)).mono ?_
        rintro e w' ⟨rfl, m, rfl⟩
        go_wp2_with fail
        refine (Calls.later m (s5 m)).mono ?_
        rintro e w' ⟨rfl, m, rfl⟩
        go_wp2_with fail
        refine (s6 m).mono ?_
        rintro e w4 ⟨b, rfl, hB4, -⟩
        obtain ⟨m, rfl⟩ : ∃ m2 : Later W3, m2.w = w4 := ⟨m.on hB4, rfl⟩
        clear hB4
        cases b
        all_goals
          go_wp2_with fail
          go_meet
          case rel => exact ⟨rfl, m, rfl⟩
      · clear HF
        go_wp2_with fail
        refine (Calls.later m (s1 m)).mono ?_
        rintro e w' ⟨rfl, m, rfl⟩
        go_wp2_with fail
        refine (Calls.later m (s2 m)).mono ?_
        rintro e w' ⟨rfl, m, rfl⟩
        go_wp2_with fail
        refine (Calls.later m (s3 m)).mono ?_
        rintro e w' ⟨rfl, m, rfl⟩
        go_wp2_with fail
        refine (Calls.later m (s4 m)).mono ?_
        rintro e w' ⟨rfl, m, rfl⟩
        go_wp2_with fail
        refine (s6 m).mono ?_
        rintro e w4 ⟨b, rfl, hB4, hb4⟩
        obtain ⟨m, rfl⟩ : ∃ m2 : Later W3, m2.w = w4 := ⟨m.on hB4, rfl⟩
        obtain rfl : b = false := by
          cases b
          · rfl
          · exact absurd (HI.out trivial (hb4 rfl).2.2) (by decide)
        clear hb4 hB4
        go_wp2_with fail
        go_meet
        case rel => exact ⟨rfl, m, rfl⟩
    case rest =>
      obtain ⟨rfl, m, rfl⟩ := hcut
      clear hc0 hc1 hb0 hr hrl hf7 s1 s2 s3 s4 s6 S5 HF HI hol hpl
      have hBm := below_later HhB.out m
      generalize m.w = W7 at *
      clear m HhB
      have hA := DrawFindSun_any n c bo W7 (Hhb1.out _ hBm) hn
      go_wp2_with fail
      refine hA.mono ?_
      rintro e w8 ⟨xa, fa, ga, ca, ⟨-, ha7⟩, rfl, -, hRa, hBa⟩
      clear hA
      replace hBm := hBm.trans (hBa.mono hBm.size)
      clear hBa
      go_wp2_with fail
      generalize hW9 : World.alloc _ _ = W9
      obtain ⟨hB9, hz9, k9⟩ := alloc1 hW9
      have hra := (hRa.below hB9).ints
      replace hBm := hBm.trans (hB9.mono hBm.size)
      clear hW9 hz9 hB9 hRa
      generalize w8.heap.size = ya at *
      have t1 := implFindSun_any xa fa (some ⟨ga, 0, none⟩) ca W9 hra (by omega)
      have t2 := fun (w' : World) (h : Below W9.heap.size W9 w') => specFindSunC_any xa fa (some ⟨ga, 0, none⟩) ca w' (hra.below h) (by omega)
      have hsl := sunV_len xa fa
      have HX : Hid (∀ y, sunV xa fa = some y → sunB xa fa y = true) := Lib.hid fun y h => sunV_true h
      have hcl0 := k9.cell 0
      have hcl1 := k9.cell 1
      have hcl4 := k9.lt
      simp at hcl0 hcl1
      generalize sunV xa fa = O1 at *
      have Hk9 := Lib.hid k9
      have HBm := Lib.hid hBm
      clear k9 hBm
      refine t1.mono ?_
      rintro e w10 ⟨lo5, lc5, rfl, hB10, hL5⟩
      replace hL5 := hL5.ints
      have t2' := t2 w10 hB10
      have u0 : w10.cell? ⟨ya, 0, none⟩ = _ := (hB10.cell hcl4).trans hcl0
      have u1 : w10.cell? ⟨ya, 1, none⟩ = _ := (hB10.cell hcl4).trans hcl1
      have u4 := Nat.lt_of_lt_of_le hcl4 hB10.size
      have Hk10 := Lib.hid (Hk9.out.below hB10 hcl4)
      have HBm2 := Lib.hid (HBm.out.trans (hB10.mono HBm.out.size))
      have hra2 := hra.below hB10
      clear t1 t2 hB10 hcl0 hcl1 hcl4 Hk9 HBm hra
      go_wp2_with fail
      refine t2'.mono ?_
      rintro e w11 ⟨lo6, lc6, rfl, hB11, hL6, hc6⟩
      replace hL5 := hL5.below hB11
      have k11 := Hk10.out.below hB11 Hk10.out.lt
      have hra := hra2.below hB11
      have hBm := HBm2.out.trans (hB11.mono HBm2.out.size)
      clear t2' hB11 u0 u1 u4 Hk10 HBm2 hra2
      have hX1 : O1.isSome = true → sunB xa fa (O1.getD []) = true := fun h => by
        cases hq : O1 with
        | none => rw [hq] at h; cases h
        | some y => exact HX.out y hq
      clear HX
      generalize O1.isSome = o1 at *
      generalize O1.getD [] = l1 at *
      have hA := DrawIsSimple_any n c bo w11 (Hhb1.out _ hBm) hn
      go_wp2_with fail
      refine hA.mono ?_
      rintro e w12 ⟨xd, zd, yd2, fd, gd, cd, ⟨-, hd7⟩, rfl, hRd, hBd⟩
      clear hA
      replace hL5 := hL5.below hBd
      replace hL6 := hL6.below hBd
      replace hra := hra.below hBd
      replace k11 := k11.below hBd k11.lt
      replace hBm := hBm.trans (hBd.mono hBm.size)
      clear hBd
      go_wp2_with fail
      generalize hW13 : World.alloc _ _ = W13
      obtain ⟨hB13, hz13, k13⟩ := alloc1 hW13
      replace hL5 := hL5.below hB13
      replace hL6 := hL6.below hB13
      replace hra := hra.below hB13
      replace k11 := k11.below hB13 k11.lt
      have hrd := (hRd.below hB13).ints
      replace hBm := hBm.trans (hB13.mono hBm.size)
      clear hW13 hz13 hB13 hRd
      generalize w12.heap.size = yd at *
      have hA := DrawIsSun_any n c bo W13 (Hhb1.out _ hBm) hn
      refine hA.mono ?_
      rintro e w14 ⟨xb, fb, lb, gb, cb, lob, lcb, ⟨-, hb7⟩, hlb, hlcb, rfl, hRb, hLb, hBb⟩
      clear hA
      replace hL5 := hL5.below hBb
      replace hL6 := hL6.below hBb
      replace hra := hra.below hBb
      replace k11 := k11.below hBb k11.lt
      replace k13 := k13.below hBb k13.lt
      replace hrd := hrd.below hBb
      replace hBm := hBm.trans (hBb.mono hBm.size)
      clear hBb
      go_wp2_with fail
      generalize hW15 : World.alloc _ _ = W15
      obtain ⟨hB15, hz15, k15⟩ := alloc1 hW15
      replace hL5 := hL5.below hB15
      replace hL6 := hL6.below hB15
      replace hLb := hLb.below hB15
      replace hra := hra.below hB15
      replace k11 := k11.below hB15 k11.lt
      replace k13 := k13.below hB15 k13.lt
      replace hrd := hrd.below hB15
      have hrb := (hRb.below hB15).ints
      have HB := Lib.hid (hBm.trans (hB15.mono hBm.size))
      clear hW15 hz15 hB15 hRb hBm Hhb1
      generalize w14.heap.size = yb15 at *
      have p0 := k11.cell 0
      have p1 := k11.cell 1
      have p4 := k11.lt
      have q0 := k13.cell 0
      have q1 := k13.cell 1
      have q4 := k13.lt
      have r0 := k15.cell 0
      have r1 := k15.cell 1
      have r4 := k15.lt
      simp at p0 p1 q0 q1 r0 r1
      clear k11 k13 k15
      have g1 := fun m : Later W15 => lawSameInts_any lo5 lo6 l1 l1 lc5 lc6 m.w (hL5.later m) (hL6.later m) (by omega) (by omega)
      have g2 := fun m : Later W15 => implIsSun_any xa fa l1 (some ⟨ga, 0, none⟩) lo6 ca lc6 m.w (hra.later m) (by omega) (hL6.later m) hsl hc6
      have g3 := fun m : Later W15 => implIsSimple_any xd fd zd yd2 (some ⟨gd, 0, none⟩) cd m.w (hrd.later m) (by omega)
      have g4 := fun m : Later W15 => specIsSimple_any xd fd zd yd2 (some ⟨gd, 0, none⟩) cd m.w (hrd.later m) (by omega)
      have g5 := fun m : Later W15 => implIsSun_any xb fb lb (some ⟨gb, 0, none⟩) lob cb lcb m.w (hrb.later m) (by omega) (hLb.later m) hlb hlcb
      have g6 := fun m : Later W15 => specIsSun_any xb fb lb (some ⟨gb, 0, none⟩) lob cb lcb m.w (hrb.later m) (by omega) (hLb.later m) hlb
      simp only [sameInts_refl] at g1
      generalize sunB xa fa l1 = A at *
      generalize simpleB xd fd zd yd2 = B at *
      generalize sunB xb fb lb = C at *
      clear hL5 hL6 hLb hra hrd hrb hlb hlcb hd7 ha7 hb7 hsl hc6
      obtain ⟨m, hm0⟩ : ∃ m : Later W15, m.w = W15 := ⟨Later.refl _, rfl⟩
      refine (fun h => hm0 ▸ h) ?_
      clear hm0
      cases o1
      · clear hX1 g2
        refine wp_region_later m rfl (by kernel_rfl) (by kernel_rfl) ?_
        repeat (go_big_quiet_step ((first | (go_at_call 12; exact Calls.later _ (g1 _)) | (go_at_call 44; exact Calls.later _ (g3 _)) | (go_at_call 45; exact Calls.later _ (g4 _)) | (go_at_call 43; exact Calls.later _ (g5 _)) | (go_at_call 46; exact Calls.later _ (g6 _)))))
        refine wpQuiet_nil ?_
        rintro _ ⟨m, rfl⟩
        go_wp2_with fail
        go_ret
        exact ⟨by simp, below_later HB.out m⟩
      · obtain rfl := hX1 rfl
        clear hX1
        refine wp_region_later m rfl (by kernel_rfl) (by kernel_rfl) ?_
        repeat (go_big_quiet_step ((first | (go_at_call 12; exact Calls.later _ (g1 _)) | (go_at_call 44; exact Calls.later _ (g3 _)) | (go_at_call 45; exact Calls.later _ (g4 _)) | (go_at_call 43; with_reducible exact Calls.later _ (g2 _)) | (go_at_call 43; with_reducible exact Calls.later _ (g5 _)) | (go_at_call 46; exact Calls.later _ (g6 _)))))
        refine wpQuiet_nil ?_
        rintro _ ⟨m, rfl⟩
        go_wp2_with fail
        go_ret
        exact ⟨by simp, below_later HB.out m⟩

open Go.ChangeShapes Go.WideShapes Go.ChangeAt

set_option maxRecDepth 100000 in
set_option maxHeartbeats 2000000 in
theorem lifted (os : Os) (started : os.Started) (H : Type) (enc : TypeId × Value → H) :
    ReturnsInHanded {} Try.checked os 4 .any (Rows.fnStrongSpec.pre6 enc Try.prog Try.f4 Rows.fnStrongRow.domain false) (Rows.fnStrongSpec.post enc Try.prog Try.f4 false true false false) := by
  refine returnsInHanded_of_change (C := Try.checked) own started (by kernel_rfl) Try.func4
    (ChangeSpec.witness6 (enc := enc) (C := Try.checked) false ⟨#[], #[.slice none 0 0], []⟩ 8 (by kernel_rfl) (by kernel_rfl) (by kernel_rfl) (by kernel_rfl)) ?_
  intro W base args ds gs before hval0 hW hcnd _
  have hval : ∀ (j : Nat) t v, Try.f4.params[j]? = some t → args[j]? = some v → Value.okWide Try.prog W .any base t v := hval0
  have hW' := hW
  obtain ⟨p, q, hA0, hV, rfl, hfz, hnd⟩ := hW
  have hA : DataW.TrodAll enc Try.prog W 0 (fun _ => true) true Try.f4.params.toList args.toList ds p := hA0
  rw [Try.params4] at hA hval
  obtain ⟨v0, vs0, d0, ds0, p0, q0, hargs, rfl, rfl, h0, r0⟩ := trodAll_cons hA
  obtain ⟨rfl, rfl, rfl⟩ := trodAll_nil r0
  obtain rfl : args = #[v0] := by cases args; simp_all
  obtain ⟨rfl, rfl⟩ := trodVars_none hV
  have k0 := h0
  have lt0 : ∀ x ∈ p0, x.block < W.heap.size := by obtain ⟨m, hm⟩ := k0; exact DataW.trod_lt m _ _ _ hm
  obtain ⟨m, hm⟩ := h0
  obtain ⟨v1, v2, v3, rfl⟩ := okWide_slice Try.underlying22 (hval 0 22 v0 rfl rfl)
  obtain ⟨bo, n, c, e0, hb, hn⟩ := bytes_of_trod hm
  obtain ⟨rfl, rfl, rfl⟩ : v1 = bo ∧ v2 = n ∧ v3 = c := by simpa using e0
  clear hA0 hval0
  refine (law_any _ _ _ W hb hn).mono fun e W' ⟨he, bel⟩ => ?_
  subst he
  exact ⟨_, rfl, _, _, _, [], _, [], hW', trodAll_mk1 (shut_bool Try.underlying4 _), (trodAll_cons_mk (Below.trod laidOut (by kernel_rfl) (of_decide_eq_true (by kernel_rfl)) k0 bel lt0) trodAll_mk0), rfl, bel.frame _, fun h => by cases h⟩

theorem holds : Rows.FnStrongSaid :=
  OpenClaim.holds_of_wide 4 Try.f4 rfl rfl rfl rfl rfl rfl rfl ⟨rfl, rfl, rfl, rfl, rfl⟩ rfl rfl rfl rfl rfl (by kernel_rfl) Try.func4 (by kernel_rfl)
    (of_decide_eq_true (by kernel_rfl)) (by unfold Func.isWrapper; first | (rw [if_pos (by decide +kernel)]; kernel_rfl) | (rw [if_neg (by decide +kernel)]; exact ⟨rfl, rfl⟩))
    (fun os started H enc _ => lifted os started H enc)
#print axioms holds

end Go.Proofs.Ytgklgheaojoimaa.lawStrong
