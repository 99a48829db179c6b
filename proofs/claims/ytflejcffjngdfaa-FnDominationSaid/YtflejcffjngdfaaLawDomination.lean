/-
  FnDomination: for every input the law returns true, and its argument reads as it did. No conditions.
-/
import Derived.Test.YtflejcffjngdfaaDrawA
import Derived.Test.YtflejcffjngdfaaDraw
import Derived.Test.YtflejcffjngdfaaDrawC
import Derived.Test.YtflejcffjngdfaaDomL
import Derived.Test.YtflejcffjngdfaaDominate
import Derived.Test.YtflejcffjngdfaaGap
import Derived.Test.YtflejcffjngdfaaGreedyI
import Derived.Test.YtflejcffjngdfaaStrong
import Derived.Test.YtflejcffjngdfaaOpen
namespace Go.Proofs.Ytflejcffjngdfaa.lawDomination
open Go.Proofs.Ytflejcffjngdfaa Go.RowKit

theorem facts (x : Int) (f : List Int) : (isGraphB x f = true → decide (gapV x f < 0) = false ∧ domB x f (fewestV x f fun S => domB f.length f S) = true ∧ packB x f (largestV x f fun S => packB f.length f S) = true) ∧
    ((ordV x f).isSome = true → domB x f (greedyV x f) = true ∧ (listOf (greedyV x f)).length = (listOf (largestV x f fun S => packB f.length f S)).length ∧ gapV x f = 0) := by
  constructor
  · intro hg
    obtain ⟨rfl, g⟩ := VG.of hg
    obtain ⟨D, X, -, -, h1, h2, h3, h4, -⟩ := best_sets hg
    have := gap_law hg
    exact ⟨decide_eq_false (by omega), by rw [h1]; exact h3, by rw [h2]; exact h4⟩
  · intro h
    obtain ⟨l, hl⟩ := Option.isSome_iff_exists.1 h
    obtain ⟨T, h1, h2, h3, h4, h5⟩ := greedy_law hl
    have hg : isGraphB x f = true := by
      cases e : isGraphB x f
      · rw [ordV_no e] at hl; cases hl
      · rfl
    obtain ⟨rfl, g⟩ := VG.of hg
    have hp := g.pow.1
    refine ⟨by rw [h2]; exact h3, ?_, h4⟩
    rw [h2]
    have e := listOf_length (S := T) (by omega)
    omega

set_option maxRecDepth 100000 in
set_option maxHeartbeats 8000000 in
theorem law_any (n c : Nat) (bo : Option Addr) (w : World) (hb : BytesU w.heap.size w bo n) (hn : n ≤ 9223372036854775807) :
    Calls Try.prog 3 #[.slice bo n c] w fun e w' => e = .returned (.bool true) ∧ Below w.heap.size w w' := by
  by_cases hbig : 1048576 < n
  · have d0 : decide (1048576 < n) = true := decide_eq_true hbig
    go_enter Try.func3, Try.ntmps3
    go_wp2_with fail
    refine (big_any n c bo w hn).mono ?_
    rintro e w' ⟨rfl, rfl⟩
    go_wp2_with fail
    go_ret
    exact ⟨rfl, Below.refl _ _⟩
  · have d0 : decide (1048576 < n) = false := decide_eq_false hbig
    replace hn : n ≤ 1048576 := by omega
    clear hbig
    go_enter Try.func3, Try.ntmps3
    go_wp2_with fail
    refine (big_any n c bo w (by omega)).mono ?_
    rintro e w' ⟨rfl, rfl⟩
    clear d0
    go_wp2_with fail
    refine (DrawFewestDominating_any n c bo w hb hn).mono ?_
    rintro e w1 ⟨x, f, g, cap, ⟨hf1, hf7⟩, rfl, hg, hR, hB1⟩
    have hb1 : ∀ w', Below w.heap.size w w' → BytesU w'.heap.size w' bo n := fun w' h => (hb.only (Only.of (X := fun _ => False) h) fun _ _ h => h).mono h.size
    clear hb
    go_wp2_with fail
    generalize hW2 : World.alloc _ _ = W2
    obtain ⟨hB2, hz2, k2⟩ := alloc1 hW2
    have hr := (hR.below hB2).ints
    have hs1 := hB1.size
    have hB : Below w.heap.size w W2 := hB1.trans (hB2.mono hs1)
    have hb0 := k2.lt
    have hc0 := k2.cell 0
    have hc1 := k2.cell 1
    simp at hc0 hc1
    clear hW2 hz2 k2 hB1 hB2 hR hg hf1
    have hrl : f.length ≤ 1048576 := by omega
    generalize w1.heap.size = yb at *
    obtain ⟨F1, F2⟩ := facts x f
    have h1 := fun m : Later W2 => implFewestDominating_any x f (some ⟨g, 0, none⟩) cap m.w (hr.later m) hrl
    have h2 := fun m : Later W2 => implLargestPacking_any x f (some ⟨g, 0, none⟩) cap m.w (hr.later m) hrl
    have h3 := fun m : Later W2 => implGap_any x f (some ⟨g, 0, none⟩) cap m.w (hr.later m) hrl
    have h4 := fun m : Later W2 => specFewestDominating_any x f (some ⟨g, 0, none⟩) cap m.w (hr.later m) hrl
    have h5 := fun m : Later W2 => specLargestPacking_any x f (some ⟨g, 0, none⟩) cap m.w (hr.later m) hrl
    have h6 := fun m : Later W2 => specGap_any x f (some ⟨g, 0, none⟩) cap m.w (hr.later m) hrl
    have h7 := fun m : Later W2 => specIsGraph_any x f (some ⟨g, 0, none⟩) cap m.w (hr.later m) hrl
    have h8 := fun (m : Later W2) (s : Int) => implDom_any x f s (some ⟨g, 0, none⟩) cap m.w (hr.later m) hrl
    have h9 := fun (m : Later W2) (s : Int) => implPack_any x f s (some ⟨g, 0, none⟩) cap m.w (hr.later m) hrl
    have h10 := fun m : Later W2 => implGreedy_any x f (some ⟨g, 0, none⟩) cap m.w (hr.later m) hrl
    have h11 := fun m : Later W2 => specGreedy_any x f (some ⟨g, 0, none⟩) cap m.w (hr.later m) hrl
    have h12 : ∀ m : Later W2, Calls Try.prog 21 #[.agg #[.int .i64 x, .slice (some ⟨g, 0, none⟩) f.length cap]] m.w fun e w' => e = .returned (.bool (ordV x f).isSome) ∧ Below m.w.heap.size m.w w' := fun m : Later W2 => specStrong_any x f (some ⟨g, 0, none⟩) cap m.w (hr.later m) hrl
    generalize fewestV x f (fun S => domB f.length f S) = d at *
    generalize largestV x f (fun S => packB f.length f S) = p at *
    generalize gapV x f = gv at *
    generalize greedyV x f = t at *
    generalize (ordV x f).isSome = k at *
    generalize isGraphB x f = gB at *
    have HhB := Lib.hid hB
    clear hB
    have Hhb1 := Lib.hid hb1
    clear hb1
    obtain ⟨m, hm0⟩ : ∃ m : Later W2, m.w = W2 := ⟨Later.refl _, rfl⟩
    refine (fun h => hm0 ▸ h) ?_
    clear hm0
    have ht : ∀ m : Later W2, Hid (Calls Try.prog 23 #[.slice bo n c] m.w (RetGZ m.w)) := fun m => Lib.hid (DrawIsDominating_any n c bo m.w (Hhb1.out _ (below_later HhB.out m)) hn)
    go_wp2_with fail
    refine (Calls.later m (h1 m)).mono ?_
    rintro e w' ⟨rfl, m, rfl⟩
    go_wp2_with fail
    refine (Calls.later m (h2 m)).mono ?_
    rintro e w' ⟨rfl, m, rfl⟩
    go_wp2_with fail
    refine (Calls.later m (h3 m)).mono ?_
    rintro e w' ⟨rfl, m, rfl⟩
    go_wp2_with fail
    refine (Calls.later m (h4 m)).mono ?_
    rintro e w' ⟨rfl, m, rfl⟩
    go_wp2_with fail
    refine (Calls.later m (h5 m)).mono ?_
    rintro e w' ⟨rfl, m, rfl⟩
    go_wp2_with fail
    refine (Calls.later m (h6 m)).mono ?_
    rintro e w' ⟨rfl, m, rfl⟩
    go_wp2_with fail
    clear h1 h2 h3 h4 h5 h6
    cases gB
    · clear F1 h9
      refine (Calls.later m (h7 m)).mono ?_
      rintro e w' ⟨rfl, m, rfl⟩
      clear h7
      go_wp2_with fail
      refine (Calls.later m (h10 m)).mono ?_
      rintro e w' ⟨rfl, m, rfl⟩
      go_wp2_with fail
      refine (Calls.later m (h11 m)).mono ?_
      rintro e w' ⟨rfl, m, rfl⟩
      go_wp2_with fail
      cases k
      · clear F2 h8 h10 h11
        go_wp2_with fail
        refine (Calls.later m (h12 m)).mono ?_
        rintro e w' ⟨rfl, m, rfl⟩
        go_wp2_with fail
        refine (ht m).out.mono ?_
        rintro e w3 ⟨xa, za, fa, ga, ca, ⟨-, ha7⟩, rfl, hga, hRa, hBa⟩
        have hBm := below_later HhB.out m
        clear hc0 hc1 hb0 hr ht hs1 hga
        go_wp2_with fail
        generalize hW3 : World.alloc _ _ = W3
        obtain ⟨hB3, hz3, k3⟩ := alloc1 hW3
        have hB4 : Below w.heap.size w W3 := hBm.trans ((hBa.trans (hB3.mono hBa.size)).mono hBm.size)
        replace hRa := hRa.below hB3
        clear hW3 hz3 hB3 hBm hBa
        generalize w3.heap.size = ya at *
        refine (DrawIsPacking_any n c bo W3 (Hhb1.out _ hB4) hn).mono ?_
        rintro e w4 ⟨xb, zb, fb, gb, cb, ⟨-, hb7⟩, rfl, hgb, hRb, hBb⟩
        replace hRa := hRa.below hBb
        replace k3 := k3.below hBb k3.lt
        replace hB4 := hB4.trans (hBb.mono hB4.size)
        clear hgb hBb
        go_wp2_with fail
        generalize hW5 : World.alloc _ _ = W5
        obtain ⟨hB5, hz5, k5⟩ := alloc1 hW5
        have hra := (hRa.below hB5).ints
        have hrb := (hRb.below hB5).ints
        replace k3 := k3.below hB5 k3.lt
        have HB5 := Lib.hid (hB4.trans (hB5.mono hB4.size))
        clear hRa hRb hB5 hz5 hW5 hB4 Hhb1 HhB
        generalize w4.heap.size = yc at *
        have z0 := k3.cell 0
        have z1 := k3.cell 1
        have z4 := k3.lt
        have y0 := k5.cell 0
        have y1 := k5.cell 1
        have y4 := k5.lt
        simp at z0 z1 y0 y1
        clear k3 k5 m
        have g1 := fun m : Later W5 => implDom_any xa fa za (some ⟨ga, 0, none⟩) ca m.w (hra.later m) (by omega)
        have g2 := fun m : Later W5 => specDom_any xa fa za (some ⟨ga, 0, none⟩) ca m.w (hra.later m) (by omega)
        have g3 := fun m : Later W5 => implPack_any xb fb zb (some ⟨gb, 0, none⟩) cb m.w (hrb.later m) (by omega)
        have g4 := fun m : Later W5 => specPack_any xb fb zb (some ⟨gb, 0, none⟩) cb m.w (hrb.later m) (by omega)
        clear hra hrb
        generalize domB xa fa za = A at *
        generalize packB xb fb zb = B at *
        obtain ⟨m, hm0⟩ : ∃ m : Later W5, m.w = W5 := ⟨Later.refl _, rfl⟩
        refine (fun h => hm0 ▸ h) ?_
        clear hm0
        refine wp_region_later m rfl (by kernel_rfl) (by kernel_rfl) ?_
        repeat (go_big_quiet_step ((first | (go_at_call 17; exact Calls.later _ (g1 _)) | (go_at_call 25; exact Calls.later _ (g2 _)) | (go_at_call 18; exact Calls.later _ (g3 _)) | (go_at_call 26; exact Calls.later _ (g4 _)))))
        refine wpQuiet_nil ?_
        rintro _ ⟨m, rfl⟩
        go_wp2_with fail
        go_ret
        exact ⟨by simp, below_later HB5.out m⟩
      · obtain ⟨r1, r2, r3⟩ := F2 rfl
        subst r3
        have h8t := fun m => h8 m t
        have hCt := fun m : Later W2 => specCountSet_any t m.w
        have hCp := fun m : Later W2 => specCountSet_any p m.w
        simp only [r1] at h8t
        simp only [r2] at hCt
        generalize (listOf p).length = L at *
        clear r1 r2 h8 h10 h11
        go_wp2_with fail
        refine (Calls.later m (h12 m)).mono ?_
        rintro e w' ⟨rfl, m, rfl⟩
        go_wp2_with fail
        refine (Calls.later m (h8t m)).mono ?_
        rintro e w' ⟨rfl, m, rfl⟩
        go_wp2_with fail
        refine (Calls.later m (hCt m)).mono ?_
        rintro e w' ⟨rfl, m, rfl⟩
        go_wp2_with fail
        refine (Calls.later m (hCp m)).mono ?_
        rintro e w' ⟨rfl, m, rfl⟩
        go_wp2_with fail
        refine (ht m).out.mono ?_
        rintro e w3 ⟨xa, za, fa, ga, ca, ⟨-, ha7⟩, rfl, hga, hRa, hBa⟩
        have hBm := below_later HhB.out m
        clear hc0 hc1 hb0 hr ht hs1 hga
        go_wp2_with fail
        generalize hW3 : World.alloc _ _ = W3
        obtain ⟨hB3, hz3, k3⟩ := alloc1 hW3
        have hB4 : Below w.heap.size w W3 := hBm.trans ((hBa.trans (hB3.mono hBa.size)).mono hBm.size)
        replace hRa := hRa.below hB3
        clear hW3 hz3 hB3 hBm hBa
        generalize w3.heap.size = ya at *
        refine (DrawIsPacking_any n c bo W3 (Hhb1.out _ hB4) hn).mono ?_
        rintro e w4 ⟨xb, zb, fb, gb, cb, ⟨-, hb7⟩, rfl, hgb, hRb, hBb⟩
        replace hRa := hRa.below hBb
        replace k3 := k3.below hBb k3.lt
        replace hB4 := hB4.trans (hBb.mono hB4.size)
        clear hgb hBb
        go_wp2_with fail
        generalize hW5 : World.alloc _ _ = W5
        obtain ⟨hB5, hz5, k5⟩ := alloc1 hW5
        have hra := (hRa.below hB5).ints
        have hrb := (hRb.below hB5).ints
        replace k3 := k3.below hB5 k3.lt
        have HB5 := Lib.hid (hB4.trans (hB5.mono hB4.size))
        clear hRa hRb hB5 hz5 hW5 hB4 Hhb1 HhB
        generalize w4.heap.size = yc at *
        have z0 := k3.cell 0
        have z1 := k3.cell 1
        have z4 := k3.lt
        have y0 := k5.cell 0
        have y1 := k5.cell 1
        have y4 := k5.lt
        simp at z0 z1 y0 y1
        clear k3 k5 m
        have g1 := fun m : Later W5 => implDom_any xa fa za (some ⟨ga, 0, none⟩) ca m.w (hra.later m) (by omega)
        have g2 := fun m : Later W5 => specDom_any xa fa za (some ⟨ga, 0, none⟩) ca m.w (hra.later m) (by omega)
        have g3 := fun m : Later W5 => implPack_any xb fb zb (some ⟨gb, 0, none⟩) cb m.w (hrb.later m) (by omega)
        have g4 := fun m : Later W5 => specPack_any xb fb zb (some ⟨gb, 0, none⟩) cb m.w (hrb.later m) (by omega)
        clear hra hrb
        generalize domB xa fa za = A at *
        generalize packB xb fb zb = B at *
        obtain ⟨m, hm0⟩ : ∃ m : Later W5, m.w = W5 := ⟨Later.refl _, rfl⟩
        refine (fun h => hm0 ▸ h) ?_
        clear hm0
        refine wp_region_later m rfl (by kernel_rfl) (by kernel_rfl) ?_
        repeat (go_big_quiet_step ((first | (go_at_call 17; exact Calls.later _ (g1 _)) | (go_at_call 25; exact Calls.later _ (g2 _)) | (go_at_call 18; exact Calls.later _ (g3 _)) | (go_at_call 26; exact Calls.later _ (g4 _)))))
        refine wpQuiet_nil ?_
        rintro _ ⟨m, rfl⟩
        go_wp2_with fail
        go_ret
        exact ⟨by simp, below_later HB5.out m⟩
    · obtain ⟨q1, q2, q3⟩ := F1 rfl
      have h8d := fun m => h8 m d
      have h9p := fun m => h9 m p
      simp only [q2] at h8d
      simp only [q3] at h9p
      clear q2 q3 h9 F1
      refine (Calls.later m (h7 m)).mono ?_
      rintro e w' ⟨rfl, m, rfl⟩
      clear h7
      go_wp2_with fail
      refine (Calls.later m (h8d m)).mono ?_
      rintro e w' ⟨rfl, m, rfl⟩
      go_wp2_with fail
      refine (Calls.later m (h9p m)).mono ?_
      rintro e w' ⟨rfl, m, rfl⟩
      go_wp2_with fail
      clear h8d h9p q1
      refine (Calls.later m (h10 m)).mono ?_
      rintro e w' ⟨rfl, m, rfl⟩
      go_wp2_with fail
      refine (Calls.later m (h11 m)).mono ?_
      rintro e w' ⟨rfl, m, rfl⟩
      go_wp2_with fail
      cases k
      · clear F2 h8 h10 h11
        go_wp2_with fail
        refine (Calls.later m (h12 m)).mono ?_
        rintro e w' ⟨rfl, m, rfl⟩
        go_wp2_with fail
        refine (ht m).out.mono ?_
        rintro e w3 ⟨xa, za, fa, ga, ca, ⟨-, ha7⟩, rfl, hga, hRa, hBa⟩
        have hBm := below_later HhB.out m
        clear hc0 hc1 hb0 hr ht hs1 hga
        go_wp2_with fail
        generalize hW3 : World.alloc _ _ = W3
        obtain ⟨hB3, hz3, k3⟩ := alloc1 hW3
        have hB4 : Below w.heap.size w W3 := hBm.trans ((hBa.trans (hB3.mono hBa.size)).mono hBm.size)
        replace hRa := hRa.below hB3
        clear hW3 hz3 hB3 hBm hBa
        generalize w3.heap.size = ya at *
        refine (DrawIsPacking_any n c bo W3 (Hhb1.out _ hB4) hn).mono ?_
        rintro e w4 ⟨xb, zb, fb, gb, cb, ⟨-, hb7⟩, rfl, hgb, hRb, hBb⟩
        replace hRa := hRa.below hBb
        replace k3 := k3.below hBb k3.lt
        replace hB4 := hB4.trans (hBb.mono hB4.size)
        clear hgb hBb
        go_wp2_with fail
        generalize hW5 : World.alloc _ _ = W5
        obtain ⟨hB5, hz5, k5⟩ := alloc1 hW5
        have hra := (hRa.below hB5).ints
        have hrb := (hRb.below hB5).ints
        replace k3 := k3.below hB5 k3.lt
        have HB5 := Lib.hid (hB4.trans (hB5.mono hB4.size))
        clear hRa hRb hB5 hz5 hW5 hB4 Hhb1 HhB
        generalize w4.heap.size = yc at *
        have z0 := k3.cell 0
        have z1 := k3.cell 1
        have z4 := k3.lt
        have y0 := k5.cell 0
        have y1 := k5.cell 1
        have y4 := k5.lt
        simp at z0 z1 y0 y1
        clear k3 k5 m
        have g1 := fun m : Later W5 => implDom_any xa fa za (some ⟨ga, 0, none⟩) ca m.w (hra.later m) (by omega)
        have g2 := fun m : Later W5 => specDom_any xa fa za (some ⟨ga, 0, none⟩) ca m.w (hra.later m) (by omega)
        have g3 := fun m : Later W5 => implPack_any xb fb zb (some ⟨gb, 0, none⟩) cb m.w (hrb.later m) (by omega)
        have g4 := fun m : Later W5 => specPack_any xb fb zb (some ⟨gb, 0, none⟩) cb m.w (hrb.later m) (by omega)
        clear hra hrb
        generalize domB xa fa za = A at *
        generalize packB xb fb zb = B at *
        obtain ⟨m, hm0⟩ : ∃ m : Later W5, m.w = W5 := ⟨Later.refl _, rfl⟩
        refine (fun h => hm0 ▸ h) ?_
        clear hm0
        refine wp_region_later m rfl (by kernel_rfl) (by kernel_rfl) ?_
        repeat (go_big_quiet_step ((first | (go_at_call 17; exact Calls.later _ (g1 _)) | (go_at_call 25; exact Calls.later _ (g2 _)) | (go_at_call 18; exact Calls.later _ (g3 _)) | (go_at_call 26; exact Calls.later _ (g4 _)))))
        refine wpQuiet_nil ?_
        rintro _ ⟨m, rfl⟩
        go_wp2_with fail
        go_ret
        exact ⟨by simp, below_later HB5.out m⟩
      · obtain ⟨r1, r2, r3⟩ := F2 rfl
        subst r3
        have h8t := fun m => h8 m t
        have hCt := fun m : Later W2 => specCountSet_any t m.w
        have hCp := fun m : Later W2 => specCountSet_any p m.w
        simp only [r1] at h8t
        simp only [r2] at hCt
        generalize (listOf p).length = L at *
        clear r1 r2 h8 h10 h11
        go_wp2_with fail
        refine (Calls.later m (h12 m)).mono ?_
        rintro e w' ⟨rfl, m, rfl⟩
        go_wp2_with fail
        refine (Calls.later m (h8t m)).mono ?_
        rintro e w' ⟨rfl, m, rfl⟩
        go_wp2_with fail
        refine (Calls.later m (hCt m)).mono ?_
        rintro e w' ⟨rfl, m, rfl⟩
        go_wp2_with fail
        refine (Calls.later m (hCp m)).mono ?_
        rintro e w' ⟨rfl, m, rfl⟩
        go_wp2_with fail
        refine (ht m).out.mono ?_
        rintro e w3 ⟨xa, za, fa, ga, ca, ⟨-, ha7⟩, rfl, hga, hRa, hBa⟩
        have hBm := below_later HhB.out m
        clear hc0 hc1 hb0 hr ht hs1 hga
        go_wp2_with fail
        generalize hW3 : World.alloc _ _ = W3
        obtain ⟨hB3, hz3, k3⟩ := alloc1 hW3
        have hB4 : Below w.heap.size w W3 := hBm.trans ((hBa.trans (hB3.mono hBa.size)).mono hBm.size)
        replace hRa := hRa.below hB3
        clear hW3 hz3 hB3 hBm hBa
        generalize w3.heap.size = ya at *
        refine (DrawIsPacking_any n c bo W3 (Hhb1.out _ hB4) hn).mono ?_
        rintro e w4 ⟨xb, zb, fb, gb, cb, ⟨-, hb7⟩, rfl, hgb, hRb, hBb⟩
        replace hRa := hRa.below hBb
        replace k3 := k3.below hBb k3.lt
        replace hB4 := hB4.trans (hBb.mono hB4.size)
        clear hgb hBb
        go_wp2_with fail
        generalize hW5 : World.alloc _ _ = W5
        obtain ⟨hB5, hz5, k5⟩ := alloc1 hW5
        have hra := (hRa.below hB5).ints
        have hrb := (hRb.below hB5).ints
        replace k3 := k3.below hB5 k3.lt
        have HB5 := Lib.hid (hB4.trans (hB5.mono hB4.size))
        clear hRa hRb hB5 hz5 hW5 hB4 Hhb1 HhB
        generalize w4.heap.size = yc at *
        have z0 := k3.cell 0
        have z1 := k3.cell 1
        have z4 := k3.lt
        have y0 := k5.cell 0
        have y1 := k5.cell 1
        have y4 := k5.lt
        simp at z0 z1 y0 y1
        clear k3 k5 m
        have g1 := fun m : Later W5 => implDom_any xa fa za (some ⟨ga, 0, none⟩) ca m.w (hra.later m) (by omega)
        have g2 := fun m : Later W5 => specDom_any xa fa za (some ⟨ga, 0, none⟩) ca m.w (hra.later m) (by omega)
        have g3 := fun m : Later W5 => implPack_any xb fb zb (some ⟨gb, 0, none⟩) cb m.w (hrb.later m) (by omega)
        have g4 := fun m : Later W5 => specPack_any xb fb zb (some ⟨gb, 0, none⟩) cb m.w (hrb.later m) (by omega)
        clear hra hrb
        generalize domB xa fa za = A at *
        generalize packB xb fb zb = B at *
        obtain ⟨m, hm0⟩ : ∃ m : Later W5, m.w = W5 := ⟨Later.refl _, rfl⟩
        refine (fun h => hm0 ▸ h) ?_
        clear hm0
        refine wp_region_later m rfl (by kernel_rfl) (by kernel_rfl) ?_
        repeat (go_big_quiet_step ((first | (go_at_call 17; exact Calls.later _ (g1 _)) | (go_at_call 25; exact Calls.later _ (g2 _)) | (go_at_call 18; exact Calls.later _ (g3 _)) | (go_at_call 26; exact Calls.later _ (g4 _)))))
        refine wpQuiet_nil ?_
        rintro _ ⟨m, rfl⟩
        go_wp2_with fail
        go_ret
        exact ⟨by simp, below_later HB5.out m⟩

open Go.ChangeShapes Go.WideShapes Go.ChangeAt

set_option maxRecDepth 100000 in
set_option maxHeartbeats 2000000 in
theorem lifted (os : Os) (started : os.Started) (H : Type) (enc : TypeId × Value → H) :
    ReturnsInHanded {} Try.checked os 3 .any (Rows.fnDominationSpec.pre6 enc Try.prog Try.f3 Rows.fnDominationRow.domain false) (Rows.fnDominationSpec.post enc Try.prog Try.f3 false true false false) := by
  refine returnsInHanded_of_change (C := Try.checked) own started (by kernel_rfl) Try.func3
    (ChangeSpec.witness6 (enc := enc) (C := Try.checked) false ⟨#[], #[.slice none 0 0], []⟩ 8 (by kernel_rfl) (by kernel_rfl) (by kernel_rfl) (by kernel_rfl)) ?_
  intro W base args ds gs before hval0 hW hcnd _
  have hval : ∀ (j : Nat) t v, Try.f3.params[j]? = some t → args[j]? = some v → Value.okWide Try.prog W .any base t v := hval0
  have hW' := hW
  obtain ⟨p, q, hA0, hV, rfl, hfz, hnd⟩ := hW
  have hA : DataW.TrodAll enc Try.prog W 0 (fun _ => true) true Try.f3.params.toList args.toList ds p := hA0
  rw [Try.params3] at hA hval
  obtain ⟨v0, vs0, d0, ds0, p0, q0, hargs, rfl, rfl, h0, r0⟩ := trodAll_cons hA
  obtain ⟨rfl, rfl, rfl⟩ := trodAll_nil r0
  obtain rfl : args = #[v0] := by cases args; simp_all
  obtain ⟨rfl, rfl⟩ := trodVars_none hV
  have k0 := h0
  have lt0 : ∀ x ∈ p0, x.block < W.heap.size := by obtain ⟨m, hm⟩ := k0; exact DataW.trod_lt m _ _ _ hm
  obtain ⟨m, hm⟩ := h0
  obtain ⟨v1, v2, v3, rfl⟩ := okWide_slice Try.underlying22 (hval 0 22 v0 rfl rfl)
  obtain ⟨bo, n, c, e0, hb, hn⟩ := bytes_of_trod hm
  obtain ⟨rfl, rfl, rfl⟩ : v1 = bo ∧ v2 = n ∧ v3 = c := by simpa using e0
  clear hA0 hval0
  refine (law_any _ _ _ W hb hn).mono fun e W' ⟨he, bel⟩ => ?_
  subst he
  exact ⟨_, rfl, _, _, _, [], _, [], hW', trodAll_mk1 (shut_bool Try.underlying4 _), (trodAll_cons_mk (Below.trod laidOut (by kernel_rfl) (of_decide_eq_true (by kernel_rfl)) k0 bel lt0) trodAll_mk0), rfl, bel.frame _, fun h => by cases h⟩

theorem holds : Rows.FnDominationSaid :=
  OpenClaim.holds_of_wide 3 Try.f3 rfl rfl rfl rfl rfl rfl rfl ⟨rfl, rfl, rfl, rfl, rfl⟩ rfl rfl rfl rfl rfl (by kernel_rfl) Try.func3 (by kernel_rfl)
    (of_decide_eq_true (by kernel_rfl)) (by unfold Func.isWrapper; first | (rw [if_pos (by decide +kernel)]; kernel_rfl) | (rw [if_neg (by decide +kernel)]; exact ⟨rfl, rfl⟩))
    (fun os started H enc _ => lifted os started H enc)
#print axioms holds

end Go.Proofs.Ytflejcffjngdfaa.lawDomination
