/-
  FnCographs: for every input the law returns true, and its argument reads as it did. No conditions.
-/
import Derived.Test.YtjikmjhpmkakoaaGreatDoorPkCardCographs24
import Derived.Test.YtjikmjhpmkakoaaGreatDoorPkCardCographs31
import Derived.Test.YtjikmjhpmkakoaaGreatDoorPkCardCographs32
import Derived.Test.YtjikmjhpmkakoaaGreatDoorPkCardCographs35
import Derived.Test.YtjikmjhpmkakoaaGreatDoorPkCardCographs41
import Derived.Test.YtjikmjhpmkakoaaGreatDoorPkCardCographs42
import Derived.Test.YtjikmjhpmkakoaaGreatDoorPkCardCographs36
import Derived.Test.YtjikmjhpmkakoaaGreatDoorPkCardCographs43
import Derived.Test.YtjikmjhpmkakoaaGreatDoorPkCardCographs16
import Derived.Test.YtjikmjhpmkakoaaGreatDoorPkCardCographs20
import Derived.Test.YtjikmjhpmkakoaaGreatDoorPkCardCographs07
import Derived.Test.YtjikmjhpmkakoaaGreatDoorPkCardCographs10
import Derived.Deep.CutRange
namespace Go.Proofs.YtjikmjhpmkakoaaGreatDoor.lawCographs
open Go.Proofs.YtjikmjhpmkakoaaGreatDoor Go.RowKit

set_option maxRecDepth 100000 in
set_option maxHeartbeats 16000000 in
theorem law_any (n c : Nat) (bo : Option Addr) (w : World) (hb : BytesU w.heap.size w bo n) (hn : n ≤ 9223372036854775807) :
    Calls Tryz.prog 4 #[.slice bo n c] w fun e w' => e = .returned (.bool true) ∧ Below w.heap.size w w' := by
  by_cases hbig : 1048576 < n
  · have d0 : decide (1048576 < n) = true := decide_eq_true hbig
    go_enter Tryz.func4, Tryz.ntmps4
    go_wp2_with fail
    refine (big_any n c bo w hn).mono ?_
    rintro e w' ⟨rfl, rfl⟩
    go_wp2_with fail
    go_ret
    exact ⟨rfl, Below.refl _ _⟩
  · have d0 : decide (1048576 < n) = false := decide_eq_false hbig
    replace hn : n ≤ 1048576 := by omega
    clear hbig
    go_enter Tryz.func4, Tryz.ntmps4
    go_wp2_with fail
    refine (big_any n c bo w (by omega)).mono ?_
    rintro e w' ⟨rfl, rfl⟩
    clear d0
    go_wp2_with fail
    refine (DrawCotreeOf_any n c bo w hb hn).mono ?_
    rintro e w1 ⟨x, f, g, cap, ⟨hf1, hf6⟩, rfl, hg, hR, hB1⟩
    have hb1 : ∀ w', Below w.heap.size w w' → BytesU w'.heap.size w' bo n := fun w' h => (hb.only (Only.of (X := fun _ => False) h) fun _ _ h => h).mono h.size
    clear hb
    go_wp2_with fail
    generalize hW2 : World.alloc _ _ = W2
    obtain ⟨hB2, hz2, k2⟩ := alloc1 hW2
    have hr := (hR.below hB2).ints
    have hs1 := hB1.size
    have hB : Below w.heap.size w W2 := hB1.trans (hB2.mono hs1)
    have hb0 := k2.lt
    have hc0 := k2.cell 0
    have hc1 := k2.cell 1
    simp at hc0 hc1
    clear hW2 hz2 k2 hB1 hB2 hR hg hf1 hs1
    have hrl : f.length ≤ 1048576 := by omega
    generalize w1.heap.size = yb at *
    have h1 := fun m : Later W2 => implCotree_any x f (some ⟨g, 0, none⟩) cap m.w (hr.later m) hrl
    have h2 := fun m : Later W2 => specCotree_any x f (some ⟨g, 0, none⟩) cap m.w (hr.later m) hrl
    have h3 := fun m : Later W2 => implCog_any x f (some ⟨g, 0, none⟩) cap m.w (hr.later m) hrl
    have hTw := tw_cog x f
    have h4 : ∀ m : Later W2, Calls Tryz.prog 26 #[.agg #[.int .i64 x, .slice (some ⟨g, 0, none⟩) f.length cap]] m.w fun e w' => ∃ ao c, e = .returned (.tuple #[.slice ao ((twI x f).getD []).length c, .bool (cogB x f)]) ∧ Below m.w.heap.size m.w w' ∧ IntsAt w' ao ((twI x f).getD []) := fun m =>
      (implTw_any x f (some ⟨g, 0, none⟩) cap m.w (hr.later m) hrl).mono fun e w' ⟨ao, c, h1, h2, h3⟩ => ⟨ao, c, by rw [h1, hTw], h2, h3.ints⟩
    have h5 : ∀ m : Later W2, Calls Tryz.prog 27 #[.agg #[.int .i64 x, .slice (some ⟨g, 0, none⟩) f.length cap]] m.w fun e w' => ∃ ao c, e = .returned (.tuple #[.slice ao ((twI x f).getD []).length c, .bool (cogB x f)]) ∧ Below m.w.heap.size m.w w' ∧ IntsAt w' ao ((twI x f).getD []) := fun m =>
      (specTw_any x f (some ⟨g, 0, none⟩) cap m.w (hr.later m) hrl).mono fun e w' ⟨ao, c, h1, h2, h3⟩ => ⟨ao, c, by rw [h1, hTw], h2, h3.ints⟩
    have h6 : ∀ m : Later W2, Calls Tryz.prog 28 #[.agg #[.int .i64 x, .slice (some ⟨g, 0, none⟩) f.length cap]] m.w fun e w' => ∃ ao c, e = .returned (.tuple #[.slice ao (ansL x f).length c, .bool (cogB x f)]) ∧ Below m.w.heap.size m.w w' ∧ IntsAt w' ao (ansL x f) := fun m =>
      implAnswers_any x f (some ⟨g, 0, none⟩) cap m.w (hr.later m) hrl
    have h7 : ∀ m : Later W2, Calls Tryz.prog 29 #[.agg #[.int .i64 x, .slice (some ⟨g, 0, none⟩) f.length cap]] m.w fun e w' => ∃ ao c, e = .returned (.tuple #[.slice ao (ansL x f).length c, .bool (cogB x f)]) ∧ Below m.w.heap.size m.w w' ∧ IntsAt w' ao (ansL x f) := fun m =>
      specAnswers_any x f (some ⟨g, 0, none⟩) cap m.w (hr.later m) hrl
    have HT : Hid (cogB x f = true → x = f.length ∧ (IsCt (ctV f) f ∧ ctS x f = bs (ctV f)) ∧ (prunesV x f).isSome = true ∧ ∃ I : Nat, I < 128 ∧ largestV x f (fun S => indepB f.length f S) = (I : Int) ∧ ansL x f = [clqN x f, (cnt I : Int)]) := Lib.hid fun h => ⟨cog_len h, cog_ct h, cog_her hf6 h, ans_two h⟩
    have hA2 := ans_len x f
    have hT2 := twI_len x f hf6
    clear hTw
    generalize (twI x f).getD [] = T at *
    generalize ansL x f = A at *
    generalize ctS x f = S at *
    generalize cogB x f = P at *
    have HhB := Lib.hid hB
    clear hB
    have Hhb1 := Lib.hid hb1
    clear hb1
    have Hhf6 := Lib.hid hf6
    clear hf6
    obtain ⟨m, hm0⟩ : ∃ m : Later W2, m.w = W2 := ⟨Later.refl _, rfl⟩
    refine (fun h => hm0 ▸ h) ?_
    clear hm0
    go_wp2_with fail
    refine (Calls.later m (h1 m)).mono ?_
    rintro e w' ⟨rfl, m, rfl⟩
    clear h1
    go_wp2_with fail
    refine (Calls.later m (h2 m)).mono ?_
    rintro e w' ⟨rfl, m, rfl⟩
    clear h2
    go_wp2_with fail
    refine (Calls.later m (h3 m)).mono ?_
    rintro e w' ⟨rfl, m, rfl⟩
    clear h3
    go_wp2_with fail
    refine (h4 m).mono ?_
    rintro e w3 ⟨lo, lc, rfl, hB3, hL⟩
    obtain ⟨m, rfl⟩ : ∃ m2 : Later W2, m2.w = w3 := ⟨m.on hB3, rfl⟩
    clear hB3 h4
    go_wp2_with fail
    refine (h5 m).mono ?_
    rintro e w3 ⟨lo2, lc2, rfl, hB3, hL2⟩
    replace hL := hL.below hB3
    obtain ⟨m, rfl⟩ : ∃ m2 : Later W2, m2.w = w3 := ⟨m.on hB3, rfl⟩
    clear hB3 h5
    go_wp2_with fail
    refine (h6 m).mono ?_
    rintro e w3 ⟨la, lac, rfl, hB3, hA3⟩
    replace hL := hL.below hB3
    replace hL2 := hL2.below hB3
    obtain ⟨m, rfl⟩ : ∃ m2 : Later W2, m2.w = w3 := ⟨m.on hB3, rfl⟩
    clear hB3 h6
    go_wp2_with fail
    refine (h7 m).mono ?_
    rintro e w3 ⟨lb, lbc, rfl, hB3, hA4⟩
    replace hL := hL.below hB3
    replace hL2 := hL2.below hB3
    replace hA3 := hA3.below hB3
    obtain ⟨m, rfl⟩ : ∃ m2 : Later W2, m2.w = w3 := ⟨m.on hB3, rfl⟩
    clear hB3 h7
    replace hr := hr.later m
    replace hc0 : m.w.cell? _ = _ := (m.cell _ _ hb0).trans hc0
    replace hc1 : m.w.cell? _ = _ := (m.cell _ _ hb0).trans hc1
    replace hb0 := Nat.lt_of_lt_of_le hb0 m.size
    replace HhB := Lib.hid (below_later HhB.out m)
    generalize m.w = W3 at *
    clear m
    obtain ⟨m, hm0⟩ : ∃ m : Later W3, m.w = W3 := ⟨Later.refl _, rfl⟩
    refine (fun h => hm0 ▸ h) ?_
    clear hm0
    have s1 := fun m : Later W3 => lawSameInts_any lo lo2 T T lc lc2 m.w (hL.later m) (hL2.later m) (by omega) (by omega)
    have s2 := fun m : Later W3 => lawSameInts_any la lb A A lac lbc m.w (hA3.later m) (hA4.later m) (by omega) (by omega)
    simp only [sameInts_refl] at s1 s2
    clear hL hL2 hA3
    go_wp2_with fail
    refine (Calls.later m (s1 m)).mono ?_
    rintro e w' ⟨rfl, m, rfl⟩
    go_wp2_with fail
    refine (Calls.later m (s2 m)).mono ?_
    rintro e w' ⟨rfl, m, rfl⟩
    clear s1 s2
    go_upto_if 108 with fail
    go_cut [16, 17, 18, 19] from 109 to 208 (fun _ _ _ _ wx => ∃ m' : Later W3, wx = m'.w)
    case first =>
      cases P
      · clear HT hA4
        go_wp2_with fail
        go_meet
        case rel => exact ⟨m, rfl⟩
      · obtain ⟨rfl, ⟨hct, rfl⟩, hher, I, hI, hIe, rfl⟩ := HT.out rfl
        clear HT
        have hg := hct.graph
        have hp4 := hct.free
        have q1 := implGoc_any (ctV f) (by have := hct.len; omega) m.w
        have q2 := fun (w' : World) (h : Below W3.heap.size W3 w') => specModTree_any f (some ⟨g, 0, none⟩) cap w' (hr.below h) hg hp4
        obtain ⟨ab, off, rfl, hab, hac⟩ := hA4 (by simp)
        have a0 := hac 0 (by simp)
        have a1 := hac 1 (by simp)
        simp [gi] at a0 a1
        have Hhct := Lib.hid hct
        clear hct
        have Hq2 := Lib.hid q2
        clear q2
        clear hac hA2 hT2
        go_wp2_with fail
        refine q1.mono ?_
        rintro e w4 ⟨hB4, hGc⟩
        obtain ⟨ao, c2, rfl, hI2⟩ : ∃ ao c2, e = .returned (.tuple #[.agg #[.int .i64 f.length, .slice ao f.length c2], .bool true]) ∧ IntsAt w4 ao f := by
          rcases hGc with ⟨f2, ao, c2, rfl, h2, h3⟩ | ⟨-, hno⟩
          · obtain rfl := Hhct.out.one h2
            exact ⟨ao, c2, rfl, h3⟩
          · exact absurd Hhct.out (hno f)
        clear q1 hGc
        go_upto_region 16 with fail
        generalize hW5 : World.alloc _ _ = W5
        obtain ⟨hB5, hz5, k5⟩ := alloc1 hW5
        have hBm5 := below_more m.below (below_more hB4 hB5)
        have x0 := (hBm5.cell (p := ⟨yb, 0, none⟩) hb0).trans hc0
        have x1 := (hBm5.cell (p := ⟨yb, 1, none⟩) hb0).trans hc1
        have xl := Nat.lt_of_lt_of_le hb0 hBm5.size
        have hI5 := hI2.below hB5
        have q3 := Hq2.out W5 hBm5
        generalize w4.heap.size = yh at *
        clear hW5 hB5 hz5 hB4 hI2 Hq2
        have HhBm5 := Lib.hid hBm5
        clear hBm5
        have HhI5 := Lib.hid hI5
        clear hI5
        have Hk5 := Lib.hid k5
        clear k5
        go_wp2_with fail
        refine q3.mono ?_
        rintro e w6 ⟨ta, tc, n1, c1, n3, c3, tb, kc, B, rfl, hB6, hIB, hBl, hBk⟩
        clear q3 x0 x1 xl
        go_upto_region 17 with fail
        generalize hW7 : World.alloc _ _ = W7
        obtain ⟨hB7, hz7, k7⟩ := alloc1 hW7
        have hB67 := below_more hB6 hB7
        have hBm7 := below_more HhBm5.out hB67
        have k5 := Hk5.out.below hB67 Hk5.out.lt
        have hIh := HhI5.out.below hB67
        have hIB7 := hIB.below hB7
        have hr7 := hr.below hBm7
        have x0 := (hBm7.cell (p := ⟨yb, 0, none⟩) hb0).trans hc0
        have x1 := (hBm7.cell (p := ⟨yb, 1, none⟩) hb0).trans hc1
        have xl := Nat.lt_of_lt_of_le hb0 hBm7.size
        have y0 := k5.cell 0
        have y1 := k5.cell 1
        have yl := k5.lt
        have z1 := k7.cell 1
        have zl := k7.lt
        simp at y0 y1 z1
        have b0 := (hBm7.cell (p := ⟨ab, off, none⟩) hab).trans a0
        have b1 := (hBm7.cell (p := ⟨ab, off + 1, none⟩) hab).trans a1
        have bl := Nat.lt_of_lt_of_le hab hBm7.size
        generalize w6.heap.size = yu at *
        clear hW7 hB7 hz7 hB67 hB6 k5 k7 hIB HhI5 Hk5 HhBm5 a0 a1
        have u1 := fun (w' : World) (h : Below W7.heap.size W7 w') => specEqG_any f.length f ao (some ⟨g, 0, none⟩) c2 cap w' (hIh.below h) (hr7.below h) hrl
        have u2 := fun (w' : World) (h : Below W7.heap.size W7 w') => specClqN_any f.length f (some ⟨g, 0, none⟩) cap w' (hr7.below h) hrl
        have u3 := fun (w' : World) (h : Below W7.heap.size W7 w') => specLargestIndep_any f.length f (some ⟨g, 0, none⟩) cap w' (hr7.below h) hrl
        rw [hIe] at u3
        have u4 := fun (w' : World) (_ : Below W7.heap.size W7 w') => specCount_any I hI w'
        have u5 := fun (w' : World) (h : Below W7.heap.size W7 w') => lawHas_none B 3 tb kc w' (hIB7.below h) hBl (fun y hy => by have := hBk y hy; omega)
        have u6 := fun (w' : World) (h : Below W7.heap.size W7 w') => implHered_any f.length f (some ⟨g, 0, none⟩) cap w' (hr7.below h) hrl
        rw [hher] at u6
        have u7 := fun (w' : World) (h : Below W7.heap.size W7 w') => implIsPerm_any f (some ⟨g, 0, none⟩) cap w' (hr7.below h) hg hp4
        generalize clqN f.length f = cq at *
        generalize cnt I = ci at *
        clear hher hIe hIB7 hIh hr7 hBk
        have hA : Below W7.heap.size W7 W7.drew := (Below.refl _ _).drew
        have hT0 : ∀ w', Below W7.heap.size W7 w' → Below W7.heap.size W7 w' ∧ w'.cell? ⟨yb, 0, none⟩ = some (.int .i64 f.length) ∧ w'.cell? ⟨yb, 1, none⟩ = some (.slice (some ⟨g, 0, none⟩) f.length cap) ∧ w'.cell? ⟨yh, 0, none⟩ = some (.int .i64 f.length) ∧ w'.cell? ⟨yh, 1, none⟩ = some (.slice ao f.length c2) ∧ w'.cell? ⟨yu, 1, none⟩ = some (.slice tb B.length kc) ∧ w'.cell? ⟨ab, off, none⟩ = some (.int .i64 cq) ∧ w'.cell? ⟨ab, off + 1, none⟩ = some (.int .i64 (ci : Int)) := fun w' h =>
          ⟨h, (h.cell xl).trans x0, (h.cell xl).trans x1, (h.cell yl).trans y0, (h.cell yl).trans y1, (h.cell zl).trans z1, (h.cell bl).trans b0, (h.cell bl).trans b1⟩
        have HhBm7 := Lib.hid hBm7
        clear hBm7
        refine wp_region_B (fun w' => Below W7.heap.size W7 w' ∧ w'.cell? ⟨yb, 0, none⟩ = some (.int .i64 f.length) ∧ w'.cell? ⟨yb, 1, none⟩ = some (.slice (some ⟨g, 0, none⟩) f.length cap) ∧ w'.cell? ⟨yh, 0, none⟩ = some (.int .i64 f.length) ∧ w'.cell? ⟨yh, 1, none⟩ = some (.slice ao f.length c2) ∧ w'.cell? ⟨yu, 1, none⟩ = some (.slice tb B.length kc) ∧ w'.cell? ⟨ab, off, none⟩ = some (.int .i64 cq) ∧ w'.cell? ⟨ab, off + 1, none⟩ = some (.int .i64 (ci : Int))) (fun _ => True) [] (by kernel_rfl) (hT0 _ hA) (trivial) (fun hM => ?_)
        refine wpAnyB_take (i := 0) (v := ?_) false rfl (by kernel_rfl) (by kernel_rfl) (by kernel_rfl) (by kernel_rfl) (by kernel_rfl) (fun _ _ _ h => h) (Or.inl ⟨by rfl, ?_⟩) hM (fun hM2 => ?_)
        rotate_left
        · (intro w hSw; replace hSw := hSw.1; (try dsimp only at hSw); go_simp; try with_reducible rfl)
        replace hM := hM2
        clear hM2
        try simp only [List.getElem_toArray, List.getElem_cons_zero, Act.put, List.setIfInBounds_toArray, List.set_cons_zero, List.set_cons_succ]
        refine wpAnyB_take (i := 1) (v := ?_) false rfl (by kernel_rfl) (by kernel_rfl) (by kernel_rfl) (by kernel_rfl) (by kernel_rfl) (fun _ _ _ h => h) (Or.inl ⟨by rfl, ?_⟩) hM (fun hM2 => ?_)
        rotate_left
        · (intro w hSw; replace hSw := hSw.1; (try dsimp only at hSw); go_simp; try with_reducible rfl)
        replace hM := hM2
        clear hM2
        try simp only [List.getElem_toArray, List.getElem_cons_succ, List.getElem_cons_zero, Act.put, List.setIfInBounds_toArray, List.set_cons_zero, List.set_cons_succ]
        refine wpAnyB_take (i := 2) (v := ?_) false rfl (by kernel_rfl) (by kernel_rfl) (by kernel_rfl) (by kernel_rfl) (by kernel_rfl) (fun _ _ _ h => h) (Or.inl ⟨by rfl, ?_⟩) hM (fun hM2 => ?_)
        rotate_left
        · (intro w hSw; replace hSw := hSw.1; (try dsimp only at hSw); go_simp; try with_reducible rfl)
        replace hM := hM2
        clear hM2
        try simp only [List.getElem_toArray, List.getElem_cons_succ, List.getElem_cons_zero, Act.put, List.setIfInBounds_toArray, List.set_cons_zero, List.set_cons_succ]
        refine wpAnyB_take (i := 3) (v := ?_) false rfl (by kernel_rfl) (by kernel_rfl) (by kernel_rfl) (by kernel_rfl) (by kernel_rfl) (fun _ _ _ h => h) (Or.inl ⟨by rfl, ?_⟩) hM (fun hM2 => ?_)
        rotate_left
        · (intro w hSw; replace hSw := hSw.1; (try dsimp only at hSw); go_simp; try with_reducible rfl)
        replace hM := hM2
        clear hM2
        try simp only [List.getElem_toArray, List.getElem_cons_succ, List.getElem_cons_zero, Act.put, List.setIfInBounds_toArray, List.set_cons_zero, List.set_cons_succ]
        refine wpAnyB_take (i := 4) (v := ?_) false rfl (by kernel_rfl) (by kernel_rfl) (by kernel_rfl) (by kernel_rfl) (by kernel_rfl) (fun _ _ _ h => h) (Or.inl ⟨by rfl, ?_⟩) hM (fun hM2 => ?_)
        rotate_left
        · (intro w hSw; replace hSw := hSw.1; (try dsimp only at hSw); go_simp; try with_reducible rfl)
        replace hM := hM2
        clear hM2
        try simp only [List.getElem_toArray, List.getElem_cons_succ, List.getElem_cons_zero, Act.put, List.setIfInBounds_toArray, List.set_cons_zero, List.set_cons_succ]
        refine wpAnyB_one (i := 5) (by kernel_rfl) rfl (fun K hK => ?_)
        (go_simp; go_at_call 15; refine (u1 _ hA).mono ?_; rintro e w8 ⟨rfl, hB8⟩; replace hA := below_more hA hB8; dsimp only)
        refine hK.out _ _ (meetB.both (hT0 _ hA) trivial) (fun hM2 => ?_)
        clear hK K
        replace hM := hM2
        clear hM2
        try simp only [List.getElem_toArray, List.getElem_cons_succ, List.getElem_cons_zero, Act.put, List.setIfInBounds_toArray, List.set_cons_zero, List.set_cons_succ]
        refine wpAnyB_take (i := 6) (v := ?_) false rfl (by kernel_rfl) (by kernel_rfl) (by kernel_rfl) (by kernel_rfl) (by kernel_rfl) (fun _ _ _ h => h) (Or.inl ⟨by rfl, ?_⟩) hM (fun hM2 => ?_)
        rotate_left
        · (intro w hSw; replace hSw := hSw.1; (try dsimp only at hSw); go_simp; try with_reducible rfl)
        replace hM := hM2
        clear hM2
        try simp only [List.getElem_toArray, List.getElem_cons_succ, List.getElem_cons_zero, Act.put, List.setIfInBounds_toArray, List.set_cons_zero, List.set_cons_succ]
        refine wpAnyB_take (i := 7) (v := ?_) false rfl (by kernel_rfl) (by kernel_rfl) (by kernel_rfl) (by kernel_rfl) (by kernel_rfl) (fun _ _ _ h => h) (Or.inl ⟨by rfl, ?_⟩) hM (fun hM2 => ?_)
        rotate_left
        · (intro w hSw; replace hSw := hSw.1; (try dsimp only at hSw); go_simp; try with_reducible rfl)
        replace hM := hM2
        clear hM2
        try simp only [List.getElem_toArray, List.getElem_cons_succ, List.getElem_cons_zero, Act.put, List.setIfInBounds_toArray, List.set_cons_zero, List.set_cons_succ]
        refine wpAnyB_take (i := 8) (v := ?_) false rfl (by kernel_rfl) (by kernel_rfl) (by kernel_rfl) (by kernel_rfl) (by kernel_rfl) (fun _ _ _ h => h) (Or.inl ⟨by rfl, ?_⟩) hM (fun hM2 => ?_)
        rotate_left
        · (intro w hSw; replace hSw := hSw.1; (try dsimp only at hSw); go_simp; try with_reducible rfl)
        replace hM := hM2
        clear hM2
        try simp only [List.getElem_toArray, List.getElem_cons_succ, List.getElem_cons_zero, Act.put, List.setIfInBounds_toArray, List.set_cons_zero, List.set_cons_succ]
        refine wpAnyB_take (i := 9) (v := ?_) false rfl (by kernel_rfl) (by kernel_rfl) (by kernel_rfl) (by kernel_rfl) (by kernel_rfl) (fun _ _ _ h => h) (Or.inl ⟨by rfl, ?_⟩) hM (fun hM2 => ?_)
        rotate_left
        · (intro w hSw; replace hSw := hSw.1; (try dsimp only at hSw); go_simp; try with_reducible rfl)
        replace hM := hM2
        clear hM2
        try simp only [List.getElem_toArray, List.getElem_cons_succ, List.getElem_cons_zero, Act.put, List.setIfInBounds_toArray, List.set_cons_zero, List.set_cons_succ]
        refine wpAnyB_take (i := 10) (v := ?_) false rfl (by kernel_rfl) (by kernel_rfl) (by kernel_rfl) (by kernel_rfl) (by kernel_rfl) (fun _ _ _ h => h) (Or.inl ⟨by rfl, ?_⟩) hM (fun hM2 => ?_)
        rotate_left
        · (intro w hSw; replace hSw := hSw.1; (try dsimp only at hSw); go_simp; try with_reducible rfl)
        replace hM := hM2
        clear hM2
        try simp only [List.getElem_toArray, List.getElem_cons_succ, List.getElem_cons_zero, Act.put, List.setIfInBounds_toArray, List.set_cons_zero, List.set_cons_succ]
        refine wpAnyB_take (i := 11) (v := ?_) false rfl (by kernel_rfl) (by kernel_rfl) (by kernel_rfl) (by kernel_rfl) (by kernel_rfl) (fun _ _ _ h => h) (Or.inl ⟨by rfl, ?_⟩) hM (fun hM2 => ?_)
        rotate_left
        · (intro w hSw; replace hSw := hSw.1; (try dsimp only at hSw); go_simp; try with_reducible rfl)
        replace hM := hM2
        clear hM2
        try simp only [List.getElem_toArray, List.getElem_cons_succ, List.getElem_cons_zero, Act.put, List.setIfInBounds_toArray, List.set_cons_zero, List.set_cons_succ]
        refine wpAnyB_take (i := 12) (v := ?_) false rfl (by kernel_rfl) (by kernel_rfl) (by kernel_rfl) (by kernel_rfl) (by kernel_rfl) (fun _ _ _ h => h) (Or.inl ⟨by rfl, ?_⟩) hM (fun hM2 => ?_)
        rotate_left
        · (intro w hSw; replace hSw := hSw.1; (try dsimp only at hSw); go_simp; try with_reducible rfl)
        replace hM := hM2
        clear hM2
        try simp only [List.getElem_toArray, List.getElem_cons_succ, List.getElem_cons_zero, Act.put, List.setIfInBounds_toArray, List.set_cons_zero, List.set_cons_succ]
        refine wpAnyB_one (i := 13) (by kernel_rfl) rfl (fun K hK => ?_)
        (go_simp; go_at_call 33; refine (u2 _ hA).mono ?_; rintro e w8 ⟨rfl, hB8⟩; replace hA := below_more hA hB8; dsimp only)
        refine hK.out _ _ (meetB.both (hT0 _ hA) trivial) (fun hM2 => ?_)
        clear hK K
        replace hM := hM2
        clear hM2
        try simp only [List.getElem_toArray, List.getElem_cons_succ, List.getElem_cons_zero, Act.put, List.setIfInBounds_toArray, List.set_cons_zero, List.set_cons_succ]
        refine wpAnyB_take (i := 14) (v := ?_) false rfl (by kernel_rfl) (by kernel_rfl) (by kernel_rfl) (by kernel_rfl) (by kernel_rfl) (fun _ _ _ h => h) (Or.inl ⟨by rfl, ?_⟩) hM (fun hM2 => ?_)
        rotate_left
        · (intro w hSw; replace hSw := hSw.1; (try dsimp only at hSw); go_simp; try with_reducible rfl)
        replace hM := hM2
        clear hM2
        try simp only [List.getElem_toArray, List.getElem_cons_succ, List.getElem_cons_zero, Act.put, List.setIfInBounds_toArray, List.set_cons_zero, List.set_cons_succ]
        refine wpAnyB_take (i := 15) (v := ?_) false rfl (by kernel_rfl) (by kernel_rfl) (by kernel_rfl) (by kernel_rfl) (by kernel_rfl) (fun _ _ _ h => h) (Or.inl ⟨by rfl, ?_⟩) hM (fun hM2 => ?_)
        rotate_left
        · (intro w hSw; replace hSw := hSw.1; (try dsimp only at hSw); go_simp; try with_reducible rfl)
        replace hM := hM2
        clear hM2
        try simp only [List.getElem_toArray, List.getElem_cons_succ, List.getElem_cons_zero, Act.put, List.setIfInBounds_toArray, List.set_cons_zero, List.set_cons_succ]
        refine wpAnyB_take (i := 16) (v := ?_) false rfl (by kernel_rfl) (by kernel_rfl) (by kernel_rfl) (by kernel_rfl) (by kernel_rfl) (fun _ _ _ h => h) (Or.inl ⟨by rfl, ?_⟩) hM (fun hM2 => ?_)
        rotate_left
        · (intro w hSw; replace hSw := hSw.1; (try dsimp only at hSw); go_simp; try with_reducible rfl)
        replace hM := hM2
        clear hM2
        try simp only [List.getElem_toArray, List.getElem_cons_succ, List.getElem_cons_zero, Act.put, List.setIfInBounds_toArray, List.set_cons_zero, List.set_cons_succ]
        refine wpAnyB_take (i := 17) (v := ?_) false rfl (by kernel_rfl) (by kernel_rfl) (by kernel_rfl) (by kernel_rfl) (by kernel_rfl) (fun _ _ _ h => h) (Or.inl ⟨by rfl, ?_⟩) hM (fun hM2 => ?_)
        rotate_left
        · (intro w hSw; replace hSw := hSw.1; (try dsimp only at hSw); go_simp; try with_reducible rfl)
        replace hM := hM2
        clear hM2
        try simp only [List.getElem_toArray, List.getElem_cons_succ, List.getElem_cons_zero, Act.put, List.setIfInBounds_toArray, List.set_cons_zero, List.set_cons_succ]
        refine wpAnyB_take (i := 18) (v := ?_) false rfl (by kernel_rfl) (by kernel_rfl) (by kernel_rfl) (by kernel_rfl) (by kernel_rfl) (fun _ _ _ h => h) (Or.inl ⟨by rfl, ?_⟩) hM (fun hM2 => ?_)
        rotate_left
        · (intro w hSw; replace hSw := hSw.1; (try dsimp only at hSw); go_simp; try with_reducible rfl)
        replace hM := hM2
        clear hM2
        try simp only [List.getElem_toArray, List.getElem_cons_succ, List.getElem_cons_zero, Act.put, List.setIfInBounds_toArray, List.set_cons_zero, List.set_cons_succ]
        refine wpAnyB_take (i := 19) (v := ?_) false rfl (by kernel_rfl) (by kernel_rfl) (by kernel_rfl) (by kernel_rfl) (by kernel_rfl) (fun _ _ _ h => h) (Or.inl ⟨by rfl, ?_⟩) hM (fun hM2 => ?_)
        rotate_left
        · (intro w hSw; replace hSw := hSw.1; (try dsimp only at hSw); go_simp; try with_reducible rfl)
        replace hM := hM2
        clear hM2
        try simp only [List.getElem_toArray, List.getElem_cons_succ, List.getElem_cons_zero, Act.put, List.setIfInBounds_toArray, List.set_cons_zero, List.set_cons_succ]
        refine wpAnyB_take (i := 20) (v := ?_) false rfl (by kernel_rfl) (by kernel_rfl) (by kernel_rfl) (by kernel_rfl) (by kernel_rfl) (fun _ _ _ h => h) (Or.inl ⟨by rfl, ?_⟩) hM (fun hM2 => ?_)
        rotate_left
        · (intro w hSw; replace hSw := hSw.1; (try dsimp only at hSw); go_simp; try with_reducible rfl)
        replace hM := hM2
        clear hM2
        try simp only [List.getElem_toArray, List.getElem_cons_succ, List.getElem_cons_zero, Act.put, List.setIfInBounds_toArray, List.set_cons_zero, List.set_cons_succ]
        refine wpAnyB_one (i := 21) (by kernel_rfl) rfl (fun K hK => ?_)
        (go_simp; go_at_call 35; refine (u3 _ hA).mono ?_; rintro e w8 ⟨rfl, hB8⟩; replace hA := below_more hA hB8; dsimp only)
        refine hK.out _ _ (meetB.both (hT0 _ hA) trivial) (fun hM2 => ?_)
        clear hK K
        replace hM := hM2
        clear hM2
        try simp only [List.getElem_toArray, List.getElem_cons_succ, List.getElem_cons_zero, Act.put, List.setIfInBounds_toArray, List.set_cons_zero, List.set_cons_succ]
        refine wpAnyB_one (i := 22) (by kernel_rfl) rfl (fun K hK => ?_)
        (go_simp; go_at_call 34; refine (u4 _ hA).mono ?_; rintro e w8 ⟨rfl, hB8⟩; replace hA := below_more hA hB8; dsimp only)
        refine hK.out _ _ (meetB.both (hT0 _ hA) trivial) (fun hM2 => ?_)
        clear hK K
        replace hM := hM2
        clear hM2
        try simp only [List.getElem_toArray, List.getElem_cons_succ, List.getElem_cons_zero, Act.put, List.setIfInBounds_toArray, List.set_cons_zero, List.set_cons_succ]
        refine wpAnyB_take (i := 23) (v := ?_) false rfl (by kernel_rfl) (by kernel_rfl) (by kernel_rfl) (by kernel_rfl) (by kernel_rfl) (fun _ _ _ h => h) (Or.inl ⟨by rfl, ?_⟩) hM (fun hM2 => ?_)
        rotate_left
        · (intro w hSw; replace hSw := hSw.1; (try dsimp only at hSw); go_simp; try with_reducible rfl)
        replace hM := hM2
        clear hM2
        try simp only [List.getElem_toArray, List.getElem_cons_succ, List.getElem_cons_zero, Act.put, List.setIfInBounds_toArray, List.set_cons_zero, List.set_cons_succ]
        refine wpAnyB_take (i := 24) (v := ?_) false rfl (by kernel_rfl) (by kernel_rfl) (by kernel_rfl) (by kernel_rfl) (by kernel_rfl) (fun _ _ _ h => h) (Or.inl ⟨by rfl, ?_⟩) hM (fun hM2 => ?_)
        rotate_left
        · (intro w hSw; replace hSw := hSw.1; (try dsimp only at hSw); go_simp; try with_reducible rfl)
        replace hM := hM2
        clear hM2
        try simp only [List.getElem_toArray, List.getElem_cons_succ, List.getElem_cons_zero, Act.put, List.setIfInBounds_toArray, List.set_cons_zero, List.set_cons_succ]
        refine wpAnyB_take (i := 25) (v := ?_) false rfl (by kernel_rfl) (by kernel_rfl) (by kernel_rfl) (by kernel_rfl) (by kernel_rfl) (fun _ _ _ h => h) (Or.inl ⟨by rfl, ?_⟩) hM (fun hM2 => ?_)
        rotate_left
        · (intro w hSw; replace hSw := hSw.1; (try dsimp only at hSw); go_simp; try with_reducible rfl)
        replace hM := hM2
        clear hM2
        try simp only [List.getElem_toArray, List.getElem_cons_succ, List.getElem_cons_zero, Act.put, List.setIfInBounds_toArray, List.set_cons_zero, List.set_cons_succ]
        refine wpAnyB_take (i := 26) (v := ?_) false rfl (by kernel_rfl) (by kernel_rfl) (by kernel_rfl) (by kernel_rfl) (by kernel_rfl) (fun _ _ _ h => h) (Or.inl ⟨by rfl, ?_⟩) hM (fun hM2 => ?_)
        rotate_left
        · (intro w hSw; replace hSw := hSw.1; (try dsimp only at hSw); go_simp; try with_reducible rfl)
        replace hM := hM2
        clear hM2
        try simp only [List.getElem_toArray, List.getElem_cons_succ, List.getElem_cons_zero, Act.put, List.setIfInBounds_toArray, List.set_cons_zero, List.set_cons_succ]
        refine wpAnyB_take (i := 27) (v := ?_) false rfl (by kernel_rfl) (by kernel_rfl) (by kernel_rfl) (by kernel_rfl) (by kernel_rfl) (fun _ _ _ h => h) (Or.inl ⟨by rfl, ?_⟩) hM (fun hM2 => ?_)
        rotate_left
        · (intro w hSw; replace hSw := hSw.1; (try dsimp only at hSw); go_simp; try with_reducible rfl)
        replace hM := hM2
        clear hM2
        try simp only [List.getElem_toArray, List.getElem_cons_succ, List.getElem_cons_zero, Act.put, List.setIfInBounds_toArray, List.set_cons_zero, List.set_cons_succ]
        refine wpAnyB_one (i := 28) (by kernel_rfl) rfl (fun K hK => ?_)
        (go_simp; go_at_call 36; refine (u5 _ hA).mono ?_; rintro e w8 ⟨rfl, hB8⟩; replace hA := below_more hA hB8; dsimp only)
        refine hK.out _ _ (meetB.both (hT0 _ hA) trivial) (fun hM2 => ?_)
        clear hK K
        replace hM := hM2
        clear hM2
        try simp only [List.getElem_toArray, List.getElem_cons_succ, List.getElem_cons_zero, Act.put, List.setIfInBounds_toArray, List.set_cons_zero, List.set_cons_succ]
        refine wpAnyB_take (i := 29) (v := ?_) false rfl (by kernel_rfl) (by kernel_rfl) (by kernel_rfl) (by kernel_rfl) (by kernel_rfl) (fun _ _ _ h => h) (Or.inl ⟨by rfl, ?_⟩) hM (fun hM2 => ?_)
        rotate_left
        · (intro w hSw; replace hSw := hSw.1; (try dsimp only at hSw); go_simp; try with_reducible rfl)
        replace hM := hM2
        clear hM2
        try simp only [List.getElem_toArray, List.getElem_cons_succ, List.getElem_cons_zero, Act.put, List.setIfInBounds_toArray, List.set_cons_zero, List.set_cons_succ]
        refine wpAnyB_take (i := 30) (v := ?_) false rfl (by kernel_rfl) (by kernel_rfl) (by kernel_rfl) (by kernel_rfl) (by kernel_rfl) (fun _ _ _ h => h) (Or.inl ⟨by rfl, ?_⟩) hM (fun hM2 => ?_)
        rotate_left
        · (intro w hSw; replace hSw := hSw.1; (try dsimp only at hSw); go_simp; try with_reducible rfl)
        replace hM := hM2
        clear hM2
        try simp only [List.getElem_toArray, List.getElem_cons_succ, List.getElem_cons_zero, Act.put, List.setIfInBounds_toArray, List.set_cons_zero, List.set_cons_succ]
        refine wpAnyB_take (i := 31) (v := ?_) false rfl (by kernel_rfl) (by kernel_rfl) (by kernel_rfl) (by kernel_rfl) (by kernel_rfl) (fun _ _ _ h => h) (Or.inl ⟨by rfl, ?_⟩) hM (fun hM2 => ?_)
        rotate_left
        · (intro w hSw; replace hSw := hSw.1; (try dsimp only at hSw); go_simp; try with_reducible rfl)
        replace hM := hM2
        clear hM2
        try simp only [List.getElem_toArray, List.getElem_cons_succ, List.getElem_cons_zero, Act.put, List.setIfInBounds_toArray, List.set_cons_zero, List.set_cons_succ]
        refine wpAnyB_one (i := 32) (by kernel_rfl) rfl (fun K hK => ?_)
        (go_simp; go_at_call 11; refine (u6 _ hA).mono ?_; rintro e w8 ⟨rfl, hB8⟩; replace hA := below_more hA hB8; dsimp only)
        refine hK.out _ _ (meetB.both (hT0 _ hA) trivial) (fun hM2 => ?_)
        clear hK K
        replace hM := hM2
        clear hM2
        try simp only [List.getElem_toArray, List.getElem_cons_succ, List.getElem_cons_zero, Act.put, List.setIfInBounds_toArray, List.set_cons_zero, List.set_cons_succ]
        refine wpAnyB_take (i := 33) (v := ?_) false rfl (by kernel_rfl) (by kernel_rfl) (by kernel_rfl) (by kernel_rfl) (by kernel_rfl) (fun _ _ _ h => h) (Or.inl ⟨by rfl, ?_⟩) hM (fun hM2 => ?_)
        rotate_left
        · (intro w hSw; replace hSw := hSw.1; (try dsimp only at hSw); go_simp; try with_reducible rfl)
        replace hM := hM2
        clear hM2
        try simp only [List.getElem_toArray, List.getElem_cons_succ, List.getElem_cons_zero, Act.put, List.setIfInBounds_toArray, List.set_cons_zero, List.set_cons_succ]
        refine wpAnyB_take (i := 34) (v := ?_) false rfl (by kernel_rfl) (by kernel_rfl) (by kernel_rfl) (by kernel_rfl) (by kernel_rfl) (fun _ _ _ h => h) (Or.inl ⟨by rfl, ?_⟩) hM (fun hM2 => ?_)
        rotate_left
        · (intro w hSw; replace hSw := hSw.1; (try dsimp only at hSw); go_simp; try with_reducible rfl)
        replace hM := hM2
        clear hM2
        try simp only [List.getElem_toArray, List.getElem_cons_succ, List.getElem_cons_zero, Act.put, List.setIfInBounds_toArray, List.set_cons_zero, List.set_cons_succ]
        refine wpAnyB_take (i := 35) (v := ?_) false rfl (by kernel_rfl) (by kernel_rfl) (by kernel_rfl) (by kernel_rfl) (by kernel_rfl) (fun _ _ _ h => h) (Or.inl ⟨by rfl, ?_⟩) hM (fun hM2 => ?_)
        rotate_left
        · (intro w hSw; replace hSw := hSw.1; (try dsimp only at hSw); go_simp; try with_reducible rfl)
        replace hM := hM2
        clear hM2
        try simp only [List.getElem_toArray, List.getElem_cons_succ, List.getElem_cons_zero, Act.put, List.setIfInBounds_toArray, List.set_cons_zero, List.set_cons_succ]
        refine wpAnyB_take (i := 36) (v := ?_) false rfl (by kernel_rfl) (by kernel_rfl) (by kernel_rfl) (by kernel_rfl) (by kernel_rfl) (fun _ _ _ h => h) (Or.inl ⟨by rfl, ?_⟩) hM (fun hM2 => ?_)
        rotate_left
        · (intro w hSw; replace hSw := hSw.1; (try dsimp only at hSw); go_simp; try with_reducible rfl)
        replace hM := hM2
        clear hM2
        try simp only [List.getElem_toArray, List.getElem_cons_succ, List.getElem_cons_zero, Act.put, List.setIfInBounds_toArray, List.set_cons_zero, List.set_cons_succ]
        refine wpAnyB_one (i := 37) (by kernel_rfl) rfl (fun K hK => ?_)
        (go_simp; go_at_call 37; refine (u7 _ hA).mono ?_; rintro e w8 ⟨rfl, hB8⟩; replace hA := below_more hA hB8; dsimp only)
        refine hK.out _ _ (meetB.both (hT0 _ hA) trivial) (fun hM2 => ?_)
        clear hK K
        replace hM := hM2
        clear hM2
        try simp only [List.getElem_toArray, List.getElem_cons_succ, List.getElem_cons_zero, Act.put, List.setIfInBounds_toArray, List.set_cons_zero, List.set_cons_succ]
        refine wpAnyB_take (i := 38) (v := ?_) false rfl (by kernel_rfl) (by kernel_rfl) (by kernel_rfl) (by kernel_rfl) (by kernel_rfl) (fun _ _ _ h => h) (Or.inl ⟨by rfl, ?_⟩) hM (fun hM2 => ?_)
        rotate_left
        · (intro w hSw; replace hSw := hSw.1; (try dsimp only at hSw); go_simp; try with_reducible rfl)
        replace hM := hM2
        clear hM2
        try simp only [List.getElem_toArray, List.getElem_cons_succ, List.getElem_cons_zero, Act.put, List.setIfInBounds_toArray, List.set_cons_zero, List.set_cons_succ]
        refine wpAnyB_take (i := 39) (v := ?_) false rfl (by kernel_rfl) (by kernel_rfl) (by kernel_rfl) (by kernel_rfl) (by kernel_rfl) (fun _ _ _ h => h) (Or.inl ⟨by rfl, ?_⟩) hM (fun hM2 => ?_)
        rotate_left
        · (intro w hSw; replace hSw := hSw.1; (try dsimp only at hSw); go_simp; try with_reducible rfl)
        replace hM := hM2
        clear hM2
        try simp only [List.getElem_toArray, List.getElem_cons_succ, List.getElem_cons_zero, Act.put, List.setIfInBounds_toArray, List.set_cons_zero, List.set_cons_succ]
        refine wpAnyB_done (by kernel_rfl) ?_ _
        clear hM hT0 u1 u2 u3 u4 u5 u6 u7
        go_wp2_with fail
        go_meet
        case rel => exact ⟨⟨_, below_more HhBm7.out hA⟩, rfl⟩
    case rest =>
      obtain ⟨m, rfl⟩ := hcut
      clear HT hA4 hc0 hc1 hb0 hr hrl hT2 hA2
      have hBm := below_later HhB.out m
      generalize m.w = W7 at *
      clear m HhB
      have hA := drawCotreeText_any n c bo W7 (Hhb1.out _ hBm) hn
      go_wp2_with fail
      refine hA.mono ?_
      rintro e w8 ⟨s, rfl, hs60, hB8⟩
      clear hA
      replace hBm := hBm.trans (hB8.mono hBm.size)
      clear hB8
      obtain ⟨L, rfl⟩ : ∃ L, s = bs L := ⟨s.data.toList, by unfold bs; rfl⟩
      rw [bs_size] at hs60
      obtain ⟨R, b, hRc, hR7, hRet⟩ := goc_val L
      have q1 := (implGoc_any L (by omega) w8).mono (hRet w8)
      have q2 := fun w' => (specGoc_any L hs60 w').mono (hRet w')
      clear hRet
      go_wp2_with fail
      refine q1.mono ?_
      rintro e w9 ⟨ao, c3, rfl, hB9, hO⟩
      replace hBm := hBm.trans (hB9.mono hBm.size)
      clear q1 hB9
      go_upto_region 21 with fail
      generalize hW10 : World.alloc _ _ = W10
      obtain ⟨hB10, hz10, k10⟩ := alloc1 hW10
      have t3 := q2 W10
      replace hO := hO.below hB10
      replace hBm := hBm.trans (hB10.mono hBm.size)
      clear hW10 hz10 hB10 q2
      generalize w9.heap.size = ya at *
      have HhBm := Lib.hid hBm
      clear hBm
      have HhO := Lib.hid hO
      clear hO
      have Hk10 := Lib.hid k10
      clear k10
      go_wp2_with fail
      refine t3.mono ?_
      rintro e w11 ⟨ao2, c4, rfl, hB11, hO2⟩
      have hO := HhO.out.below hB11
      have hBm := HhBm.out.trans (hB11.mono HhBm.out.size)
      have k10 := Hk10.out.below hB11 Hk10.out.lt
      clear t3 HhBm HhO Hk10 hB11
      go_upto_region 22 with fail
      generalize hW12 : World.alloc _ _ = W12
      obtain ⟨hB12, hz12, k12⟩ := alloc1 hW12
      replace hO := hO.below hB12
      replace hO2 := hO2.below hB12
      replace k10 := k10.below hB12 k10.lt
      replace hBm := hBm.trans (hB12.mono hBm.size)
      clear hW12 hz12 hB12
      generalize w11.heap.size = yc at *
      have hA := DrawFindPathOfFour_any n c bo W12 (Hhb1.out _ hBm) hn
      have HhBm := Lib.hid hBm
      clear hBm
      have HhO := Lib.hid hO
      clear hO
      have HhO2 := Lib.hid hO2
      clear hO2
      have Hk10 := Lib.hid k10
      clear k10
      have Hk12 := Lib.hid k12
      clear k12
      go_wp2_with fail
      refine hA.mono ?_
      rintro e w13 ⟨xd, fd, gd, cd, ⟨-, hd6⟩, rfl, -, hRd, hB13⟩
      clear hA
      have hO := HhO.out.below hB13
      have hO2 := HhO2.out.below hB13
      have hBm := HhBm.out.trans (hB13.mono HhBm.out.size)
      have k10 := Hk10.out.below hB13 Hk10.out.lt
      have k12 := Hk12.out.below hB13 Hk12.out.lt
      clear hB13 HhBm HhO HhO2 Hk10 Hk12 Hhb1
      go_upto_region 23 with fail
      generalize hW14 : World.alloc _ _ = W14
      obtain ⟨hB14, hz14, k14⟩ := alloc1 hW14
      replace hO := hO.below hB14
      replace hO2 := hO2.below hB14
      have hrd := (hRd.below hB14).ints
      replace k10 := k10.below hB14 k10.lt
      replace k12 := k12.below hB14 k12.lt
      replace hBm := hBm.trans (hB14.mono hBm.size)
      clear hW14 hz14 hB14 hRd
      generalize w13.heap.size = yd at *
      have HB := Lib.hid hBm
      have m0 := k10.cell 0
      have m1 := k10.cell 1
      have m4 := k10.lt
      have n0 := k12.cell 0
      have n1 := k12.cell 1
      have n4 := k12.lt
      have o0 := k14.cell 0
      have o1 := k14.cell 1
      have o4 := k14.lt
      simp at m0 m1 n0 n1 o0 o1
      clear hBm k10 k12 k14
      have p1 : ∀ m : Later W14, Calls Tryz.prog 41 #[.agg #[.int .i64 xd, .slice (some ⟨gd, 0, none⟩) fd.length cd]] m.w fun e w' => ∃ ao cap, e = .returned (.tuple #[.slice ao ((fipV xd fd).getD []).length cap, .bool (fipV xd fd).isSome]) ∧ Below m.w.heap.size m.w w' ∧ IntsAt w' ao ((fipV xd fd).getD []) := fun m => implP4_any xd fd (some ⟨gd, 0, none⟩) cd m.w (hrd.later m) (by omega)
      have p2 : ∀ m : Later W14, Calls Tryz.prog 42 #[.agg #[.int .i64 xd, .slice (some ⟨gd, 0, none⟩) fd.length cd]] m.w fun e w' => ∃ ao cap, e = .returned (.tuple #[.slice ao ((fipV xd fd).getD []).length cap, .bool (fipV xd fd).isSome]) ∧ Below m.w.heap.size m.w w' ∧ IntsAt w' ao ((fipV xd fd).getD []) := fun m => specP4_any xd fd (some ⟨gd, 0, none⟩) cd m.w (hrd.later m) (by omega)
      have g1 := fun m : Later W14 => specEqG_any R.length R ao ao2 c3 c4 m.w (hO.later m) (hO2.later m) (by omega)
      have g2 := fun m : Later W14 => implCog_any R.length R ao2 c4 m.w (hO2.later m) (by omega)
      have hF5 := fipV_len xd fd
      generalize (fipV xd fd).isSome = five at *
      generalize (fipV xd fd).getD [] = Q at *
      clear hO hO2 hrd hd6
      obtain ⟨m, hm0⟩ : ∃ m : Later W14, m.w = W14 := ⟨Later.refl _, rfl⟩
      refine (fun h => hm0 ▸ h) ?_
      clear hm0
      go_wp2_with fail
      refine (p1 m).mono ?_
      rintro e w15 ⟨lo3, lc3, rfl, hB15, hQ1⟩
      obtain ⟨m, rfl⟩ : ∃ m2 : Later W14, m2.w = w15 := ⟨m.on hB15, rfl⟩
      clear hB15 p1
      go_wp2_with fail
      refine (p2 m).mono ?_
      rintro e w15 ⟨lo4, lc4, rfl, hB15, hQ2⟩
      replace hQ1 := hQ1.below hB15
      obtain ⟨m, rfl⟩ : ∃ m2 : Later W14, m2.w = w15 := ⟨m.on hB15, rfl⟩
      clear hB15 p2
      go_wp2_with fail
      refine (g1 m).mono ?_
      rintro e w15 ⟨rfl, hB15⟩
      replace hQ1 := hQ1.below hB15
      replace hQ2 := hQ2.below hB15
      obtain ⟨m, rfl⟩ : ∃ m2 : Later W14, m2.w = w15 := ⟨m.on hB15, rfl⟩
      clear hB15 g1
      have s3 := lawSameInts_any lo3 lo4 Q Q lc3 lc4 m.w hQ1 hQ2 (by omega) (by omega)
      rw [sameInts_refl] at s3
      clear hQ1 hQ2
      go_wp2_with fail
      refine s3.mono ?_
      rintro e w15 ⟨rfl, hB15⟩
      obtain ⟨m, rfl⟩ : ∃ m2 : Later W14, m2.w = w15 := ⟨m.on hB15, rfl⟩
      clear hB15 s3
      cases b
      · clear hRc g2
        go_wp2_with fail
        go_ret
        exact ⟨by simp, below_later HB.out m⟩
      · rw [hRc rfl] at g2
        clear hRc
        go_wp2_with fail
        refine (Calls.later m (g2 m)).mono ?_
        rintro e w' ⟨rfl, m, rfl⟩
        go_wp2_with fail
        go_ret
        exact ⟨by simp, below_later HB.out m⟩

end Go.Proofs.YtjikmjhpmkakoaaGreatDoor.lawCographs
