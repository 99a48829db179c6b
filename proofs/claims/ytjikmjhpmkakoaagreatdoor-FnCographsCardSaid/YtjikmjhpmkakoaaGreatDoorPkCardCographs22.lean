/-
  FindInducedPath of four vertices, FindPathOfFour and IsCograph on both sides. For at most 2^20 rows.
  ComplementOf of the reference. For at most 2^20 rows.
-/
import Derived.Test.YtjikmjhpmkakoaaGreatDoorPkCardCographs21
import Derived.Test.YtjikmjhpmkakoaaGreatDoorPkCardCographs16
import Derived.Test.YtjikmjhpmkakoaaGreatDoorPkCardCographs19
import Derived.Test.YtjikmjhpmkakoaaGreatDoorPkCardCographs06
import Derived.Deep.RegionLaw
namespace Go.Proofs.YtjikmjhpmkakoaaGreatDoor
open Go.RowKit

/-- The first path of four vertices. -/
def fipV (n : Int) (rs : List Int) : Option (List Int) := if isGraphB n rs = true ∧ 4 ≤ rs.length then dfs (pathB rs.length rs) (fun _ => true) rs.length 4 [] else none
theorem fipV_no {n : Int} {rs : List Int} (h : isGraphB n rs = false) : fipV n rs = none := by unfold fipV; rw [if_neg]; intro h2; rw [h] at h2; cases h2.1
theorem fipV_small {n : Int} {rs : List Int} (h : ¬4 ≤ rs.length) : fipV n rs = none := by unfold fipV; rw [if_neg]; exact fun h2 => h h2.2
theorem fipV_of {rs : List Int} (h : isGraphB rs.length rs = true) (h4 : 4 ≤ rs.length) : fipV rs.length rs = dfs (pathB rs.length rs) (fun _ => true) rs.length 4 [] := by unfold fipV; rw [if_pos ⟨h, h4⟩]
theorem fipV_len (n : Int) (rs : List Int) : ((fipV n rs).getD []).length ≤ 4 := by
  unfold fipV
  split
  · exact dfs_len (n := 4) (by simp)
  · simp
/-- Is it a graph without a path of four vertices? -/
def cogB (n : Int) (rs : List Int) : Bool := isGraphB n rs && !(fipV n rs).isSome
theorem cogB_no {n : Int} {rs : List Int} (h : isGraphB n rs = false) : cogB n rs = false := by unfold cogB; rw [h]; rfl

theorem path_head {rs a b : List Int} (h : pathB rs.length rs (a ++ b) = true) (h0 : 0 < a.length) : pathB rs.length rs a = true := by
  unfold pathB joinB at h ⊢
  rw [Bool.and_eq_true, Bool.and_eq_true, decide_eq_true_eq, decide_eq_true_eq] at h ⊢
  obtain ⟨-, h2, h3⟩ := h
  refine ⟨h0, verts_headF h2, fun i hi j hji => ?_⟩
  have e := h3 i (by simp; omega) j hji
  unfold joinedAt at e ⊢
  rw [gi_left (by omega), gi_left (by omega)] at e
  exact e
theorem nec_path (rs : List Int) : Nec (pathB rs.length rs) (pathB rs.length rs) 4 := fun l v t _ h => by
  have h2 := path_head h (by simp)
  exact ⟨path_new h2, h2⟩
theorem fip_path (rs : List Int) : dfs (pathB rs.length rs) (fun _ => true) rs.length 4 [] = dfs (pathB rs.length rs) (pathB rs.length rs) rs.length 4 [] := by
  unfold dfs
  rw [dfs_always (q := pathB rs.length rs) (n := 4) rs.length (fun _ _ _ _ h => h) 4 [] (by simp) (fun h => by omega)]
theorem cog_iff {rs : List Int} (hv : isGraphB rs.length rs = true) : cogB rs.length rs = true ↔ noP4 rs := by
  have g := (VG.of hv).2
  unfold cogB
  rw [hv, Bool.true_and, Bool.not_eq_true']
  constructor
  · intro h a b c d ab bc cd ac bd ad'
    obtain ⟨ha, hb⟩ := ad_lt g ab
    obtain ⟨hc, hd⟩ := ad_lt g cd
    have sy := ad_symm g
    have clash : ∀ {x y : Nat}, ad rs x y = true → ad rs x y = false → False := fun h1 h2 => by rw [h1] at h2; cases h2
    have nab : a ≠ b := fun e => by subst e; rw [ad_irr g] at ab; cases ab
    have nbc : b ≠ c := fun e => by subst e; rw [ad_irr g] at bc; cases bc
    have ncd : c ≠ d := fun e => by subst e; rw [ad_irr g] at cd; cases cd
    have nac : a ≠ c := fun e => by subst e; exact clash cd ad'
    have nbd : b ≠ d := fun e => by subst e; exact clash ab ad'
    have nad : a ≠ d := fun e => by subst e; exact clash ab (by rw [sy]; exact bd)
    have h4 : 4 ≤ rs.length := by
      have := nodup_lt7 rs.length [a, b, c, d] (by simp [nab, nac, nad, nbc, nbd, ncd]) fun x hx => by
        simp at hx
        omega
      simpa using this
    rw [fipV_of hv h4, fip_path] at h
    have hp : pathB rs.length rs [(a : Int), b, c, d] = true := by
      unfold pathB joinB
      rw [Bool.and_eq_true, Bool.and_eq_true, decide_eq_true_eq, decide_eq_true_eq, vertsB_true]
      refine ⟨by simp, ⟨hv, fun j hj => ?_⟩, fun i hi j hji => ?_⟩
      · simp at hj
        rcases (by omega : j = 0 ∨ j = 1 ∨ j = 2 ∨ j = 3) with rfl | rfl | rfl | rfl
        · exact ⟨by simp [gi]; omega, fun i hi => by omega⟩
        · refine ⟨by simp [gi]; omega, fun i hi => ?_⟩
          obtain rfl : i = 0 := by omega
          simp [gi]; omega
        · refine ⟨by simp [gi]; omega, fun i hi => ?_⟩
          rcases (by omega : i = 0 ∨ i = 1) with rfl | rfl <;> simp [gi] <;> omega
        · refine ⟨by simp [gi]; omega, fun i hi => ?_⟩
          rcases (by omega : i = 0 ∨ i = 1 ∨ i = 2) with rfl | rfl | rfl <;> simp [gi] <;> omega
      · simp at hi
        have key : ∀ {x y : Nat} {t : Bool}, ad rs x y = t → ((gn rs ((x : Int)).toNat).testBit ((y : Int)).toNat == t) = true := fun h => by
          rw [Int.toNat_natCast, Int.toNat_natCast]
          show (ad rs _ _ == _) = true
          rw [h]; simp
        rcases (by omega : (i = 1 ∧ j = 0) ∨ (i = 2 ∧ j = 0) ∨ (i = 2 ∧ j = 1) ∨ (i = 3 ∧ j = 0) ∨ (i = 3 ∧ j = 1) ∨ (i = 3 ∧ j = 2)) with ⟨rfl, rfl⟩ | ⟨rfl, rfl⟩ | ⟨rfl, rfl⟩ | ⟨rfl, rfl⟩ | ⟨rfl, rfl⟩ | ⟨rfl, rfl⟩
        · exact key ab
        · exact key ac
        · exact key bc
        · exact key ad'
        · exact key bd
        · exact key cd
    have := dfs_some (N := rs.length) (nec_path rs) [(a : Int), b, c, d] [] rfl (by rw [List.nil_append]; exact hp) fun y hy => by
      simp at hy
      rcases hy with rfl | rfl | rfl | rfl
      · exact ⟨a, ha, rfl⟩
      · exact ⟨b, hb, rfl⟩
      · exact ⟨c, hc, rfl⟩
      · exact ⟨d, hd, rfl⟩
    have h' : (dfs (pathB rs.length rs) (pathB rs.length rs) rs.length [(a : Int), b, c, d].length []).isSome = false := h
    rw [this] at h'; cases h'
  · intro hp
    by_cases h4 : 4 ≤ rs.length
    · rw [fipV_of hv h4, fip_path]
      cases hd : dfs (pathB rs.length rs) (pathB rs.length rs) rs.length 4 [] with
      | none => rfl
      | some x =>
        exfalso
        obtain ⟨hq, t, e, ht⟩ := dfs_from _ _ _ _ _ _ hd
        rw [List.nil_append] at e
        subst e
        match x, ht with
        | [a, b, c, d], _ =>
          unfold pathB joinB at hq
          rw [Bool.and_eq_true, Bool.and_eq_true, decide_eq_true_eq, decide_eq_true_eq] at hq
          obtain ⟨-, -, h3⟩ := hq
          have key : ∀ i j, i < 4 → j < i → ad rs (gi [a, b, c, d] j).toNat (gi [a, b, c, d] i).toNat = pathP j i := fun i j hi hj => by
            have := h3 i (by simpa using hi) j hj
            unfold joinedAt at this
            rw [beq_iff_eq] at this
            exact this
          exact hp a.toNat b.toNat c.toNat d.toNat (key 1 0 (by omega) (by omega)) (key 2 1 (by omega) (by omega)) (key 3 2 (by omega) (by omega)) (key 2 0 (by omega) (by omega)) (key 3 1 (by omega) (by omega)) (key 3 0 (by omega) (by omega))
    · rw [fipV_small h4]; rfl

set_option maxRecDepth 100000 in
set_option maxHeartbeats 4000000 in
theorem specFip_any (n : Int) (rs : List Int) (ro : Option Addr) (rc : Nat) (w : World) (hr : IntsAt w ro rs) (hrl : rs.length ≤ 1048576) :
    Calls Tryz.prog 99 #[.agg #[.int .i64 n, .slice ro rs.length rc], .int .i64 4] w (RetI w (fipV n rs)) := by
  go_enter Tryz.func99, Tryz.ntmps99
  go_wp2_with fail
  generalize hW : w.alloc _ = W1
  obtain ⟨hB, -, k0⟩ := alloc1 hW
  replace hr := hr.below hB
  have hb0 := k0.lt
  have hc0 := k0.cell 0
  have hc1 := k0.cell 1
  simp at hc0 hc1
  clear hW k0
  have HhB := Lib.hid hB
  clear hB
  obtain ⟨m, hm0⟩ : ∃ m : Later W1, m.w = W1 := ⟨Later.refl _, rfl⟩
  refine (fun h => hm0 ▸ h) ?_
  clear hm0
  cases hv : isGraphB n rs
  · have HE := Lib.hid (fipV_no hv)
    go_wp2_with (first | (go_at_call 12; refine (Calls.later m (specIsGraph_any n rs ro rc _ (hr.later m) hrl)).mono ?_; rw [hv]; rintro e w' ⟨rfl, m, rfl⟩))
    go_ret2
    exact ⟨_, _, by rw [HE.out]; rfl, (below_later HhB.out m).alloc (below_later HhB.out m).size _, by rw [HE.out]; exact fun h => absurd h (by simp)⟩
  · obtain ⟨rfl, g⟩ := VG.of hv
    have h7 := g.le
    by_cases h4 : 4 ≤ rs.length
    · have hin : (decide ((1 : Int) ≤ 4) && decide ((4 : Int) ≤ (rs.length : Int))) = true := by rw [decide_eq_true (by omega), decide_eq_true (by omega)]; rfl
      have HI := fun w : World => l1In_any 4 1 rs.length w
      simp only [hin] at HI
      have hS := fun (m : Later W1) (W2 : World) (hB2 : Below m.w.heap.size m.w W2) => l4SearchP_any rs ro rc hv 4 (by omega) 4 [] 0 0 ⟨m.w.heap.size, 0, none⟩ W2 (by simp) rfl (Nat.le_refl _) ((hr.later m).below hB2) (fun h => absurd h (by simp))
      have HE := Lib.hid (fipV_of hv h4)
      generalize hO : dfs (pathB rs.length rs) (fun _ => true) rs.length 4 [] = O at *
      have HhO := Lib.hid hO
      clear hO
      have HhS := Lib.hid hS
      clear hS
      have Hhin := Lib.hid hin
      clear hin
      go_wp2_with fail
      refine (Calls.later m (specIsGraph_any _ rs ro rc _ (hr.later m) hrl)).mono ?_
      rw [hv]
      rintro e w' ⟨rfl, m, rfl⟩
      go_wp2_with fail
      refine (HI _).mono ?_
      rintro e w' ⟨rfl, rfl⟩
      have hbm := Nat.lt_of_lt_of_le hb0 m.size
      go_wp2_with fail
      generalize hW2 : m.w.alloc (.cells #[] 3) = W2
      obtain ⟨hB2, -, -⟩ := alloc1 hW2
      refine (HhS.out m W2 hB2).mono ?_
      rintro e w3 hD
      obtain ⟨ao, cap, rfl, hB3, hI, -⟩ := hD.top (by omega)
      obtain ⟨m, rfl⟩ : ∃ m3 : Later W1, m3.w = w3 := ⟨m.on (below_more' hB2 hB3), rfl⟩
      clear hB2 hB3 hW2 hbm hD
      have HhI := Lib.hid hI
      clear hI
      go_wp2_with fail
      go_ret2
      exact ⟨ao, cap, by rw [HE.out]; rfl, below_later HhB.out m, by rw [HE.out]; exact HhI.out⟩
    · have hin : (decide ((1 : Int) ≤ 4) && decide ((4 : Int) ≤ (rs.length : Int))) = false := by rw [decide_eq_false (p := (4 : Int) ≤ (rs.length : Int)) (by omega), Bool.and_false]
      have HI := fun w : World => l1In_any 4 1 rs.length w
      simp only [hin] at HI
      have HE := Lib.hid (fipV_small (n := rs.length) h4)
      have Hhin := Lib.hid hin
      clear hin
      go_wp2_with fail
      refine (Calls.later m (specIsGraph_any _ rs ro rc _ (hr.later m) hrl)).mono ?_
      rw [hv]
      rintro e w' ⟨rfl, m, rfl⟩
      go_wp2_with fail
      refine (HI _).mono ?_
      rintro e w' ⟨rfl, rfl⟩
      go_wp2_with fail
      go_ret2
      exact ⟨_, _, by rw [HE.out]; rfl, (below_later HhB.out m).alloc (below_later HhB.out m).size _, by rw [HE.out]; exact fun h => absurd h (by simp)⟩

set_option maxRecDepth 100000 in
set_option maxHeartbeats 4000000 in
theorem implFip_any (n : Int) (rs : List Int) (ro : Option Addr) (rc : Nat) (w : World) (hr : IntsAt w ro rs) (hrl : rs.length ≤ 1048576) :
    Calls Tryz.prog 98 #[.agg #[.int .i64 n, .slice ro rs.length rc], .int .i64 4] w (RetI w (fipV n rs)) := by
  go_enter Tryz.func98, Tryz.ntmps98
  go_wp2_with fail
  generalize hW : w.alloc _ = W1
  obtain ⟨hB, -, k0⟩ := alloc1 hW
  replace hr := hr.below hB
  have hb0 := k0.lt
  have hc0 := k0.cell 0
  have hc1 := k0.cell 1
  simp at hc0 hc1
  clear hW k0
  have HhB := Lib.hid hB
  clear hB
  obtain ⟨m, hm0⟩ : ∃ m : Later W1, m.w = W1 := ⟨Later.refl _, rfl⟩
  refine (fun h => hm0 ▸ h) ?_
  clear hm0
  by_cases h4 : 4 ≤ n
  · have hin : (decide ((1 : Int) ≤ 4) && decide ((4 : Int) ≤ n)) = true := by rw [decide_eq_true (by omega), decide_eq_true (by omega)]; rfl
    have HI := fun w : World => within_any 4 1 n w
    simp only [hin] at HI
    have Hhin := Lib.hid hin
    clear hin
    cases hv : isGraphB n rs
    · have HE := Lib.hid (fipV_no hv)
      go_wp2_with fail
      refine (HI _).mono ?_
      rintro e w' ⟨rfl, rfl⟩
      go_wp2_with fail
      refine (firstList_bad n 4 rs ro rc 138 140 _ _ m.w (hr.later m) hrl hv).mono ?_
      rintro e w3 ⟨rfl, hB3⟩
      obtain ⟨m, rfl⟩ : ∃ m3 : Later W1, m3.w = w3 := ⟨m.on hB3, rfl⟩
      clear hB3
      go_wp2_with fail
      go_ret2
      exact ⟨none, 0, by rw [HE.out]; rfl, below_later HhB.out m, by rw [HE.out]; exact fun h => absurd h (by simp)⟩
    · obtain ⟨rfl, g⟩ := VG.of hv
      have h7 := g.le
      have HE := Lib.hid (fipV_of hv (by omega))
      have hF := firstList_any (S := Unit) (fun _ _ => ((), true)) (pathB rs.length rs) (fun _ _ => True) (fun _ => False) rs ro rc 4 138 140 #[.pointer (some ⟨w.heap.size, 0, none⟩)] #[] () m.w (hr.later m) hv (by omega) (by omega)
        (fun _ h => h.elim) (fun _ _ => rfl) (fun _ _ => rfl) (fun m2 l ao k2 cap hl hk2 hc hn h0 => by
          subst hk2
          show Calls Tryz.prog 138 #[.slice ao l.length cap, .pointer (some ⟨w.heap.size, 0, none⟩)] m2.w _
          have hB2 : Below W1.heap.size W1 m2.w := below_more m.below (m2.only.below (Nat.le_refl _) fun _ _ h => h)
          have y0 := (hB2.cell (p := ⟨w.heap.size, 0, none⟩) hb0).trans hc0
          have y1 := (hB2.cell (p := ⟨w.heap.size, 1, none⟩) hb0).trans hc1
          have hr2 := hr.below hB2
          have hl7 : l.length ≤ 1048576 := by omega
          clear hc0 hc1
          go_enter Tryz.func138, Tryz.ntmps138
          go_wp2_with fail
          refine (implIsPath_any rs.length rs l ro ao rc cap m2.w hr2 hrl hl hl7 hc).mono ?_
          rintro e w3 ⟨rfl, hB3⟩
          go_wp2_with fail
          go_ret
          exact ⟨rfl, hB3⟩) (always_any (fun _ => False) m.w 4) (fun _ _ _ _ _ => trivial) trivial
      have HD : Hid ((flRun (S := Unit) (fun _ _ => ((), true)) (pathB rs.length rs) rs.length 4 () []).2 = dfs (pathB rs.length rs) (fun _ => true) rs.length 4 []) := rfl
      rw [HD.out] at hF
      clear HD
      generalize hO : dfs (pathB rs.length rs) (fun _ => true) rs.length 4 [] = O at *
      have HhO := Lib.hid hO
      clear hO
      have HhF := Lib.hid hF
      clear hF
      go_wp2_with fail
      refine (HI _).mono ?_
      rintro e w' ⟨rfl, rfl⟩
      go_wp2_with fail
      refine HhF.out.mono ?_
      rintro e w3 ⟨ao, cap, rfl, hOn, -, hE⟩
      have hB3 : Below m.w.heap.size m.w w3 := hOn.below (Nat.le_refl _) fun _ _ h => h
      obtain ⟨m, rfl⟩ : ∃ m3 : Later W1, m3.w = w3 := ⟨m.on hB3, rfl⟩
      have hI := hE.ints
      clear hOn hB3 hE HhF
      have HhI := Lib.hid hI
      clear hI
      go_wp2_with fail
      go_ret2
      exact ⟨ao, cap, by rw [HE.out]; rfl, below_later HhB.out m, by rw [HE.out]; exact HhI.out⟩
  · have hin : (decide ((1 : Int) ≤ 4) && decide ((4 : Int) ≤ n)) = false := by rw [decide_eq_false (p := (4 : Int) ≤ n) (by omega), Bool.and_false]
    have HI := fun w : World => within_any 4 1 n w
    simp only [hin] at HI
    have HE : Hid (fipV n rs = none) := Lib.hid (by
      cases hv : isGraphB n rs
      · exact fipV_no hv
      · obtain ⟨rfl, -⟩ := VG.of hv
        exact fipV_small (by omega))
    have Hhin := Lib.hid hin
    clear hin
    go_wp2_with fail
    refine (HI _).mono ?_
    rintro e w' ⟨rfl, rfl⟩
    go_wp2_with fail
    go_ret2
    exact ⟨none, 0, by rw [HE.out]; rfl, below_later HhB.out m, by rw [HE.out]; exact fun h => absurd h (by simp)⟩

set_option maxRecDepth 100000 in
theorem specP4_any (n : Int) (rs : List Int) (ro : Option Addr) (rc : Nat) (w : World) (hr : IntsAt w ro rs) (hrl : rs.length ≤ 1048576) :
    Calls Tryz.prog 42 #[.agg #[.int .i64 n, .slice ro rs.length rc]] w (RetI w (fipV n rs)) := by
  go_enter Tryz.func42, Tryz.ntmps42
  go_wp2_with fail
  generalize hW : w.alloc _ = W1
  obtain ⟨hB, -, k0⟩ := alloc1 hW
  replace hr := hr.below hB
  have hb0 := k0.lt
  have hc0 := k0.cell 0
  have hc1 := k0.cell 1
  simp at hc0 hc1
  clear hW k0
  have HhB := Lib.hid hB
  clear hB
  obtain ⟨m, hm0⟩ : ∃ m : Later W1, m.w = W1 := ⟨Later.refl _, rfl⟩
  refine (fun h => hm0 ▸ h) ?_
  clear hm0
  go_wp2_with fail
  refine (specFip_any n rs ro rc m.w (hr.later m) hrl).mono ?_
  rintro e w3 ⟨ao, cap, rfl, hB3, hI⟩
  obtain ⟨m, rfl⟩ : ∃ m3 : Later W1, m3.w = w3 := ⟨m.on hB3, rfl⟩
  clear hB3
  have HhI := Lib.hid hI
  clear hI
  go_wp2_with fail
  go_ret2
  exact ⟨ao, cap, rfl, below_later HhB.out m, HhI.out⟩

set_option maxRecDepth 100000 in
theorem implP4_any (n : Int) (rs : List Int) (ro : Option Addr) (rc : Nat) (w : World) (hr : IntsAt w ro rs) (hrl : rs.length ≤ 1048576) :
    Calls Tryz.prog 41 #[.agg #[.int .i64 n, .slice ro rs.length rc]] w (RetI w (fipV n rs)) := by
  go_enter Tryz.func41, Tryz.ntmps41
  go_wp2_with fail
  generalize hW : w.alloc _ = W1
  obtain ⟨hB, -, k0⟩ := alloc1 hW
  replace hr := hr.below hB
  have hb0 := k0.lt
  have hc0 := k0.cell 0
  have hc1 := k0.cell 1
  simp at hc0 hc1
  clear hW k0
  have HhB := Lib.hid hB
  clear hB
  obtain ⟨m, hm0⟩ : ∃ m : Later W1, m.w = W1 := ⟨Later.refl _, rfl⟩
  refine (fun h => hm0 ▸ h) ?_
  clear hm0
  go_wp2_with fail
  refine (implFip_any n rs ro rc m.w (hr.later m) hrl).mono ?_
  rintro e w3 ⟨ao, cap, rfl, hB3, hI⟩
  obtain ⟨m, rfl⟩ : ∃ m3 : Later W1, m3.w = w3 := ⟨m.on hB3, rfl⟩
  clear hB3
  have HhI := Lib.hid hI
  clear hI
  go_wp2_with fail
  go_ret2
  exact ⟨ao, cap, rfl, below_later HhB.out m, HhI.out⟩

set_option maxRecDepth 100000 in
theorem specCog_any (n : Int) (rs : List Int) (ro : Option Addr) (rc : Nat) (w : World) (hr : IntsAt w ro rs) (hrl : rs.length ≤ 1048576) :
    Calls Tryz.prog 78 #[.agg #[.int .i64 n, .slice ro rs.length rc]] w fun e w' => e = .returned (.bool (cogB n rs)) ∧ Below w.heap.size w w' := by
  have HE : Hid (cogB n rs = (isGraphB n rs && !(fipV n rs).isSome)) := Lib.hid rfl
  go_enter Tryz.func78, Tryz.ntmps78
  go_wp2_with fail
  generalize hW : w.alloc _ = W1
  obtain ⟨hB, -, k0⟩ := alloc1 hW
  replace hr := hr.below hB
  have hb0 := k0.lt
  have hc0 := k0.cell 0
  have hc1 := k0.cell 1
  simp at hc0 hc1
  clear hW k0
  have HhB := Lib.hid hB
  clear hB
  obtain ⟨m, hm0⟩ : ∃ m : Later W1, m.w = W1 := ⟨Later.refl _, rfl⟩
  refine (fun h => hm0 ▸ h) ?_
  clear hm0
  go_wp2_with fail
  refine (specP4_any n rs ro rc m.w (hr.later m) hrl).mono ?_
  rintro e w3 ⟨ao, cap, rfl, hB3, hI⟩
  obtain ⟨m, rfl⟩ : ∃ m3 : Later W1, m3.w = w3 := ⟨m.on hB3, rfl⟩
  clear hB3 hI
  generalize fipV n rs = O at *
  have hG := specIsGraph_any n rs ro rc m.w (hr.later m) hrl
  generalize isGraphB n rs = gB at *
  generalize O.isSome = b at *
  cases gB
  · go_wp2_with fail
    refine (Calls.later m (hG)).mono ?_
    rintro e w' ⟨rfl, m, rfl⟩
    go_wp2_with fail
    go_ret
    exact ⟨retB (by rw [HE.out]; rfl), below_later HhB.out m⟩
  · go_wp2_with fail
    refine (Calls.later m (hG)).mono ?_
    rintro e w' ⟨rfl, m, rfl⟩
    go_wp2_with fail
    go_ret
    exact ⟨retB (by rw [HE.out]; rfl), below_later HhB.out m⟩

set_option maxRecDepth 100000 in
theorem implCog_any (n : Int) (rs : List Int) (ro : Option Addr) (rc : Nat) (w : World) (hr : IntsAt w ro rs) (hrl : rs.length ≤ 1048576) :
    Calls Tryz.prog 25 #[.agg #[.int .i64 n, .slice ro rs.length rc]] w fun e w' => e = .returned (.bool (cogB n rs)) ∧ Below w.heap.size w w' := by
  have HE : Hid (cogB n rs = (isGraphB n rs && !(fipV n rs).isSome)) := Lib.hid rfl
  go_enter Tryz.func25, Tryz.ntmps25
  go_wp2_with fail
  generalize hW : w.alloc _ = W1
  obtain ⟨hB, -, k0⟩ := alloc1 hW
  replace hr := hr.below hB
  have hb0 := k0.lt
  have hc0 := k0.cell 0
  have hc1 := k0.cell 1
  simp at hc0 hc1
  clear hW k0
  have HhB := Lib.hid hB
  clear hB
  obtain ⟨m, hm0⟩ : ∃ m : Later W1, m.w = W1 := ⟨Later.refl _, rfl⟩
  refine (fun h => hm0 ▸ h) ?_
  clear hm0
  go_wp2_with fail
  refine (implP4_any n rs ro rc m.w (hr.later m) hrl).mono ?_
  rintro e w3 ⟨ao, cap, rfl, hB3, hI⟩
  obtain ⟨m, rfl⟩ : ∃ m3 : Later W1, m3.w = w3 := ⟨m.on hB3, rfl⟩
  clear hB3 hI
  generalize fipV n rs = O at *
  have hG := implIsGraph_any n rs ro rc m.w (hr.later m) hrl
  generalize isGraphB n rs = gB at *
  generalize O.isSome = b at *
  cases gB
  · go_wp2_with fail
    refine (Calls.later m (hG)).mono ?_
    rintro e w' ⟨rfl, m, rfl⟩
    go_wp2_with fail
    go_ret
    exact ⟨retB (by rw [HE.out]; rfl), below_later HhB.out m⟩
  · go_wp2_with fail
    refine (Calls.later m (hG)).mono ?_
    rintro e w' ⟨rfl, m, rfl⟩
    go_wp2_with fail
    go_ret
    exact ⟨retB (by rw [HE.out]; rfl), below_later HhB.out m⟩

end Go.Proofs.YtjikmjhpmkakoaaGreatDoor

namespace Go.Proofs.YtjikmjhpmkakoaaGreatDoor
open Go.RowKit

theorem OwnE.setB {w : World} {base cap : Nat} {ao : Option Addr} {xs : List Int} (h : OwnE w base ao cap xs) {a : Addr} (ha : a.block < base) (u : Value) : OwnE (w.setCell a u) base ao cap xs :=
  h.imp (fun h => ownsRow_setCell_below h ha u) id
def complTo (rs : List Int) (k : Nat) : List Int := (List.range k).map fun v : Nat => (complRow rs v : Int)
theorem complTo_len (rs : List Int) (k : Nat) : (complTo rs k).length = k := by simp [complTo]
theorem complTo_succ (rs : List Int) (k : Nat) : complTo rs (k + 1) = complTo rs k ++ [(complRow rs k : Int)] := by unfold complTo; rw [List.range_succ, List.map_append]; rfl
theorem complTo_all (rs : List Int) : complTo rs rs.length = compl rs := rfl
/-- How the reference reckons the row. -/
theorem complRow_sub {rs : List Int} (g : VG rs) {k : Nat} (hk : k < rs.length) : (complRow rs k : Int) = ((2 ^ rs.length : Nat) : Int) - 1 - (gn rs k : Int) - ((2 ^ k : Nat) : Int) := by
  have hN := g.le
  have hl := g.lt k hk
  have hno : (gn rs k).testBit k = false := g.irr k hk
  have hk2 : 2 ^ k < 2 ^ rs.length := Nat.pow_lt_pow_right (by decide) hk
  have key : ∀ N : Fin 8, ∀ r : Fin 128, ∀ k : Fin 7, k.val < N.val → r.val < 2 ^ N.val → r.val.testBit k.val = false → nDiff (nDiff (2 ^ N.val - 1) r.val) (2 ^ k.val) + r.val + 2 ^ k.val = 2 ^ N.val - 1 := by decide +kernel
  have e := key ⟨rs.length, by omega⟩ ⟨gn rs k, by have := g.pow.1; omega⟩ ⟨k, by omega⟩ hk hl hno
  simp only at e
  unfold complRow
  omega

set_option maxRecDepth 100000 in
set_option maxHeartbeats 2000000 in
theorem specComplE_any (rs : List Int) (ro : Option Addr) (rc : Nat) (w : World) (hr : IntsAt w ro rs) (hv : isGraphB rs.length rs = true) :
    Calls Tryz.prog 79 #[.agg #[.int .i64 rs.length, .slice ro rs.length rc]] w fun e w' => ∃ ao cap, e = .returned (.tuple #[.agg #[.int .i64 rs.length, .slice ao rs.length cap], .bool true]) ∧ Below w.heap.size w w' ∧ OwnE w' w.heap.size ao cap (compl rs) := by
  have g := (VG.of hv).2
  have hg1 := g.pos
  have hg2 := g.le
  have hrl : rs.length ≤ 1048576 := by omega
  obtain ⟨rb, rofs, rfl, hrb, hrc⟩ := hr.graph g
  go_enter Tryz.func79, Tryz.ntmps79
  go_wp2_with fail
  generalize hW : World.alloc _ _ = W1
  obtain ⟨hB, hs1, k0, k1⟩ := alloc2 hW
  replace hr := hr.below hB
  clear hW
  obtain ⟨m, hm0⟩ : ∃ m : Later W1, m.w = W1 := ⟨Later.refl _, rfl⟩
  refine (fun h => hm0 ▸ h) ?_
  clear hm0
  have hb0 := k0.lt
  have hc0 := k0.cell 0
  have hc1 := k0.cell 1
  simp at hc0 hc1
  have HhB := Lib.hid hB
  clear hB
  refine (Calls.later m (specIsGraph_any _ _ _ _ _ (hr.later m) hrl)).mono ?_
  rintro e w' ⟨rfl, m, rfl⟩
  rw [hv]
  have hbm := Nat.lt_of_lt_of_le hb0 m.size
  go_wp2_with fail
  generalize hW2 : World.alloc _ _ = W2
  obtain ⟨hB2, -, k2⟩ := alloc1 hW2
  have hB4 := below_more m.below hB2
  have hoW : W1.heap.size ≤ m.w.heap.size := m.size
  clear hW2 hB2
  have ho := k2.lt
  have hc0' := (hB4.cell (p := ⟨w.heap.size, 0, none⟩) hb0).trans hc0
  have hc1' := (hB4.cell (p := ⟨w.heap.size, 1, none⟩) hb0).trans hc1
  have kr := k1.below hB4 k1.lt
  have hrb1 : rb < W1.heap.size := by omega
  have hrc' : ∀ k, k < rs.length → W2.cell? ⟨rb, rofs + k, none⟩ = some (.int .i64 (gn rs k : Int)) := fun k hk => (hB4.cell (p := ⟨rb, rofs + k, none⟩) hrb1).trans ((HhB.out.cell (p := ⟨rb, rofs + k, none⟩) hrb).trans (hrc k hk))
  have hb02 : w.heap.size < W2.heap.size := Nat.lt_of_lt_of_le hb0 hB4.size
  have hrb2 : rb < W2.heap.size := Nat.lt_of_lt_of_le hrb1 hB4.size
  have hBw := below_more' HhB.out hB4
  clear hc0 hc1 hb0 hr k0 k1 hB4 hrc HhB hbm
  generalize m.w.heap.size = o at *
  clear m
  have HhBw := Lib.hid hBw
  clear hBw
  have Hhrc' := Lib.hid hrc'
  clear hrc'
  have Hkr := Lib.hid kr
  clear kr
  have hx0 : ¬(fun b => b = o) w.heap.size := fun e => by have e2 : w.heap.size = o := e; omega
  have hx2 : ¬(fun b => b = o) rb := fun e => by have e2 : rb = o := e; omega
  have hS' : ∀ k, k < rs.length → ∀ w', Only (fun b => b = o) W2.heap.size W2 w' → Only (fun b => b = o) W2.heap.size W2 w' ∧ w'.cell? ⟨w.heap.size, 0, none⟩ = some (.int .i64 rs.length) ∧ w'.cell? ⟨w.heap.size, 1, none⟩ = some (.slice (some ⟨rb, rofs, none⟩) rs.length rc) ∧ w'.cell? ⟨rb, rofs + k, none⟩ = some (.int .i64 (gn rs k : Int)) := fun k hk w' h =>
    ⟨h, (h.cell hb02 hx0).trans hc0', (h.cell hb02 hx0).trans hc1', (h.cell (p := ⟨rb, rofs + k, none⟩) hrb2 hx2).trans (Hhrc'.out k hk)⟩
  go_wp2_with fail
  go_loopw [5] (fun i wr => ∃ m : LateX (fun b => b = o) W2, wr = m.w ∧ ∃ (k : Nat) (ao : Option Addr) (cap : Nat), k ≤ rs.length ∧ i = .int .i64 k ∧ Blk m.w o #[.int .i64 rs.length, .slice ao (complTo rs k).length cap] 26 ∧ OwnE m.w W2.heap.size ao cap (complTo rs k)) (fun i _ => rs.length - (intOf i).toNat)
  case atStart => exact ⟨LateX.refl _ _, rfl, 0, none, 0, by omega, rfl, k2, .inl (OwnL.nil _ _)⟩
  case round =>
    obtain ⟨m, rfl, k, ao, cap, hk, rfl, hbk, hO⟩ := hrel
    have hkl : (complTo rs k).length ≤ 7 := by rw [complTo_len]; omega
    have hms := m.size
    have z1 := hbk.cell 1
    have z0 := hbk.cell 0
    have z2 := hbk.frozen 1
    simp at z0 z1
    have zl := hbk.lt
    have Hhbk := Lib.hid hbk
    clear hbk
    have HhO := Lib.hid hO
    clear hO
    by_cases hlt : k < rs.length
    · have hSk := hS' k hlt
      have HU := Lib.hid (complTo_succ rs k)
      have hsub := complRow_sub g hlt
      have hl := g.lt k hlt
      have hp2 := g.pow.1
      have hp3 := g.pow.2
      have q1 := pwN_small rs.length (by omega)
      have q2 := pwN_small k (by omega)
      have q3 : ((2 : Int) ^ rs.length) = ((2 ^ rs.length : Nat) : Int) := by simp
      have q4 : ((2 : Int) ^ k) = ((2 ^ k : Nat) : Int) := by simp
      have hk2 : 2 ^ k ≤ 64 := by have : 2 ^ k ≤ 2 ^ 6 := Nat.pow_le_pow_right (by decide) (by omega); omega
      generalize complRow rs k = D at *
      generalize 2 ^ rs.length = T at *
      generalize 2 ^ k = V at *
      have hy : IntKind.i64.wrap (IntKind.i64.wrap (IntKind.i64.wrap (IntKind.i64.wrap (T : Int) - 1) - (gn rs k : Int)) - IntKind.i64.wrap (V : Int)) = (D : Int) := by
        rw [IntKind_i64_in (T : Int) (by omega) (by omega), IntKind_i64_in ((T : Int) - 1) (by omega) (by omega), IntKind_i64_in ((T : Int) - 1 - (gn rs k : Int)) (by omega) (by omega), IntKind_i64_in (V : Int) (by omega) (by omega), IntKind_i64_in _ (by omega) (by omega)]
        exact hsub.symm
      have Hhsub := Lib.hid hsub
      clear hsub
      have Hhy := Lib.hid hy
      clear hy
      go_wp2_with fail
      have hwm : w.heap.size < m.w.heap.size := Nat.lt_of_lt_of_le hb02 hms
      have hrm : rb < m.w.heap.size := Nat.lt_of_lt_of_le hrb2 hms
      obtain ⟨-, x0, x1, x2⟩ := hSk m.w m.only
      go_region_law (refine step_append_e (by rfl) _ _ (by rfl) W2.heap.size cap ao (complTo rs k) _ m.w.heap.size (by rfl) (HhO.out.below ((Below.refl _ _).drew.alloc (Nat.le_refl _) _)) (by rfl) (cell_new (by simp)) (by simp; omega) (by omega) ?_; intro ao2 cap2 w2 hown2 hBw2; have hO2 : Only (fun b => b = o) W2.heap.size W2 w2 := (m.only.more (((Below.refl m.w.heap.size m.w).drew).alloc (Nat.le_refl _) _) m.size).more hBw2 (Nat.le_refl _); have kb2 := (Hhbk.out.below (((Below.refl m.w.heap.size m.w).drew).alloc (Nat.le_refl _) _) zl).below hBw2 ho; have y0 := kb2.cell 0; have y1 := kb2.cell 1; have y2 := kb2.frozen 1)
      all_goals
        rw [Hhy.out] at hown2
        have hOF := hO2.setCell (p := ⟨o, 1, none⟩) (.inl rfl) (.slice ao2 ((complTo rs k).length + 1) cap2)
        have hEF := hown2.setB (a := ⟨o, 1, none⟩) ho (.slice ao2 ((complTo rs k).length + 1) cap2)
        have hBF : Blk (w2.setCell ⟨o, 1, none⟩ (.slice ao2 ((complTo rs k).length + 1) cap2)) o #[.int .i64 rs.length, .slice ao2 (complTo rs k ++ [(D : Int)]).length cap2] 26 := by
          have := kb2.store 1 (.slice ao2 ((complTo rs k).length + 1) cap2)
          simpa using this
        clear hO2 hown2 kb2 hBw2 hS' hSk
        have HhOF := Lib.hid hOF
        clear hOF
        have HhEF := Lib.hid hEF
        clear hEF
        have HhBF := Lib.hid hBF
        clear hBF
        go_wp2_with fail
        go_roundw
        case rel => exact ⟨⟨_, HhOF.out⟩, rfl, k + 1, ao2, cap2, by omega, by go_num, by rw [HU.out]; exact HhBF.out, by rw [HU.out]; exact HhEF.out⟩
        case measure => simp [intOf]; omega
    · obtain rfl : k = rs.length := by omega
      rw [complTo_len] at z1
      have hI := HhO.out.ints
      rw [complTo_all] at hI
      have km := m.blk Hkr.out (fun h => by have h2 : w.heap.size + 1 = o := h; omega)
      have y0 := km.cell 0
      have y1 := km.cell 1
      have y2 := km.frozen 0
      have y3 := km.frozen 1
      have kml := km.lt
      simp at y0 y1
      have hF : Below w.heap.size w ((m.w.setCell ⟨w.heap.size + 1, 0, none⟩ (.int .i64 rs.length)).setCell ⟨w.heap.size + 1, 1, none⟩ (.slice ao rs.length cap)) :=
        ((HhBw.out.trans (m.only.below (Nat.le_of_lt hb02) fun b hb h => by have h2 : b = o := h; omega)).setCell (by simp) _).setCell (by simp) _
      have hIF : OwnE ((m.w.setCell ⟨w.heap.size + 1, 0, none⟩ (.int .i64 rs.length)).setCell ⟨w.heap.size + 1, 1, none⟩ (.slice ao rs.length cap)) w.heap.size ao cap (compl rs) := by
        have hE := ((HhO.out.setB (a := ⟨w.heap.size + 1, 0, none⟩) (by show w.heap.size + 1 < W2.heap.size; omega) (.int .i64 rs.length)).setB (a := ⟨w.heap.size + 1, 1, none⟩) (by show w.heap.size + 1 < W2.heap.size; omega) (.slice ao rs.length cap))
        rw [complTo_all] at hE
        exact hE.imp (fun h => h.mono (Nat.le_of_lt hb02)) id
      clear km hS' hI
      have HhF := Lib.hid hF
      clear hF
      have HhIF := Lib.hid hIF
      clear hIF
      go_wp2_with fail
      refine bodyPost_ret (v := .tuple #[.agg #[.int .i64 rs.length, .slice ao rs.length cap], .bool true]) (by simp [results, Tryz.results79, go_sem, y0, y1]) rfl ?_
      exact ⟨ao, cap, rfl, HhF.out, HhIF.out⟩
theorem specCompl_any (rs : List Int) (ro : Option Addr) (rc : Nat) (w : World) (hr : IntsAt w ro rs) (hv : isGraphB rs.length rs = true) :
    Calls Tryz.prog 79 #[.agg #[.int .i64 rs.length, .slice ro rs.length rc]] w fun e w' => ∃ ao cap, e = .returned (.tuple #[.agg #[.int .i64 rs.length, .slice ao rs.length cap], .bool true]) ∧ Below w.heap.size w w' ∧ IntsAt w' ao (compl rs) :=
  (specComplE_any rs ro rc w hr hv).mono fun _ _ ⟨ao, cap, h1, h2, h3⟩ => ⟨ao, cap, h1, h2, h3.ints⟩

end Go.Proofs.YtjikmjhpmkakoaaGreatDoor
