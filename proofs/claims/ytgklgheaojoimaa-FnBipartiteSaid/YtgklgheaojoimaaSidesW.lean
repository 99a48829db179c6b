/-
  The walks of SidesOf and IsBipartite on both sides. For at most 2^20 rows.
-/
import Derived.Test.YtgklgheaojoimaaSides
import Derived.Deep.RegionWith
namespace Go.Proofs.Ytgklgheaojoimaa
open Go.RowKit

set_option maxRecDepth 100000 in
set_option maxHeartbeats 2000000 in
theorem specSides_any (n : Int) (rs : List Int) (ro : Option Addr) (rc : Nat) (w : World) (hr : IntsAt w ro rs) (hrl : rs.length ≤ 1048576) :
    Calls Try.prog 9 #[.agg #[.int .i64 n, .slice ro rs.length rc]] w fun e w' => e = .returned (.tuple #[.int .i64 (sidesV n rs), .bool (sidesB n rs)]) ∧ Below w.heap.size w w' := by
  go_enter Try.func9, Try.ntmps9
  go_wp2_with fail
  generalize hW : w.alloc _ = W1
  obtain ⟨hB, -, k0⟩ := alloc1 hW
  replace hr := hr.below hB
  have hb0 := k0.lt
  have hc0 := k0.cell 0
  have hc1 := k0.cell 1
  simp at hc0 hc1
  clear hW k0
  have HhB := Lib.hid hB
  clear hB
  cases hv : isGraphB n rs
  · have HE := Lib.hid (sidesB_no hv)
    have HF := Lib.hid (sidesV_no HE.out)
    go_loopw [4, 5] (fun b i wr => (∃ m : Later W1, wr = m.w) ∧ b = .int .i64 0 ∧ i = .int .i64 0) (fun _ _ _ => 0)
    case atStart => exact ⟨⟨Later.refl _, rfl⟩, rfl, rfl⟩
    case round =>
      obtain ⟨⟨m, rfl⟩, rfl, rfl⟩ := hrel
      by_cases hn0 : 0 < n
      all_goals
        go_wp2_with (first | (go_at_call 14; refine (Calls.later m (specIsGraph_any _ _ _ _ _ (hr.later m) hrl)).mono ?_; rintro e w' ⟨rfl, m, rfl⟩))
        refine wp_region_later m rfl (by kernel_rfl) (by kernel_rfl) ?_
        repeat (go_big_quiet_step ((first | (go_at_call 14; exact Calls.later _ (by have := specIsGraph_any n rs ro rc _ (hr.later (by assumption)) hrl; rwa [hv] at this)))))
        refine wpQuiet_nil ?_
        rintro _ ⟨m, rfl⟩
        go_wp2_with fail
        go_ret2
        exact ⟨by rw [HE.out, HF.out]; rfl, below_later HhB.out m⟩
  · obtain ⟨rfl, g⟩ := VG.of hv
    have hg1 := g.pos
    have hg2 := g.le
    obtain ⟨hp1, hp2⟩ := g.pow
    have hq := pwN_small rs.length (by omega)
    have q1 : IntKind.i64.wrap (((2 ^ rs.length : Nat) : Int) - 1) = ((2 ^ rs.length - 1 : Nat) : Int) := by rw [IntKind_i64_in _ (by omega) (by omega)]; omega
    go_loopw [4, 5] (fun b i wr => (∃ m : Later W1, wr = m.w) ∧ ∃ k : Nat, k ≤ rs.length ∧ b = .int .i64 (accB (evB rs) k) ∧ i = .int .i64 k) (fun _ i _ => rs.length - (intOf i).toNat)
    case atStart => exact ⟨⟨Later.refl _, rfl⟩, 0, by omega, rfl, rfl⟩
    case round =>
      obtain ⟨⟨m, rfl⟩, k, hk, rfl, rfl⟩ := hrel
      by_cases hlt : k < rs.length
      · have q2 := pwN_small k (by omega)
        obtain ⟨f1, f2, f3, f4⟩ := head_facts g hlt
        have hlf := low_facts (by omega) f2
        have hG := fun m : Later W1 => l3Grow_any rs (2 ^ k) (2 ^ rs.length - 1) ro rc m.w (hr.later m) hv (all_lt _) (pow_sub (all_bit.2 hlt))
        have HY := Lib.hid (fun h => accB_add (p := evB rs) (k := k) h)
        have HN := Lib.hid (fun h => accB_no (p := evB rs) (k := k) h)
        have hal := accB_lt (evB rs) k
        have hev : evB rs k = (Int.tmod (distV rs (low (grow rs (2 ^ k) (2 ^ rs.length - 1))) k) 2 == 0) := rfl
        have hf4 : low (grow rs (2 ^ k) (2 ^ rs.length - 1)) < rs.length := f4
        have q4 : wrap64 ((accB (evB rs) k : Int) + ((2 ^ k : Nat) : Int)) = ((accB (evB rs) k + 2 ^ k : Nat) : Int) := by
          have : 2 ^ k ≤ 2 ^ 6 := Nat.pow_le_pow_right (by decide) (by omega)
          simp only [wrap64]; omega
        have hlow : Hid (eln (els (grow rs (2 ^ k) (2 ^ rs.length - 1))) 0 = low (grow rs (2 ^ k) (2 ^ rs.length - 1))) := rfl
        generalize evB rs k = c at *
        generalize accB (evB rs) k = ac at *
        generalize grow rs (2 ^ k) (2 ^ rs.length - 1) = G at *
        have hD : ∀ w, IntsAt w ro rs → Calls Try.prog 77 #[.agg #[.int .i64 rs.length, .slice ro rs.length rc], .int .i64 (low G), .int .i64 k] w fun e w' => e = .returned (.int .i64 (distV rs (low G) k)) ∧ Below w.heap.size w w' := fun w h => by
          have := specDist_any rs.length rs (low G) k ro rc w h hrl
          rwa [distB_of hv hf4 hlt] at this
        have hd1 := distV_ge rs (low G) k
        have hd2 := distV_lt (rs := rs) (low G) k hg1
        have hLi := fun w : World => specListN_any G (by omega) w
        have hc7 : 0 < cnt G := hlf.2.2
        obtain ⟨l1, l2, l3⟩ := hlf
        generalize distV rs (low G) k = D at *
        generalize low G = L at *
        generalize 2 ^ rs.length - 1 = T1 at *
        generalize 2 ^ rs.length = T0 at *
        generalize 2 ^ k = T3 at *
        have HhG := Lib.hid hG
        clear hG
        go_wp2_with (first | (go_at_call 14; refine (Calls.later m (specIsGraph_any _ _ _ _ _ (hr.later m) hrl)).mono ?_; rintro e w' ⟨rfl, m, rfl⟩))
        refine wp_region_later m rfl (by kernel_rfl) (by kernel_rfl) ?_
        repeat (go_big_quiet_step ((first | (go_at_call 76; exact Calls.later _ (HhG.out _)))))
        refine wpQuiet_nil ?_
        rintro _ ⟨m, rfl⟩
        go_wp2_with fail
        have xb := Nat.lt_of_lt_of_le hb0 m.size
        have x0 := (m.cell _ 0 hb0).trans hc0
        have x1 := (m.cell _ 1 hb0).trans hc1
        go_region_with (first
          | (go_at_call 78; refine (hLi _).mono ?_; rintro e w3 ⟨lo, lc, rfl, hB3, hL⟩; obtain ⟨lb, lofs, rfl, hlb, hlc⟩ := hL l3; have h00 := hlc 0 l3; rw [hlow.out] at h00; clear hL hlc; simp only [Nat.add_zero] at h00; have hB5 : Below W1.heap.size W1 w3 := below_more m.below.drew hB3; have y0 := (hB5.cell (p := ⟨w.heap.size, 0, none⟩) hb0).trans hc0; have y1 := (hB5.cell (p := ⟨w.heap.size, 1, none⟩) hb0).trans hc1; have yb := Nat.lt_of_lt_of_le hb0 hB5.size; dsimp only)
          | (go_at_call 77; refine (hD _ (hr.below hB5)).mono ?_; rintro e w4 ⟨rfl, hB4⟩; have hB6 := below_more hB5 hB4; dsimp only))
        all_goals
          obtain ⟨m, rfl⟩ : ∃ m2 : Later W1, m2.w = w4 := ⟨⟨w4, hB6⟩, rfl⟩
          clear hB6 hB5 hB4 hB3 y0 y1 yb h00 hlb x0 x1 xb
          rw [← hev]
          cases hc : c
          · go_wp2_with fail
            go_roundw
            case rel => exact ⟨⟨m, rfl⟩, k + 1, by omega, by rw [HN.out hc], by go_num⟩
            case measure => simp [intOf]; omega
          · go_wp2_with fail
            go_roundw
            case rel => exact ⟨⟨m, rfl⟩, k + 1, by omega, by rw [HY.out hc, ← q4], by go_num⟩
            case measure => simp [intOf]; omega
      · obtain rfl : k = rs.length := by omega
        have hG := fun m : Later W1 => specIsGraph_any rs.length rs ro rc m.w (hr.later m) hrl
        have hsub := sub_all (sideN_lt rs)
        have hdl := nDiff_minus (by omega) hsub
        have hdl2 := hsub.le
        have hdn : nDiff (2 ^ rs.length - 1) (sideN rs) < 2 ^ rs.length := Nat.lt_of_le_of_lt (nDiff_sub _ _).le (all_lt _)
        have e1 := indepB_nat (isSetB_mk hv (sideN_lt rs))
        have e2 := indepB_nat (isSetB_mk hv hdn)
        rw [show ((nDiff (2 ^ rs.length - 1) (sideN rs) : Nat) : Int) = ((2 ^ rs.length - 1 : Nat) : Int) - (sideN rs : Int) by omega] at e2
        rw [hv] at hG
        have HI : Hid (∀ (s : Int) (b : Bool) (m : Later W1), indepB rs.length rs s = b → Calls Try.prog 79 #[.agg #[.int .i64 rs.length, .slice ro rs.length rc], .int .i64 s] m.w fun e w' => e = .returned (.bool b) ∧ Below m.w.heap.size m.w w') := Lib.hid fun s b m h1 => by
          have := specIndep_any rs.length rs s ro rc m.w (hr.later m) hrl
          rwa [h1] at this
        have HE := Lib.hid (fun b1 b2 => sidesB_of (b1 := b1) (b2 := b2) hv)
        have HF := Lib.hid (fun h => sidesV_yes (n := rs.length) (rs := rs) h)
        have HN := Lib.hid (fun h => sidesV_no (n := rs.length) (rs := rs) h)
        have hsd : accB (evB rs) rs.length = sideN rs := rfl
        have t127 : 2 ^ rs.length - 1 ≤ 127 := by omega
        rw [hsd]
        generalize nDiff (2 ^ rs.length - 1) (sideN rs) = D at *
        generalize sideN rs = A at *
        generalize 2 ^ rs.length - 1 = T1 at *
        generalize 2 ^ rs.length = T0 at *
        clear hdl hdn hsub
        cases h1 : indepN rs A
        · have HJ := Lib.hid (HE.out false _ h1 rfl)
          have HK := Lib.hid (HN.out (by rw [HJ.out]; rfl))
          rw [h1] at e1
          clear h1 e2
          go_wp2_with fail
          refine wp_region_later m rfl (by kernel_rfl) (by kernel_rfl) ?_
          repeat (go_big_quiet_step ((first | (go_at_call 14; exact Calls.later _ (hG _)) | (go_at_call 79; exact Calls.later _ (HI.out _ _ _ e1)))))
          refine wpQuiet_nil ?_
          rintro _ ⟨m, rfl⟩
          go_wp2_with fail
          go_ret2
          exact ⟨by rw [HJ.out, HK.out]; rfl, below_later HhB.out m⟩
        · cases h2 : indepN rs D
          · have HJ := Lib.hid (HE.out true false h1 h2)
            have HK := Lib.hid (HN.out (by rw [HJ.out]; rfl))
            rw [h1] at e1
            rw [h2] at e2
            have C1 := fun m => HI.out _ _ m e1
            have C2 := fun m => HI.out _ _ m e2
            clear h1 h2
            go_wp2_with fail
            refine wp_region_later m rfl (by kernel_rfl) (by kernel_rfl) ?_
            repeat (go_big_quiet_step ((first | (go_at_call 14; exact Calls.later _ (hG _)) | (go_at_call 79; with_reducible exact Calls.later _ (C1 _)) | (go_at_call 79; with_reducible exact Calls.later _ (C2 _)))))
            refine wpQuiet_nil ?_
            rintro _ ⟨m, rfl⟩
            go_wp2_with fail
            go_ret2
            exact ⟨by rw [HJ.out, HK.out]; rfl, below_later HhB.out m⟩
          · have HJ := Lib.hid (HE.out true true h1 h2)
            have HK := Lib.hid (HF.out (by rw [HJ.out]; rfl))
            rw [h1] at e1
            rw [h2] at e2
            have C1 := fun m => HI.out _ _ m e1
            have C2 := fun m => HI.out _ _ m e2
            clear h1 h2
            go_wp2_with fail
            refine wp_region_later m rfl (by kernel_rfl) (by kernel_rfl) ?_
            repeat (go_big_quiet_step ((first | (go_at_call 14; exact Calls.later _ (hG _)) | (go_at_call 79; with_reducible exact Calls.later _ (C1 _)) | (go_at_call 79; with_reducible exact Calls.later _ (C2 _)))))
            refine wpQuiet_nil ?_
            rintro _ ⟨m, rfl⟩
            go_wp2_with fail
            go_ret2
            exact ⟨by rw [HJ.out, HK.out]; rfl, below_later HhB.out m⟩

/-- What the program has gathered behind some parts and some vertices of the next. -/
def SidesAt (rs : List Int) (ps : List Nat) (k : Nat) (vs : List Nat) (A : Nat) : Prop := A < 2 ^ rs.length ∧ ∀ v, A.testBit v = true ↔ (evB rs v = true ∧ ((∃ j, j < k ∧ (eln ps j).testBit v = true) ∨ v ∈ vs))
theorem SidesAt.start (rs : List Int) (ps : List Nat) : SidesAt rs ps 0 [] 0 := ⟨Nat.two_pow_pos _, fun v => by simp⟩
theorem SidesAt.yes {rs : List Int} {ps vs : List Nat} {k A u : Nat} (h : SidesAt rs ps k vs A) (hu : u < rs.length) (he : evB rs u = true) : SidesAt rs ps k (vs ++ [u]) (A ||| 2 ^ u) :=
  ⟨Nat.or_lt_two_pow h.1 (Nat.pow_lt_pow_right (by decide) hu), fun v => by
    rw [Nat.testBit_or, Bool.or_eq_true, h.2 v, pow_bit]
    simp only [List.mem_append, List.mem_singleton]
    constructor
    · rintro (⟨h1, h2 | h2⟩ | rfl)
      · exact ⟨h1, .inl h2⟩
      · exact ⟨h1, .inr (.inl h2)⟩
      · exact ⟨he, .inr (.inr rfl)⟩
    · rintro ⟨h1, h2 | h2 | h2⟩
      · exact .inl ⟨h1, .inl h2⟩
      · exact .inl ⟨h1, .inr h2⟩
      · exact .inr h2.symm⟩
theorem SidesAt.no {rs : List Int} {ps vs : List Nat} {k A u : Nat} (h : SidesAt rs ps k vs A) (he : evB rs u = false) : SidesAt rs ps k (vs ++ [u]) A :=
  ⟨h.1, fun v => by
    rw [h.2 v]
    simp only [List.mem_append, List.mem_singleton]
    constructor
    · rintro ⟨h1, h2 | h2⟩
      · exact ⟨h1, .inl h2⟩
      · exact ⟨h1, .inr (.inl h2)⟩
    · rintro ⟨h1, h2 | h2 | h2⟩
      · exact ⟨h1, .inl h2⟩
      · exact ⟨h1, .inr h2⟩
      · rw [h2, he] at h1; cases h1⟩
theorem SidesAt.part {rs : List Int} {ps : List Nat} {k A : Nat} (h : SidesAt rs ps k (els (eln ps k)) A) (h7 : eln ps k < 128) : SidesAt rs ps (k + 1) [] A :=
  ⟨h.1, fun v => by
    rw [h.2 v, mem_els h7 (Nat.le_refl 7)]
    constructor
    · rintro ⟨h1, ⟨j, h2, h3⟩ | h2⟩
      · exact ⟨h1, .inl ⟨j, by omega, h3⟩⟩
      · exact ⟨h1, .inl ⟨k, by omega, h2⟩⟩
    · rintro ⟨h1, ⟨j, h2, h3⟩ | h2⟩
      · by_cases e : j = k
        · subst e; exact ⟨h1, .inr h3⟩
        · exact ⟨h1, .inl ⟨j, by omega, h3⟩⟩
      · simp at h2⟩
theorem SidesAt.done {rs : List Int} {A : Nat} (g : VG rs) (h : SidesAt rs (partsOf rs (2 ^ rs.length - 1)) (partsOf rs (2 ^ rs.length - 1)).length [] A) : A = sideN rs := by
  apply Nat.eq_of_testBit_eq
  intro v
  unfold sideN
  rw [accB_bit, Bool.eq_iff_iff, h.2 v, Bool.and_eq_true, decide_eq_true_eq]
  constructor
  · rintro ⟨h1, ⟨j, h2, h3⟩ | h2⟩
    · exact ⟨(part_head g (eln_mem h2) h3).2, h1⟩
    · simp at h2
  · rintro ⟨h1, h2⟩
    obtain ⟨P, h3, h4⟩ := part_all g h1
    obtain ⟨j, h5, rfl⟩ := List.getElem_of_mem h3
    exact ⟨h2, .inl ⟨j, h5, by simpa [eln, h5] using h4⟩⟩

set_option maxRecDepth 100000 in
set_option maxHeartbeats 2000000 in
theorem implSides_any (n : Int) (rs : List Int) (ro : Option Addr) (rc : Nat) (w : World) (hr : IntsAt w ro rs) (hrl : rs.length ≤ 1048576) :
    Calls Try.prog 8 #[.agg #[.int .i64 n, .slice ro rs.length rc]] w fun e w' => e = .returned (.tuple #[.int .i64 (sidesV n rs), .bool (sidesB n rs)]) ∧ Below w.heap.size w w' := by
  go_enter Try.func8, Try.ntmps8
  go_wp2_with fail
  generalize hW : w.alloc _ = W1
  obtain ⟨hB, -, k0⟩ := alloc1 hW
  replace hr := hr.below hB
  have hb0 := k0.lt
  have hc0 := k0.cell 0
  have hc1 := k0.cell 1
  simp at hc0 hc1
  clear hW k0
  have HhB := Lib.hid hB
  clear hB
  obtain ⟨m, hm0⟩ : ∃ m : Later W1, m.w = W1 := ⟨Later.refl _, rfl⟩
  refine (fun h => hm0 ▸ h) ?_
  clear hm0
  cases hv : isGraphB n rs
  · have HE := Lib.hid (sidesB_no hv)
    have HF := Lib.hid (sidesV_no HE.out)
    go_wp2_with (first | (go_at_call 70; refine (Calls.later m (implIsGraph_any _ _ _ _ _ (hr.later m) hrl)).mono ?_; rintro e w' ⟨rfl, m, rfl⟩))
    go_ret2
    exact ⟨by rw [HE.out, HF.out]; rfl, below_later HhB.out m⟩
  obtain ⟨rfl, g⟩ := VG.of hv
  have hg1 := g.pos
  have hg2 := g.le
  obtain ⟨hp1, hp2⟩ := g.pow
  have HA : Hid (∀ w : World, IntsAt w ro rs → Calls Try.prog 71 #[.agg #[.int .i64 rs.length, .slice ro rs.length rc], .int .i64 (2 ^ rs.length - 1 : Nat)] w (RetE w (ints (partsOf rs (2 ^ rs.length - 1))))) := Lib.hid fun w h => implParts_any rs (2 ^ rs.length - 1) ro rc w h hv (all_lt _)
  have HL : Hid (∀ w : World, Calls Try.prog 72 #[.agg #[.int .i64 rs.length, .slice ro rs.length rc]] w fun e w' => e = .returned (.int .i64 (2 ^ rs.length - 1 : Nat)) ∧ Below w.heap.size w w') := Lib.hid fun w => implAll_any _ _ hg2 w
  have HQ : Hid (∀ P, P ∈ partsOf rs (2 ^ rs.length - 1) → (P < 2 ^ rs.length ∧ P ≠ 0) ∧ ∀ v, P.testBit v = true → headOf rs v = low P ∧ v < rs.length) := Lib.hid fun P hP => ⟨part_lt g hP, fun v hv => part_head g hP hv⟩
  have HD : Hid (∀ A, SidesAt rs (partsOf rs (2 ^ rs.length - 1)) (partsOf rs (2 ^ rs.length - 1)).length [] A → A = sideN rs) := Lib.hid fun A h => h.done g
  have hpl := partsOf_len rs (2 ^ rs.length - 1)
  have hil := ints_len (partsOf rs (2 ^ rs.length - 1))
  generalize partsOf rs (2 ^ rs.length - 1) = ps at *
  have t127 : 2 ^ rs.length - 1 ≤ 127 := by omega
  go_wp2_with (first | (go_at_call 70; refine (Calls.later m (implIsGraph_any _ _ _ _ _ (hr.later m) hrl)).mono ?_; rintro e w' ⟨rfl, m, rfl⟩))
  have hS' : ∀ w', Below W1.heap.size W1 w' → Below W1.heap.size W1 w' ∧ w'.cell? ⟨w.heap.size, 0, none⟩ = some (.int .i64 rs.length) ∧ w'.cell? ⟨w.heap.size, 1, none⟩ = some (.slice ro rs.length rc) := fun w' h => ⟨h, (h.cell hb0).trans hc0, (h.cell hb0).trans hc1⟩
  go_region_held3 (fun w' => Below W1.heap.size W1 w' ∧ w'.cell? ⟨w.heap.size, 0, none⟩ = some (.int .i64 rs.length) ∧ w'.cell? ⟨w.heap.size, 1, none⟩ = some (.slice ro rs.length rc))
    (exact hS' _ (by first | exact m.below.drew | assumption))
    (first
      | (go_at_call 72; go_must (refine (HL.out _).mono ?_); rintro e w3 ⟨rfl, hB3⟩; have hB5 := below_more (And.left (by assumption : Below W1.heap.size W1 _ ∧ _)) hB3)
      | (go_at_call 71; go_must (refine (HA.out _ (hr.below (And.left (by assumption : Below W1.heap.size W1 _ ∧ _)))).mono ?_); rintro e w3 ⟨ao, cap, rfl, hB3, hOp⟩; have hB5 := below_more (And.left (by assumption : Below W1.heap.size W1 _ ∧ _)) hB3))
  clear hS' hB3
  obtain ⟨m, rfl⟩ : ∃ m2 : Later W1, m2.w = w3 := ⟨⟨w3, hB5⟩, rfl⟩
  clear hB5
  have hPs : NatsAt m.w ao ps := (show IntsAt m.w ao (ps.map Int.ofNat) from hOp.ints).nats
  clear hOp
  replace hr := hr.later m
  replace hc0 : m.w.cell? _ = _ := (m.cell _ _ hb0).trans hc0
  replace hc1 : m.w.cell? _ = _ := (m.cell _ _ hb0).trans hc1
  replace hb0 := Nat.lt_of_lt_of_le hb0 m.size
  replace HhB := Lib.hid (below_later HhB.out m)
  generalize m.w = W2 at *
  clear m
  obtain ⟨m, hm0⟩ : ∃ m : Later W2, m.w = W2 := ⟨Later.refl _, rfl⟩
  refine (fun h => hm0 ▸ h) ?_
  clear hm0
  go_wp2_with fail
  go_loopw [4, 17] (fun o i wr => (∃ m : Later W2, wr = m.w) ∧ ∃ k A : Nat, k ≤ ps.length ∧ i = .int .i64 k ∧ o = .int .i64 A ∧ SidesAt rs ps k [] A) (fun _ i _ => ps.length - (intOf i).toNat)
  case atStart => exact ⟨⟨m, rfl⟩, 0, 0, by omega, rfl, rfl, SidesAt.start rs ps⟩
  case round =>
    obtain ⟨⟨m, rfl⟩, k, A, hk, rfl, rfl, hP⟩ := hrel
    by_cases hlt : k < ps.length
    · obtain ⟨pb, pofs, rfl, hpb, hpc⟩ := hPs (by omega)
      have hpk := hpc k hlt
      obtain ⟨⟨f1, f2⟩, f3⟩ := HQ.out _ (eln_mem hlt)
      have HPart := Lib.hid (fun A (h : SidesAt rs ps k (els (eln ps k)) A) => h.part (by omega))
      obtain ⟨l1, l2, l3⟩ := low_facts (show eln ps k < 128 by omega) f2
      have hlow : Hid (eln (els (eln ps k)) 0 = low (eln ps k)) := rfl
      have hlf := (f3 _ l1).2
      clear hpc
      have HhP := Lib.hid hP
      clear hP
      have Hf3 := Lib.hid f3
      clear f3
      generalize eln ps k = P at *
      have hA128 : ∀ A', SidesAt rs ps k (els P) A' → A' < 2 ^ rs.length := fun A' h => h.1
      go_wp2_with fail
      refine (implListN_any P (by omega) _).mono ?_
      rintro e w2 ⟨lo, lc, rfl, hB2, hL⟩
      obtain ⟨m, rfl⟩ : ∃ m2 : Later W2, m2.w = w2 := ⟨m.on hB2, rfl⟩
      clear hB2 hA128
      have HW : ∀ m2 : Later m.w, ∃ m' : Later W2, m'.w = m2.w := fun m2 => ⟨m.on m2.below, rfl⟩
      have hc7 := cnt_le P
      replace hr := hr.later m
      replace hc0 : m.w.cell? _ = _ := (m.cell _ _ hb0).trans hc0
      replace hc1 : m.w.cell? _ = _ := (m.cell _ _ hb0).trans hc1
      replace hb0 := Nat.lt_of_lt_of_le hb0 m.size
      replace HhB := Lib.hid (below_later HhB.out m)
      generalize m.w = W3 at *
      clear m
      obtain ⟨m, hm0⟩ : ∃ m : Later W3, m.w = W3 := ⟨Later.refl _, rfl⟩
      refine (fun h => hm0 ▸ h) ?_
      clear hm0
      go_wp2_with fail
      go_loopw [4, 24] (fun o i wr => (∃ m : Later W3, wr = m.w) ∧ ∃ t A : Nat, t ≤ cnt P ∧ i = .int .i64 t ∧ o = .int .i64 A ∧ SidesAt rs ps k ((els P).take t) A) (fun _ i _ => cnt P - (intOf i).toNat)
      case atStart => exact ⟨⟨m, rfl⟩, 0, A, by omega, rfl, rfl, by simpa using HhP.out⟩
      case round =>
        obtain ⟨⟨m, rfl⟩, t, A, ht, rfl, rfl, hP⟩ := hrel
        by_cases htt : t < cnt P
        · obtain ⟨lb, lofs, rfl, hlb, hlc⟩ := hL (by unfold cnt at htt; omega)
          have htc := hlc t htt
          have hAl := hP.1
          have hvb := (mem_els (show P < 2 ^ 7 by omega) (Nat.le_refl 7)).1 (eln_mem (l := els P) htt)
          obtain ⟨g1, g2⟩ := Hf3.out _ hvb
          have HY := Lib.hid (fun h => hP.yes g2 h)
          have HN := Lib.hid (fun h => hP.no (u := eln (els P) t) h)
          rw [← take_eln htt] at HY HN
          have hev : evB rs (eln (els P) t) = (Int.tmod (distV rs (low P) (eln (els P) t)) 2 == 0) := by unfold evB; rw [g1]
          clear hlc hP g1 hvb
          generalize eln (els P) t = v at *
          have hD : ∀ w, IntsAt w ro rs → Calls Try.prog 74 #[.agg #[.int .i64 rs.length, .slice ro rs.length rc], .int .i64 (low P), .int .i64 v] w fun e w' => e = .returned (.int .i64 (distV rs (low P) v)) ∧ Below w.heap.size w w' := fun w h => by
            have := implDist_any rs.length rs (low P) v ro rc w h hrl
            rwa [distB_of hv hlf g2] at this
          have hd1 := distV_ge rs (low P) v
          have hd2 := distV_lt (rs := rs) (low P) v hg1
          have hLi := fun w : World => implListN_any P (by omega) w
          have q2 := pwN_small v (by omega)
          have hpv : 2 ^ v ≤ 64 := by have : 2 ^ v ≤ 2 ^ 6 := Nat.pow_le_pow_right (by decide) (by omega); omega
          have q4 : bits .or .i64 (A : Int) ((2 ^ v : Nat) : Int) = ((A ||| 2 ^ v : Nat) : Int) := bits_or_nat _ _ (by omega) (by omega)
          generalize distV rs (low P) v = D at *
          generalize low P = L at *
          generalize evB rs v = c at *
          generalize A ||| 2 ^ v = A2 at *
          generalize 2 ^ v = V at *
          generalize 2 ^ rs.length - 1 = T1 at *
          go_wp2_with fail
          have xb := Nat.lt_of_lt_of_le hb0 m.size
          have x0 := (m.cell _ 0 hb0).trans hc0
          have x1 := (m.cell _ 1 hb0).trans hc1
          go_region_with (first
            | (go_at_call 73; refine (hLi _).mono ?_; rintro e w3 ⟨lo2, lc2, rfl, hB3, hL2⟩; obtain ⟨lb2, lofs2, rfl, hlb2, hlc2⟩ := hL2 l3; have h00 := hlc2 0 l3; rw [hlow.out] at h00; clear hL2 hlc2; simp only [Nat.add_zero] at h00; have hB5 : Below W3.heap.size W3 w3 := below_more m.below.drew hB3; have y0 := (hB5.cell (p := ⟨w.heap.size, 0, none⟩) hb0).trans hc0; have y1 := (hB5.cell (p := ⟨w.heap.size, 1, none⟩) hb0).trans hc1; have yb := Nat.lt_of_lt_of_le hb0 hB5.size; dsimp only)
            | (go_at_call 74; refine (hD _ (hr.below hB5)).mono ?_; rintro e w4 ⟨rfl, hB4⟩; have hB6 := below_more hB5 hB4; dsimp only))
          all_goals
            obtain ⟨m, rfl⟩ : ∃ m2 : Later W3, m2.w = w4 := ⟨⟨w4, hB6⟩, rfl⟩
            clear hB6 hB5 hB4 hB3 y0 y1 yb h00 hlb2 x0 x1 xb
            rw [← hev]
            cases hc : c
            · go_wp2_with fail
              go_roundw
              case rel => exact ⟨⟨m, rfl⟩, t + 1, A, by omega, by go_num, rfl, HN.out hc⟩
              case measure => simp [intOf]; omega
            · go_wp2_with fail
              go_roundw
              case rel => exact ⟨⟨m, rfl⟩, t + 1, A2, by omega, by go_num, rfl, HY.out hc⟩
              case measure => simp [intOf]; omega
        · have ht' : (els P).length ≤ t := by unfold cnt at htt; omega
          have hP2 : SidesAt rs ps (k + 1) [] A := HPart.out A (by rwa [List.take_of_length_le ht'] at hP)
          clear ht'
          have HhP2 := Lib.hid hP2
          clear hP2
          clear hP
          go_wp2_with fail
          go_roundw
          case rel =>
            obtain ⟨m2, hm2⟩ := HW m
            exact ⟨⟨m2, hm2.symm⟩, k + 1, A, by omega, by go_num, rfl, HhP2.out⟩
          case measure => simp [intOf]; omega
    · have hk' : k = ps.length := by omega
      have hA := HD.out A (by rwa [hk'] at hP)
      clear hk'
      clear hP
      have hsub := sub_all (sideN_lt rs)
      have hdl := bits_andNot_nat (2 ^ rs.length - 1) (sideN rs) (by omega)
      have hdn : nDiff (2 ^ rs.length - 1) (sideN rs) < 2 ^ rs.length := Nat.lt_of_le_of_lt (nDiff_sub _ _).le (all_lt _)
      have e1 := indepB_nat (isSetB_mk hv (sideN_lt rs))
      have e2 := indepB_nat (isSetB_mk hv hdn)
      have HI : Hid (∀ (s : Int) (b : Bool) (m : Later W2), indepB rs.length rs s = b → Calls Try.prog 75 #[.agg #[.int .i64 rs.length, .slice ro rs.length rc], .int .i64 s] m.w fun e w' => e = .returned (.bool b) ∧ Below m.w.heap.size m.w w') := Lib.hid fun s b m h1 => by
        have := implIndep_any rs.length rs s ro rc m.w (hr.later m) hrl
        rwa [h1] at this
      have HE := Lib.hid (fun b1 b2 => sidesB_of (b1 := b1) (b2 := b2) hv)
      have HF := Lib.hid (fun h => sidesV_yes (n := rs.length) (rs := rs) h)
      have HN := Lib.hid (fun h => sidesV_no (n := rs.length) (rs := rs) h)
      have sl := sideN_lt rs
      rw [← hA] at hsub hdl hdn e1 e2 HE HF sl
      clear hA HD HQ HA hPs
      have HL2 := fun m : Later W2 => HL.out m.w
      generalize nDiff (2 ^ rs.length - 1) A = D at *
      generalize 2 ^ rs.length - 1 = T1 at *
      generalize 2 ^ rs.length = T0 at *
      clear hsub HL
      cases h1 : indepN rs A
      · have HJ := Lib.hid (HE.out false _ h1 rfl)
        have HK := Lib.hid (HN.out (by rw [HJ.out]; rfl))
        rw [h1] at e1
        have C1 := fun m => HI.out _ _ m e1
        clear h1 e2
        go_wp2_with fail
        refine wp_region_later m rfl (by kernel_rfl) (by kernel_rfl) ?_
        repeat (go_big_quiet_step ((first | (go_at_call 75; exact Calls.later _ (C1 _)))))
        refine wpQuiet_nil ?_
        rintro _ ⟨m, rfl⟩
        go_wp2_with fail
        go_ret2
        exact ⟨by rw [HJ.out, HK.out]; rfl, below_later HhB.out m⟩
      · cases h2 : indepN rs D
        · have HJ := Lib.hid (HE.out true false h1 h2)
          have HK := Lib.hid (HN.out (by rw [HJ.out]; rfl))
          rw [h1] at e1
          rw [h2] at e2
          have C1 := fun m => HI.out _ _ m e1
          have C2 := fun m => HI.out _ _ m e2
          clear h1 h2
          go_wp2_with fail
          refine wp_region_later m rfl (by kernel_rfl) (by kernel_rfl) ?_
          repeat (go_big_quiet_step ((first | (go_at_call 72; exact Calls.later _ (HL2 _)) | (go_at_call 75; with_reducible exact Calls.later _ (C1 _)) | (go_at_call 75; with_reducible exact Calls.later _ (C2 _)))))
          refine wpQuiet_nil ?_
          rintro _ ⟨m, rfl⟩
          go_wp2_with fail
          go_ret2
          exact ⟨by rw [HJ.out, HK.out]; rfl, below_later HhB.out m⟩
        · have HJ := Lib.hid (HE.out true true h1 h2)
          have HK := Lib.hid (HF.out (by rw [HJ.out]; rfl))
          rw [h1] at e1
          rw [h2] at e2
          have C1 := fun m => HI.out _ _ m e1
          have C2 := fun m => HI.out _ _ m e2
          clear h1 h2
          go_wp2_with fail
          refine wp_region_later m rfl (by kernel_rfl) (by kernel_rfl) ?_
          repeat (go_big_quiet_step ((first | (go_at_call 72; exact Calls.later _ (HL2 _)) | (go_at_call 75; with_reducible exact Calls.later _ (C1 _)) | (go_at_call 75; with_reducible exact Calls.later _ (C2 _)))))
          refine wpQuiet_nil ?_
          rintro _ ⟨m, rfl⟩
          go_wp2_with fail
          go_ret2
          exact ⟨by rw [HJ.out, HK.out]; rfl, below_later HhB.out m⟩


theorem implBip_any (n : Int) (rs : List Int) (ro : Option Addr) (rc : Nat) (w : World) (hr : IntsAt w ro rs) (hrl : rs.length ≤ 1048576) :
    Calls Try.prog 13 #[.agg #[.int .i64 n, .slice ro rs.length rc]] w fun e w' => e = .returned (.bool (sidesB n rs)) ∧ Below w.heap.size w w' := by
  go_enter Try.func13, Try.ntmps13
  go_wp2_with fail
  generalize hW : w.alloc _ = W1
  obtain ⟨hB, -, k0⟩ := alloc1 hW
  replace hr := hr.below hB
  have hb0 := k0.lt
  have hc0 := k0.cell 0
  have hc1 := k0.cell 1
  simp at hc0 hc1
  clear hW k0
  have HhB := Lib.hid hB
  clear hB
  obtain ⟨m, hm0⟩ : ∃ m : Later W1, m.w = W1 := ⟨Later.refl _, rfl⟩
  refine (fun h => hm0 ▸ h) ?_
  clear hm0
  go_wp2_with (first | (go_at_call 8; refine (Calls.later m (implSides_any _ _ _ _ _ (hr.later m) hrl)).mono ?_; rintro e w' ⟨rfl, m, rfl⟩))
  go_ret
  exact ⟨rfl, below_later HhB.out m⟩

end Go.Proofs.Ytgklgheaojoimaa
