/-
  IsComparability of the reference: true only of a graph without a hole of five vertices. For at most 2^20 rows.
  The walks of SidesOf and IsBipartite on both sides. For at most 2^20 rows.
  Chordal graphs and graphs with two sides have no hole of five vertices. No conditions.
  What FnPerfect's law needs of the values. For graphs of at most six vertices.
-/
import Derived.Test.YtfkehmpckhmkbaaGreatPkLawPerfect39
import Derived.Test.YtfkehmpckhmkbaaGreatPkLawPerfect27
import Derived.Deep.RegionWith
import Derived.Test.YtfkehmpckhmkbaaGreatPkLawPerfect33
namespace Go.Proofs.YtfkehmpckhmkbaaGreat
open Go.RowKit

set_option maxRecDepth 100000 in
set_option maxHeartbeats 1000000 in
theorem specComp_any (n : Int) (rs : List Int) (ro : Option Addr) (rc : Nat) (w : World) (hr : IntsAt w ro rs) (hrl : rs.length ≤ 1048576) :
    Calls Tryz.prog 23 #[.agg #[.int .i64 n, .slice ro rs.length rc]] w fun e w' => ∃ b, e = .returned (.bool b) ∧ Below w.heap.size w w' ∧ (b = true → isGraphB n rs = true ∧ ¬c5 rs) := by
  go_enter Tryz.func23, Tryz.ntmps23
  go_wp2_with fail
  generalize hW : w.alloc _ = W1
  obtain ⟨hB, -, k0⟩ := alloc1 hW
  replace hr := hr.below hB
  have hb0 := k0.lt
  have hc0 := k0.cell 0
  have hc1 := k0.cell 1
  simp at hc0 hc1
  clear hW k0
  have HhB := Lib.hid hB
  clear hB
  refine (specOrient_any n rs ro rc W1 hr hrl).mono ?_
  rintro e w2 ⟨va, vk, vc, ok, rfl, hB2, hok⟩
  have hBB := below_more' HhB.out hB2
  clear hB2
  have Hhok := Lib.hid hok
  clear hok
  have HhBB := Lib.hid hBB
  clear hBB
  go_wp2_with fail
  go_ret
  exact ⟨ok, rfl, HhBB.out.alloc HhBB.out.size _, Hhok.out⟩

end Go.Proofs.YtfkehmpckhmkbaaGreat

namespace Go.Proofs.YtfkehmpckhmkbaaGreat
open Go.RowKit

set_option maxRecDepth 100000 in
set_option maxHeartbeats 2000000 in
theorem specSides_any (n : Int) (rs : List Int) (ro : Option Addr) (rc : Nat) (w : World) (hr : IntsAt w ro rs) (hrl : rs.length ≤ 1048576) :
    Calls Tryz.prog 49 #[.agg #[.int .i64 n, .slice ro rs.length rc]] w fun e w' => e = .returned (.tuple #[.int .i64 (sidesV n rs), .bool (sidesB n rs)]) ∧ Below w.heap.size w w' := by
  go_enter Tryz.func49, Tryz.ntmps49
  go_wp2_with fail
  generalize hW : w.alloc _ = W1
  obtain ⟨hB, -, k0⟩ := alloc1 hW
  replace hr := hr.below hB
  have hb0 := k0.lt
  have hc0 := k0.cell 0
  have hc1 := k0.cell 1
  simp at hc0 hc1
  clear hW k0
  have HhB := Lib.hid hB
  clear hB
  cases hv : isGraphB n rs
  · have HE := Lib.hid (sidesB_no hv)
    have HF := Lib.hid (sidesV_no HE.out)
    go_loopw [4, 5] (fun b i wr => (∃ m : Later W1, wr = m.w) ∧ b = .int .i64 0 ∧ i = .int .i64 0) (fun _ _ _ => 0)
    case atStart => exact ⟨⟨Later.refl _, rfl⟩, rfl, rfl⟩
    case round =>
      obtain ⟨⟨m, rfl⟩, rfl, rfl⟩ := hrel
      by_cases hn0 : 0 < n
      all_goals
        go_wp2_with (first | (go_at_call 13; refine (Calls.later m (specIsGraph_any _ _ _ _ _ (hr.later m) hrl)).mono ?_; rintro e w' ⟨rfl, m, rfl⟩))
        refine wp_region_later m rfl (by kernel_rfl) (by kernel_rfl) ?_
        repeat (go_big_quiet_step ((first | (go_at_call 13; exact Calls.later _ (by have := specIsGraph_any n rs ro rc _ (hr.later (by assumption)) hrl; rwa [hv] at this)))))
        refine wpQuiet_nil ?_
        rintro _ ⟨m, rfl⟩
        go_wp2_with fail
        go_ret2
        exact ⟨by rw [HE.out, HF.out]; rfl, below_later HhB.out m⟩
  · obtain ⟨rfl, g⟩ := VG.of hv
    have hg1 := g.pos
    have hg2 := g.le
    obtain ⟨hp1, hp2⟩ := g.pow
    have hq := pwN_small rs.length (by omega)
    have q1 : IntKind.i64.wrap (((2 ^ rs.length : Nat) : Int) - 1) = ((2 ^ rs.length - 1 : Nat) : Int) := by rw [IntKind_i64_in _ (by omega) (by omega)]; omega
    go_loopw [4, 5] (fun b i wr => (∃ m : Later W1, wr = m.w) ∧ ∃ k : Nat, k ≤ rs.length ∧ b = .int .i64 (accB (evB rs) k) ∧ i = .int .i64 k) (fun _ i _ => rs.length - (intOf i).toNat)
    case atStart => exact ⟨⟨Later.refl _, rfl⟩, 0, by omega, rfl, rfl⟩
    case round =>
      obtain ⟨⟨m, rfl⟩, k, hk, rfl, rfl⟩ := hrel
      by_cases hlt : k < rs.length
      · have q2 := pwN_small k (by omega)
        obtain ⟨f1, f2, f3, f4⟩ := head_facts g hlt
        have hlf := low_facts (by omega) f2
        have hG := fun m : Later W1 => l3Grow_any rs (2 ^ k) (2 ^ rs.length - 1) ro rc m.w (hr.later m) hv (all_lt _) (pow_sub (all_bit.2 hlt))
        have HY := Lib.hid (fun h => accB_add (p := evB rs) (k := k) h)
        have HN := Lib.hid (fun h => accB_no (p := evB rs) (k := k) h)
        have hal := accB_lt (evB rs) k
        have hev : evB rs k = (Int.tmod (distV rs (low (grow rs (2 ^ k) (2 ^ rs.length - 1))) k) 2 == 0) := rfl
        have hf4 : low (grow rs (2 ^ k) (2 ^ rs.length - 1)) < rs.length := f4
        have q4 : wrap64 ((accB (evB rs) k : Int) + ((2 ^ k : Nat) : Int)) = ((accB (evB rs) k + 2 ^ k : Nat) : Int) := by
          have : 2 ^ k ≤ 2 ^ 6 := Nat.pow_le_pow_right (by decide) (by omega)
          simp only [wrap64]; omega
        have hlow : Hid (eln (els (grow rs (2 ^ k) (2 ^ rs.length - 1))) 0 = low (grow rs (2 ^ k) (2 ^ rs.length - 1))) := rfl
        generalize evB rs k = c at *
        generalize accB (evB rs) k = ac at *
        generalize grow rs (2 ^ k) (2 ^ rs.length - 1) = G at *
        have hD : ∀ w, IntsAt w ro rs → Calls Tryz.prog 78 #[.agg #[.int .i64 rs.length, .slice ro rs.length rc], .int .i64 (low G), .int .i64 k] w fun e w' => e = .returned (.int .i64 (distV rs (low G) k)) ∧ Below w.heap.size w w' := fun w h => by
          have := specDist_any rs.length rs (low G) k ro rc w h hrl
          rwa [distB_of hv hf4 hlt] at this
        have hd1 := distV_ge rs (low G) k
        have hd2 := distV_lt (rs := rs) (low G) k hg1
        have hLi := fun w : World => specListN_any G (by omega) w
        have hc7 : 0 < cnt G := hlf.2.2
        obtain ⟨l1, l2, l3⟩ := hlf
        generalize distV rs (low G) k = D at *
        generalize low G = L at *
        generalize 2 ^ rs.length - 1 = T1 at *
        generalize 2 ^ rs.length = T0 at *
        generalize 2 ^ k = T3 at *
        have HhG := Lib.hid hG
        clear hG
        go_wp2_with (first | (go_at_call 13; refine (Calls.later m (specIsGraph_any _ _ _ _ _ (hr.later m) hrl)).mono ?_; rintro e w' ⟨rfl, m, rfl⟩))
        refine wp_region_later m rfl (by kernel_rfl) (by kernel_rfl) ?_
        repeat (go_big_quiet_step ((first | (go_at_call 77; exact Calls.later _ (HhG.out _)))))
        refine wpQuiet_nil ?_
        rintro _ ⟨m, rfl⟩
        go_wp2_with fail
        have xb := Nat.lt_of_lt_of_le hb0 m.size
        have x0 := (m.cell _ 0 hb0).trans hc0
        have x1 := (m.cell _ 1 hb0).trans hc1
        go_region_with (first
          | (go_at_call 46; refine (hLi _).mono ?_; rintro e w3 ⟨lo, lc, rfl, hB3, hL⟩; obtain ⟨lb, lofs, rfl, hlb, hlc⟩ := hL l3; have h00 := hlc 0 l3; rw [hlow.out] at h00; clear hL hlc; simp only [Nat.add_zero] at h00; have hB5 : Below W1.heap.size W1 w3 := below_more m.below.drew hB3; have y0 := (hB5.cell (p := ⟨w.heap.size, 0, none⟩) hb0).trans hc0; have y1 := (hB5.cell (p := ⟨w.heap.size, 1, none⟩) hb0).trans hc1; have yb := Nat.lt_of_lt_of_le hb0 hB5.size; dsimp only)
          | (go_at_call 78; refine (hD _ (hr.below hB5)).mono ?_; rintro e w4 ⟨rfl, hB4⟩; have hB6 := below_more hB5 hB4; dsimp only))
        all_goals
          obtain ⟨m, rfl⟩ : ∃ m2 : Later W1, m2.w = w4 := ⟨⟨w4, hB6⟩, rfl⟩
          clear hB6 hB5 hB4 hB3 y0 y1 yb h00 hlb x0 x1 xb
          rw [← hev]
          cases hc : c
          · go_wp2_with fail
            go_roundw
            case rel => exact ⟨⟨m, rfl⟩, k + 1, by omega, by rw [HN.out hc], by go_num⟩
            case measure => simp [intOf]; omega
          · go_wp2_with fail
            go_roundw
            case rel => exact ⟨⟨m, rfl⟩, k + 1, by omega, by rw [HY.out hc, ← q4], by go_num⟩
            case measure => simp [intOf]; omega
      · obtain rfl : k = rs.length := by omega
        have hG := fun m : Later W1 => specIsGraph_any rs.length rs ro rc m.w (hr.later m) hrl
        have hsub := sub_all (sideN_lt rs)
        have hdl := nDiff_minus (by omega) hsub
        have hdl2 := hsub.le
        have hdn : nDiff (2 ^ rs.length - 1) (sideN rs) < 2 ^ rs.length := Nat.lt_of_le_of_lt (nDiff_sub _ _).le (all_lt _)
        have e1 := indepB_nat (isSetB_mk hv (sideN_lt rs))
        have e2 := indepB_nat (isSetB_mk hv hdn)
        rw [show ((nDiff (2 ^ rs.length - 1) (sideN rs) : Nat) : Int) = ((2 ^ rs.length - 1 : Nat) : Int) - (sideN rs : Int) by omega] at e2
        rw [hv] at hG
        have HI : Hid (∀ (s : Int) (b : Bool) (m : Later W1), indepB rs.length rs s = b → Calls Tryz.prog 47 #[.agg #[.int .i64 rs.length, .slice ro rs.length rc], .int .i64 s] m.w fun e w' => e = .returned (.bool b) ∧ Below m.w.heap.size m.w w') := Lib.hid fun s b m h1 => by
          have := specIndep_any rs.length rs s ro rc m.w (hr.later m) hrl
          rwa [h1] at this
        have HE := Lib.hid (fun b1 b2 => sidesB_of (b1 := b1) (b2 := b2) hv)
        have HF := Lib.hid (fun h => sidesV_yes (n := rs.length) (rs := rs) h)
        have HN := Lib.hid (fun h => sidesV_no (n := rs.length) (rs := rs) h)
        have hsd : accB (evB rs) rs.length = sideN rs := rfl
        have t127 : 2 ^ rs.length - 1 ≤ 127 := by omega
        rw [hsd]
        generalize nDiff (2 ^ rs.length - 1) (sideN rs) = D at *
        generalize sideN rs = A at *
        generalize 2 ^ rs.length - 1 = T1 at *
        generalize 2 ^ rs.length = T0 at *
        clear hdl hdn hsub
        cases h1 : indepN rs A
        · have HJ := Lib.hid (HE.out false _ h1 rfl)
          have HK := Lib.hid (HN.out (by rw [HJ.out]; rfl))
          rw [h1] at e1
          clear h1 e2
          go_wp2_with fail
          refine wp_region_later m rfl (by kernel_rfl) (by kernel_rfl) ?_
          repeat (go_big_quiet_step ((first | (go_at_call 13; exact Calls.later _ (hG _)) | (go_at_call 47; exact Calls.later _ (HI.out _ _ _ e1)))))
          refine wpQuiet_nil ?_
          rintro _ ⟨m, rfl⟩
          go_wp2_with fail
          go_ret2
          exact ⟨by rw [HJ.out, HK.out]; rfl, below_later HhB.out m⟩
        · cases h2 : indepN rs D
          · have HJ := Lib.hid (HE.out true false h1 h2)
            have HK := Lib.hid (HN.out (by rw [HJ.out]; rfl))
            rw [h1] at e1
            rw [h2] at e2
            have C1 := fun m => HI.out _ _ m e1
            have C2 := fun m => HI.out _ _ m e2
            clear h1 h2
            go_wp2_with fail
            refine wp_region_later m rfl (by kernel_rfl) (by kernel_rfl) ?_
            repeat (go_big_quiet_step ((first | (go_at_call 13; exact Calls.later _ (hG _)) | (go_at_call 47; with_reducible exact Calls.later _ (C1 _)) | (go_at_call 47; with_reducible exact Calls.later _ (C2 _)))))
            refine wpQuiet_nil ?_
            rintro _ ⟨m, rfl⟩
            go_wp2_with fail
            go_ret2
            exact ⟨by rw [HJ.out, HK.out]; rfl, below_later HhB.out m⟩
          · have HJ := Lib.hid (HE.out true true h1 h2)
            have HK := Lib.hid (HF.out (by rw [HJ.out]; rfl))
            rw [h1] at e1
            rw [h2] at e2
            have C1 := fun m => HI.out _ _ m e1
            have C2 := fun m => HI.out _ _ m e2
            clear h1 h2
            go_wp2_with fail
            refine wp_region_later m rfl (by kernel_rfl) (by kernel_rfl) ?_
            repeat (go_big_quiet_step ((first | (go_at_call 13; exact Calls.later _ (hG _)) | (go_at_call 47; with_reducible exact Calls.later _ (C1 _)) | (go_at_call 47; with_reducible exact Calls.later _ (C2 _)))))
            refine wpQuiet_nil ?_
            rintro _ ⟨m, rfl⟩
            go_wp2_with fail
            go_ret2
            exact ⟨by rw [HJ.out, HK.out]; rfl, below_later HhB.out m⟩

/-- What the program has gathered behind some parts and some vertices of the next. -/
def SidesAt (rs : List Int) (ps : List Nat) (k : Nat) (vs : List Nat) (A : Nat) : Prop := A < 2 ^ rs.length ∧ ∀ v, A.testBit v = true ↔ (evB rs v = true ∧ ((∃ j, j < k ∧ (eln ps j).testBit v = true) ∨ v ∈ vs))
theorem SidesAt.start (rs : List Int) (ps : List Nat) : SidesAt rs ps 0 [] 0 := ⟨Nat.two_pow_pos _, fun v => by simp⟩
theorem SidesAt.yes {rs : List Int} {ps vs : List Nat} {k A u : Nat} (h : SidesAt rs ps k vs A) (hu : u < rs.length) (he : evB rs u = true) : SidesAt rs ps k (vs ++ [u]) (A ||| 2 ^ u) :=
  ⟨Nat.or_lt_two_pow h.1 (Nat.pow_lt_pow_right (by decide) hu), fun v => by
    rw [Nat.testBit_or, Bool.or_eq_true, h.2 v, pow_bit]
    simp only [List.mem_append, List.mem_singleton]
    constructor
    · rintro (⟨h1, h2 | h2⟩ | rfl)
      · exact ⟨h1, .inl h2⟩
      · exact ⟨h1, .inr (.inl h2)⟩
      · exact ⟨he, .inr (.inr rfl)⟩
    · rintro ⟨h1, h2 | h2 | h2⟩
      · exact .inl ⟨h1, .inl h2⟩
      · exact .inl ⟨h1, .inr h2⟩
      · exact .inr h2.symm⟩
theorem SidesAt.no {rs : List Int} {ps vs : List Nat} {k A u : Nat} (h : SidesAt rs ps k vs A) (he : evB rs u = false) : SidesAt rs ps k (vs ++ [u]) A :=
  ⟨h.1, fun v => by
    rw [h.2 v]
    simp only [List.mem_append, List.mem_singleton]
    constructor
    · rintro ⟨h1, h2 | h2⟩
      · exact ⟨h1, .inl h2⟩
      · exact ⟨h1, .inr (.inl h2)⟩
    · rintro ⟨h1, h2 | h2 | h2⟩
      · exact ⟨h1, .inl h2⟩
      · exact ⟨h1, .inr h2⟩
      · rw [h2, he] at h1; cases h1⟩
theorem SidesAt.part {rs : List Int} {ps : List Nat} {k A : Nat} (h : SidesAt rs ps k (els (eln ps k)) A) (h7 : eln ps k < 128) : SidesAt rs ps (k + 1) [] A :=
  ⟨h.1, fun v => by
    rw [h.2 v, mem_els h7 (Nat.le_refl 7)]
    constructor
    · rintro ⟨h1, ⟨j, h2, h3⟩ | h2⟩
      · exact ⟨h1, .inl ⟨j, by omega, h3⟩⟩
      · exact ⟨h1, .inl ⟨k, by omega, h2⟩⟩
    · rintro ⟨h1, ⟨j, h2, h3⟩ | h2⟩
      · by_cases e : j = k
        · subst e; exact ⟨h1, .inr h3⟩
        · exact ⟨h1, .inl ⟨j, by omega, h3⟩⟩
      · simp at h2⟩
theorem SidesAt.done {rs : List Int} {A : Nat} (g : VG rs) (h : SidesAt rs (partsOf rs (2 ^ rs.length - 1)) (partsOf rs (2 ^ rs.length - 1)).length [] A) : A = sideN rs := by
  apply Nat.eq_of_testBit_eq
  intro v
  unfold sideN
  rw [accB_bit, Bool.eq_iff_iff, h.2 v, Bool.and_eq_true, decide_eq_true_eq]
  constructor
  · rintro ⟨h1, ⟨j, h2, h3⟩ | h2⟩
    · exact ⟨(part_head g (eln_mem h2) h3).2, h1⟩
    · simp at h2
  · rintro ⟨h1, h2⟩
    obtain ⟨P, h3, h4⟩ := part_all g h1
    obtain ⟨j, h5, rfl⟩ := List.getElem_of_mem h3
    exact ⟨h2, .inl ⟨j, h5, by simpa [eln, h5] using h4⟩⟩


/-! ### IsBipartite -/
theorem specBip_any (n : Int) (rs : List Int) (ro : Option Addr) (rc : Nat) (w : World) (hr : IntsAt w ro rs) (hrl : rs.length ≤ 1048576) :
    Calls Tryz.prog 22 #[.agg #[.int .i64 n, .slice ro rs.length rc]] w fun e w' => e = .returned (.bool (sidesB n rs)) ∧ Below w.heap.size w w' := by
  go_enter Tryz.func22, Tryz.ntmps22
  go_wp2_with fail
  generalize hW : w.alloc _ = W1
  obtain ⟨hB, -, k0⟩ := alloc1 hW
  replace hr := hr.below hB
  have hb0 := k0.lt
  have hc0 := k0.cell 0
  have hc1 := k0.cell 1
  simp at hc0 hc1
  clear hW k0
  have HhB := Lib.hid hB
  clear hB
  obtain ⟨m, hm0⟩ : ∃ m : Later W1, m.w = W1 := ⟨Later.refl _, rfl⟩
  refine (fun h => hm0 ▸ h) ?_
  clear hm0
  go_wp2_with (first | (go_at_call 49; refine (Calls.later m (specSides_any _ _ _ _ _ (hr.later m) hrl)).mono ?_; rintro e w' ⟨rfl, m, rfl⟩))
  go_ret
  exact ⟨rfl, below_later HhB.out m⟩


end Go.Proofs.YtfkehmpckhmkbaaGreat

namespace Go.Proofs.YtfkehmpckhmkbaaGreat

theorem first_in {t : List Nat} {P : Nat → Prop} (h : ∃ i, i < t.length ∧ P (eln t i)) : ∃ i, i < t.length ∧ P (eln t i) ∧ ∀ j, j < i → ¬P (eln t j) := by
  obtain ⟨n, hn, hp⟩ := h
  obtain ⟨i, h1, ⟨h2, h3⟩, h4⟩ := least_of (p := fun i => i < t.length ∧ P (eln t i)) n ⟨hn, hp⟩
  exact ⟨i, h2, h3, fun j hj hp => h4 j hj ⟨by omega, hp⟩⟩
theorem tab5_two : ∀ i : Fin 5, ∃ j k : Fin 5, tab5 i j = true ∧ tab5 i k = true ∧ tab5 j k = false ∧ j ≠ k := by decide
theorem chordal_c5 {n : Int} {rs : List Int} (h : chordalB n rs = true) : ¬c5 rs := fun hc => by
  unfold chordalB at h
  cases he : elimV n rs with
  | none => rw [he] at h; cases h
  | some l =>
    obtain ⟨rfl, hv, t, rfl, hE⟩ := elim_facts he
    have g := (VG.of hv).2
    obtain ⟨a, b, c, d, e, h5⟩ := c5_get g hc
    obtain ⟨i0, hi0, e0⟩ := mem_eln (hE.all _ (h5.lt g 0))
    obtain ⟨i, h1, ⟨f, hf⟩, h3⟩ := first_in (t := t) (P := fun y => ∃ f, v5 a b c d e f = y) ⟨i0, hi0, 0, e0.symm⟩
    obtain ⟨Si, b1, b2, b3⟩ := hE.step i h1
    have hin : ∀ k, Si.testBit (v5 a b c d e k) = true := fun k => (b3 _).2 ⟨h5.lt g k, fun hm => by
      obtain ⟨j, hj, -, ej⟩ := mem_take.1 hm
      exact h3 j hj ⟨k, ej.symm⟩⟩
    unfold splB at b2
    rw [Bool.and_eq_true, ← hf] at b2
    have hlt : gn rs (v5 a b c d e f) &&& Si < 2 ^ rs.length := Nat.lt_of_le_of_lt Nat.and_le_left (g.lt _ (h5.lt g f))
    have hcl := (clique_iff g hlt).1 b2.2
    obtain ⟨j, k, t1, t2, t3, t4⟩ := tab5_two f
    have T := h5.tab g
    have hj : (gn rs (v5 a b c d e f) &&& Si).testBit (v5 a b c d e j) = true := by
      rw [Nat.testBit_and, hin, Bool.and_true]
      exact (T f j).trans t1
    have hk : (gn rs (v5 a b c d e f) &&& Si).testBit (v5 a b c d e k) = true := by
      rw [Nat.testBit_and, hin, Bool.and_true]
      exact (T f k).trans t2
    have := hcl _ _ hj hk fun e => t4 (h5.inj g e)
    rw [T j k, t3] at this
    cases this
theorem sides_c5 {n : Int} {rs : List Int} (h : sidesB n rs = true) : ¬c5 rs := fun hc => by
  cases hv : isGraphB n rs
  · rw [sidesB_no hv] at h; cases h
  · obtain ⟨rfl, g⟩ := VG.of hv
    have h128 := g.pow.1
    unfold sidesB at h
    rw [Bool.and_eq_true, Bool.and_eq_true] at h
    obtain ⟨-, i1, i2⟩ := h
    have hS := sideN_lt rs
    have hall := all_lt rs.length
    have hD := nDiff_lt (b := sideN rs) (n := rs.length) hall
    have hI : ∀ S, S < 2 ^ rs.length → indepN rs S = true → ∀ u w, S.testBit u = true → S.testBit w = true → ad rs u w = false := fun S hS hi u w hu hw => by
      unfold indepN at hi
      rw [decide_eq_true_eq, and_zero] at hi
      cases e : ad rs u w
      · rfl
      · have := hi w ((nbrs_bit (by omega)).2 ⟨u, hu, e⟩)
        rw [hw] at this; cases this
    have hne : ∀ u w, ad rs u w = true → (sideN rs).testBit u ≠ (sideN rs).testBit w := fun u w huw he => by
      obtain ⟨h1, h2⟩ := ad_lt g huw
      cases hu : (sideN rs).testBit u
      · have hw := he.symm.trans hu
        have := hI _ hD i2 u w (by rw [testBit_nDiff, Nat.testBit_two_pow_sub_one, decide_eq_true h1, hu]; rfl) (by rw [testBit_nDiff, Nat.testBit_two_pow_sub_one, decide_eq_true h2, hw]; rfl)
        rw [huw] at this; cases this
      · have hw := he.symm.trans hu
        have := hI _ hS i1 u w hu hw
        rw [huw] at this; cases this
    obtain ⟨a, b, c, d, e, h5⟩ := c5_get g hc
    have n1 := hne _ _ h5.ab
    have n2 := hne _ _ h5.bc
    have n3 := hne _ _ h5.cd
    have n4 := hne _ _ h5.de
    have n5 := hne _ _ h5.ea
    generalize (sideN rs).testBit a = x1 at *
    generalize (sideN rs).testBit b = x2 at *
    generalize (sideN rs).testBit c = x3 at *
    generalize (sideN rs).testBit d = x4 at *
    generalize (sideN rs).testBit e = x5 at *
    revert n1 n2 n3 n4 n5
    revert x1 x2 x3 x4 x5
    decide

end Go.Proofs.YtfkehmpckhmkbaaGreat

namespace Go.Proofs.YtfkehmpckhmkbaaGreat
open Go.RowKit

theorem perf_facts (x : Int) (f : List Int) (h6 : f.length ≤ 6) :
    (isGraphB x f = false ∧ perfectB x f = false ∧ (badO x f).isSome = false ∧ (obstV x f).isSome = false) ∨
    (isGraphB x f = true ∧ perfectB x f = true ∧ (badO x f).isSome = false ∧ (obstV x f).isSome = false) ∨
    (isGraphB x f = true ∧ perfectB x f = false ∧ (badO x f).isSome = true ∧ (obstV x f).isSome = true ∧ perfB x f ((obstV x f).getD []) = true ∧ c5 f) := by
  cases hv : isGraphB x f
  · refine .inl ⟨rfl, by unfold perfectB; rw [hv]; rfl, by unfold badO; rw [leastO_no hv]; rfl, ?_⟩
    unfold obstV; rw [oddHoleV_no hv, antiV_no hv]; rfl
  · obtain ⟨rfl, g⟩ := VG.of hv
    obtain ⟨h1, h2⟩ := perf_obst hv h6
    have hp : perfectB f.length f = !(badO f.length f).isSome := by unfold perfectB; rw [hv]; rfl
    cases ho : obstV f.length f with
    | none =>
      rw [ho] at h1
      have h3 : perfectB f.length f = true := h1
      refine .inr (.inl ⟨rfl, h3, ?_, rfl⟩)
      rw [hp] at h3; simpa using h3
    | some y =>
      rw [ho] at h1
      have h3 : perfectB f.length f = false := h1
      refine .inr (.inr ⟨rfl, h3, ?_, rfl, h2 y ho, ?_⟩)
      · rw [hp] at h3; simpa using h3
      · refine Classical.byContradiction fun hc => ?_
        have := (perfect_iff hv h6).2 hc
        rw [h3] at this; cases this

end Go.Proofs.YtfkehmpckhmkbaaGreat
