/-
  IsCover and CoverOf on both sides: the sets of vertices that have an end of each edge. For at most 2^20 rows.
-/
import Derived.Test.YtgklgheaojoimaaPk32
import Derived.Test.YtgklgheaojoimaaSides
namespace Go.Proofs.Ytgklgheaojoimaa
open Go.RowKit

def covB (n : Int) (rs : List Int) (s : Int) : Bool := isSetB n rs s && indepN rs (2 ^ rs.length - 1 - s.toNat)
theorem covB_no {n : Int} {rs : List Int} {s : Int} (h : isSetB n rs s = false) : covB n rs s = false := by unfold covB; rw [h]; rfl
theorem covB_nat {rs : List Int} {S : Nat} (h : isSetB rs.length rs S = true) : covB rs.length rs S = indepB rs.length rs ((2 ^ rs.length - 1 - S : Nat) : Int) := by
  have hg : isGraphB rs.length rs = true := by unfold isSetB at h; rw [Bool.and_eq_true] at h; exact h.1
  have := all_lt rs.length
  unfold covB
  rw [h, Bool.true_and, indepB_nat (isSetB_mk hg (by omega)), Int.toNat_natCast]

set_option maxHeartbeats 1000000 in
theorem specIsCov_any (n : Int) (rs : List Int) (s : Int) (ro : Option Addr) (rc : Nat) (w : World) (hr : IntsAt w ro rs) (hrl : rs.length ≤ 1048576) :
    Calls Try.prog 29 #[.agg #[.int .i64 n, .slice ro rs.length rc], .int .i64 s] w fun e w' => e = .returned (.bool (covB n rs s)) ∧ Below w.heap.size w w' := by
  go_enter Try.func29, Try.ntmps29
  go_wp2_with fail
  generalize hW : w.alloc _ = W1
  obtain ⟨hB, -, k0⟩ := alloc1 hW
  replace hr := hr.below hB
  have hb0 := k0.lt
  have hc0 := k0.cell 0
  have hc1 := k0.cell 1
  simp at hc0 hc1
  clear hW k0
  have HhB := Lib.hid hB
  clear hB
  obtain ⟨m, hm0⟩ : ∃ m : Later W1, m.w = W1 := ⟨Later.refl _, rfl⟩
  refine (fun h => hm0 ▸ h) ?_
  clear hm0
  cases hv : isSetB n rs s
  · have HE := Lib.hid (covB_no hv)
    have hIS := fun m : Later W1 => specIsSet_any n rs s ro rc m.w (hr.later m) hrl
    simp only [hv] at hIS
    refine wp_region_later m rfl (by kernel_rfl) (by kernel_rfl) ?_
    repeat (go_big_quiet_step ((first | (go_at_call 101; exact Calls.later _ (hIS _)))))
    refine wpQuiet_nil ?_
    rintro _ ⟨m, rfl⟩
    go_wp2_with fail
    go_ret
    exact ⟨retB (by rw [HE.out]), below_later HhB.out m⟩
  · obtain ⟨rfl, g, S, rfl, hS⟩ := isSetB_true hv
    have HE := Lib.hid (covB_nat hv)
    have hIS := fun m : Later W1 => specIsSet_any rs.length rs S ro rc m.w (hr.later m) hrl
    simp only [hv] at hIS
    have hg1 := g.pos
    have hg2 := g.le
    obtain ⟨hp1, hp2⟩ := g.pow
    have hq := pwN_small rs.length (by omega)
    have e : ((2 ^ rs.length : Nat) : Int) - 1 - (S : Int) = ((2 ^ rs.length - 1 - S : Nat) : Int) := by omega
    have hI := fun m : Later W1 => specIndep_any rs.length rs (((2 ^ rs.length : Nat) : Int) - 1 - (S : Int)) ro rc m.w (hr.later m) hrl
    rw [← e] at HE
    clear e
    generalize 2 ^ rs.length = T at *
    generalize indepB rs.length rs ((T : Int) - 1 - (S : Int)) = b at *
    refine wp_region_later m rfl (by kernel_rfl) (by kernel_rfl) ?_
    repeat (go_big_quiet_step ((first | (go_at_call 101; exact Calls.later _ (hIS _)) | (go_at_call 79; exact Calls.later _ (hI _)))))
    refine wpQuiet_nil ?_
    rintro _ ⟨m, rfl⟩
    go_wp2_with fail
    go_ret
    exact ⟨retB (by rw [HE.out]), below_later HhB.out m⟩

set_option maxHeartbeats 1000000 in
theorem implIsCov_any (n : Int) (rs : List Int) (s : Int) (ro : Option Addr) (rc : Nat) (w : World) (hr : IntsAt w ro rs) (hrl : rs.length ≤ 1048576) :
    Calls Try.prog 22 #[.agg #[.int .i64 n, .slice ro rs.length rc], .int .i64 s] w fun e w' => e = .returned (.bool (covB n rs s)) ∧ Below w.heap.size w w' := by
  go_enter Try.func22, Try.ntmps22
  go_wp2_with fail
  generalize hW : w.alloc _ = W1
  obtain ⟨hB, -, k0⟩ := alloc1 hW
  replace hr := hr.below hB
  have hb0 := k0.lt
  have hc0 := k0.cell 0
  have hc1 := k0.cell 1
  simp at hc0 hc1
  clear hW k0
  have HhB := Lib.hid hB
  clear hB
  obtain ⟨m, hm0⟩ : ∃ m : Later W1, m.w = W1 := ⟨Later.refl _, rfl⟩
  refine (fun h => hm0 ▸ h) ?_
  clear hm0
  cases hv : isSetB n rs s
  · have HE := Lib.hid (covB_no hv)
    have hIS := fun m : Later W1 => implIsSet_any n rs s ro rc m.w (hr.later m) hrl
    simp only [hv] at hIS
    refine wp_region_later m rfl (by kernel_rfl) (by kernel_rfl) ?_
    repeat (go_big_quiet_step ((first | (go_at_call 93; exact Calls.later _ (hIS _)))))
    refine wpQuiet_nil ?_
    rintro _ ⟨m, rfl⟩
    go_wp2_with fail
    go_ret
    exact ⟨retB (by rw [HE.out]), below_later HhB.out m⟩
  · obtain ⟨rfl, g, S, rfl, hS⟩ := isSetB_true hv
    have HE := Lib.hid (covB_nat hv)
    have hIS := fun m : Later W1 => implIsSet_any rs.length rs S ro rc m.w (hr.later m) hrl
    simp only [hv] at hIS
    have hg1 := g.pos
    have hg2 := g.le
    obtain ⟨hp1, hp2⟩ := g.pow
    have hAll := fun m : Later W1 => implAll_any rs.length (.slice ro rs.length rc) hg2 m.w
    have e : bits .andNot .i64 ((2 ^ rs.length - 1 : Nat) : Int) (S : Int) = ((2 ^ rs.length - 1 - S : Nat) : Int) := by
      rw [bits_andNot_nat _ _ (by omega), nDiff_minus (by omega) (sub_all hS)]
    have hI := fun m : Later W1 => implIndep_any rs.length rs ((2 ^ rs.length - 1 - S : Nat) : Int) ro rc m.w (hr.later m) hrl
    generalize 2 ^ rs.length - 1 - S = D at *
    generalize 2 ^ rs.length - 1 = T at *
    generalize indepB rs.length rs (D : Int) = b at *
    refine wp_region_later m rfl (by kernel_rfl) (by kernel_rfl) ?_
    repeat (go_big_quiet_step ((first | (go_at_call 93; exact Calls.later _ (hIS _)) | (go_at_call 72; exact Calls.later _ (hAll _)) | (go_at_call 75; exact Calls.later _ (hI _)))))
    refine wpQuiet_nil ?_
    rintro _ ⟨m, rfl⟩
    go_wp2_with fail
    go_ret
    exact ⟨retB (by rw [HE.out]), below_later HhB.out m⟩

set_option maxRecDepth 100000 in
theorem implCovOf_any (n : Int) (rs : List Int) (ro : Option Addr) (rc : Nat) (w : World) (hr : IntsAt w ro rs) (hrl : rs.length ≤ 1048576) :
    Calls Try.prog 17 #[.agg #[.int .i64 n, .slice ro rs.length rc]] w fun e w' => e = .returned (.int .i64 (fewestV n rs fun S => covB rs.length rs S)) ∧ Below w.heap.size w w' := by
  go_enter Try.func17, Try.ntmps17
  go_wp2_with fail
  generalize hW : w.alloc _ = W1
  obtain ⟨hB, -, k0⟩ := alloc1 hW
  replace hr := hr.below hB
  have hb0 := k0.lt
  have hc0 := k0.cell 0
  have hc1 := k0.cell 1
  simp at hc0 hc1
  clear hW k0
  have HhB := Lib.hid hB
  clear hB
  obtain ⟨m, hm0⟩ : ∃ m : Later W1, m.w = W1 := ⟨Later.refl _, rfl⟩
  refine (fun h => hm0 ▸ h) ?_
  clear hm0
  go_wp2_with (first | (go_at_call 89; refine (Calls.later m (implFewest_any n rs ro rc 22 (fun S => covB rs.length rs S) _ (hr.later m) hrl (fun _ _ => rfl) (fun hv S w hr hS => implIsCov_any _ _ _ _ _ _ hr hrl))).mono ?_; rintro e w' ⟨rfl, m, rfl⟩))
  go_ret
  exact ⟨rfl, below_later HhB.out m⟩

set_option maxRecDepth 100000 in
set_option maxHeartbeats 1000000 in
theorem specCovOf_any (n : Int) (rs : List Int) (ro : Option Addr) (rc : Nat) (w : World) (hr : IntsAt w ro rs) (hrl : rs.length ≤ 1048576) :
    Calls Try.prog 20 #[.agg #[.int .i64 n, .slice ro rs.length rc]] w fun e w' => e = .returned (.int .i64 (fewestV n rs fun S => covB rs.length rs S)) ∧ Below w.heap.size w w' := by
  go_enter Try.func20, Try.ntmps20
  go_wp2_with fail
  generalize hW : w.alloc _ = W1
  obtain ⟨hB, -, k0⟩ := alloc1 hW
  replace hr := hr.below hB
  have hb0 := k0.lt
  have hc0 := k0.cell 0
  have hc1 := k0.cell 1
  simp at hc0 hc1
  clear hW k0
  have HhB := Lib.hid hB
  clear hB
  cases hv : isGraphB n rs
  · have HE : Hid (fewestV n rs (fun S => covB rs.length rs S) = -1) := by show fewestV n rs _ = -1; unfold fewestV; rw [hv]; rfl
    go_loopw [3, 4] (fun b i wr => (∃ m : Later W1, wr = m.w) ∧ b = .int .i64 (-1) ∧ i = .int .i64 0) (fun _ _ _ => 0)
    case atStart => exact ⟨⟨Later.refl _, rfl⟩, rfl, rfl⟩
    case round =>
      obtain ⟨⟨m, rfl⟩, rfl, rfl⟩ := hrel
      go_wp2_with (first | (go_at_call 14; refine (Calls.later m (specIsGraph_any _ _ _ _ _ (hr.later m) hrl)).mono ?_; rintro e w' ⟨rfl, m, rfl⟩))
      go_ret
      exact ⟨retI (by rw [HE.out]), below_later HhB.out m⟩
  · obtain ⟨rfl, g⟩ := VG.of hv
    have hg1 := g.pos
    have hg2 := g.le
    obtain ⟨hp1, hp2⟩ := g.pow
    have hq := pwN_small rs.length (by omega)
    have HE : Hid (fewestV rs.length rs (fun S => covB rs.length rs S) = fewestTo (fun S => covB rs.length rs S) (2 ^ rs.length)) := by show fewestV rs.length rs _ = _; unfold fewestV; rw [if_pos hv]
    generalize 2 ^ rs.length = T at *
    generalize hP : (fun S : Nat => covB rs.length rs S) = p at *
    have hpk : ∀ S : Nat, covB rs.length rs S = p S := fun S => by rw [← hP]
    have HhP := Lib.hid hP
    clear hP
    go_loopw [3, 4] (fun b i wr => (∃ m : Later W1, wr = m.w) ∧ ∃ k : Nat, k ≤ T ∧ b = .int .i64 (fewestTo p k) ∧ i = .int .i64 k) (fun _ i _ => T - (intOf i).toNat)
    case atStart => exact ⟨⟨Later.refl _, rfl⟩, 0, by omega, rfl, rfl⟩
    case round =>
      obtain ⟨⟨m, rfl⟩, k, hk, rfl, rfl⟩ := hrel
      by_cases hlt : k < T
      · have hn1 := cnt_le k
        have hIS := fun m : Later W1 => specIsCov_any rs.length rs k ro rc m.w (hr.later m) hrl
        rw [hpk k] at hIS
        have H0 := Lib.hid (fun h => fewestTo_skip (p := p) (k := k) h)
        have H1 := Lib.hid (fun h => fewestTo_new (p := p) (k := k) h)
        have H2 := Lib.hid (fun L h => fewestTo_keep (p := p) (k := k) (L := L) h)
        cases hp : p k <;> simp only [hp] at hIS
        · rcases fewestTo_form p k with hF | ⟨L, hL, hF⟩
          all_goals
            rw [hF] at H0 ⊢
            clear H2 H1
            have HhF := Lib.hid hF
            clear hF
            go_wp2_with (first | (go_at_call 14; refine (Calls.later m (specIsGraph_any _ _ _ _ _ (hr.later m) hrl)).mono ?_; rintro e w' ⟨rfl, m, rfl⟩) | (go_at_call 29; refine (Calls.later m (hIS m)).mono ?_; rintro e w' ⟨rfl, m, rfl⟩))
            go_roundw
            case rel => exact ⟨⟨m, rfl⟩, k + 1, by omega, by rw [H0.out hp], by go_num⟩
            case measure => simp [intOf]; omega
        · rcases fewestTo_form p k with hF | ⟨L, hL, hF⟩
          · rw [hF] at H1 ⊢
            clear H2 H0
            have HhF := Lib.hid hF
            clear hF
            go_wp2_with (first | (go_at_call 14; refine (Calls.later m (specIsGraph_any _ _ _ _ _ (hr.later m) hrl)).mono ?_; rintro e w' ⟨rfl, m, rfl⟩) | (go_at_call 29; refine (Calls.later m (hIS m)).mono ?_; rintro e w' ⟨rfl, m, rfl⟩))
            go_roundw
            case rel => exact ⟨⟨m, rfl⟩, k + 1, by omega, by rw [H1.out hp (.inl (by omega))], by go_num⟩
            case measure => simp [intOf]; omega
          · rw [hF] at H1 ⊢
            replace H2 := Lib.hid (H2.out L hF)
            rw [hF] at H2
            have HhF := Lib.hid hF
            clear hF
            have hn2 := cnt_le L
            by_cases hc : cnt k < cnt L
            · go_wp2_with (first | (go_at_call 14; refine (Calls.later m (specIsGraph_any _ _ _ _ _ (hr.later m) hrl)).mono ?_; rintro e w' ⟨rfl, m, rfl⟩) | (go_at_call 29; refine (Calls.later m (hIS m)).mono ?_; rintro e w' ⟨rfl, m, rfl⟩) | (go_at_call 23; refine (Calls.later m (specCount_any _ (by omega) _)).mono ?_; rintro e w' ⟨rfl, m, rfl⟩))
              go_roundw
              case rel => exact ⟨⟨m, rfl⟩, k + 1, by omega, by rw [H1.out hp (.inr hc)], by go_num⟩
              case measure => simp [intOf]; omega
            · go_wp2_with (first | (go_at_call 14; refine (Calls.later m (specIsGraph_any _ _ _ _ _ (hr.later m) hrl)).mono ?_; rintro e w' ⟨rfl, m, rfl⟩) | (go_at_call 29; refine (Calls.later m (hIS m)).mono ?_; rintro e w' ⟨rfl, m, rfl⟩) | (go_at_call 23; refine (Calls.later m (specCount_any _ (by omega) _)).mono ?_; rintro e w' ⟨rfl, m, rfl⟩))
              go_roundw
              case rel => exact ⟨⟨m, rfl⟩, k + 1, by omega, by rw [H2.out hc], by go_num⟩
              case measure => simp [intOf]; omega
      · go_wp2_with (first | (go_at_call 14; refine (Calls.later m (specIsGraph_any _ _ _ _ _ (hr.later m) hrl)).mono ?_; rintro e w' ⟨rfl, m, rfl⟩))
        go_ret
        obtain rfl : k = T := by omega
        exact ⟨retI (by rw [HhP.out, HE.out]), below_later HhB.out m⟩

end Go.Proofs.Ytgklgheaojoimaa
