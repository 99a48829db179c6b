/-
  FindSun of the reference. For at most 2^20 rows.
-/
import Derived.Test.YtgklgheaojoimaaPkLawStrong32
import Derived.Deep.RegionHeld3
import Derived.Deep.CutRange
namespace Go.Proofs.Ytgklgheaojoimaa
open Go.RowKit

set_option maxRecDepth 100000 in
set_option maxHeartbeats 4000000 in
theorem l22Search_any (rs : List Int) (ro : Option Addr) (rc : Nat) (hv : isGraphB rs.length rs = true) : ∀ (f : Nat) (l : List Int) (n lc : Nat) (la : Addr) (w : World), l.length + f = 6 → n = l.length → n ≤ lc → IntsAt w ro rs → IntsAt w (some la) l → (∀ k, k < l.length → 0 ≤ gi l k ∧ gi l k < rs.length) →
    Calls Try.prog 116 #[.agg #[.int .i64 rs.length, .slice ro rs.length rc], .slice (some la) n lc] w (RetDC w f (dfs (fun l => sunMay rs l) (fun l => sunB rs.length rs l) rs.length f l)) := by
  have g := (VG.of hv).2
  have hg1 := g.pos
  have hg2 := g.le
  intro f
  induction f with
  | zero =>
    intro l n lc la w hlf hn hnc hr hl hV
    subst hn
    have hN : ((l.length : Int) == 6) = true := by rw [beq_iff_eq]; omega
    have HD : Hid (dfs (fun l => sunMay rs l) (fun l => sunB rs.length rs l) rs.length 0 l = if sunB rs.length rs l = true then some l else none) := rfl
    clear hV
    have Hhlf := Lib.hid hlf
    clear hlf
    have Hhnc := Lib.hid hnc
    clear hnc
    go_enter Try.func116, Try.ntmps116
    go_wp2_with fail
    generalize hW : w.alloc _ = W1
    obtain ⟨hB, -, k0⟩ := alloc1 hW
    replace hr := hr.below hB
    replace hl := hl.below hB
    have hb0 := k0.lt
    have hc0 := k0.cell 0
    have hc1 := k0.cell 1
    simp at hc0 hc1
    clear hW k0
    have HhB := Lib.hid hB
    clear hB
    obtain ⟨m, hm0⟩ : ∃ m : Later W1, m.w = W1 := ⟨Later.refl _, rfl⟩
    refine (fun h => hm0 ▸ h) ?_
    clear hm0
    go_wp2_with (first | (go_at_call 46; refine (Calls.later m (specIsSun_any _ _ _ _ _ _ _ _ (hr.later m) (by omega) (hl.later m) (by have := Hhlf.out; omega))).mono ?_; rintro e w' ⟨rfl, m, rfl⟩))
    go_ret2
    rw [HD.out]
    refine ⟨some la, lc, l, ?_, below_later HhB.out m, hl.later m, ?_, fun h => absurd h (by omega), Hhnc.out⟩
    · cases sunB rs.length rs l <;> rfl
    · intro x hx
      split at hx
      · exact Option.some.inj hx
      · cases hx
  | succ f ih =>
    intro l n lc la w hlf hn hnc hr hl hV
    subst hn
    clear hnc
    have hN : ((l.length : Int) == 6) = false := by rw [beq_eq_false_iff_ne]; omega
    have hl5 : l.length ≤ 5 := by omega
    have Hih := Lib.hid ih
    clear ih
    have Hhlf := Lib.hid hlf
    clear hlf
    have HhV := Lib.hid hV
    clear hV
    go_enter Try.func116, Try.ntmps116
    go_wp2_with fail
    generalize hW : w.alloc _ = W1
    obtain ⟨hB, -, k0⟩ := alloc1 hW
    replace hr := hr.below hB
    replace hl := hl.below hB
    have hb0 := k0.lt
    have hc0 := k0.cell 0
    have hc1 := k0.cell 1
    simp at hc0 hc1
    clear hW k0
    have HhB := Lib.hid hB
    clear hB
    obtain ⟨m, hm0⟩ : ∃ m : Later W1, m.w = W1 := ⟨Later.refl _, rfl⟩
    refine (fun h => hm0 ▸ h) ?_
    clear hm0
    go_wp2_with fail
    go_loopw [6] (fun i wr => (∃ m : Later W1, wr = m.w) ∧ ∃ j : Nat, j ≤ rs.length ∧ i = .int .i64 j ∧ preF (flStep (flRun (S := Unit) (fun _ l => ((), sunB rs.length rs l)) (fun l => sunMay rs l) rs.length f) (fun l => sunMay rs l) l) ((), none) j = (((), none), true)) (fun i _ => rs.length - (intOf i).toNat)
    case atStart => exact ⟨⟨m, rfl⟩, 0, by omega, rfl, rfl⟩
    case round =>
      obtain ⟨⟨m, rfl⟩, j, hj, rfl, hP⟩ := hrel
      have HhP := Lib.hid hP
      clear hP
      by_cases hlt : j < rs.length
      · have hH := fun m : Later W1 => l8Has_any l (j : Int) (some la) l.length lc m.w (hl.later m) rfl (by omega)
        have hx : (l ++ [(j : Int)]).length = l.length + 1 := by simp
        have HM : Hid (sunMay rs (l ++ [(j : Int)]) = !((decide (l.length < 3) && decide (0 < l.length)) && !(gn rs (gi (l ++ [(j : Int)]) 0).toNat).testBit j)) := by
          show sunMay rs (l ++ [(j : Int)]) = _
          unfold sunMay
          rw [hx, show l.length + 1 - 1 = l.length from rfl, gi_last, Int.toNat_natCast]
          have e1 : decide (l.length + 1 < 4) = decide (l.length < 3) := decide_eq_decide.2 (by omega)
          have e2 : decide (1 < l.length + 1) = decide (0 < l.length) := decide_eq_decide.2 (by omega)
          rw [e1, e2]
        have Hhx := Lib.hid hx
        clear hx
        go_wp2_with fail
        go_cut [43] from 16 to 56 (fun c wx => (∃ m : Later W1, wx = m.w) ∧ c = .bool (inB l (j : Int) || !sunMay rs (l ++ [(j : Int)])))
        case first =>
          cases hc : inB l (j : Int)
          · simp only [hc] at hH
            by_cases h3 : l.length < 3
            · have d3 : decide ((l.length : Int) < 3) = true := decide_eq_true (by omega)
              by_cases h0 : 0 < l.length
              · have d0 : decide ((0 : Int) < (l.length : Int)) = true := decide_eq_true (by omega)
                obtain ⟨lb, lofs, hla, hlb, hlc⟩ := hl h0
                simp only [Option.some.injEq] at hla
                subst hla
                have hc0' := hlc 0 h0
                simp only [Nat.add_zero] at hc0'
                obtain ⟨u, hu⟩ : ∃ u : Nat, gi l 0 = u := ⟨(gi l 0).toNat, by have := HhV.out 0 h0; omega⟩
                have hu2 : u < rs.length := by have := HhV.out 0 h0; omega
                have HU : Hid (gi (l ++ [(j : Int)]) 0 = (u : Int)) := (gi_left h0).trans hu
                rw [hu] at hc0'
                have hA := fun m : Later W1 => l2Edge_any rs u j ro rc m.w (hr.later m) g hu2 hlt
                clear hlc hu
                cases he : (gn rs u).testBit j
                all_goals
                  simp only [he] at hA
                  refine wp_region_later m rfl (by kernel_rfl) (by kernel_rfl) ?_
                  repeat (go_big_quiet_step ((first | (go_at_call 149; exact Calls.later_same _ (hH _)) | (go_at_call 99; exact Calls.later _ (hA _)))))
                  refine wpQuiet_nil ?_
                  rintro _ ⟨m, rfl⟩
                  go_wp2_with fail
                  go_meet
                  exact ⟨⟨m, rfl⟩, congrArg Value.bool (by rw [hc, HM.out, HU.out, Int.toNat_natCast, he, decide_eq_true h3, decide_eq_true h0]; rfl)⟩
              · have d0 : decide ((0 : Int) < (l.length : Int)) = false := decide_eq_false (by omega)
                refine wp_region_later m rfl (by kernel_rfl) (by kernel_rfl) ?_
                repeat (go_big_quiet_step ((first | (go_at_call 149; exact Calls.later_same _ (hH _)))))
                refine wpQuiet_nil ?_
                rintro _ ⟨m, rfl⟩
                go_wp2_with fail
                go_meet
                exact ⟨⟨m, rfl⟩, congrArg Value.bool (by rw [hc, HM.out, decide_eq_true h3, decide_eq_false h0]; rfl)⟩
            · have d3 : decide ((l.length : Int) < 3) = false := decide_eq_false (by omega)
              refine wp_region_later m rfl (by kernel_rfl) (by kernel_rfl) ?_
              repeat (go_big_quiet_step ((first | (go_at_call 149; exact Calls.later_same _ (hH _)))))
              refine wpQuiet_nil ?_
              rintro _ ⟨m, rfl⟩
              go_wp2_with fail
              go_meet
              exact ⟨⟨m, rfl⟩, congrArg Value.bool (by rw [hc, HM.out, decide_eq_false h3]; rfl)⟩
          · simp only [hc] at hH
            refine wp_region_later m rfl (by kernel_rfl) (by kernel_rfl) ?_
            repeat (go_big_quiet_step ((first | (go_at_call 149; exact Calls.later_same _ (hH _)))))
            refine wpQuiet_nil ?_
            rintro _ ⟨m, rfl⟩
            go_wp2_with fail
            go_meet
            exact ⟨⟨m, rfl⟩, congrArg Value.bool (by rw [hc]; rfl)⟩
        case rest =>
          obtain ⟨⟨m, rfl⟩, rfl⟩ := hcut
          cases hb : (inB l (j : Int) || !sunMay rs (l ++ [(j : Int)]))
          · have hb1 : inB l (j : Int) = false ∧ sunMay rs (l ++ [(j : Int)]) = true := by simpa using hb
            have HG := (preF_go HhP.out).trans (flStep_dfs (q := fun l => sunB rs.length rs l) (N := rs.length) (f := f) hb1.1 hb1.2 rfl)
            have hih := fun (n lc : Nat) (la : Addr) (w : World) (h1 : n = (l ++ [(j : Int)]).length) h2 (h3 : OwnE w W1.heap.size (some la) lc (l ++ [(j : Int)])) => Hih.out (l ++ [(j : Int)]) n lc la w (by have := Hhlf.out; have := Hhx.out; omega) h1 (by rw [h1]; exact h3.cap_le) h2 h3.ints (fun k hk => by
              by_cases e : k < l.length
              · rw [gi_left e]; exact HhV.out k e
              · obtain rfl : k = l.length := by have := Hhx.out; omega
                rw [gi_last]; omega)
            generalize dfs (fun l => sunMay rs l) (fun l => sunB rs.length rs l) rs.length f (l ++ [(j : Int)]) = O at *
            have Hhih := Lib.hid hih
            clear hih
            have HHG := Lib.hid HG
            clear HG
            clear hb1
            have hS' : ∀ w', Below W1.heap.size W1 w' → Below W1.heap.size W1 w' ∧ w'.cell? ⟨w.heap.size, 0, none⟩ = some (.int .i64 rs.length) ∧ w'.cell? ⟨w.heap.size, 1, none⟩ = some (.slice ro rs.length rc) := fun w' h => ⟨h, (h.cell hb0).trans hc0, (h.cell hb0).trans hc1⟩
            go_wp2_with fail
            rcases O with _ | x
            · go_region_held3 (fun w' => Below W1.heap.size W1 w' ∧ w'.cell? ⟨w.heap.size, 0, none⟩ = some (.int .i64 rs.length) ∧ w'.cell? ⟨w.heap.size, 1, none⟩ = some (.slice ro rs.length rc))
                (exact hS' _ (by first | exact m.below.drew | assumption | exact Below.alloc (And.left (by assumption : Below W1.heap.size W1 _ ∧ _)) (And.left (by assumption : Below W1.heap.size W1 _ ∧ _)).size _))
                (first
                  | ((refine step_append_copy (by rfl) (.tmp 46) (.tmp 47) (by rfl) W1.heap.size _ la l lc (by rfl) (by rfl) (hl.below (And.left (by assumption : Below W1.heap.size W1 _ ∧ _))) (And.left (by assumption : Below W1.heap.size W1 _ ∧ _)).size (by omega) ?_); intro ao1 cap1 w1 hne1 hown1 hBw1; have hB2 : Below W1.heap.size W1 w1 := below_more (And.left (by assumption : Below W1.heap.size W1 _ ∧ _)) hBw1)
                  | ((refine step_append_e (by rfl) (.tmp 48) (.tmp 50) (by rfl) W1.heap.size cap1 ao1 l (j : Int) _ (by rfl) (by first | exact hown1 | exact hown1.below ((Below.refl _ _).alloc (Nat.le_refl _) _)) (by rfl) (by first | exact cell_new (by simp) | exact (hBw1.cell (by first | (simp; done) | (simp; omega))).trans (cell_new (by simp)) | exact (hBw1.cell (by first | (simp; done) | (simp; omega))).trans (cell_new2 (by simp))) (And.left (by assumption : Below W1.heap.size W1 _ ∧ _)).size (by omega) ?_); intro ao2 cap2 w2 hown2 hBw2; obtain ⟨lb2, lo2, rfl, -, -⟩ := hown2.ints (by simp); have hB3 : Below W1.heap.size W1 w2 := (And.left (by assumption : Below W1.heap.size W1 _ ∧ _)).trans hBw2)
                  | (go_at_call 116; go_must (refine (Hhih.out _ _ _ _ (by simp) (hr.below (And.left (by assumption : Below W1.heap.size W1 _ ∧ _))) (by first | exact hown2.ints | exact hown2)).mono ?_); rintro e w3 ⟨ao3, cap3, xs3, rfl, hB4, hI4, hE4, hN4, hC4⟩; have hB5 := below_more (And.left (by assumption : Below W1.heap.size W1 _ ∧ _)) hB4; dsimp only))
              all_goals
                clear hS' hl hr hI4 hE4 hN4 hC4
                go_wp2_with fail
                go_roundw
                case rel => exact ⟨⟨⟨w3, hB5⟩, rfl⟩, j + 1, by omega, by go_num, HHG.out⟩
                case measure => simp [intOf]; omega
            · have HE := Lib.hid (dfs_hit hlt HHG.out)
              go_region_held3 (fun w' => Below W1.heap.size W1 w' ∧ w'.cell? ⟨w.heap.size, 0, none⟩ = some (.int .i64 rs.length) ∧ w'.cell? ⟨w.heap.size, 1, none⟩ = some (.slice ro rs.length rc))
                (exact hS' _ (by first | exact m.below.drew | assumption | exact Below.alloc (And.left (by assumption : Below W1.heap.size W1 _ ∧ _)) (And.left (by assumption : Below W1.heap.size W1 _ ∧ _)).size _))
                (first
                  | ((refine step_append_copy (by rfl) (.tmp 46) (.tmp 47) (by rfl) W1.heap.size _ la l lc (by rfl) (by rfl) (hl.below (And.left (by assumption : Below W1.heap.size W1 _ ∧ _))) (And.left (by assumption : Below W1.heap.size W1 _ ∧ _)).size (by omega) ?_); intro ao1 cap1 w1 hne1 hown1 hBw1; have hB2 : Below W1.heap.size W1 w1 := below_more (And.left (by assumption : Below W1.heap.size W1 _ ∧ _)) hBw1)
                  | ((refine step_append_e (by rfl) (.tmp 48) (.tmp 50) (by rfl) W1.heap.size cap1 ao1 l (j : Int) _ (by rfl) (by first | exact hown1 | exact hown1.below ((Below.refl _ _).alloc (Nat.le_refl _) _)) (by rfl) (by first | exact cell_new (by simp) | exact (hBw1.cell (by first | (simp; done) | (simp; omega))).trans (cell_new (by simp)) | exact (hBw1.cell (by first | (simp; done) | (simp; omega))).trans (cell_new2 (by simp))) (And.left (by assumption : Below W1.heap.size W1 _ ∧ _)).size (by omega) ?_); intro ao2 cap2 w2 hown2 hBw2; obtain ⟨lb2, lo2, rfl, -, -⟩ := hown2.ints (by simp); have hB3 : Below W1.heap.size W1 w2 := (And.left (by assumption : Below W1.heap.size W1 _ ∧ _)).trans hBw2)
                  | (go_at_call 116; go_must (refine (Hhih.out _ _ _ _ (by simp) (hr.below (And.left (by assumption : Below W1.heap.size W1 _ ∧ _))) (by first | exact hown2.ints | exact hown2)).mono ?_); rintro e w3 ⟨ao3, cap3, xs3, rfl, hB4, hI4, hE4, hN4, hC4⟩; have hB5 := below_more (And.left (by assumption : Below W1.heap.size W1 _ ∧ _)) hB4; dsimp only))
              all_goals
                clear hS' hl hr hN4
                obtain rfl := hE4 _ rfl
                have HhI4 := Lib.hid hI4
                clear hI4
                have HhC4 := Lib.hid hC4
                clear hC4
                go_wp2_with fail
                go_ret2
                rw [HE.out]
                exact ⟨ao3, cap3, _, rfl, below_more' HhB.out hB5, HhI4.out, fun x h => Option.some.inj h, (fun _ h => by cases h), HhC4.out⟩
          · have HS := Lib.hid ((preF_go HhP.out).trans (flStep_skip (v := j) (by simpa using hb)))
            go_wp2_with fail
            go_roundw
            case rel => exact ⟨⟨m, rfl⟩, j + 1, by omega, by go_num, HS.out⟩
            case measure => simp [intOf]; omega
      · obtain rfl : j = rs.length := by omega
        have HE := Lib.hid (dfs_none HhP.out)
        go_wp2_with fail
        go_ret2
        rw [HE.out]
        exact ⟨_, _, [], rfl, (below_later HhB.out m).alloc (below_later HhB.out m).size _, fun h => absurd h (by simp), fun x h => absurd h (by simp), fun _ _ => rfl, Nat.zero_le _⟩

set_option maxRecDepth 100000 in
set_option maxHeartbeats 1000000 in
theorem specFindSunC_any (n : Int) (rs : List Int) (ro : Option Addr) (rc : Nat) (w : World) (hr : IntsAt w ro rs) (hrl : rs.length ≤ 1048576) :
    Calls Try.prog 40 #[.agg #[.int .i64 n, .slice ro rs.length rc]] w (RetIC w (sunV n rs)) := by
  go_enter Try.func40, Try.ntmps40
  go_wp2_with fail
  generalize hW : w.alloc _ = W1
  obtain ⟨hB, -, k0⟩ := alloc1 hW
  replace hr := hr.below hB
  have hb0 := k0.lt
  have hc0 := k0.cell 0
  have hc1 := k0.cell 1
  simp at hc0 hc1
  clear hW k0
  have HhB := Lib.hid hB
  clear hB
  obtain ⟨m, hm0⟩ : ∃ m : Later W1, m.w = W1 := ⟨Later.refl _, rfl⟩
  refine (fun h => hm0 ▸ h) ?_
  clear hm0
  cases hv : isGraphB n rs
  · have HE := Lib.hid (sunV_no hv)
    go_wp2_with (first | (go_at_call 14; refine (Calls.later m (specIsGraph_any _ _ _ _ _ (hr.later m) hrl)).mono ?_; rintro e w' ⟨rfl, m, rfl⟩))
    go_ret2
    exact ⟨_, _, by rw [HE.out]; rfl, (below_later HhB.out m).alloc (below_later HhB.out m).size _, by rw [HE.out]; exact fun h => absurd h (by simp), by rw [HE.out]; exact Nat.zero_le _⟩
  · obtain ⟨rfl, g⟩ := VG.of hv
    have HE := Lib.hid (sunV_spec hv)
    go_wp2_with (first | (go_at_call 14; refine (Calls.later m (specIsGraph_any _ _ _ _ _ (hr.later m) hrl)).mono ?_; rintro e w' ⟨rfl, m, rfl⟩; have hbm := Nat.lt_of_lt_of_le hb0 m.size))
    generalize hW2 : m.w.alloc (.cells #[] 3) = W2
    obtain ⟨hB2, -, -⟩ := alloc1 hW2
    refine (l22Search_any rs ro rc hv 6 [] 0 0 ⟨m.w.heap.size, 0, none⟩ W2 rfl rfl (Nat.le_refl _) ((hr.later m).below hB2) (fun h => absurd h (by simp)) (fun k h => absurd h (by simp))).mono ?_
    rintro e w3 hD
    obtain ⟨ao, cap, rfl, hB3, hI, hC⟩ := hD.top (by omega)
    have hB4 : Below w.heap.size w w3 := (below_later HhB.out m).trans (((below_more' hB2 hB3)).mono (Nat.le_of_lt hbm))
    rw [← HE.out] at hI hC ⊢
    have HhB4 := Lib.hid hB4
    clear hB4
    have HhI := Lib.hid hI
    clear hI
    have HhC := Lib.hid hC
    clear hC
    go_wp2_with fail
    go_ret2
    exact ⟨ao, cap, rfl, HhB4.out, HhI.out, HhC.out⟩
theorem specFindSun_any (n : Int) (rs : List Int) (ro : Option Addr) (rc : Nat) (w : World) (hr : IntsAt w ro rs) (hrl : rs.length ≤ 1048576) :
    Calls Try.prog 40 #[.agg #[.int .i64 n, .slice ro rs.length rc]] w (RetI w (sunV n rs)) :=
  (specFindSunC_any n rs ro rc w hr hrl).mono fun _ _ ⟨ao, cap, h1, h2, h3, _⟩ => ⟨ao, cap, h1, h2, h3⟩

end Go.Proofs.Ytgklgheaojoimaa
