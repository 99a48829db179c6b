/-
  FindOddCycle on both sides. For at most 2^20 rows.
-/
import Derived.Test.YtgklgheaojoimaaPk24
import Derived.Test.YtgklgheaojoimaaPk25
import Derived.Deep.RegionHeld3
import Derived.Deep.CutRange
namespace Go.Proofs.Ytgklgheaojoimaa
open Go.RowKit

set_option maxRecDepth 100000 in
set_option maxHeartbeats 4000000 in
theorem l20Search_any (rs : List Int) (ro : Option Addr) (rc : Nat) (hv : isGraphB rs.length rs = true) (kk : Nat) (hk7 : kk ≤ 7) : ∀ (f : Nat) (l : List Int) (n lc : Nat) (la : Addr) (w : World), l.length + f = kk → n = l.length → n ≤ lc → IntsAt w ro rs → IntsAt w (some la) l → (∀ k, k < l.length → 0 ≤ gi l k ∧ gi l k < rs.length) →
    Calls Try.prog 83 #[.agg #[.int .i64 rs.length, .slice ro rs.length rc], .slice (some la) n lc, .int .i64 kk] w (RetDC w f (dfs (fun l => oddMay rs l) (fun l => oddB rs.length rs l) rs.length f l)) := by
  have g := (VG.of hv).2
  have hg1 := g.pos
  have hg2 := g.le
  intro f
  induction f with
  | zero =>
    intro l n lc la w hlf hn hnc hr hl hV
    subst hn
    have hN : ((l.length : Int) == (kk : Int)) = true := by rw [beq_iff_eq]; omega
    have HD : Hid (dfs (fun l => oddMay rs l) (fun l => oddB rs.length rs l) rs.length 0 l = if oddB rs.length rs l = true then some l else none) := rfl
    clear hV
    have Hhlf := Lib.hid hlf
    clear hlf
    have Hhnc := Lib.hid hnc
    clear hnc
    go_enter Try.func83, Try.ntmps83
    go_wp2_with fail
    generalize hW : w.alloc _ = W1
    obtain ⟨hB, -, k0⟩ := alloc1 hW
    replace hr := hr.below hB
    replace hl := hl.below hB
    have hb0 := k0.lt
    have hc0 := k0.cell 0
    have hc1 := k0.cell 1
    simp at hc0 hc1
    clear hW k0
    have HhB := Lib.hid hB
    clear hB
    obtain ⟨m, hm0⟩ : ∃ m : Later W1, m.w = W1 := ⟨Later.refl _, rfl⟩
    refine (fun h => hm0 ▸ h) ?_
    clear hm0
    go_wp2_with (first | (go_at_call 27; refine (Calls.later m (specIsOddCycle_any _ _ _ _ _ _ _ _ (hr.later m) (by omega) (hl.later m) (by have := Hhlf.out; omega))).mono ?_; rintro e w' ⟨rfl, m, rfl⟩))
    go_ret2
    rw [HD.out]
    refine ⟨some la, lc, l, ?_, below_later HhB.out m, hl.later m, ?_, fun h => absurd h (by omega), Hhnc.out⟩
    · cases oddB rs.length rs l <;> rfl
    · intro x hx
      split at hx
      · exact Option.some.inj hx
      · cases hx
  | succ f ih =>
    intro l n lc la w hlf hn hnc hr hl hV
    subst hn
    have hN : ((l.length : Int) == (kk : Int)) = false := by rw [beq_eq_false_iff_ne]; omega
    have hl5 : l.length ≤ 6 := by omega
    clear hnc
    have Hih := Lib.hid ih
    clear ih
    have Hhlf := Lib.hid hlf
    clear hlf
    have HhV := Lib.hid hV
    clear hV
    go_enter Try.func83, Try.ntmps83
    go_wp2_with fail
    generalize hW : w.alloc _ = W1
    obtain ⟨hB, -, k0⟩ := alloc1 hW
    replace hr := hr.below hB
    replace hl := hl.below hB
    have hb0 := k0.lt
    have hc0 := k0.cell 0
    have hc1 := k0.cell 1
    simp at hc0 hc1
    clear hW k0
    have HhB := Lib.hid hB
    clear hB
    obtain ⟨m, hm0⟩ : ∃ m : Later W1, m.w = W1 := ⟨Later.refl _, rfl⟩
    refine (fun h => hm0 ▸ h) ?_
    clear hm0
    go_wp2_with fail
    go_loopw [8] (fun i wr => (∃ m : Later W1, wr = m.w) ∧ ∃ j : Nat, j ≤ rs.length ∧ i = .int .i64 j ∧ preF (flStep (flRun (S := Unit) (fun _ l => ((), oddB rs.length rs l)) (fun l => oddMay rs l) rs.length f) (fun l => oddMay rs l) l) ((), none) j = (((), none), true)) (fun i _ => rs.length - (intOf i).toNat)
    case atStart => exact ⟨⟨m, rfl⟩, 0, by omega, rfl, rfl⟩
    case round =>
      obtain ⟨⟨m, rfl⟩, j, hj, rfl, hP⟩ := hrel
      have HhP := Lib.hid hP
      clear hP
      by_cases hlt : j < rs.length
      · have hH := fun m : Later W1 => l8Has_any l (j : Int) (some la) l.length lc m.w (hl.later m) rfl (by omega)
        have hx : (l ++ [(j : Int)]).length = l.length + 1 := by simp
        have HM : Hid (oddMay rs (l ++ [(j : Int)]) = !(decide (0 < l.length) && !(gn rs (gi (l ++ [(j : Int)]) (l.length - 1)).toNat).testBit j)) := by
          show oddMay rs (l ++ [(j : Int)]) = _
          unfold oddMay
          rw [hx, show l.length + 1 - 1 = l.length from rfl, show l.length + 1 - 2 = l.length - 1 from rfl, gi_last, Int.toNat_natCast]
          have e2 : decide (1 < l.length + 1) = decide (0 < l.length) := decide_eq_decide.2 (by omega)
          rw [e2]
        have Hhx := Lib.hid hx
        clear hx
        go_wp2_with fail
        go_cut [44] from 19 to 58 (fun c wx => (∃ m : Later W1, wx = m.w) ∧ c = .bool (inB l (j : Int) || !oddMay rs (l ++ [(j : Int)])))
        case first =>
          cases hc : inB l (j : Int)
          · simp only [hc] at hH
            by_cases h0 : 0 < l.length
            · have d0 : decide ((0 : Int) < (l.length : Int)) = true := decide_eq_true (by omega)
              obtain ⟨lb, lofs, hla, hlb, hlc⟩ := hl h0
              simp only [Option.some.injEq] at hla
              subst hla
              have hp : l.length - 1 < l.length := by omega
              have hc0' := hlc (l.length - 1) hp
              obtain ⟨u, hu⟩ : ∃ u : Nat, gi l (l.length - 1) = u := ⟨(gi l (l.length - 1)).toNat, by have := HhV.out _ hp; omega⟩
              have hu2 : u < rs.length := by have := HhV.out _ hp; omega
              have HU : Hid (gi (l ++ [(j : Int)]) (l.length - 1) = (u : Int)) := (gi_left hp).trans hu
              rw [hu] at hc0'
              have hsub : (l.length : Int) - 1 = ((l.length - 1 : Nat) : Int) := by omega
              have hA := fun m : Later W1 => l2Edge_any rs u j ro rc m.w (hr.later m) g hu2 hlt
              clear hlc hu
              generalize l.length - 1 = y at *
              cases he : (gn rs u).testBit j
              all_goals
                simp only [he] at hA
                refine wp_region_later m rfl (by kernel_rfl) (by kernel_rfl) ?_
                repeat (go_big_quiet_step ((first | (go_at_call 149; exact Calls.later_same _ (hH _)) | (go_at_call 99; exact Calls.later _ (hA _)))))
                refine wpQuiet_nil ?_
                rintro _ ⟨m, rfl⟩
                go_wp2_with fail
                go_meet
                exact ⟨⟨m, rfl⟩, congrArg Value.bool (by rw [hc, HM.out, HU.out, Int.toNat_natCast, he, decide_eq_true h0]; rfl)⟩
            · have d0 : decide ((0 : Int) < (l.length : Int)) = false := decide_eq_false (by omega)
              refine wp_region_later m rfl (by kernel_rfl) (by kernel_rfl) ?_
              repeat (go_big_quiet_step ((first | (go_at_call 149; exact Calls.later_same _ (hH _)))))
              refine wpQuiet_nil ?_
              rintro _ ⟨m, rfl⟩
              go_wp2_with fail
              go_meet
              exact ⟨⟨m, rfl⟩, congrArg Value.bool (by rw [hc, HM.out, decide_eq_false h0]; rfl)⟩
          · simp only [hc] at hH
            refine wp_region_later m rfl (by kernel_rfl) (by kernel_rfl) ?_
            repeat (go_big_quiet_step ((first | (go_at_call 149; exact Calls.later_same _ (hH _)))))
            refine wpQuiet_nil ?_
            rintro _ ⟨m, rfl⟩
            go_wp2_with fail
            go_meet
            exact ⟨⟨m, rfl⟩, congrArg Value.bool (by rw [hc]; rfl)⟩
        case rest =>
          obtain ⟨⟨m, rfl⟩, rfl⟩ := hcut
          cases hb : (inB l (j : Int) || !oddMay rs (l ++ [(j : Int)]))
          · have hb1 : inB l (j : Int) = false ∧ oddMay rs (l ++ [(j : Int)]) = true := by simpa using hb
            have HG := (preF_go HhP.out).trans (flStep_dfs (q := fun l => oddB rs.length rs l) (N := rs.length) (f := f) hb1.1 hb1.2 rfl)
            have hih := fun (n lc : Nat) (la : Addr) (w : World) (h1 : n = (l ++ [(j : Int)]).length) h2 (h3 : OwnE w W1.heap.size (some la) lc (l ++ [(j : Int)])) => Hih.out (l ++ [(j : Int)]) n lc la w (by have := Hhlf.out; have := Hhx.out; omega) h1 (by rw [h1]; exact h3.cap_le) h2 h3.ints (fun k hk => by
              by_cases e : k < l.length
              · rw [gi_left e]; exact HhV.out k e
              · obtain rfl : k = l.length := by have := Hhx.out; omega
                rw [gi_last]; omega)
            generalize dfs (fun l => oddMay rs l) (fun l => oddB rs.length rs l) rs.length f (l ++ [(j : Int)]) = O at *
            have Hhih := Lib.hid hih
            clear hih
            have HHG := Lib.hid HG
            clear HG
            clear hb1
            have hS' : ∀ w', Below W1.heap.size W1 w' → Below W1.heap.size W1 w' ∧ w'.cell? ⟨w.heap.size, 0, none⟩ = some (.int .i64 rs.length) ∧ w'.cell? ⟨w.heap.size, 1, none⟩ = some (.slice ro rs.length rc) := fun w' h => ⟨h, (h.cell hb0).trans hc0, (h.cell hb0).trans hc1⟩
            go_wp2_with fail
            rcases O with _ | x
            · go_region_held3 (fun w' => Below W1.heap.size W1 w' ∧ w'.cell? ⟨w.heap.size, 0, none⟩ = some (.int .i64 rs.length) ∧ w'.cell? ⟨w.heap.size, 1, none⟩ = some (.slice ro rs.length rc))
                (exact hS' _ (by first | exact m.below.drew | assumption | exact Below.alloc (And.left (by assumption : Below W1.heap.size W1 _ ∧ _)) (And.left (by assumption : Below W1.heap.size W1 _ ∧ _)).size _))
                (first
                  | ((refine step_append_copy (by rfl) (.tmp 47) (.tmp 48) (by rfl) W1.heap.size _ la l lc (by rfl) (by rfl) (hl.below (And.left (by assumption : Below W1.heap.size W1 _ ∧ _))) (And.left (by assumption : Below W1.heap.size W1 _ ∧ _)).size (by omega) ?_); intro ao1 cap1 w1 hne1 hown1 hBw1; have hB2 : Below W1.heap.size W1 w1 := below_more (And.left (by assumption : Below W1.heap.size W1 _ ∧ _)) hBw1)
                  | ((refine step_append_e (by rfl) (.tmp 49) (.tmp 51) (by rfl) W1.heap.size cap1 ao1 l (j : Int) _ (by rfl) (by first | exact hown1 | exact hown1.below ((Below.refl _ _).alloc (Nat.le_refl _) _)) (by rfl) (by first | exact cell_new (by simp) | exact (hBw1.cell (by first | (simp; done) | (simp; omega))).trans (cell_new (by simp)) | exact (hBw1.cell (by first | (simp; done) | (simp; omega))).trans (cell_new2 (by simp))) (And.left (by assumption : Below W1.heap.size W1 _ ∧ _)).size (by omega) ?_); intro ao2 cap2 w2 hown2 hBw2; obtain ⟨lb2, lo2, rfl, -, -⟩ := hown2.ints (by simp); have hB3 : Below W1.heap.size W1 w2 := (And.left (by assumption : Below W1.heap.size W1 _ ∧ _)).trans hBw2)
                  | (go_at_call 83; go_must (refine (Hhih.out _ _ _ _ (by simp) (hr.below (And.left (by assumption : Below W1.heap.size W1 _ ∧ _))) (by first | exact hown2.ints | exact hown2)).mono ?_); rintro e w3 ⟨ao3, cap3, xs3, rfl, hB4, hI4, hE4, hN4, hC4⟩; have hB5 := below_more (And.left (by assumption : Below W1.heap.size W1 _ ∧ _)) hB4; dsimp only))
              all_goals
                clear hS' hl hr hI4 hE4 hN4 hC4
                go_wp2_with fail
                go_roundw
                case rel => exact ⟨⟨⟨w3, hB5⟩, rfl⟩, j + 1, by omega, by go_num, HHG.out⟩
                case measure => simp [intOf]; omega
            · have HE := Lib.hid (dfs_hit hlt HHG.out)
              go_region_held3 (fun w' => Below W1.heap.size W1 w' ∧ w'.cell? ⟨w.heap.size, 0, none⟩ = some (.int .i64 rs.length) ∧ w'.cell? ⟨w.heap.size, 1, none⟩ = some (.slice ro rs.length rc))
                (exact hS' _ (by first | exact m.below.drew | assumption | exact Below.alloc (And.left (by assumption : Below W1.heap.size W1 _ ∧ _)) (And.left (by assumption : Below W1.heap.size W1 _ ∧ _)).size _))
                (first
                  | ((refine step_append_copy (by rfl) (.tmp 47) (.tmp 48) (by rfl) W1.heap.size _ la l lc (by rfl) (by rfl) (hl.below (And.left (by assumption : Below W1.heap.size W1 _ ∧ _))) (And.left (by assumption : Below W1.heap.size W1 _ ∧ _)).size (by omega) ?_); intro ao1 cap1 w1 hne1 hown1 hBw1; have hB2 : Below W1.heap.size W1 w1 := below_more (And.left (by assumption : Below W1.heap.size W1 _ ∧ _)) hBw1)
                  | ((refine step_append_e (by rfl) (.tmp 49) (.tmp 51) (by rfl) W1.heap.size cap1 ao1 l (j : Int) _ (by rfl) (by first | exact hown1 | exact hown1.below ((Below.refl _ _).alloc (Nat.le_refl _) _)) (by rfl) (by first | exact cell_new (by simp) | exact (hBw1.cell (by first | (simp; done) | (simp; omega))).trans (cell_new (by simp)) | exact (hBw1.cell (by first | (simp; done) | (simp; omega))).trans (cell_new2 (by simp))) (And.left (by assumption : Below W1.heap.size W1 _ ∧ _)).size (by omega) ?_); intro ao2 cap2 w2 hown2 hBw2; obtain ⟨lb2, lo2, rfl, -, -⟩ := hown2.ints (by simp); have hB3 : Below W1.heap.size W1 w2 := (And.left (by assumption : Below W1.heap.size W1 _ ∧ _)).trans hBw2)
                  | (go_at_call 83; go_must (refine (Hhih.out _ _ _ _ (by simp) (hr.below (And.left (by assumption : Below W1.heap.size W1 _ ∧ _))) (by first | exact hown2.ints | exact hown2)).mono ?_); rintro e w3 ⟨ao3, cap3, xs3, rfl, hB4, hI4, hE4, hN4, hC4⟩; have hB5 := below_more (And.left (by assumption : Below W1.heap.size W1 _ ∧ _)) hB4; dsimp only))
              all_goals
                clear hS' hl hr hN4
                obtain rfl := hE4 _ rfl
                have HhI4 := Lib.hid hI4
                clear hI4
                have HhC4 := Lib.hid hC4
                clear hC4
                go_wp2_with fail
                go_ret2
                rw [HE.out]
                exact ⟨ao3, cap3, _, rfl, below_more' HhB.out hB5, HhI4.out, fun x h => Option.some.inj h, (fun _ h => by cases h), HhC4.out⟩
          · have HS := Lib.hid ((preF_go HhP.out).trans (flStep_skip (v := j) (by simpa using hb)))
            go_wp2_with fail
            go_roundw
            case rel => exact ⟨⟨m, rfl⟩, j + 1, by omega, by go_num, HS.out⟩
            case measure => simp [intOf]; omega
      · obtain rfl : j = rs.length := by omega
        have HE := Lib.hid (dfs_none HhP.out)
        go_wp2_with fail
        go_ret2
        rw [HE.out]
        exact ⟨_, _, [], rfl, (below_later HhB.out m).alloc (below_later HhB.out m).size _, fun h => absurd h (by simp), fun x h => absurd h (by simp), fun _ _ => rfl, Nat.zero_le _⟩

set_option maxRecDepth 100000 in
set_option maxHeartbeats 1000000 in
theorem specFindOddC_any (n : Int) (rs : List Int) (ro : Option Addr) (rc : Nat) (w : World) (hr : IntsAt w ro rs) (hrl : rs.length ≤ 1048576) :
    Calls Try.prog 11 #[.agg #[.int .i64 n, .slice ro rs.length rc]] w (RetIC w (oddV n rs)) := by
  go_enter Try.func11, Try.ntmps11
  go_wp2_with fail
  generalize hW : w.alloc _ = W1
  obtain ⟨hB, -, k0⟩ := alloc1 hW
  replace hr := hr.below hB
  have hb0 := k0.lt
  have hc0 := k0.cell 0
  have hc1 := k0.cell 1
  simp at hc0 hc1
  clear hW k0
  have HhB := Lib.hid hB
  clear hB
  cases hv : isGraphB n rs
  · have HE := Lib.hid (oddV_no hv)
    go_loopw [4] (fun i wr => (∃ m : Later W1, wr = m.w) ∧ i = .int .i64 3) (fun _ _ => 0)
    case atStart => exact ⟨⟨Later.refl _, rfl⟩, rfl⟩
    case round =>
      obtain ⟨⟨m, rfl⟩, rfl⟩ := hrel
      by_cases h3 : 3 ≤ n
      · have d3 : decide (3 ≤ n) = true := decide_eq_true h3
        go_wp2_with (first | (go_at_call 14; refine (Calls.later m (specIsGraph_any n rs ro rc _ (hr.later m) hrl)).mono ?_; rw [hv]; rintro e w' ⟨rfl, m, rfl⟩))
        go_ret2
        exact ⟨_, _, by rw [HE.out]; rfl, (below_later HhB.out m).alloc (below_later HhB.out m).size _, by rw [HE.out]; exact fun h => absurd h (by simp), by rw [HE.out]; exact Nat.zero_le _⟩
      · have d3 : decide (3 ≤ n) = false := decide_eq_false h3
        go_wp2_with fail
        go_ret2
        exact ⟨_, _, by rw [HE.out]; rfl, (below_later HhB.out m).alloc (below_later HhB.out m).size _, by rw [HE.out]; exact fun h => absurd h (by simp), by rw [HE.out]; exact Nat.zero_le _⟩
  · obtain ⟨rfl, g⟩ := VG.of hv
    have hg2 := g.le
    go_loopw [4] (fun i wr => (∃ m : Later W1, wr = m.w) ∧ ∃ k : Nat, k ≤ 3 ∧ i = .int .i64 (3 + 2 * k : Nat) ∧ ∀ j, j < k → (oddAt rs (3 + 2 * j)).isSome = false) (fun i _ => 10 - (intOf i).toNat)
    case atStart => exact ⟨⟨Later.refl _, rfl⟩, 0, by omega, rfl, fun j h => by omega⟩
    case round =>
      obtain ⟨⟨m, rfl⟩, k, hk, rfl, hP⟩ := hrel
      by_cases hlt : 3 + 2 * k ≤ rs.length
      · have d3 : decide (((3 + 2 * k : Nat) : Int) ≤ (rs.length : Int)) = true := decide_eq_true (by omega)
        have HN := Lib.hid (fun h => all_succ (p := fun j => (oddAt rs (3 + 2 * j)).isSome = false) hP h)
        have HH := Lib.hid (fun x h => oddV_hit (x := x) hv hlt hP h)
        have hS := fun (m : Later W1) (W2 : World) (hB2 : Below m.w.heap.size m.w W2) => l20Search_any rs ro rc hv (3 + 2 * k) (by omega) (3 + 2 * k) [] 0 0 ⟨m.w.heap.size, 0, none⟩ W2 (by simp) rfl (Nat.le_refl _) ((hr.later m).below hB2) (fun h => absurd h (by simp)) (fun k h => absurd h (by simp))
        simp only [← oddAt_spec] at hS
        generalize hO : oddAt rs (3 + 2 * k) = O at *
        have HhP := Lib.hid hP
        clear hP
        have HhO := Lib.hid hO
        clear hO
        have HhS := Lib.hid hS
        clear hS
        have hq : 3 + 2 * k ≤ 7 := by omega
        have hq2 : ((3 + 2 * k : Nat) : Int) + 2 = ((3 + 2 * (k + 1) : Nat) : Int) := by omega
        have hq1 : 1 ≤ 3 + 2 * k := by omega
        have hk2 : k ≤ 2 := by omega
        generalize hK : 3 + 2 * k = K at *
        have HhK := Lib.hid hK
        clear hK
        have Hhq2 := Lib.hid hq2
        clear hq2
        go_wp2_with (first | (go_at_call 14; refine (Calls.later m (specIsGraph_any _ rs ro rc _ (hr.later m) hrl)).mono ?_; rw [hv]; rintro e w' ⟨rfl, m, rfl⟩; have hbm := Nat.lt_of_lt_of_le hb0 m.size))
        generalize hW2 : m.w.alloc (.cells #[] 3) = W2
        obtain ⟨hB2, -, -⟩ := alloc1 hW2
        refine (HhS.out m W2 hB2).mono ?_
        rintro e w3 hD
        obtain ⟨ao, cap, rfl, hB3, hI, hC⟩ := hD.top hq1
        obtain ⟨m, rfl⟩ : ∃ m3 : Later W1, m3.w = w3 := ⟨m.on (below_more' hB2 hB3), rfl⟩
        clear hB2 hB3 hW2 hbm hD
        rcases O with _ | x
        · clear hI hC
          go_wp2_with fail
          go_roundw
          case rel => exact ⟨⟨m, rfl⟩, k + 1, by omega, by rw [← Hhq2.out], HN.out rfl⟩
          case measure => simp [intOf]; omega
        · have HE := Lib.hid (HH.out x rfl)
          have HhI := Lib.hid hI
          clear hI
          have HhC := Lib.hid hC
          clear hC
          go_wp2_with fail
          go_ret2
          exact ⟨ao, cap, by rw [HE.out]; rfl, below_later HhB.out m, by rw [HE.out]; exact HhI.out, by rw [HE.out]; exact HhC.out⟩
      · have d3 : decide (((3 + 2 * k : Nat) : Int) ≤ (rs.length : Int)) = false := decide_eq_false (by omega)
        have HE := Lib.hid (oddV_none hv hlt hP)
        clear hP
        go_wp2_with fail
        go_ret2
        exact ⟨_, _, by rw [HE.out]; rfl, (below_later HhB.out m).alloc (below_later HhB.out m).size _, by rw [HE.out]; exact fun h => absurd h (by simp), by rw [HE.out]; exact Nat.zero_le _⟩
theorem specFindOdd_any (n : Int) (rs : List Int) (ro : Option Addr) (rc : Nat) (w : World) (hr : IntsAt w ro rs) (hrl : rs.length ≤ 1048576) :
    Calls Try.prog 11 #[.agg #[.int .i64 n, .slice ro rs.length rc]] w (RetI w (oddV n rs)) :=
  (specFindOddC_any n rs ro rc w hr hrl).mono fun _ _ ⟨ao, cap, h1, h2, h3, _⟩ => ⟨ao, cap, h1, h2, h3⟩

set_option maxRecDepth 100000 in
set_option maxHeartbeats 1000000 in
theorem implFindOdd_any (n : Int) (rs : List Int) (ro : Option Addr) (rc : Nat) (w : World) (hr : IntsAt w ro rs) (hrl : rs.length ≤ 1048576) :
    Calls Try.prog 10 #[.agg #[.int .i64 n, .slice ro rs.length rc]] w (RetO w (oddV n rs)) := by
  go_enter Try.func10, Try.ntmps10
  go_wp2_with fail
  generalize hW : w.alloc _ = W1
  obtain ⟨hB, -, k0⟩ := alloc1 hW
  replace hr := hr.below hB
  have hb0 := k0.lt
  have hc0 := k0.cell 0
  have hc1 := k0.cell 1
  simp at hc0 hc1
  clear hW k0
  have HhB := Lib.hid hB
  clear hB
  cases hv : isGraphB n rs
  · have HE := Lib.hid (oddV_no hv)
    go_loopw [4] (fun i wr => (∃ m : Later W1, wr = m.w) ∧ ∃ k : Nat, k ≤ 3 ∧ i = .int .i64 (3 + 2 * k : Nat)) (fun i _ => 10 - (intOf i).toNat)
    case atStart => exact ⟨⟨Later.refl _, rfl⟩, 0, by omega, rfl⟩
    case round =>
      obtain ⟨⟨m, rfl⟩, k, hk, rfl⟩ := hrel
      have hq2 : ((3 + 2 * k : Nat) : Int) + 2 = ((3 + 2 * (k + 1) : Nat) : Int) := by omega
      by_cases h7 : 7 < n
      · by_cases hlt : k ≤ 2
        · have d3 : decide (((3 + 2 * k : Nat) : Int) ≤ 7) = true := decide_eq_true (by omega)
          have hq : 3 + 2 * k ≤ 7 := by omega
          generalize hK : 3 + 2 * k = K at *
          have HhK := Lib.hid hK
          clear hK
          have Hhq2 := Lib.hid hq2
          clear hq2
          go_wp2_with fail
          refine (firstList_bad n (K : Int) rs ro rc 81 82 _ _ m.w (hr.later m) hrl hv).mono ?_
          rintro e w3 ⟨rfl, hB3⟩
          obtain ⟨m, rfl⟩ : ∃ m3 : Later W1, m3.w = w3 := ⟨m.on hB3, rfl⟩
          clear hB3
          go_wp2_with fail
          go_roundw
          case rel => exact ⟨⟨m, rfl⟩, k + 1, by omega, by rw [← Hhq2.out]⟩
          case measure => simp [intOf]; omega
        · have d3 : decide (((3 + 2 * k : Nat) : Int) ≤ 7) = false := decide_eq_false (by omega)
          generalize 3 + 2 * k = K at *
          go_wp2_with fail
          go_ret2
          exact ⟨none, 0, by rw [HE.out]; rfl, below_later HhB.out m, by rw [HE.out]; exact .inl (OwnL.nil _ _)⟩
      · by_cases hlt : ((3 + 2 * k : Nat) : Int) ≤ n
        · have d3 : decide (((3 + 2 * k : Nat) : Int) ≤ n) = true := decide_eq_true hlt
          have hq : 3 + 2 * k ≤ 7 := by omega
          have hk2 : k ≤ 2 := by omega
          generalize hK : 3 + 2 * k = K at *
          have HhK := Lib.hid hK
          clear hK
          have Hhq2 := Lib.hid hq2
          clear hq2
          go_wp2_with fail
          refine (firstList_bad n (K : Int) rs ro rc 81 82 _ _ m.w (hr.later m) hrl hv).mono ?_
          rintro e w3 ⟨rfl, hB3⟩
          obtain ⟨m, rfl⟩ : ∃ m3 : Later W1, m3.w = w3 := ⟨m.on hB3, rfl⟩
          clear hB3
          go_wp2_with fail
          go_roundw
          case rel => exact ⟨⟨m, rfl⟩, k + 1, by omega, by rw [← Hhq2.out]⟩
          case measure => simp [intOf]; omega
        · have d3 : decide (((3 + 2 * k : Nat) : Int) ≤ n) = false := decide_eq_false hlt
          generalize 3 + 2 * k = K at *
          go_wp2_with fail
          go_ret2
          exact ⟨none, 0, by rw [HE.out]; rfl, below_later HhB.out m, by rw [HE.out]; exact .inl (OwnL.nil _ _)⟩
  · obtain ⟨rfl, g⟩ := VG.of hv
    have hg2 := g.le
    have h7 : ¬(7 : Int) < (rs.length : Int) := by omega
    go_loopw [4] (fun i wr => (∃ m : Later W1, wr = m.w) ∧ ∃ k : Nat, k ≤ 3 ∧ i = .int .i64 (3 + 2 * k : Nat) ∧ ∀ j, j < k → (oddAt rs (3 + 2 * j)).isSome = false) (fun i _ => 10 - (intOf i).toNat)
    case atStart => exact ⟨⟨Later.refl _, rfl⟩, 0, by omega, rfl, fun j h => by omega⟩
    case round =>
      obtain ⟨⟨m, rfl⟩, k, hk, rfl, hP⟩ := hrel
      by_cases hlt : 3 + 2 * k ≤ rs.length
      · have d3 : decide (((3 + 2 * k : Nat) : Int) ≤ (rs.length : Int)) = true := decide_eq_true (by omega)
        have HN := Lib.hid (fun h => all_succ (p := fun j => (oddAt rs (3 + 2 * j)).isSome = false) hP h)
        have HH := Lib.hid (fun x h => oddV_hit (x := x) hv hlt hP h)
        have hq : 3 + 2 * k ≤ 7 := by omega
        have hk2 : k ≤ 2 := by omega
        have hq1 : 1 ≤ 3 + 2 * k := by omega
        have hq2 : ((3 + 2 * k : Nat) : Int) + 2 = ((3 + 2 * (k + 1) : Nat) : Int) := by omega
        have hF := fun m : Later W1 => firstList_any (S := Unit) (fun _ l => ((), oddB rs.length rs l)) (fun _ => true) (fun _ _ => True) (fun _ => False) rs ro rc (3 + 2 * k) 81 82 #[] #[.pointer (some ⟨w.heap.size, 0, none⟩)] () m.w (hr.later m) hv hq1 hq
          (fun _ h => h.elim) (fun _ _ => rfl) (fun _ _ => rfl) (alwaysMay_any _ _ _) (fun m2 s l ao cap _ hl hn hc => by
            show Calls Try.prog 82 #[.slice ao (3 + 2 * k) cap, .pointer (some ⟨w.heap.size, 0, none⟩)] m2.w _
            have hB2 : Below W1.heap.size W1 m2.w := m.below.trans (m2.only.below m.size fun _ _ h => h)
            have y0 := (hB2.cell (p := ⟨w.heap.size, 0, none⟩) hb0).trans hc0
            have y1 := (hB2.cell (p := ⟨w.heap.size, 1, none⟩) hb0).trans hc1
            have hr2 := hr.below hB2
            rw [hn]
            have hl7 : l.length ≤ 1048576 := by omega
            have hc' : l.length ≤ cap := by omega
            clear hc0 hc1
            go_enter Try.func82, Try.ntmps82
            go_wp2_with (first | (go_at_call 15; refine (implIsOddCycle_any rs.length rs l ro ao rc cap m2.w hr2 hrl hl hl7 hc').mono ?_; rintro e w3 ⟨rfl, hB3⟩))
            go_ret
            exact ⟨rfl, trivial, Only.of hB3⟩) (fun _ _ _ _ _ => trivial) trivial
        have HD : Hid ((flRun (S := Unit) (fun _ l => ((), oddB rs.length rs l)) (fun _ => true) rs.length (3 + 2 * k) () []).2 = oddAt rs (3 + 2 * k)) := rfl
        rw [HD.out] at hF
        clear HD
        generalize hO : oddAt rs (3 + 2 * k) = O at *
        have HhP := Lib.hid hP
        clear hP
        have HhO := Lib.hid hO
        clear hO
        have HhF := Lib.hid hF
        clear hF
        generalize hK : 3 + 2 * k = K at *
        have HhK := Lib.hid hK
        clear hK
        have Hhq2 := Lib.hid hq2
        clear hq2
        go_wp2_with fail
        refine (HhF.out m).mono ?_
        rintro e w3 ⟨ao, cap, rfl, hOn, -, hE⟩
        have hms := m.size
        obtain ⟨m, rfl⟩ : ∃ m3 : Later W1, m3.w = w3 := ⟨m.on (hOn.below (Nat.le_refl _) fun _ _ h => h), rfl⟩
        clear hOn
        rcases O with _ | x
        · clear hE
          go_wp2_with fail
          go_roundw
          case rel => exact ⟨⟨m, rfl⟩, k + 1, by omega, by rw [← Hhq2.out], HN.out rfl⟩
          case measure => simp [intOf]; omega
        · have HE := Lib.hid (HH.out x rfl)
          have HhE := Lib.hid hE
          clear hE
          go_wp2_with fail
          go_ret2
          exact ⟨ao, cap, by rw [HE.out]; rfl, below_later HhB.out m, by rw [HE.out]; exact HhE.out.mono' (Nat.le_trans (Nat.le_of_lt hb0) hms)⟩
      · have d3 : decide (((3 + 2 * k : Nat) : Int) ≤ (rs.length : Int)) = false := decide_eq_false (by omega)
        have HE := Lib.hid (oddV_none hv hlt hP)
        clear hP
        go_wp2_with fail
        go_ret2
        exact ⟨none, 0, by rw [HE.out]; rfl, below_later HhB.out m, by rw [HE.out]; exact .inl (OwnL.nil _ _)⟩

end Go.Proofs.Ytgklgheaojoimaa
