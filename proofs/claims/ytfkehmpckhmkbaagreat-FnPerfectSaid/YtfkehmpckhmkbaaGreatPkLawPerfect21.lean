/-
  ColoringWith and ChromaticNumber of the reference. For at most 2^20 rows.
-/
import Derived.Test.YtfkehmpckhmkbaaGreatPkLawPerfect20
import Derived.Test.YtfkehmpckhmkbaaGreatPkLawPerfect06
import Derived.Deep.RegionHeld3
namespace Go.Proofs.YtfkehmpckhmkbaaGreat
open Go.RowKit

/-- What the reference hands back: the list stands somewhere. -/
def RetS (w : World) (s : Option (List Int)) (e : Ending) (w' : World) : Prop := ∃ ao cap, e = .returned (.tuple #[.slice ao (s.getD []).length cap, .bool s.isSome]) ∧ Below w.heap.size w w' ∧ IntsAt w' ao (s.getD [])

theorem firstC_none {rs : List Int} {kc f : Nat} {l : List Int} (h : preB (fun c s => if freeTo rs l c l.length = true then colRun lastV rs kc f s (l ++ [(c : Int)]) else (s, true)) none kc = (none, true)) : firstC rs kc (f + 1) l = none := by
  show (preB _ none kc).1 = none; rw [h]
theorem firstC_some {rs : List Int} {kc f j : Nat} {l : List Int} {x : List Int} (hj : j < kc) (h : preB (fun c s => if freeTo rs l c l.length = true then colRun lastV rs kc f s (l ++ [(c : Int)]) else (s, true)) none (j + 1) = (some x, false)) : firstC rs kc (f + 1) l = some x := by
  show (preB _ none kc).1 = some x; rw [preB_stop (j := j + 1) (by rw [h]) kc (by omega), h]
theorem colRun_some {rs : List Int} {kc f : Nat} {l : List Int} {o : Option (List Int)} (h : firstC rs kc f l = o) : colRun lastV rs kc f none l = (o, o.isNone) := by
  have := colRun_last rs kc f l
  rw [h] at this
  rw [← this, ← h]; rfl

set_option maxRecDepth 100000 in
set_option maxHeartbeats 2000000 in
theorem l24Color_any (rs : List Int) (ro : Option Addr) (rc kc : Nat) (g : VG rs) (hk : kc ≤ 7) : ∀ (f : Nat) (l : List Int) (n lc : Nat) (la : Addr) (w : World), l.length + f = rs.length → n = l.length → IntsAt w ro rs → IntsAt w (some la) l →
    Calls Tryz.prog 73 #[.agg #[.int .i64 rs.length, .slice ro rs.length rc], .int .i64 kc, .slice (some la) n lc] w (RetS w (firstC rs kc f l)) := by
  have hg1 := g.pos
  have hg2 := g.le
  intro f
  induction f with
  | zero =>
    intro l n lc la w hlf hn hr hl
    subst hn
    have hN : ((l.length : Int) == (rs.length : Int)) = true := by rw [beq_iff_eq]; omega
    clear hlf
    go_enter Tryz.func73, Tryz.ntmps73
    go_wp2_with fail
    generalize hW : w.alloc _ = W1
    obtain ⟨hB, -, k0⟩ := alloc1 hW
    replace hr := hr.below hB
    replace hl := hl.below hB
    have hb0 := k0.lt
    have hc0 := k0.cell 0
    have hc1 := k0.cell 1
    simp at hc0 hc1
    clear hW k0
    have HhB := Lib.hid hB
    clear hB
    go_wp2_with fail
    go_ret2
    exact ⟨some la, lc, rfl, HhB.out, hl⟩
  | succ f ih =>
    intro l n lc la w hlf hn hr hl
    subst hn
    have hN : ((l.length : Int) == (rs.length : Int)) = false := by rw [beq_eq_false_iff_ne]; omega
    have hvl : l.length < rs.length := by omega
    have Hih := Lib.hid ih
    clear ih
    have Hhlf := Lib.hid hlf
    clear hlf
    go_enter Tryz.func73, Tryz.ntmps73
    go_wp2_with fail
    generalize hW : w.alloc _ = W1
    obtain ⟨hB, -, k0⟩ := alloc1 hW
    replace hr := hr.below hB
    replace hl := hl.below hB
    have hb0 := k0.lt
    have hc0 := k0.cell 0
    have hc1 := k0.cell 1
    simp at hc0 hc1
    clear hW k0
    have HhB := Lib.hid hB
    clear hB
    obtain ⟨m, hm0⟩ : ∃ m : Later W1, m.w = W1 := ⟨Later.refl _, rfl⟩
    refine (fun h => hm0 ▸ h) ?_
    clear hm0
    go_wp2_with fail
    go_loopw [9] (fun i wr => (∃ m : Later W1, wr = m.w) ∧ ∃ j : Nat, j ≤ kc ∧ i = .int .i64 j ∧ preB (fun c s => if freeTo rs l c l.length = true then colRun lastV rs kc f s (l ++ [(c : Int)]) else (s, true)) none j = (none, true)) (fun i _ => kc - (intOf i).toNat)
    case atStart => exact ⟨⟨m, rfl⟩, 0, by omega, rfl, rfl⟩
    case round =>
      obtain ⟨⟨m, rfl⟩, j, hj, rfl, hP⟩ := hrel
      have HhP := Lib.hid hP
      clear hP
      by_cases hlt : j < kc
      · have hjk : decide ((j : Int) < (kc : Int)) = true := decide_eq_true (by omega)
        go_wp2_with fail
        go_loopw [10, 11] (fun b i wr => (∃ m : Later W1, wr = m.w) ∧ ∃ t : Nat, t ≤ l.length ∧ i = .int .i64 t ∧ b = .bool (freeTo rs l j t)) (fun _ i _ => l.length - (intOf i).toNat)
        case atStart => exact ⟨⟨m, rfl⟩, 0, by omega, rfl, rfl⟩
        case round =>
          obtain ⟨⟨m, rfl⟩, t, ht, rfl, rfl⟩ := hrel
          by_cases htt : t < l.length
          · obtain ⟨lb, lofs, hla, hlb, hlc⟩ := hl (by omega)
            simp only [Option.some.injEq] at hla
            subst hla
            have htn : t < rs.length := by omega
            have hc1 := hlc t htt
            have HU : Hid (freeTo rs l j (t + 1) = (freeTo rs l j t && !((gi l t == (j : Int)) && (gn rs l.length).testBit t))) := rfl
            have hA := fun m : Later W1 => l2Edge_any rs l.length t ro rc m.w (hr.later m) g hvl htn
            clear hlc
            generalize gi l t = a at *
            cases hf : freeTo rs l j t
            · go_wp2_with fail
              go_roundw
              case rel => exact ⟨⟨m, rfl⟩, t + 1, by omega, by go_num, by rw [HU.out, hf]; rfl⟩
              case measure => simp [intOf]; omega
            · cases hb : (gn rs l.length).testBit t <;> simp only [hb] at hA
              · go_wp2_with (first | (go_at_call 69; refine (Calls.later m (hA _)).mono ?_; rintro e w' ⟨rfl, m, rfl⟩))
                go_roundw
                case rel => exact ⟨⟨m, rfl⟩, t + 1, by omega, by go_num, by rw [HU.out, hf, hb, Bool.and_false]; rfl⟩
                case measure => simp [intOf]; omega
              · go_wp2_with (first | (go_at_call 69; refine (Calls.later m (hA _)).mono ?_; rintro e w' ⟨rfl, m, rfl⟩))
                go_roundw
                case rel => exact ⟨⟨m, rfl⟩, t + 1, by omega, by go_num, by rw [HU.out, hf, hb]; simp⟩
                case measure => simp [intOf]; omega
          · obtain rfl : t = l.length := by omega
            cases hF : freeTo rs l j l.length
            · go_wp2_with fail
              go_roundw
              case rel => exact ⟨⟨m, rfl⟩, j + 1, by omega, by go_num, by rw [preB_go HhP.out, if_neg (by rw [hF]; decide)]⟩
              case measure => simp [intOf]; omega
            · have HG := Lib.hid (preB_go HhP.out)
              rw [hF, if_pos rfl] at HG
              have HS := Lib.hid (colRun_some (rs := rs) (kc := kc) (f := f) (l := l ++ [(j : Int)]) rfl)
              have hih := fun (n lc : Nat) (la : Addr) (w : World) (h1 : n = (l ++ [(j : Int)]).length) h2 h3 => Hih.out (l ++ [(j : Int)]) n lc la w (by have := Hhlf.out; simp; omega) h1 h2 h3
              generalize firstC rs kc f (l ++ [(j : Int)]) = O at *
              have Hhih := Lib.hid hih
              clear hih
              have hS' : ∀ w', Below W1.heap.size W1 w' → Below W1.heap.size W1 w' ∧ w'.cell? ⟨w.heap.size, 0, none⟩ = some (.int .i64 rs.length) ∧ w'.cell? ⟨w.heap.size, 1, none⟩ = some (.slice ro rs.length rc) := fun w' h => ⟨h, (h.cell hb0).trans hc0, (h.cell hb0).trans hc1⟩
              go_wp2_with fail
              rcases O with _ | x
              · go_region_held3 (fun w' => Below W1.heap.size W1 w' ∧ w'.cell? ⟨w.heap.size, 0, none⟩ = some (.int .i64 rs.length) ∧ w'.cell? ⟨w.heap.size, 1, none⟩ = some (.slice ro rs.length rc))
                  (exact hS' _ (by first | exact m.below.drew | assumption | exact Below.alloc (And.left (by assumption : Below W1.heap.size W1 _ ∧ _)) (And.left (by assumption : Below W1.heap.size W1 _ ∧ _)).size _))
                  (first
                    | ((refine step_append_copy (by rfl) (.tmp 52) (.tmp 53) (by rfl) W1.heap.size _ la l lc (by rfl) (by rfl) (hl.below (And.left (by assumption : Below W1.heap.size W1 _ ∧ _))) (And.left (by assumption : Below W1.heap.size W1 _ ∧ _)).size (by omega) ?_); intro ao1 cap1 w1 hne1 hown1 hBw1; have hB2 : Below W1.heap.size W1 w1 := below_more (And.left (by assumption : Below W1.heap.size W1 _ ∧ _)) hBw1)
                    | ((refine step_append_e (by rfl) (.tmp 54) (.tmp 56) (by rfl) W1.heap.size cap1 ao1 l (j : Int) _ (by rfl) (by first | exact hown1 | exact hown1.below ((Below.refl _ _).alloc (Nat.le_refl _) _)) (by rfl) (by first | exact cell_new (by simp) | exact (hBw1.cell (by first | (simp; done) | (simp; omega))).trans (cell_new (by simp)) | exact (hBw1.cell (by first | (simp; done) | (simp; omega))).trans (cell_new2 (by simp))) (And.left (by assumption : Below W1.heap.size W1 _ ∧ _)).size (by omega) ?_); intro ao2 cap2 w2 hown2 hBw2; obtain ⟨lb2, lo2, rfl, -, -⟩ := hown2.ints (by simp); have hB3 : Below W1.heap.size W1 w2 := (And.left (by assumption : Below W1.heap.size W1 _ ∧ _)).trans hBw2)
                    | (go_at_call 73; go_must (refine (Hhih.out _ _ _ _ (by simp) (hr.below (And.left (by assumption : Below W1.heap.size W1 _ ∧ _))) (by first | exact hown2.ints | exact hown2)).mono ?_); rintro e w3 ⟨ao3, cap3, rfl, hB4, hI4⟩; have hB5 := below_more (And.left (by assumption : Below W1.heap.size W1 _ ∧ _)) hB4; dsimp only))
                all_goals
                  clear hS' hl hr hI4
                  go_wp2_with fail
                  go_roundw
                  case rel => exact ⟨⟨⟨w3, hB5⟩, rfl⟩, j + 1, by omega, by go_num, by rw [HG.out, HS.out]; rfl⟩
                  case measure => simp [intOf]; omega
              · have HE := Lib.hid (firstC_some hlt (by rw [HG.out, HS.out]; rfl))
                go_region_held3 (fun w' => Below W1.heap.size W1 w' ∧ w'.cell? ⟨w.heap.size, 0, none⟩ = some (.int .i64 rs.length) ∧ w'.cell? ⟨w.heap.size, 1, none⟩ = some (.slice ro rs.length rc))
                  (exact hS' _ (by first | exact m.below.drew | assumption | exact Below.alloc (And.left (by assumption : Below W1.heap.size W1 _ ∧ _)) (And.left (by assumption : Below W1.heap.size W1 _ ∧ _)).size _))
                  (first
                    | ((refine step_append_copy (by rfl) (.tmp 52) (.tmp 53) (by rfl) W1.heap.size _ la l lc (by rfl) (by rfl) (hl.below (And.left (by assumption : Below W1.heap.size W1 _ ∧ _))) (And.left (by assumption : Below W1.heap.size W1 _ ∧ _)).size (by omega) ?_); intro ao1 cap1 w1 hne1 hown1 hBw1; have hB2 : Below W1.heap.size W1 w1 := below_more (And.left (by assumption : Below W1.heap.size W1 _ ∧ _)) hBw1)
                    | ((refine step_append_e (by rfl) (.tmp 54) (.tmp 56) (by rfl) W1.heap.size cap1 ao1 l (j : Int) _ (by rfl) (by first | exact hown1 | exact hown1.below ((Below.refl _ _).alloc (Nat.le_refl _) _)) (by rfl) (by first | exact cell_new (by simp) | exact (hBw1.cell (by first | (simp; done) | (simp; omega))).trans (cell_new (by simp)) | exact (hBw1.cell (by first | (simp; done) | (simp; omega))).trans (cell_new2 (by simp))) (And.left (by assumption : Below W1.heap.size W1 _ ∧ _)).size (by omega) ?_); intro ao2 cap2 w2 hown2 hBw2; obtain ⟨lb2, lo2, rfl, -, -⟩ := hown2.ints (by simp); have hB3 : Below W1.heap.size W1 w2 := (And.left (by assumption : Below W1.heap.size W1 _ ∧ _)).trans hBw2)
                    | (go_at_call 73; go_must (refine (Hhih.out _ _ _ _ (by simp) (hr.below (And.left (by assumption : Below W1.heap.size W1 _ ∧ _))) (by first | exact hown2.ints | exact hown2)).mono ?_); rintro e w3 ⟨ao3, cap3, rfl, hB4, hI4⟩; have hB5 := below_more (And.left (by assumption : Below W1.heap.size W1 _ ∧ _)) hB4; dsimp only))
                all_goals
                  clear hS' hl hr
                  have HhI4 := Lib.hid hI4
                  clear hI4
                  go_wp2_with fail
                  go_ret2
                  exact ⟨ao3, cap3, by rw [HE.out]; rfl, below_more' HhB.out hB5, by rw [HE.out]; exact HhI4.out⟩
      · obtain rfl : j = kc := by omega
        have HE := Lib.hid (firstC_none HhP.out)
        go_wp2_with fail
        go_ret2
        exact ⟨_, _, by rw [HE.out]; rfl, (below_later HhB.out m).alloc (below_later HhB.out m).size _, by rw [HE.out]; exact fun h => absurd h (by simp)⟩

theorem colWith_len (n : Int) (rs : List Int) (k : Int) : ((colWith n rs k).getD []).length ≤ 1048576 := by
  unfold colWith
  split
  · rename_i h
    have g := (VG.of h.1).2
    have h2 := g.le
    cases ho : firstC rs k.toNat rs.length [] with
    | none => simp
    | some x => have := firstC_len rs k.toNat rs.length [] x ho; simp at this ⊢; omega
  · simp

set_option maxRecDepth 100000 in
set_option maxHeartbeats 1000000 in
theorem specColW_any (n : Int) (rs : List Int) (k : Int) (ro : Option Addr) (rc : Nat) (w : World) (hr : IntsAt w ro rs) (hrl : rs.length ≤ 1048576) :
    Calls Tryz.prog 44 #[.agg #[.int .i64 n, .slice ro rs.length rc], .int .i64 k] w (RetS w (colWith n rs k)) := by
  go_enter Tryz.func44, Tryz.ntmps44
  go_wp2_with fail
  generalize hW : w.alloc _ = W1
  obtain ⟨hB, -, k0⟩ := alloc1 hW
  replace hr := hr.below hB
  have hb0 := k0.lt
  have hc0 := k0.cell 0
  have hc1 := k0.cell 1
  simp at hc0 hc1
  clear hW k0
  have HhB := Lib.hid hB
  clear hB
  obtain ⟨m, hm0⟩ : ∃ m : Later W1, m.w = W1 := ⟨Later.refl _, rfl⟩
  refine (fun h => hm0 ▸ h) ?_
  clear hm0
  cases hv : isGraphB n rs
  · have HE := Lib.hid (colWith_no (k := k) hv)
    go_wp2_with (first | (go_at_call 13; refine (Calls.later m (specIsGraph_any _ _ _ _ _ (hr.later m) hrl)).mono ?_; rintro e w' ⟨rfl, m, rfl⟩))
    go_ret2
    exact ⟨_, _, by rw [HE.out]; rfl, (below_later HhB.out m).alloc (below_later HhB.out m).size _, by rw [HE.out]; exact fun h => absurd h (by simp)⟩
  cases hw : (decide (1 ≤ k) && decide (k ≤ 7))
  · have HE := Lib.hid (colWith_out (n := n) (rs := rs) hw)
    go_wp2_with (first | (go_at_call 13; refine (Calls.later m (specIsGraph_any _ _ _ _ _ (hr.later m) hrl)).mono ?_; rintro e w' ⟨rfl, m, rfl⟩) | (go_at_call 41; refine (l1In_any _ _ _ _).mono ?_; rintro e w' ⟨rfl, rfl⟩))
    go_ret2
    exact ⟨_, _, by rw [HE.out]; rfl, (below_later HhB.out m).alloc (below_later HhB.out m).size _, by rw [HE.out]; exact fun h => absurd h (by simp)⟩
  · obtain ⟨rfl, g⟩ := VG.of hv
    have hw' := hw
    simp only [Bool.and_eq_true, decide_eq_true_eq] at hw'
    obtain ⟨k, rfl⟩ : ∃ k' : Nat, k = k' := ⟨k.toNat, by omega⟩
    have hk : k ≤ 7 := by omega
    have hk1 : decide (1 ≤ (k : Int)) = true := decide_eq_true (by omega)
    clear hw'
    have HE := Lib.hid (colWith_of hv hw)
    have hk4 : decide ((k : Int) ≤ 7) = true := decide_eq_true (by omega)
    go_wp2_with (first | (go_at_call 13; refine (Calls.later m (specIsGraph_any _ _ _ _ _ (hr.later m) hrl)).mono ?_; rintro e w' ⟨rfl, m, rfl⟩; have hbm := Nat.lt_of_lt_of_le hb0 m.size) | (go_at_call 41; refine (l1In_any _ _ _ _).mono ?_; rintro e w' ⟨rfl, rfl⟩))
    generalize hW2 : m.w.alloc (.cells #[] 3) = W2
    obtain ⟨hB2, -, -⟩ := alloc1 hW2
    refine (l24Color_any rs ro rc k g hk rs.length [] 0 0 ⟨m.w.heap.size, 0, none⟩ W2 (by simp) rfl ((hr.later m).below hB2) (fun h => absurd h (by simp))).mono ?_
    rintro e w3 ⟨ao, cap, rfl, hB3, hI⟩
    have hB4 : Below w.heap.size w w3 := (below_later HhB.out m).trans (((below_more' hB2 hB3)).mono (Nat.le_of_lt hbm))
    have HhB4 := Lib.hid hB4
    clear hB4
    have HhI := Lib.hid hI
    clear hI
    go_wp2_with fail
    go_ret2
    exact ⟨ao, cap, by rw [HE.out]; rfl, HhB4.out, by rw [HE.out]; exact HhI.out⟩

set_option maxRecDepth 100000 in
set_option maxHeartbeats 1000000 in
theorem specChrom_any (n : Int) (rs : List Int) (ro : Option Addr) (rc : Nat) (w : World) (hr : IntsAt w ro rs) (hrl : rs.length ≤ 1048576) :
    Calls Tryz.prog 16 #[.agg #[.int .i64 n, .slice ro rs.length rc]] w fun e w' => e = .returned (.int .i64 (chromV n rs)) ∧ Below w.heap.size w w' := by
  go_enter Tryz.func16, Tryz.ntmps16
  go_wp2_with fail
  generalize hW : w.alloc _ = W1
  obtain ⟨hB, -, k0⟩ := alloc1 hW
  replace hr := hr.below hB
  have hb0 := k0.lt
  have hc0 := k0.cell 0
  have hc1 := k0.cell 1
  simp at hc0 hc1
  clear hW k0
  have HhB := Lib.hid hB
  clear hB
  cases hv : isGraphB n rs
  · have HE := Lib.hid (chromV_none (n := n) (rs := rs) (fun j hj => by rw [colWith_no hv]; rfl))
    go_loopw [3] (fun i wr => (∃ m : Later W1, wr = m.w) ∧ i = .int .i64 1) (fun _ _ => 0)
    case atStart => exact ⟨⟨Later.refl _, rfl⟩, rfl⟩
    case round =>
      obtain ⟨⟨m, rfl⟩, rfl⟩ := hrel
      go_wp2_with (first | (go_at_call 13; refine (Calls.later m (specIsGraph_any _ _ _ _ _ (hr.later m) hrl)).mono ?_; rintro e w' ⟨rfl, m, rfl⟩))
      go_ret
      exact ⟨retI (by rw [HE.out]), below_later HhB.out m⟩
  go_loopw [3] (fun i wr => (∃ m : Later W1, wr = m.w) ∧ ∃ k : Nat, k ≤ 7 ∧ i = .int .i64 (k + 1 : Nat) ∧ ∀ j, j < k → (colWith n rs ((j + 1 : Nat) : Int)).isSome = false) (fun i _ => 8 - (intOf i).toNat)
  case atStart => exact ⟨⟨Later.refl _, rfl⟩, 0, by omega, rfl, fun j h => by omega⟩
  case round =>
    obtain ⟨⟨m, rfl⟩, k, hk, rfl, hP⟩ := hrel
    have HhP := Lib.hid hP
    clear hP
    by_cases hlt : k < 7
    · have hk7 : decide (((k + 1 : Nat) : Int) ≤ 7) = true := decide_eq_true (by omega)
      have hC := fun m : Later W1 => specColW_any n rs ((k + 1 : Nat) : Int) ro rc m.w (hr.later m) hrl
      have HN := Lib.hid (fun h => all_succ (p := fun j => (colWith n rs ((j + 1 : Nat) : Int)).isSome = false) HhP.out h)
      have HH := Lib.hid (fun h => chromV_hit (n := n) (rs := rs) hlt HhP.out h)
      generalize hO : colWith n rs ((k + 1 : Nat) : Int) = O at *
      have HhO := Lib.hid hO
      clear hO
      cases hs : O.isSome
      · go_wp2_with (first | (go_at_call 13; refine (Calls.later m (specIsGraph_any _ _ _ _ _ (hr.later m) hrl)).mono ?_; rintro e w' ⟨rfl, m, rfl⟩) | (go_at_call 44; refine (hC m).mono ?_; rintro e w3 ⟨ao, cap, rfl, hB3, -⟩; obtain ⟨m, rfl⟩ : ∃ m2 : Later W1, m2.w = w3 := ⟨m.on hB3, rfl⟩; clear hB3))
        go_roundw
        case rel => exact ⟨⟨m, rfl⟩, k + 1, by omega, by go_num, HN.out hs⟩
        case measure => simp [intOf]; omega
      · go_wp2_with (first | (go_at_call 13; refine (Calls.later m (specIsGraph_any _ _ _ _ _ (hr.later m) hrl)).mono ?_; rintro e w' ⟨rfl, m, rfl⟩) | (go_at_call 44; refine (hC m).mono ?_; rintro e w3 ⟨ao, cap, rfl, hB3, -⟩; obtain ⟨m, rfl⟩ : ∃ m2 : Later W1, m2.w = w3 := ⟨m.on hB3, rfl⟩; clear hB3))
        go_ret
        exact ⟨retI (by rw [HH.out hs]; omega), below_later HhB.out m⟩
    · obtain rfl : k = 7 := by omega
      have HE := Lib.hid (chromV_none HhP.out)
      go_wp2_with fail
      go_ret
      exact ⟨retI (by rw [HE.out]), below_later HhB.out m⟩

end Go.Proofs.YtfkehmpckhmkbaaGreat
