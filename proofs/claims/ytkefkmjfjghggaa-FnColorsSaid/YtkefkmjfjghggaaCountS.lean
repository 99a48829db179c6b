/-
  CountColorings of the reference. For at most 2^20 rows.
-/
import Derived.Test.YtkefkmjfjghggaaCount
import Derived.Test.YtkefkmjfjghggaaWay
import Derived.Deep.RegionHeld3
namespace Go.Proofs.Ytkefkmjfjghggaa
open Go.RowKit

theorem four_pow_le {f N : Nat} (h : f < N) (hN : N ≤ 7) : 4 ^ f ≤ 4096 := by
  have : 4 ^ f ≤ 4 ^ 6 := Nat.pow_le_pow_right (by decide) (by omega)
  omega

set_option maxRecDepth 100000 in
set_option maxHeartbeats 2000000 in
theorem l24Count_any (rs : List Int) (ro : Option Addr) (rc kc : Nat) (g : VG rs) (hk : kc ≤ 4) : ∀ (f : Nat) (l : List Int) (n lc : Nat) (la : Addr) (w : World), l.length + f = rs.length → n = l.length → IntsAt w ro rs → IntsAt w (some la) l →
    Calls Try.prog 90 #[.agg #[.int .i64 rs.length, .slice ro rs.length rc], .int .i64 kc, .slice (some la) n lc] w fun e w' => e = .returned (.int .i64 (colCount rs kc f l)) ∧ Below w.heap.size w w' := by
  have hg1 := g.pos
  have hg2 := g.le
  intro f
  induction f with
  | zero =>
    intro l n lc la w hlf hn hr hl
    subst hn
    have hN : ((l.length : Int) == (rs.length : Int)) = true := by rw [beq_iff_eq]; omega
    clear hlf
    go_enter Try.func90, Try.ntmps90
    go_wp2_with fail
    go_ret
    exact ⟨rfl, (Below.refl _ _).alloc (Nat.le_refl _) _⟩
  | succ f ih =>
    intro l n lc la w hlf hn hr hl
    subst hn
    have hN : ((l.length : Int) == (rs.length : Int)) = false := by rw [beq_eq_false_iff_ne]; omega
    have hvl : l.length < rs.length := by omega
    have hfN : f < rs.length := by omega
    have Hih := Lib.hid ih
    clear ih
    have Hhlf := Lib.hid hlf
    clear hlf
    go_enter Try.func90, Try.ntmps90
    go_wp2_with fail
    generalize hW : w.alloc _ = W1
    obtain ⟨hB, -, k0⟩ := alloc1 hW
    replace hr := hr.below hB
    replace hl := hl.below hB
    have hb0 := k0.lt
    have hc0 := k0.cell 0
    have hc1 := k0.cell 1
    simp at hc0 hc1
    clear hW k0
    have HhB := Lib.hid hB
    clear hB
    obtain ⟨m, hm0⟩ : ∃ m : Later W1, m.w = W1 := ⟨Later.refl _, rfl⟩
    refine (fun h => hm0 ▸ h) ?_
    clear hm0
    go_wp2_with fail
    go_loopw [8, 9] (fun a i wr => (∃ m : Later W1, wr = m.w) ∧ ∃ j : Nat, j ≤ kc ∧ a = .int .i64 (colSum rs kc f l j) ∧ i = .int .i64 j) (fun _ i _ => kc - (intOf i).toNat)
    case atStart => exact ⟨⟨m, rfl⟩, 0, by omega, rfl, rfl⟩
    case round =>
      obtain ⟨⟨m, rfl⟩, j, hj, rfl, rfl⟩ := hrel
      by_cases hlt : j < kc
      · have hjk : decide ((j : Int) < (kc : Int)) = true := decide_eq_true (by omega)
        go_wp2_with fail
        go_loopw [10, 11] (fun b i wr => (∃ m : Later W1, wr = m.w) ∧ ∃ t : Nat, t ≤ l.length ∧ i = .int .i64 t ∧ b = .bool (freeTo rs l j t)) (fun _ i _ => l.length - (intOf i).toNat)
        case atStart => exact ⟨⟨m, rfl⟩, 0, by omega, rfl, rfl⟩
        case round =>
          obtain ⟨⟨m, rfl⟩, t, ht, rfl, rfl⟩ := hrel
          by_cases htt : t < l.length
          · obtain ⟨lb, lofs, hla, hlb, hlc⟩ := hl (by omega)
            simp only [Option.some.injEq] at hla
            subst hla
            have htn : t < rs.length := by omega
            have hc1 := hlc t htt
            have HU : Hid (freeTo rs l j (t + 1) = (freeTo rs l j t && !((gi l t == (j : Int)) && (gn rs l.length).testBit t))) := rfl
            have hA := fun m : Later W1 => l2Edge_any rs l.length t ro rc m.w (hr.later m) g hvl htn
            clear hlc
            generalize gi l t = a at *
            cases hf : freeTo rs l j t
            · go_wp2_with fail
              go_roundw
              case rel => exact ⟨⟨m, rfl⟩, t + 1, by omega, by go_num, by rw [HU.out, hf]; rfl⟩
              case measure => simp [intOf]; omega
            · cases hb : (gn rs l.length).testBit t <;> simp only [hb] at hA
              · go_wp2_with (first | (go_at_call 116; refine (Calls.later m (hA _)).mono ?_; rintro e w' ⟨rfl, m, rfl⟩))
                go_roundw
                case rel => exact ⟨⟨m, rfl⟩, t + 1, by omega, by go_num, by rw [HU.out, hf, hb, Bool.and_false]; rfl⟩
                case measure => simp [intOf]; omega
              · go_wp2_with (first | (go_at_call 116; refine (Calls.later m (hA _)).mono ?_; rintro e w' ⟨rfl, m, rfl⟩))
                go_roundw
                case rel => exact ⟨⟨m, rfl⟩, t + 1, by omega, by go_num, by rw [HU.out, hf, hb]; simp⟩
                case measure => simp [intOf]; omega
          · obtain rfl : t = l.length := by omega
            cases hF : freeTo rs l j l.length
            · have HU := Lib.hid (colSum_no (kc := kc) (f := f) hF)
              generalize colSum rs kc f l j = A at *
              go_wp2_with fail
              go_roundw
              case rel => exact ⟨⟨m, rfl⟩, j + 1, by omega, by rw [HU.out], by go_num⟩
              case measure => simp [intOf]; omega
            · have HU := Lib.hid (colSum_yes (kc := kc) (f := f) hF)
              have hs1 : colSum rs kc f l j ≤ 16384 := by
                have h1 := colSum_le rs hk f l j
                have h2 := four_pow_le hfN hg2
                have h3 : j * 4 ^ f ≤ 4 * 4096 := Nat.mul_le_mul (by omega) h2
                omega
              have hs2 : colCount rs kc f (l ++ [(j : Int)]) ≤ 4096 := Nat.le_trans (colCount_le rs hk f _) (four_pow_le hfN hg2)
              have hih := fun (n lc : Nat) (la : Addr) (w : World) (h1 : n = (l ++ [(j : Int)]).length) h2 h3 => Hih.out (l ++ [(j : Int)]) n lc la w (by have := Hhlf.out; simp; omega) h1 h2 h3
              have Hhih := Lib.hid hih
              clear hih
              generalize colSum rs kc f l j = A at *
              generalize colCount rs kc f (l ++ [(j : Int)]) = C at *
              have hS' : ∀ w', Below W1.heap.size W1 w' → Below W1.heap.size W1 w' ∧ w'.cell? ⟨w.heap.size, 0, none⟩ = some (.int .i64 rs.length) ∧ w'.cell? ⟨w.heap.size, 1, none⟩ = some (.slice ro rs.length rc) := fun w' h => ⟨h, (h.cell hb0).trans hc0, (h.cell hb0).trans hc1⟩
              go_wp2_with fail
              go_region_held3 (fun w' => Below W1.heap.size W1 w' ∧ w'.cell? ⟨w.heap.size, 0, none⟩ = some (.int .i64 rs.length) ∧ w'.cell? ⟨w.heap.size, 1, none⟩ = some (.slice ro rs.length rc))
                (exact hS' _ (by first | exact m.below.drew | assumption | exact Below.alloc (And.left (by assumption : Below W1.heap.size W1 _ ∧ _)) (And.left (by assumption : Below W1.heap.size W1 _ ∧ _)).size _))
                (first
                  | ((refine step_append_copy (by rfl) (.tmp 49) (.tmp 50) (by rfl) W1.heap.size _ la l lc (by rfl) (by rfl) (hl.below (And.left (by assumption : Below W1.heap.size W1 _ ∧ _))) (And.left (by assumption : Below W1.heap.size W1 _ ∧ _)).size (by omega) ?_); intro ao1 cap1 w1 hne1 hown1 hBw1; have hB2 : Below W1.heap.size W1 w1 := below_more (And.left (by assumption : Below W1.heap.size W1 _ ∧ _)) hBw1)
                  | ((refine step_append_e (by rfl) (.tmp 51) (.tmp 53) (by rfl) W1.heap.size cap1 ao1 l (j : Int) _ (by rfl) (by first | exact hown1 | exact hown1.below ((Below.refl _ _).alloc (Nat.le_refl _) _)) (by rfl)
                        (by first | exact cell_new (by simp) | exact (hBw1.cell (by first | (simp; done) | (simp; omega))).trans (cell_new (by simp)) | exact (hBw1.cell (by first | (simp; done) | (simp; omega))).trans (cell_new2 (by simp)))
                        (And.left (by assumption : Below W1.heap.size W1 _ ∧ _)).size (by omega) ?_); intro ao2 cap2 w2 hown2 hBw2; obtain ⟨lb2, lo2, rfl, -, -⟩ := hown2.ints (by simp); have hB3 : Below W1.heap.size W1 w2 := (And.left (by assumption : Below W1.heap.size W1 _ ∧ _)).trans hBw2)
                  | (go_at_call 90; go_must (refine (Hhih.out _ _ _ _ (by simp) (hr.below (And.left (by assumption : Below W1.heap.size W1 _ ∧ _))) (by first | exact hown2.ints)).mono ?_); rintro e w3 ⟨rfl, hB4⟩; have hB5 := below_more (And.left (by assumption : Below W1.heap.size W1 _ ∧ _)) hB4; dsimp only))
              all_goals
                clear hS' hl hr
                go_wp2_with fail
                go_roundw
                case rel => exact ⟨⟨⟨w3, hB5⟩, rfl⟩, j + 1, by omega, by rw [HU.out]; first | go_num | (rw [IntWalk.wrap64_in _ ⟨by omega, by omega⟩]; go_num) | (rw [IntKind_i64_in _ (by omega) (by omega)]; go_num), by go_num⟩
                case measure => simp [intOf]; omega
      · obtain rfl : j = kc := by omega
        have HC : Hid (colSum rs j f l j = colCount rs j (f + 1) l) := (colCount_succ rs j f l).symm
        generalize colSum rs j f l j = A at *
        go_wp2_with fail
        go_ret
        exact ⟨retI (by rw [HC.out]), below_later HhB.out m⟩

set_option maxRecDepth 100000 in
set_option maxHeartbeats 1000000 in
theorem specCount'_any (n : Int) (rs : List Int) (k : Int) (ro : Option Addr) (rc : Nat) (w : World) (hr : IntsAt w ro rs) (hrl : rs.length ≤ 1048576) :
    Calls Try.prog 28 #[.agg #[.int .i64 n, .slice ro rs.length rc], .int .i64 k] w fun e w' => e = .returned (.int .i64 (countV n rs k)) ∧ Below w.heap.size w w' := by
  go_enter Try.func28, Try.ntmps28
  go_wp2_with fail
  generalize hW : w.alloc _ = W1
  obtain ⟨hB, -, k0⟩ := alloc1 hW
  replace hr := hr.below hB
  have hb0 := k0.lt
  have hc0 := k0.cell 0
  have hc1 := k0.cell 1
  simp at hc0 hc1
  clear hW k0
  have HhB := Lib.hid hB
  clear hB
  obtain ⟨m, hm0⟩ : ∃ m : Later W1, m.w = W1 := ⟨Later.refl _, rfl⟩
  refine (fun h => hm0 ▸ h) ?_
  clear hm0
  cases hv : isGraphB n rs
  · have HE := Lib.hid (countV_no (k := k) hv)
    go_wp2_with (first | (go_at_call 18; refine (Calls.later m (specIsGraph_any _ _ _ _ _ (hr.later m) hrl)).mono ?_; rintro e w' ⟨rfl, m, rfl⟩))
    go_ret
    exact ⟨retI (by rw [HE.out]), below_later HhB.out m⟩
  cases hw : (decide (0 ≤ k) && decide (k ≤ 4))
  · have HE := Lib.hid (countV_out (n := n) (rs := rs) hw)
    go_wp2_with (first | (go_at_call 18; refine (Calls.later m (specIsGraph_any _ _ _ _ _ (hr.later m) hrl)).mono ?_; rintro e w' ⟨rfl, m, rfl⟩) | (go_at_call 80; refine (l1In_any _ _ _ _).mono ?_; rintro e w' ⟨rfl, rfl⟩))
    go_ret
    exact ⟨retI (by rw [HE.out]), below_later HhB.out m⟩
  · obtain ⟨rfl, g⟩ := VG.of hv
    have hw' := hw
    simp only [Bool.and_eq_true, decide_eq_true_eq] at hw'
    obtain ⟨k, rfl⟩ : ∃ k' : Nat, k = k' := ⟨k.toNat, by omega⟩
    have hk : k ≤ 4 := by omega
    clear hw'
    have HE := Lib.hid (countV_of hv hw)
    have hk4 : decide ((k : Int) ≤ 4) = true := decide_eq_true (by omega)
    go_wp2_with (first | (go_at_call 18; refine (Calls.later m (specIsGraph_any _ _ _ _ _ (hr.later m) hrl)).mono ?_; rintro e w' ⟨rfl, m, rfl⟩; have hbm := Nat.lt_of_lt_of_le hb0 m.size) | (go_at_call 80; refine (l1In_any _ _ _ _).mono ?_; rintro e w' ⟨rfl, rfl⟩))
    generalize hW2 : m.w.alloc (.cells #[] 3) = W2
    obtain ⟨hB2, -, -⟩ := alloc1 hW2
    refine (l24Count_any rs ro rc k g hk rs.length [] 0 0 ⟨m.w.heap.size, 0, none⟩ W2 (by simp) rfl ((hr.later m).below hB2) (fun h => absurd h (by simp))).mono ?_
    rintro e w' ⟨rfl, hB3⟩
    have hB4 : Below w.heap.size w w' := (below_later HhB.out m).trans (((below_more' hB2 hB3)).mono (Nat.le_of_lt hbm))
    have HhB4 := Lib.hid hB4
    clear hB4
    go_wp2_with fail
    go_ret
    exact ⟨retI (by rw [HE.out]), HhB4.out⟩

end Go.Proofs.Ytkefkmjfjghggaa
