/-
  The walks of IsArcs, of the reference and of the program: both return isArcsB, for lists of at most 2^20 elements.
-/
import Derived.Test.YtfkehmpckhmkbaaDoorPkCardArcs02
namespace Go.Proofs.YtfkehmpckhmkbaaDoor
open Go.RowKit

def arcOk (c : Int) (f l : List Int) (j : Nat) : Bool := (decide (0 ≤ gi f j) && decide (gi f j ≤ wrap64 (c - 1))) && (decide (1 ≤ gi l j) && decide (gi l j ≤ wrap64 (c - 1)))

def isArcsB (c : Int) (f l : List Int) : Bool := decide (3 ≤ c ∧ c ≤ 30 ∧ 1 ≤ f.length ∧ f.length ≤ 7 ∧ l.length = f.length ∧ ∀ j, j < f.length → arcOk c f l j = true)

theorem isArcsB_bad {c : Int} {f l : List Int} {k : Nat} (h1 : k < f.length) (h : arcOk c f l k = false) : isArcsB c f l = false := by
  unfold isArcsB
  simp only [decide_eq_false_iff_not]
  rintro ⟨_, _, _, _, _, h6⟩
  rw [h6 k h1] at h
  cases h

theorem isArcsB_end {c : Int} {f l : List Int} {k : Nat} (h0 : k ≤ f.length) (h1 : ¬ (k < f.length ∧ k < l.length)) (h : ∀ j, j < k → arcOk c f l j = true) :
    isArcsB c f l = ((decide (3 ≤ c) && decide (c ≤ 30)) && (decide ((1 : Int) ≤ f.length) && decide ((f.length : Int) ≤ 7)) && ((l.length : Int) == f.length)) := by
  unfold isArcsB
  rw [Bool.eq_iff_iff]
  simp only [decide_eq_true_eq, Bool.and_eq_true, beq_iff_eq]
  constructor
  · rintro ⟨a, b, c, d, e, _⟩; omega
  · rintro ⟨⟨⟨a, b⟩, c, d⟩, e⟩; exact ⟨by omega, by omega, by omega, by omega, by omega, fun j hj => h j (by omega)⟩

theorem isArcsB_head {c : Int} {f l : List Int} (h : ((decide (3 ≤ c) && decide (c ≤ 30)) && (decide ((1 : Int) ≤ f.length) && decide ((f.length : Int) ≤ 7)) && ((l.length : Int) == f.length)) = false) : isArcsB c f l = false := by
  unfold isArcsB
  simp only [decide_eq_false_iff_not]
  rintro ⟨a, b, d, e, g, _⟩
  simp only [Bool.and_eq_false_iff, decide_eq_false_iff_not, beq_eq_false_iff_ne] at h
  omega

theorem isArcsB_all {c : Int} {f l : List Int} (h0 : 3 ≤ c) (h1 : c ≤ 30) (h2 : 1 ≤ f.length) (h3 : f.length ≤ 7) (h4 : l.length = f.length) (h : ∀ j, j < f.length → arcOk c f l j = true) : isArcsB c f l = true := by
  unfold isArcsB
  simp only [decide_eq_true_eq]
  exact ⟨h0, h1, h2, h3, h4, h⟩

set_option maxHeartbeats 400000 in
theorem specIsArcs_any (c : Int) (f l : List Int) (fa la : Option Addr) (fc lc : Nat) (w : World) (hf : IntsAt w fa f) (hl : IntsAt w la l)
   (hfl : f.length ≤ 1048576) (hll : l.length ≤ 1048576) :
    Calls Tryd.prog 31 #[.agg #[.int .i64 c, .slice fa f.length fc, .slice la l.length lc]] w fun e w' => e = .returned (.bool (isArcsB c f l)) ∧ Below w.heap.size w w' := by
  go_enter Tryd.func31, Tryd.ntmps31
  go_wp2_with fail
  generalize hW : w.alloc _ = W1
  obtain ⟨hB, -, k0⟩ := alloc1 hW
  replace hf := hf.below hB
  replace hl := hl.below hB
  have hb0 := k0.lt
  have hc0 := k0.cell 0
  have hc1 := k0.cell 1
  have hc2 := k0.cell 2
  simp at hc0 hc1 hc2
  clear hW k0
  have HhB := Lib.hid hB
  clear hB
  go_loopw [3] (fun i wr => (∃ m : Later W1, wr = m.w) ∧ ∃ k : Nat, i = .int .i64 k ∧ k ≤ f.length ∧ k ≤ l.length ∧ ∀ j, j < k → arcOk c f l j = true) (fun i _ => f.length - (intOf i).toNat)
  case atStart => exact ⟨⟨Later.refl _, rfl⟩, 0, rfl, by omega, by omega, fun j h => by omega⟩
  case round =>
    obtain ⟨⟨m, rfl⟩, k, rfl, hk1, hk2, hP⟩ := hrel
    have HhP := Lib.hid hP
    clear hP
    by_cases h12 : k < f.length ∧ k < l.length
    · obtain ⟨h1, h2⟩ := h12
      obtain ⟨fb, fo, rfl, hfb, hfc⟩ := hf (by omega)
      obtain ⟨lb, lo, rfl, hlb, hlc⟩ := hl (by omega)
      go_wp2_with fail
      have HA : Hid (arcOk c f l k = ((decide (0 ≤ gi f k) && decide (gi f k ≤ wrap64 (c - 1))) && (decide (1 ≤ gi l k) && decide (gi l k ≤ wrap64 (c - 1))))) := rfl
      cases h3 : (decide (0 ≤ gi f k) && decide (gi f k ≤ wrap64 (c - 1)))
      · refine wp_region_later m rfl (by kernel_rfl) (by kernel_rfl) ?_
        repeat (go_big_quiet_step ((first | (go_at_call 41; exact Calls.later_same _ (l1In_any _ _ _ _)))))
        refine wpQuiet_nil ?_
        rintro _ ⟨m, rfl⟩
        go_wp2_with fail
        go_ret
        exact ⟨retB (by rw [isArcsB_bad h1 (by rw [HA.out, h3]; rfl)]), below_later HhB.out m⟩
      · cases h4 : (decide (1 ≤ gi l k) && decide (gi l k ≤ wrap64 (c - 1)))
        all_goals
          refine wp_region_later m rfl (by kernel_rfl) (by kernel_rfl) ?_
          repeat (go_big_quiet_step ((first | (go_at_call 41; exact Calls.later_same _ (l1In_any _ _ _ _)))))
          refine wpQuiet_nil ?_
          rintro _ ⟨m, rfl⟩
          go_wp2_with fail
        · go_ret
          exact ⟨retB (by rw [isArcsB_bad h1 (by rw [HA.out, h3, h4]; rfl)]), below_later HhB.out m⟩
        · go_roundw
          case rel =>
            refine ⟨⟨m, rfl⟩, k + 1, by go_num, by omega, by omega, fun j hj => ?_⟩
            rcases Nat.lt_succ_iff_lt_or_eq.1 hj with hj | rfl
            · exact HhP.out j hj
            · rw [HA.out, h3, h4]; rfl
          case measure => simp [intOf]; omega
    · have HE := Lib.hid (isArcsB_end hk1 h12 HhP.out)
      cases h3 : (decide (3 ≤ c) && decide (c ≤ 30))
      all_goals
        cases h4 : (decide ((1 : Int) ≤ f.length) && decide ((f.length : Int) ≤ 7))
        all_goals
          by_cases h1 : k < f.length
          all_goals
            first | (have h2 : ¬ k < l.length := by omega) | skip
            clear h12
            go_wp2_with (first | (go_at_call 41; refine (l1In_any _ _ _ _).mono ?_; rintro e w' ⟨rfl, rfl⟩))
            go_ret
            exact ⟨by rw [HE.out]; simp [h3, h4], below_later HhB.out m⟩

set_option maxHeartbeats 400000 in
theorem implIsArcs_any (c : Int) (f l : List Int) (fa la : Option Addr) (fc lc : Nat) (w : World) (hf : IntsAt w fa f) (hl : IntsAt w la l)
   (hfl : f.length ≤ 1048576) (hll : l.length ≤ 1048576) :
    Calls Tryd.prog 11 #[.agg #[.int .i64 c, .slice fa f.length fc, .slice la l.length lc]] w fun e w' => e = .returned (.bool (isArcsB c f l)) ∧ Below w.heap.size w w' := by
  go_enter Tryd.func11, Tryd.ntmps11
  go_wp2_with fail
  generalize hW : w.alloc _ = W1
  obtain ⟨hB, -, k0⟩ := alloc1 hW
  replace hf := hf.below hB
  replace hl := hl.below hB
  have hb0 := k0.lt
  have hc0 := k0.cell 0
  have hc1 := k0.cell 1
  have hc2 := k0.cell 2
  simp at hc0 hc1 hc2
  clear hW k0
  have HhB := Lib.hid hB
  clear hB
  cases h3 : (decide (3 ≤ c) && decide (c ≤ 30))
  · have HE := Lib.hid (isArcsB_head (c := c) (f := f) (l := l) (by rw [h3]; rfl))
    go_wp2_with (first | (go_at_call 34; refine (within_any _ _ _ _).mono ?_; rintro e w' ⟨rfl, rfl⟩))
    go_ret
    exact ⟨retB (by rw [HE.out]), HhB.out⟩
  cases h4 : (decide ((1 : Int) ≤ f.length) && decide ((f.length : Int) ≤ 7))
  · have HE := Lib.hid (isArcsB_head (c := c) (f := f) (l := l) (by rw [h3, h4]; rfl))
    go_wp2_with (first | (go_at_call 34; refine (within_any _ _ _ _).mono ?_; rintro e w' ⟨rfl, rfl⟩))
    go_ret
    exact ⟨retB (by rw [HE.out]), HhB.out⟩
  by_cases h5 : l.length = f.length
  · have hb : ((l.length : Int) != f.length) = false := by rw [h5]; simp
    have Hh5 := Lib.hid h5
    clear h5
    go_wp2_with (first | (go_at_call 34; refine (within_any _ _ _ _).mono ?_; rintro e w' ⟨rfl, rfl⟩))
    go_loopw [28] (fun i wr => (∃ m : Later W1, wr = m.w) ∧ ∃ k : Nat, i = .int .i64 k ∧ k ≤ f.length ∧ ∀ j, j < k → arcOk c f l j = true) (fun i _ => f.length - (intOf i).toNat)
    case atStart => exact ⟨⟨Later.refl _, rfl⟩, 0, rfl, by omega, fun j h => by omega⟩
    case round =>
      obtain ⟨⟨m, rfl⟩, k, rfl, hk1, hP⟩ := hrel
      have HhP := Lib.hid hP
      clear hP
      by_cases h1 : k < f.length
      · have h2 : k < l.length := by rw [Hh5.out]; exact h1
        obtain ⟨fb, fo, rfl, hfb, hfc⟩ := hf (by omega)
        obtain ⟨lb, lo, rfl, hlb, hlc⟩ := hl (by omega)
        go_wp2_with fail
        have HA : Hid (arcOk c f l k = ((decide (0 ≤ gi f k) && decide (gi f k ≤ wrap64 (c - 1))) && (decide (1 ≤ gi l k) && decide (gi l k ≤ wrap64 (c - 1))))) := rfl
        cases h6 : (decide (0 ≤ gi f k) && decide (gi f k ≤ wrap64 (c - 1)))
        · refine wp_region_later m rfl (by kernel_rfl) (by kernel_rfl) ?_
          repeat (go_big_quiet_step ((first | (go_at_call 34; exact Calls.later_same _ (within_any _ _ _ _)))))
          refine wpQuiet_nil ?_
          rintro _ ⟨m, rfl⟩
          go_wp2_with fail
          go_ret
          exact ⟨retB (by rw [isArcsB_bad h1 (by rw [HA.out, h6]; rfl)]), below_later HhB.out m⟩
        · cases h7 : (decide (1 ≤ gi l k) && decide (gi l k ≤ wrap64 (c - 1)))
          all_goals
            refine wp_region_later m rfl (by kernel_rfl) (by kernel_rfl) ?_
            repeat (go_big_quiet_step ((first | (go_at_call 34; exact Calls.later_same _ (within_any _ _ _ _)))))
            refine wpQuiet_nil ?_
            rintro _ ⟨m, rfl⟩
            go_wp2_with fail
          · go_ret
            exact ⟨retB (by rw [isArcsB_bad h1 (by rw [HA.out, h6, h7]; rfl)]), below_later HhB.out m⟩
          · go_roundw
            case rel =>
              refine ⟨⟨m, rfl⟩, k + 1, by go_num, by omega, fun j hj => ?_⟩
              rcases Nat.lt_succ_iff_lt_or_eq.1 hj with hj | rfl
              · exact HhP.out j hj
              · rw [HA.out, h6, h7]; rfl
            case measure => simp [intOf]; omega
      · go_wp2_with fail
        go_ret
        simp only [Bool.and_eq_true, decide_eq_true_eq] at h3 h4
        exact ⟨retB (by rw [isArcsB_all h3.1 h3.2 (by omega) (by omega) Hh5.out (fun j hj => HhP.out j (by omega))]), below_later HhB.out m⟩
  · have hb : ((l.length : Int) != f.length) = true := by simp; omega
    have HE := Lib.hid (isArcsB_head (c := c) (f := f) (l := l) (by rw [h3, h4]; simp; omega))
    clear h5
    go_wp2_with (first | (go_at_call 34; refine (within_any _ _ _ _).mono ?_; rintro e w' ⟨rfl, rfl⟩))
    go_ret
    exact ⟨retB (by rw [HE.out]), HhB.out⟩

end Go.Proofs.YtfkehmpckhmkbaaDoor
