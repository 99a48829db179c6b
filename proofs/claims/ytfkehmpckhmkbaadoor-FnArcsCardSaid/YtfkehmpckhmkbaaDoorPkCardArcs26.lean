/-
  The walks of l23On, contains, ArcsAt of the reference and of the program. For lists of at most 2^20 elements.
-/
import Derived.Test.YtfkehmpckhmkbaaDoorPkCardArcs25
namespace Go.Proofs.YtfkehmpckhmkbaaDoor
open Go.RowKit

theorem isArcsB_true {c : Int} {f l : List Int} (h : isArcsB c f l = true) : 3 ≤ c ∧ c ≤ 30 ∧ 1 ≤ f.length ∧ f.length ≤ 7 ∧ l.length = f.length ∧
    ∀ j, j < f.length → (0 ≤ gi f j ∧ gi f j ≤ c - 1) ∧ 1 ≤ gi l j ∧ gi l j ≤ c - 1 := by
  unfold isArcsB at h
  simp only [decide_eq_true_eq] at h
  obtain ⟨a, b, d, e, g, h⟩ := h
  refine ⟨a, b, d, e, g, fun j hj => ?_⟩
  have := h j hj
  unfold arcOk at this
  rw [IntWalk.wrap64_in (c - 1) ⟨by omega, by omega⟩] at this
  simpa using this

def onB (c : Int) (f l : List Int) (i : Nat) (x : Int) : Bool := decide ((x - gi f i) % c < gi l i)
def arcsUpto (c : Int) (f l : List Int) (x : Int) : Nat → Nat
  | 0 => 0
  | k + 1 => arcsUpto c f l x k + (if onB c f l k x = true then 2 ^ k else 0)
theorem arcsUpto_lt (c : Int) (f l : List Int) (x : Int) (k : Nat) : arcsUpto c f l x k < 2 ^ k := by
  induction k with
  | zero => simp [arcsUpto]
  | succ k ih => unfold arcsUpto; split <;> omega
def arcsAtV (c : Int) (f l : List Int) (x : Int) : Int := if isArcsB c f l = true ∧ 0 ≤ x ∧ x ≤ c - 1 then (arcsUpto c f l x f.length : Int) else 0

set_option maxHeartbeats 400000 in
theorem l23On_any (c : Int) (f l : List Int) (fa la : Option Addr) (fc lc : Nat) (k : Nat) (x : Int) (w : World) (hf : IntsAt w fa f) (hl : IntsAt w la l) (hv : isArcsB c f l = true) (hk : k < f.length) (hx : 0 ≤ x) (hx2 : x ≤ c - 1) :
    Calls Tryd.prog 32 #[.agg #[.int .i64 c, .slice fa f.length fc, .slice la l.length lc], .int .i64 k, .int .i64 x] w fun e w' => e = .returned (.bool (onB c f l k x)) ∧ Below w.heap.size w w' := by
  obtain ⟨h1, h2, h3, h4, h5, h6⟩ := isArcsB_true hv
  obtain ⟨⟨h7, h8⟩, h9, h10⟩ := h6 k hk
  have hk' : k < l.length := by omega
  have hll : l.length ≤ 7 := by omega
  clear h6 h5 hv
  go_enter Tryd.func32, Tryd.ntmps32
  go_wp2_with fail
  generalize hW : w.alloc _ = W1
  obtain ⟨hB, -, k0⟩ := alloc1 hW
  replace hf := hf.below hB
  replace hl := hl.below hB
  have hb0 := k0.lt
  have hc0 := k0.cell 0
  have hc1 := k0.cell 1
  have hc2 := k0.cell 2
  simp at hc0 hc1 hc2
  clear hW k0
  have HhB := Lib.hid hB
  clear hB
  obtain ⟨fb, fo, rfl, hfb, hfc⟩ := hf (by omega)
  obtain ⟨lb, lo, rfl, hlb, hlc⟩ := hl (by omega)
  obtain ⟨m, hm0⟩ : ∃ m : Later W1, m.w = W1 := ⟨Later.refl _, rfl⟩
  refine (fun h => hm0 ▸ h) ?_
  clear hm0
  refine wp_region_later m rfl (by kernel_rfl) (by kernel_rfl) ?_
  repeat (go_big_quiet_step (fail))
  refine wpQuiet_nil ?_
  rintro _ ⟨m, rfl⟩
  go_wp2_with fail
  go_ret
  exact ⟨rfl, below_later HhB.out m⟩

set_option maxHeartbeats 400000 in
theorem contains_any (c : Int) (f l : List Int) (fa la : Option Addr) (fc lc : Nat) (k : Nat) (x : Int) (w : World) (hf : IntsAt w fa f) (hl : IntsAt w la l) (hv : isArcsB c f l = true) (hk : k < f.length) (hx : 0 ≤ x) (hx2 : x ≤ c - 1) :
    Calls Tryd.prog 30 #[.agg #[.int .i64 c, .slice fa f.length fc, .slice la l.length lc], .int .i64 k, .int .i64 x] w fun e w' => e = .returned (.bool (onB c f l k x)) ∧ Below w.heap.size w w' := by
  obtain ⟨h1, h2, h3, h4, h5, h6⟩ := isArcsB_true hv
  obtain ⟨⟨h7, h8⟩, h9, h10⟩ := h6 k hk
  have hk' : k < l.length := by omega
  have hll : l.length ≤ 7 := by omega
  clear h6 h5 hv
  go_enter Tryd.func30, Tryd.ntmps30
  go_wp2_with fail
  generalize hW : w.alloc _ = W1
  obtain ⟨hB, -, k0⟩ := alloc1 hW
  replace hf := hf.below hB
  replace hl := hl.below hB
  have hb0 := k0.lt
  have hc0 := k0.cell 0
  have hc1 := k0.cell 1
  have hc2 := k0.cell 2
  simp at hc0 hc1 hc2
  clear hW k0
  have HhB := Lib.hid hB
  clear hB
  obtain ⟨fb, fo, rfl, hfb, hfc⟩ := hf (by omega)
  obtain ⟨lb, lo, rfl, hlb, hlc⟩ := hl (by omega)
  obtain ⟨m, hm0⟩ : ∃ m : Later W1, m.w = W1 := ⟨Later.refl _, rfl⟩
  refine (fun h => hm0 ▸ h) ?_
  clear hm0
  refine wp_region_later m rfl (by kernel_rfl) (by kernel_rfl) ?_
  repeat (go_big_quiet_step (fail))
  refine wpQuiet_nil ?_
  rintro _ ⟨m, rfl⟩
  go_wp2_with fail
  go_ret
  exact ⟨rfl, below_later HhB.out m⟩

set_option maxHeartbeats 1000000 in
theorem specArcsAt_any (c : Int) (f l : List Int) (fa la : Option Addr) (fc lc : Nat) (x : Int) (w : World) (hf : IntsAt w fa f) (hl : IntsAt w la l)
   (hfl : f.length ≤ 1048576) (hll : l.length ≤ 1048576) :
    Calls Tryd.prog 24 #[.agg #[.int .i64 c, .slice fa f.length fc, .slice la l.length lc], .int .i64 x] w fun e w' => e = .returned (.int .i64 (arcsAtV c f l x)) ∧ Below w.heap.size w w' := by
  go_enter Tryd.func24, Tryd.ntmps24
  go_wp2_with fail
  generalize hW : w.alloc _ = W1
  obtain ⟨hB, -, k0⟩ := alloc1 hW
  replace hf := hf.below hB
  replace hl := hl.below hB
  have hb0 := k0.lt
  have hc0 := k0.cell 0
  have hc1 := k0.cell 1
  have hc2 := k0.cell 2
  simp at hc0 hc1 hc2
  clear hW k0
  have HhB := Lib.hid hB
  clear hB
  cases hv : isArcsB c f l
  · have HE : Hid (arcsAtV c f l x = 0) := by show arcsAtV c f l x = 0; unfold arcsAtV; rw [if_neg (by rw [hv]; simp)]
    go_loopw [5, 6] (fun s i wr => (∃ m : Later W1, wr = m.w) ∧ s = .int .i64 0 ∧ i = .int .i64 0) (fun _ _ _ => 0)
    case atStart => exact ⟨⟨Later.refl _, rfl⟩, rfl, rfl⟩
    case round =>
      obtain ⟨⟨m, rfl⟩, rfl, rfl⟩ := hrel
      by_cases h0 : (0 : Int) < f.length
      all_goals
        go_wp2_with (first | (go_at_call 31; refine (Calls.later m (specIsArcs_any _ _ _ _ _ _ _ _ (hf.later m) (hl.later m) hfl hll)).mono ?_; rintro e w' ⟨rfl, m, rfl⟩))
        go_ret
        exact ⟨retI (by rw [HE.out]), below_later HhB.out m⟩
  · obtain ⟨h1, h2, h3, h4, h5, h6⟩ := isArcsB_true hv
    have hw : wrap64 (c - 1) = c - 1 := IntWalk.wrap64_in (c - 1) ⟨by omega, by omega⟩
    clear h6
    have Hh5 := Lib.hid h5
    clear h5
    cases hx : (decide (0 ≤ x) && decide (x ≤ c - 1))
    · have HE : Hid (arcsAtV c f l x = 0) := by show arcsAtV c f l x = 0; unfold arcsAtV; rw [if_neg (by rintro ⟨_, a, b⟩; simp [a, b] at hx)]
      go_loopw [5, 6] (fun s i wr => (∃ m : Later W1, wr = m.w) ∧ s = .int .i64 0 ∧ i = .int .i64 0) (fun _ _ _ => 0)
      case atStart => exact ⟨⟨Later.refl _, rfl⟩, rfl, rfl⟩
      case round =>
        obtain ⟨⟨m, rfl⟩, rfl, rfl⟩ := hrel
        have h0 : (0 : Int) < f.length := by omega
        go_wp2_with (first | (go_at_call 31; refine (Calls.later m (specIsArcs_any _ _ _ _ _ _ _ _ (hf.later m) (hl.later m) hfl hll)).mono ?_; rintro e w' ⟨rfl, m, rfl⟩) | (go_at_call 41; refine (l1In_any _ _ _ _).mono ?_; rintro e w' ⟨rfl, rfl⟩))
        go_ret
        exact ⟨retI (by rw [HE.out]), below_later HhB.out m⟩
    · have hx' := hx
      simp only [Bool.and_eq_true, decide_eq_true_eq] at hx'
      obtain ⟨hx1, hx2⟩ := hx'
      have HE : Hid (arcsAtV c f l x = (arcsUpto c f l x f.length : Int)) := by show arcsAtV c f l x = _; unfold arcsAtV; rw [if_pos ⟨hv, hx1, hx2⟩]
      go_loopw [5, 6] (fun s i wr => (∃ m : Later W1, wr = m.w) ∧ ∃ k : Nat, k ≤ f.length ∧ s = .int .i64 (arcsUpto c f l x k : Int) ∧ i = .int .i64 k) (fun _ i _ => f.length - (intOf i).toNat)
      case atStart => exact ⟨⟨Later.refl _, rfl⟩, 0, by omega, rfl, rfl⟩
      case round =>
        obtain ⟨⟨m, rfl⟩, k, hk, rfl, rfl⟩ := hrel
        by_cases hlt : (k : Int) < f.length
        · have hs := arcsUpto_lt c f l x k
          have hp : pwN k = ((2 ^ k : Nat) : Int) := pwN_small k (by omega)
          have hp2 : 2 ^ k ≤ 2 ^ 6 := Nat.pow_le_pow_right (by decide) (by omega)
          have HU : Hid (∀ b, onB c f l k x = b → arcsUpto c f l x (k + 1) = arcsUpto c f l x k + (if b = true then 2 ^ k else 0)) := fun b hb => by subst hb; rfl
          generalize hS : arcsUpto c f l x k = S at *
          generalize hP2 : 2 ^ k = p2 at *
          clear hS hP2
          cases ho : onB c f l k x
          all_goals
            go_wp2_with (first | (go_at_call 31; refine (Calls.later m (specIsArcs_any _ _ _ _ _ _ _ _ (hf.later m) (hl.later m) hfl hll)).mono ?_; rintro e w' ⟨rfl, m, rfl⟩) | (go_at_call 41; refine (l1In_any _ _ _ _).mono ?_; rintro e w' ⟨rfl, rfl⟩) | (go_at_call 32; refine (Calls.later m (l23On_any _ _ _ _ _ _ _ _ _ _ (hf.later m) (hl.later m) hv (by omega) hx1 hx2)).mono ?_; rintro e w' ⟨rfl, m, rfl⟩))
            go_roundw
            case rel => exact ⟨⟨m, rfl⟩, k + 1, by omega, by rw [HU.out _ ho]; go_num, by go_num⟩
            case measure => simp [intOf]; omega
        · go_wp2_with (first | (go_at_call 31; refine (Calls.later m (specIsArcs_any _ _ _ _ _ _ _ _ (hf.later m) (hl.later m) hfl hll)).mono ?_; rintro e w' ⟨rfl, m, rfl⟩) | (go_at_call 41; refine (l1In_any _ _ _ _).mono ?_; rintro e w' ⟨rfl, rfl⟩))
          go_ret
          obtain rfl : k = f.length := by omega
          exact ⟨retI (by rw [HE.out]), below_later HhB.out m⟩

set_option maxHeartbeats 1000000 in
theorem implArcsAt_any (c : Int) (f l : List Int) (fa la : Option Addr) (fc lc : Nat) (x : Int) (w : World) (hf : IntsAt w fa f) (hl : IntsAt w la l)
   (hfl : f.length ≤ 1048576) (hll : l.length ≤ 1048576) :
    Calls Tryd.prog 18 #[.agg #[.int .i64 c, .slice fa f.length fc, .slice la l.length lc], .int .i64 x] w fun e w' => e = .returned (.int .i64 (arcsAtV c f l x)) ∧ Below w.heap.size w w' := by
  go_enter Tryd.func18, Tryd.ntmps18
  go_wp2_with fail
  generalize hW : w.alloc _ = W1
  obtain ⟨hB, -, k0⟩ := alloc1 hW
  replace hf := hf.below hB
  replace hl := hl.below hB
  have hb0 := k0.lt
  have hc0 := k0.cell 0
  have hc1 := k0.cell 1
  have hc2 := k0.cell 2
  simp at hc0 hc1 hc2
  clear hW k0
  have HhB := Lib.hid hB
  clear hB
  obtain ⟨m, hm0⟩ : ∃ m : Later W1, m.w = W1 := ⟨Later.refl _, rfl⟩
  refine (fun h => hm0 ▸ h) ?_
  clear hm0
  cases hv : isArcsB c f l
  · have HE : Hid (arcsAtV c f l x = 0) := by show arcsAtV c f l x = 0; unfold arcsAtV; rw [if_neg (by rw [hv]; simp)]
    go_wp2_with (first | (go_at_call 11; refine (Calls.later m (implIsArcs_any _ _ _ _ _ _ _ _ (hf.later m) (hl.later m) hfl hll)).mono ?_; rintro e w' ⟨rfl, m, rfl⟩))
    go_ret
    exact ⟨retI (by rw [HE.out]), below_later HhB.out m⟩
  · obtain ⟨h1, h2, h3, h4, h5, h6⟩ := isArcsB_true hv
    have hw : wrap64 (c - 1) = c - 1 := IntWalk.wrap64_in (c - 1) ⟨by omega, by omega⟩
    clear h6
    have Hh5 := Lib.hid h5
    clear h5
    cases hx : (decide (0 ≤ x) && decide (x ≤ c - 1))
    · have HE : Hid (arcsAtV c f l x = 0) := by show arcsAtV c f l x = 0; unfold arcsAtV; rw [if_neg (by rintro ⟨_, a, b⟩; simp [a, b] at hx)]
      go_wp2_with (first | (go_at_call 11; refine (Calls.later m (implIsArcs_any _ _ _ _ _ _ _ _ (hf.later m) (hl.later m) hfl hll)).mono ?_; rintro e w' ⟨rfl, m, rfl⟩) | (go_at_call 34; refine (within_any _ _ _ _).mono ?_; rintro e w' ⟨rfl, rfl⟩))
      go_ret
      exact ⟨retI (by rw [HE.out]), below_later HhB.out m⟩
    · have hx' := hx
      simp only [Bool.and_eq_true, decide_eq_true_eq] at hx'
      obtain ⟨hx1, hx2⟩ := hx'
      have HE : Hid (arcsAtV c f l x = (arcsUpto c f l x f.length : Int)) := by show arcsAtV c f l x = _; unfold arcsAtV; rw [if_pos ⟨hv, hx1, hx2⟩]
      go_wp2_with (first | (go_at_call 11; refine (Calls.later m (implIsArcs_any _ _ _ _ _ _ _ _ (hf.later m) (hl.later m) hfl hll)).mono ?_; rintro e w' ⟨rfl, m, rfl⟩) | (go_at_call 34; refine (within_any _ _ _ _).mono ?_; rintro e w' ⟨rfl, rfl⟩))
      go_loopw [5, 21] (fun s i wr => (∃ m : Later W1, wr = m.w) ∧ ∃ k : Nat, k ≤ f.length ∧ s = .int .i64 (arcsUpto c f l x k : Int) ∧ i = .int .i64 k) (fun _ i _ => f.length - (intOf i).toNat)
      case atStart => exact ⟨⟨m, rfl⟩, 0, by omega, rfl, rfl⟩
      case round =>
        obtain ⟨⟨m, rfl⟩, k, hk, rfl, rfl⟩ := hrel
        by_cases hlt : (k : Int) < f.length
        · have hs := arcsUpto_lt c f l x k
          have hp : pwN k = ((2 ^ k : Nat) : Int) := pwN_small k (by omega)
          have hp2 : 2 ^ k ≤ 2 ^ 6 := Nat.pow_le_pow_right (by decide) (by omega)
          have HU : Hid (∀ b, onB c f l k x = b → arcsUpto c f l x (k + 1) = arcsUpto c f l x k + (if b = true then 2 ^ k else 0)) := fun b hb => by subst hb; rfl
          have hor : bits .or .i64 (arcsUpto c f l x k : Int) ((2 ^ k : Nat) : Int) = ((arcsUpto c f l x k + 2 ^ k : Nat) : Int) := by
            rw [bits_or_nat _ _ (by omega) (by omega), or_pow _ _ hs]
          generalize hS : arcsUpto c f l x k = S at *
          generalize hP2 : 2 ^ k = p2 at *
          clear hS hP2
          cases ho : onB c f l k x
          all_goals
            go_wp2_with (first | (go_at_call 30; refine (Calls.later m (contains_any _ _ _ _ _ _ _ _ _ _ (hf.later m) (hl.later m) hv (by omega) hx1 hx2)).mono ?_; rintro e w' ⟨rfl, m, rfl⟩))
            go_roundw
            case rel => exact ⟨⟨m, rfl⟩, k + 1, by omega, by rw [HU.out _ ho]; go_num, by go_num⟩
            case measure => simp [intOf]; omega
        · go_wp2_with fail
          go_ret
          obtain rfl : k = f.length := by omega
          exact ⟨retI (by rw [HE.out]), below_later HhB.out m⟩

end Go.Proofs.YtfkehmpckhmkbaaDoor
