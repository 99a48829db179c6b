/-
  The walks of CoversCircle and FreePoint of the reference and of the program. For lists of at most 2^20 elements.
-/
import Derived.Test.YtfkehmpckhmkbaaDoorPkCardArcs26
namespace Go.Proofs.YtfkehmpckhmkbaaDoor
open Go.RowKit

def notCov (c : Int) (f l : List Int) (s : Int) (x : Nat) : Bool := bits .and .i64 (arcsAtV c f l x) s == 0
def coversB (c : Int) (f l : List Int) (s : Int) : Bool := decide (isArcsB c f l = true ∧ 0 ≤ s ∧ s < pwN f.length ∧ ∀ x, x < c.toNat → notCov c f l s x = false)
theorem coversB_inv {c : Int} {f l : List Int} {s : Int} (h : isArcsB c f l = false) : coversB c f l s = false := by
  unfold coversB; simp only [decide_eq_false_iff_not]; rintro ⟨a, _⟩; rw [h] at a; cases a
theorem coversB_hit {c : Int} {f l : List Int} {s : Int} {k : Nat} (hk : (k : Int) < c) (h : notCov c f l s k = true) : coversB c f l s = false := by
  unfold coversB; simp only [decide_eq_false_iff_not]; rintro ⟨_, _, _, a⟩; rw [a k (by omega)] at h; cases h
theorem coversB_all {c : Int} {f l : List Int} {s : Int} (h : isArcsB c f l = true) (ha : ∀ x, x < c.toNat → notCov c f l s x = false) : coversB c f l s = (decide (0 ≤ s) && decide (s < pwN f.length)) := by
  unfold coversB; rw [Bool.eq_iff_iff]; simp only [decide_eq_true_eq, Bool.and_eq_true]
  exact ⟨fun ⟨_, b, d, _⟩ => ⟨b, d⟩, fun ⟨b, d⟩ => ⟨h, b, d, ha⟩⟩
theorem coversB_out {c : Int} {f l : List Int} {s : Int} (h : (decide (0 ≤ s) && decide (s ≤ pwN f.length - 1)) = false) : coversB c f l s = false := by
  unfold coversB; simp only [decide_eq_false_iff_not]; rintro ⟨_, a, b, _⟩; simp only [Bool.and_eq_false_iff, decide_eq_false_iff_not] at h; omega
theorem coversB_in {c : Int} {f l : List Int} {s : Int} (h : isArcsB c f l = true) (hs : (decide (0 ≤ s) && decide (s ≤ pwN f.length - 1)) = true) (ha : ∀ x, x < c.toNat → notCov c f l s x = false) : coversB c f l s = true := by
  rw [coversB_all h ha]; simp only [Bool.and_eq_true, decide_eq_true_eq] at *; omega

set_option maxHeartbeats 1000000 in
theorem specCovers_any (c : Int) (f l : List Int) (fa la : Option Addr) (fc lc : Nat) (s : Int) (w : World) (hf : IntsAt w fa f) (hl : IntsAt w la l)
   (hfl : f.length ≤ 1048576) (hll : l.length ≤ 1048576) :
    Calls Tryd.prog 25 #[.agg #[.int .i64 c, .slice fa f.length fc, .slice la l.length lc], .int .i64 s] w fun e w' => e = .returned (.bool (coversB c f l s)) ∧ Below w.heap.size w w' := by
  go_enter Tryd.func25, Tryd.ntmps25
  go_wp2_with fail
  generalize hW : w.alloc _ = W1
  obtain ⟨hB, -, k0⟩ := alloc1 hW
  replace hf := hf.below hB
  replace hl := hl.below hB
  have hb0 := k0.lt
  have hc0 := k0.cell 0
  have hc1 := k0.cell 1
  have hc2 := k0.cell 2
  simp at hc0 hc1 hc2
  clear hW k0
  have HhB := Lib.hid hB
  clear hB
  cases hv : isArcsB c f l
  · have HE := Lib.hid (coversB_inv (s := s) hv)
    go_loopw [5] (fun i wr => (∃ m : Later W1, wr = m.w) ∧ i = .int .i64 0) (fun _ _ => 0)
    case atStart => exact ⟨⟨Later.refl _, rfl⟩, rfl⟩
    case round =>
      obtain ⟨⟨m, rfl⟩, rfl⟩ := hrel
      by_cases h0 : 0 < c
      all_goals
        go_wp2_with (first | (go_at_call 31; refine (Calls.later m (specIsArcs_any _ _ _ _ _ _ _ _ (hf.later m) (hl.later m) hfl hll)).mono ?_; rintro e w' ⟨rfl, m, rfl⟩))
        go_ret
        exact ⟨retB (by rw [HE.out]), below_later HhB.out m⟩
  · obtain ⟨h1, h2, h3, h4, -, -⟩ := isArcsB_true hv
    have hp : pwN f.length = ((2 ^ f.length : Nat) : Int) := pwN_small _ (by omega)
    have Hhp := Lib.hid hp
    clear hp
    go_loopw [5] (fun i wr => (∃ m : Later W1, wr = m.w) ∧ ∃ k : Nat, (k : Int) ≤ c ∧ i = .int .i64 k ∧ ∀ x, x < k → notCov c f l s x = false) (fun i _ => (c - intOf i).toNat)
    case atStart => exact ⟨⟨Later.refl _, rfl⟩, 0, by omega, rfl, fun x h => by omega⟩
    case round =>
      obtain ⟨⟨m, rfl⟩, k, hk, rfl, hP⟩ := hrel
      have HhP := Lib.hid hP
      clear hP
      by_cases hlt : (k : Int) < c
      · have HU : Hid (∀ b, (bits .and .i64 (arcsAtV c f l k) s == 0) = b → notCov c f l s k = b) := fun b hb => hb
        cases ho : (bits .and .i64 (arcsAtV c f l k) s == 0)
        all_goals
          go_wp2_with (first | (go_at_call 31; refine (Calls.later m (specIsArcs_any _ _ _ _ _ _ _ _ (hf.later m) (hl.later m) hfl hll)).mono ?_; rintro e w' ⟨rfl, m, rfl⟩) | (go_at_call 24; refine (Calls.later m (specArcsAt_any _ _ _ _ _ _ _ _ _ (hf.later m) (hl.later m) hfl hll)).mono ?_; rintro e w' ⟨rfl, m, rfl⟩))
        · go_roundw
          case rel =>
            refine ⟨⟨m, rfl⟩, k + 1, by omega, by go_num, fun x hx => ?_⟩
            rcases Nat.lt_succ_iff_lt_or_eq.1 hx with hx | rfl
            · exact HhP.out x hx
            · exact HU.out _ ho
          case measure => simp [intOf]; omega
        · go_ret
          exact ⟨retB (by rw [coversB_hit hlt (HU.out _ ho)]), below_later HhB.out m⟩
      · have HE := Lib.hid (coversB_all (s := s) hv (fun x hx => HhP.out x (by omega)))
        by_cases h5 : 0 ≤ s
        all_goals
          go_wp2_with (first | (go_at_call 31; refine (Calls.later m (specIsArcs_any _ _ _ _ _ _ _ _ (hf.later m) (hl.later m) hfl hll)).mono ?_; rintro e w' ⟨rfl, m, rfl⟩))
          go_ret
          exact ⟨retB (by rw [HE.out]; simp [h5] <;> omega), below_later HhB.out m⟩

set_option maxHeartbeats 1000000 in
theorem implCovers_any (c : Int) (f l : List Int) (fa la : Option Addr) (fc lc : Nat) (s : Int) (w : World) (hf : IntsAt w fa f) (hl : IntsAt w la l)
   (hfl : f.length ≤ 1048576) (hll : l.length ≤ 1048576) :
    Calls Tryd.prog 16 #[.agg #[.int .i64 c, .slice fa f.length fc, .slice la l.length lc], .int .i64 s] w fun e w' => e = .returned (.bool (coversB c f l s)) ∧ Below w.heap.size w w' := by
  go_enter Tryd.func16, Tryd.ntmps16
  go_wp2_with fail
  generalize hW : w.alloc _ = W1
  obtain ⟨hB, -, k0⟩ := alloc1 hW
  replace hf := hf.below hB
  replace hl := hl.below hB
  have hb0 := k0.lt
  have hc0 := k0.cell 0
  have hc1 := k0.cell 1
  have hc2 := k0.cell 2
  simp at hc0 hc1 hc2
  clear hW k0
  have HhB := Lib.hid hB
  clear hB
  obtain ⟨m, hm0⟩ : ∃ m : Later W1, m.w = W1 := ⟨Later.refl _, rfl⟩
  refine (fun h => hm0 ▸ h) ?_
  clear hm0
  cases hv : isArcsB c f l
  · have HE := Lib.hid (coversB_inv (s := s) hv)
    go_wp2_with (first | (go_at_call 11; refine (Calls.later m (implIsArcs_any _ _ _ _ _ _ _ _ (hf.later m) (hl.later m) hfl hll)).mono ?_; rintro e w' ⟨rfl, m, rfl⟩))
    go_ret
    exact ⟨retB (by rw [HE.out]), below_later HhB.out m⟩
  · obtain ⟨h1, h2, h3, h4, -, -⟩ := isArcsB_true hv
    have hp : pwN f.length = ((2 ^ f.length : Nat) : Int) := pwN_small _ (by omega)
    have hp2 : 2 ^ f.length ≤ 2 ^ 7 := Nat.pow_le_pow_right (by decide) (by omega)
    have hp3 : 0 < pwN f.length := by rw [hp]; have := Nat.two_pow_pos f.length; omega
    have hp4 : pwN f.length ≤ 128 := by rw [hp]; omega
    clear hp hp2
    cases hs : (decide (0 ≤ s) && decide (s ≤ pwN f.length - 1))
    · have HE := Lib.hid (coversB_out (c := c) (l := l) hs)
      go_wp2_with (first | (go_at_call 11; refine (Calls.later m (implIsArcs_any _ _ _ _ _ _ _ _ (hf.later m) (hl.later m) hfl hll)).mono ?_; rintro e w' ⟨rfl, m, rfl⟩) | (go_at_call 34; refine (within_any _ _ _ _).mono ?_; rintro e w' ⟨rfl, rfl⟩))
      go_ret
      exact ⟨retB (by rw [HE.out]), below_later HhB.out m⟩
    · go_wp2_with (first | (go_at_call 11; refine (Calls.later m (implIsArcs_any _ _ _ _ _ _ _ _ (hf.later m) (hl.later m) hfl hll)).mono ?_; rintro e w' ⟨rfl, m, rfl⟩) | (go_at_call 34; refine (within_any _ _ _ _).mono ?_; rintro e w' ⟨rfl, rfl⟩))
      go_loopw [21] (fun i wr => (∃ m : Later W1, wr = m.w) ∧ ∃ k : Nat, (k : Int) ≤ c ∧ i = .int .i64 k ∧ ∀ x, x < k → notCov c f l s x = false) (fun i _ => (c - intOf i).toNat)
      case atStart => exact ⟨⟨m, rfl⟩, 0, by omega, rfl, fun x h => by omega⟩
      case round =>
        obtain ⟨⟨m, rfl⟩, k, hk, rfl, hP⟩ := hrel
        have HhP := Lib.hid hP
        clear hP
        by_cases hlt : (k : Int) < c
        · have HU : Hid (∀ b, (bits .and .i64 (arcsAtV c f l k) s == 0) = b → notCov c f l s k = b) := fun b hb => hb
          cases ho : (bits .and .i64 (arcsAtV c f l k) s == 0)
          all_goals
            go_wp2_with (first | (go_at_call 18; refine (Calls.later m (implArcsAt_any _ _ _ _ _ _ _ _ _ (hf.later m) (hl.later m) hfl hll)).mono ?_; rintro e w' ⟨rfl, m, rfl⟩))
          · go_roundw
            case rel =>
              refine ⟨⟨m, rfl⟩, k + 1, by omega, by go_num, fun x hx => ?_⟩
              rcases Nat.lt_succ_iff_lt_or_eq.1 hx with hx | rfl
              · exact HhP.out x hx
              · exact HU.out _ ho
            case measure => simp [intOf]; omega
          · go_ret
            exact ⟨retB (by rw [coversB_hit hlt (HU.out _ ho)]), below_later HhB.out m⟩
        · go_wp2_with fail
          go_ret
          exact ⟨retB (by rw [coversB_in hv hs (fun x hx => HhP.out x (by omega))]), below_later HhB.out m⟩

/-- What FreePoint returns. -/
def freePt (c : Int) (f l : List Int) : Option Nat := if isArcsB c f l = true then firstB (fun x => arcsAtV c f l x == 0) c.toNat else none
def freeN (o : Option Nat) : Int := (o.getD 0 : Nat)
theorem freePt_inv {c : Int} {f l : List Int} (h : isArcsB c f l = false) : freePt c f l = none := by unfold freePt; rw [h]; rfl
theorem freePt_hit {c : Int} {f l : List Int} {k : Nat} (h : isArcsB c f l = true) (hk : (k : Int) < c) (hb : ∀ x, x < k → (arcsAtV c f l x == 0) = false) (hh : (arcsAtV c f l k == 0) = true) : freePt c f l = some k := by
  unfold freePt; rw [if_pos h]; exact firstB_hit (by omega) hb hh
theorem freePt_none {c : Int} {f l : List Int} {k : Nat} (h : isArcsB c f l = true) (hk : c ≤ (k : Int)) (hb : ∀ x, x < k → (arcsAtV c f l x == 0) = false) : freePt c f l = none := by
  unfold freePt; rw [if_pos h]; exact firstB_none (fun j hj => hb j (by omega))
/-- Whether there is one. -/
def freeIs (o : Option Nat) : Bool := o.isSome
theorem ret_none {o : Option Nat} (h : o = none) : Ending.returned (.tuple #[.int .i64 0, .bool false]) = .returned (.tuple #[.int .i64 (freeN o), .bool (freeIs o)]) := by subst h; rfl
theorem ret_some {o : Option Nat} {k : Nat} (h : o = some k) : Ending.returned (.tuple #[.int .i64 k, .bool true]) = .returned (.tuple #[.int .i64 (freeN o), .bool (freeIs o)]) := by subst h; rfl

set_option maxHeartbeats 1000000 in
theorem specFree_any (c : Int) (f l : List Int) (fa la : Option Addr) (fc lc : Nat) (w : World) (hf : IntsAt w fa f) (hl : IntsAt w la l)
   (hfl : f.length ≤ 1048576) (hll : l.length ≤ 1048576) :
    Calls Tryd.prog 9 #[.agg #[.int .i64 c, .slice fa f.length fc, .slice la l.length lc]] w fun e w' => e = .returned (.tuple #[.int .i64 (freeN (freePt c f l)), .bool (freeIs (freePt c f l))]) ∧ Below w.heap.size w w' := by
  go_enter Tryd.func9, Tryd.ntmps9
  go_wp2_with fail
  generalize hW : w.alloc _ = W1
  obtain ⟨hB, -, k0⟩ := alloc1 hW
  replace hf := hf.below hB
  replace hl := hl.below hB
  have hb0 := k0.lt
  have hc0 := k0.cell 0
  have hc1 := k0.cell 1
  have hc2 := k0.cell 2
  simp at hc0 hc1 hc2
  clear hW k0
  have HhB := Lib.hid hB
  clear hB
  cases hv : isArcsB c f l
  · have HE := Lib.hid (freePt_inv hv)
    go_loopw [4] (fun i wr => (∃ m : Later W1, wr = m.w) ∧ i = .int .i64 0) (fun _ _ => 0)
    case atStart => exact ⟨⟨Later.refl _, rfl⟩, rfl⟩
    case round =>
      obtain ⟨⟨m, rfl⟩, rfl⟩ := hrel
      by_cases h0 : 0 < c
      all_goals
        go_wp2_with (first | (go_at_call 31; refine (Calls.later m (specIsArcs_any _ _ _ _ _ _ _ _ (hf.later m) (hl.later m) hfl hll)).mono ?_; rintro e w' ⟨rfl, m, rfl⟩))
        go_ret2
        exact ⟨ret_none HE.out, below_later HhB.out m⟩
  · obtain ⟨h1, h2, -, -, -, -⟩ := isArcsB_true hv
    go_loopw [4] (fun i wr => (∃ m : Later W1, wr = m.w) ∧ ∃ k : Nat, (k : Int) ≤ c ∧ i = .int .i64 k ∧ ∀ x : Nat, x < k → (arcsAtV c f l x == 0) = false) (fun i _ => (c - intOf i).toNat)
    case atStart => exact ⟨⟨Later.refl _, rfl⟩, 0, by omega, rfl, fun x h => by omega⟩
    case round =>
      obtain ⟨⟨m, rfl⟩, k, hk, rfl, hP⟩ := hrel
      have HhP := Lib.hid hP
      clear hP
      by_cases hlt : (k : Int) < c
      · cases ho : (arcsAtV c f l k == 0)
        all_goals
          go_wp2_with (first | (go_at_call 31; refine (Calls.later m (specIsArcs_any _ _ _ _ _ _ _ _ (hf.later m) (hl.later m) hfl hll)).mono ?_; rintro e w' ⟨rfl, m, rfl⟩) | (go_at_call 24; refine (Calls.later m (specArcsAt_any _ _ _ _ _ _ _ _ _ (hf.later m) (hl.later m) hfl hll)).mono ?_; rintro e w' ⟨rfl, m, rfl⟩))
        · go_roundw
          case rel =>
            refine ⟨⟨m, rfl⟩, k + 1, by omega, by go_num, fun x hx => ?_⟩
            rcases Nat.lt_succ_iff_lt_or_eq.1 hx with hx | rfl
            · exact HhP.out x hx
            · exact ho
          case measure => simp [intOf]; omega
        · go_ret2
          exact ⟨ret_some (freePt_hit hv hlt HhP.out ho), below_later HhB.out m⟩
      · go_wp2_with (first | (go_at_call 31; refine (Calls.later m (specIsArcs_any _ _ _ _ _ _ _ _ (hf.later m) (hl.later m) hfl hll)).mono ?_; rintro e w' ⟨rfl, m, rfl⟩))
        go_ret2
        exact ⟨ret_none (freePt_none hv hlt HhP.out), below_later HhB.out m⟩

set_option maxHeartbeats 1000000 in
theorem implFree_any (c : Int) (f l : List Int) (fa la : Option Addr) (fc lc : Nat) (w : World) (hf : IntsAt w fa f) (hl : IntsAt w la l)
   (hfl : f.length ≤ 1048576) (hll : l.length ≤ 1048576) :
    Calls Tryd.prog 8 #[.agg #[.int .i64 c, .slice fa f.length fc, .slice la l.length lc]] w fun e w' => e = .returned (.tuple #[.int .i64 (freeN (freePt c f l)), .bool (freeIs (freePt c f l))]) ∧ Below w.heap.size w w' := by
  go_enter Tryd.func8, Tryd.ntmps8
  go_wp2_with fail
  generalize hW : w.alloc _ = W1
  obtain ⟨hB, -, k0⟩ := alloc1 hW
  replace hf := hf.below hB
  replace hl := hl.below hB
  have hb0 := k0.lt
  have hc0 := k0.cell 0
  have hc1 := k0.cell 1
  have hc2 := k0.cell 2
  simp at hc0 hc1 hc2
  clear hW k0
  have HhB := Lib.hid hB
  clear hB
  obtain ⟨m, hm0⟩ : ∃ m : Later W1, m.w = W1 := ⟨Later.refl _, rfl⟩
  refine (fun h => hm0 ▸ h) ?_
  clear hm0
  cases hv : isArcsB c f l
  · have HE := Lib.hid (freePt_inv hv)
    go_wp2_with (first | (go_at_call 11; refine (Calls.later m (implIsArcs_any _ _ _ _ _ _ _ _ (hf.later m) (hl.later m) hfl hll)).mono ?_; rintro e w' ⟨rfl, m, rfl⟩))
    go_ret2
    exact ⟨ret_none HE.out, below_later HhB.out m⟩
  · obtain ⟨h1, h2, -, -, -, -⟩ := isArcsB_true hv
    go_wp2_with (first | (go_at_call 11; refine (Calls.later m (implIsArcs_any _ _ _ _ _ _ _ _ (hf.later m) (hl.later m) hfl hll)).mono ?_; rintro e w' ⟨rfl, m, rfl⟩))
    go_loopw [10] (fun i wr => (∃ m : Later W1, wr = m.w) ∧ ∃ k : Nat, (k : Int) ≤ c ∧ i = .int .i64 k ∧ ∀ x : Nat, x < k → (arcsAtV c f l x == 0) = false) (fun i _ => (c - intOf i).toNat)
    case atStart => exact ⟨⟨m, rfl⟩, 0, by omega, rfl, fun x h => by omega⟩
    case round =>
      obtain ⟨⟨m, rfl⟩, k, hk, rfl, hP⟩ := hrel
      have HhP := Lib.hid hP
      clear hP
      by_cases hlt : (k : Int) < c
      · cases ho : (arcsAtV c f l k == 0)
        all_goals
          go_wp2_with (first | (go_at_call 18; refine (Calls.later m (implArcsAt_any _ _ _ _ _ _ _ _ _ (hf.later m) (hl.later m) hfl hll)).mono ?_; rintro e w' ⟨rfl, m, rfl⟩))
        · go_roundw
          case rel =>
            refine ⟨⟨m, rfl⟩, k + 1, by omega, by go_num, fun x hx => ?_⟩
            rcases Nat.lt_succ_iff_lt_or_eq.1 hx with hx | rfl
            · exact HhP.out x hx
            · exact ho
          case measure => simp [intOf]; omega
        · go_ret2
          exact ⟨ret_some (freePt_hit hv hlt HhP.out ho), below_later HhB.out m⟩
      · go_wp2_with fail
        go_ret2
        exact ⟨ret_none (freePt_none hv hlt HhP.out), below_later HhB.out m⟩

end Go.Proofs.YtfkehmpckhmkbaaDoor
