/-
  The walks of SetOf, l2Edge, l4Distinct (the reference) and areVertices (the program): lists of different vertices. For at most 2^20 rows and list elements.
-/
import Derived.Test.YtjikmjhpmkakoaaGreatDoorPkCardHereditary03
import Derived.Test.YtjikmjhpmkakoaaGreatDoorPkCardHereditary07
namespace Go.Proofs.YtjikmjhpmkakoaaGreatDoor
open Go.RowKit

/-! ### Lists of different vertices -/
/-- The set of the first k numbers, as the reference adds it up. -/
def setTo (l : List Int) : Nat → Nat
  | 0 => 0
  | k + 1 => setTo l k + 2 ^ (gi l k).toNat
/-- Number k is from 0 to 6 and not among those before it. -/
def diffAt (l : List Int) (k : Nat) : Bool := (decide (0 ≤ gi l k) && decide (gi l k ≤ 6)) && !(setTo l k).testBit (gi l k).toNat
def setOk (l : List Int) : Bool := decide (∀ k, k < l.length → diffAt l k = true)
def setV (l : List Int) : Int := if setOk l = true then setTo l l.length else 0
theorem setTo_bits {l : List Int} : ∀ {k : Nat}, (∀ j, j < k → diffAt l j = true) → (setTo l k < 128 ∧ ∀ v, (setTo l k).testBit v = true ↔ ∃ j, j < k ∧ (gi l j).toNat = v)
  | 0, _ => ⟨by simp [setTo], fun v => by simp [setTo]⟩
  | k + 1, h => by
    obtain ⟨h1, h2⟩ := setTo_bits (k := k) (fun j hj => h j (by omega))
    have hk := h k (by omega)
    unfold diffAt at hk
    simp only [Bool.and_eq_true, decide_eq_true_eq, Bool.not_eq_true'] at hk
    obtain ⟨⟨h3, h4⟩, h5⟩ := hk
    generalize hv : (gi l k).toNat = v at *
    have hv7 : v ≤ 6 := by omega
    have hp : 2 ^ v ≤ 2 ^ 6 := Nat.pow_le_pow_right (by decide) hv7
    have he : setTo l k + 2 ^ v = setTo l k ||| 2 ^ v := by
      have hd : setTo l k &&& 2 ^ v = 0 := by
        apply Nat.eq_of_testBit_eq; intro i
        rw [Nat.testBit_and, Nat.testBit_two_pow, Nat.zero_testBit]
        by_cases e : v = i
        · subst e; rw [h5]; rfl
        · simp [e]
      have := BitVec.add_eq_or_of_and_eq_zero (BitVec.ofNat 64 (setTo l k)) (BitVec.ofNat 64 (2 ^ v)) (by rw [← BitVec.ofNat_and, hd])
      have h2' := congrArg BitVec.toNat this
      simp only [BitVec.toNat_add, BitVec.toNat_or, BitVec.toNat_ofNat] at h2'
      rw [Nat.mod_eq_of_lt (a := setTo l k) (by omega), Nat.mod_eq_of_lt (a := 2 ^ v) (by omega), Nat.mod_eq_of_lt (by omega)] at h2'
      exact h2'
    have hs : setTo l (k + 1) = setTo l k ||| 2 ^ v := by show setTo l k + 2 ^ (gi l k).toNat = _; rw [hv, he]
    refine ⟨by rw [hs]; exact Nat.or_lt_two_pow (n := 7) h1 (by omega), fun u => ?_⟩
    rw [hs, Nat.testBit_or, Bool.or_eq_true, h2, Nat.testBit_two_pow, decide_eq_true_eq]
    constructor
    · rintro (⟨j, hj, e⟩ | e)
      · exact ⟨j, by omega, e⟩
      · exact ⟨k, by omega, by omega⟩
    · rintro ⟨j, hj, e⟩
      rcases Nat.lt_succ_iff_lt_or_eq.1 hj with hj | rfl
      · exact .inl ⟨j, hj, e⟩
      · exact .inr (by omega)
theorem setOk_bad {l : List Int} {k : Nat} (hk : k < l.length) (h : diffAt l k = false) : setOk l = false := by
  unfold setOk; rw [decide_eq_false_iff_not]; intro a; rw [a k hk] at h; cases h
theorem setV_bad {l : List Int} (h : setOk l = false) : setV l = 0 := by unfold setV; rw [h]; rfl
theorem setOk_all {l : List Int} (h : ∀ k, k < l.length → diffAt l k = true) : setOk l = true := by unfold setOk; rw [decide_eq_true_eq]; exact h
theorem setV_all {l : List Int} (h : setOk l = true) : setV l = setTo l l.length := by unfold setV; rw [if_pos h]

set_option maxHeartbeats 1000000 in
theorem specSetOf_any (l : List Int) (ao : Option Addr) (c : Nat) (w : World) (hl : IntsAt w ao l) (hll : l.length ≤ 1048576) :
    Calls Tryz.prog 112 #[.slice ao l.length c] w fun e w' => e = .returned (.tuple #[.int .i64 (setV l), .bool (setOk l)]) ∧ Below w.heap.size w w' := by
  go_enter Tryz.func112, Tryz.ntmps112
  go_wp2_with fail
  go_loopw [4, 5] (fun o i wr => (∃ m : Later w, wr = m.w) ∧ ∃ k : Nat, k ≤ l.length ∧ o = .int .i64 (setTo l k) ∧ i = .int .i64 k ∧ ∀ j, j < k → diffAt l j = true) (fun _ i _ => l.length - (intOf i).toNat)
  case atStart => exact ⟨⟨Later.refl _, rfl⟩, 0, by omega, rfl, rfl, fun j h => by omega⟩
  case round =>
    obtain ⟨⟨m, rfl⟩, k, hk, rfl, rfl, hP⟩ := hrel
    have HhP := Lib.hid hP
    clear hP
    have hs7 := (setTo_bits HhP.out).1
    by_cases hlt : k < l.length
    · obtain ⟨b, off, rfl, hb, hc⟩ := hl (by omega)
      have HQ : Hid (diffAt l k = ((decide (0 ≤ gi l k) && decide (gi l k ≤ 6)) && !(setTo l k).testBit (gi l k).toNat)) := rfl
      cases h1 : (decide (0 ≤ gi l k) && decide (gi l k ≤ 6))
      · have HE := Lib.hid (setOk_bad hlt (by rw [HQ.out, h1]; rfl))
        go_wp2_with (first | (go_at_call 54; refine (l1In_any _ _ _ _).mono ?_; rintro e w' ⟨rfl, rfl⟩))
        go_ret2
        exact ⟨retIB (by rw [setV_bad HE.out]) (by rw [HE.out]), m.below⟩
      · have h1' := h1
        simp only [Bool.and_eq_true, decide_eq_true_eq] at h1'
        obtain ⟨h2, h3⟩ := h1'
        obtain ⟨v, hv⟩ := Int.eq_ofNat_of_zero_le h2
        have HV := Lib.hid hv
        have HS : Hid (setTo l (k + 1) = setTo l k + 2 ^ v) := by show setTo l k + 2 ^ (gi l k).toNat = _; rw [hv]; rfl
        have hp : pwN v = ((2 ^ v : Nat) : Int) := pwN_small _ (by omega)
        have hp2 : 2 ^ v ≤ 2 ^ 6 := Nat.pow_le_pow_right (by decide) (by omega)
        have hcv := hc k hlt
        rw [hv] at hcv
        rw [hv] at h1
        have hv6 : v ≤ 6 := by omega
        clear hv hc h2 h3
        have HH : Hid (hasN (setTo l k : Int) v = (setTo l k).testBit v) := hasN_nat _ _
        generalize hS : setTo l k = S at *
        generalize 2 ^ v = C at *
        have HhS := Lib.hid hS
        clear hS
        cases hh : hasN (S : Int) v
        all_goals
          go_wp2_with (first | (go_at_call 54; refine (l1In_any _ _ _ _).mono ?_; rintro e w' ⟨rfl, rfl⟩))
        · go_roundw
          case rel =>
            refine ⟨⟨m, rfl⟩, k + 1, by omega, by rw [HS.out]; go_num, by go_num, all_succ HhP.out ?_⟩
            rw [HQ.out, HV.out, Int.toNat_natCast, ← HH.out, hh, h1]; rfl
          case measure => simp [intOf]; omega
        · go_ret2
          have HE := setOk_bad hlt (by rw [HQ.out, HV.out, Int.toNat_natCast, ← HH.out, hh]; simp)
          exact ⟨retIB (by rw [setV_bad HE]) (by rw [HE]), m.below⟩
    · have HE := Lib.hid (setOk_all (l := l) (fun j h => HhP.out j (by omega)))
      go_wp2_with fail
      go_ret2
      obtain rfl : k = l.length := by omega
      exact ⟨retIB (by rw [setV_all HE.out]) (by rw [HE.out]), m.below⟩

/-- A list of different vertices of a graph. -/
def vertsB (n : Int) (rs l : List Int) : Bool := isGraphB n rs && (setOk l && isSetB n rs (setV l))

theorem l4Distinct_any (n : Int) (rs l : List Int) (ro lo : Option Addr) (rc lc : Nat) (w : World) (hr : IntsAt w ro rs) (hrl : rs.length ≤ 1048576) (hl : IntsAt w lo l) (hll : l.length ≤ 1048576) :
    Calls Tryz.prog 172 #[.agg #[.int .i64 n, .slice ro rs.length rc], .slice lo l.length lc] w fun e w' => e = .returned (.bool (vertsB n rs l)) ∧ Below w.heap.size w w' := by
  have HE : Hid (vertsB n rs l = (isGraphB n rs && (setOk l && isSetB n rs (setV l)))) := rfl
  go_enter Tryz.func172, Tryz.ntmps172
  go_wp2_with fail
  generalize hW : w.alloc _ = W1
  obtain ⟨hB, -, k0⟩ := alloc1 hW
  replace hr := hr.below hB
  replace hl := hl.below hB
  have hb0 := k0.lt
  have hc0 := k0.cell 0
  have hc1 := k0.cell 1
  simp at hc0 hc1
  clear hW k0
  have HhB := Lib.hid hB
  clear hB
  obtain ⟨m, hm0⟩ : ∃ m : Later W1, m.w = W1 := ⟨Later.refl _, rfl⟩
  refine (fun h => hm0 ▸ h) ?_
  clear hm0
  cases h1 : isGraphB n rs
  all_goals
    cases h2 : setOk l
    all_goals
      go_wp2_with (first | (go_at_call 112; refine (Calls.later m (specSetOf_any _ _ _ _ (hl.later m) hll)).mono ?_; rintro e w' ⟨rfl, m, rfl⟩) | (go_at_call 12; refine (Calls.later m (specIsGraph_any _ _ _ _ _ (hr.later m) hrl)).mono ?_; rintro e w' ⟨rfl, m, rfl⟩) | (go_at_call 103; refine (Calls.later m (specIsSet_any _ _ _ _ _ _ (hr.later m) hrl)).mono ?_; rintro e w' ⟨rfl, m, rfl⟩))
      go_ret
      exact ⟨retB (by rw [HE.out, h1, h2]; rfl), below_later HhB.out m⟩

theorem vertsB_inv {n : Int} {rs l : List Int} (h : isGraphB n rs = false) : vertsB n rs l = false := by unfold vertsB; rw [h]; rfl
/-- What it says: different vertices of a graph that is right. -/
theorem vertsB_true {n : Int} {rs l : List Int} : vertsB n rs l = true ↔ isGraphB n rs = true ∧ ∀ j, j < l.length → (0 ≤ gi l j ∧ gi l j < rs.length) ∧ ∀ i, i < j → gi l i ≠ gi l j := by
  unfold vertsB
  simp only [Bool.and_eq_true]
  constructor
  · rintro ⟨hg, hs, hi⟩
    have hs' : ∀ k, k < l.length → diffAt l k = true := by unfold setOk at hs; simpa using hs
    obtain ⟨rfl, g, S, h1, h2⟩ := isSetB_true hi
    rw [setV_all hs] at h1
    have h1' : setTo l l.length = S := by omega
    have hb := (setTo_bits hs').2
    refine ⟨hg, fun j hj => ?_⟩
    have hd := hs' j hj
    unfold diffAt at hd
    simp only [Bool.and_eq_true, decide_eq_true_eq, Bool.not_eq_true'] at hd
    obtain ⟨⟨h3, h4⟩, h5⟩ := hd
    refine ⟨⟨h3, ?_⟩, fun i hi he => ?_⟩
    · have := testBit_lt (N := rs.length) (v := (gi l j).toNat) h2 (by rw [← h1']; exact (hb _).2 ⟨j, hj, rfl⟩)
      omega
    · have hbj := (setTo_bits (k := j) (fun i hi => hs' i (by omega))).2
      rw [(hbj (gi l j).toNat).2 ⟨i, hi, by rw [he]⟩] at h5
      cases h5
  · rintro ⟨hg, ha⟩
    obtain ⟨hn, g⟩ := VG.of hg
    have h7 := g.le
    have hd : ∀ k, k < l.length → diffAt l k = true := by
      intro k
      induction k using Nat.strongRecOn with
      | ind k ih =>
        intro hk
        have hb := (setTo_bits (l := l) (k := k) (fun j hj => ih j hj (by omega))).2
        obtain ⟨⟨h3, h4⟩, h5⟩ := ha k hk
        unfold diffAt
        rw [decide_eq_true h3, decide_eq_true (by omega), Bool.true_and, Bool.true_and, Bool.not_eq_true']
        cases hc : (setTo l k).testBit (gi l k).toNat with
        | false => rfl
        | true =>
          obtain ⟨j, hj, he⟩ := (hb _).1 hc
          have := (ha j (by omega)).1
          exact absurd (by omega) (h5 j hj)
    have hs := setOk_all hd
    refine ⟨hg, hs, ?_⟩
    rw [hn, setV_all hs]
    refine isSetB_mk (by rw [← hn]; exact hg) ?_
    apply Nat.lt_pow_two_of_testBit
    intro i hi
    cases hc : (setTo l l.length).testBit i with
    | false => rfl
    | true =>
      obtain ⟨j, hj, he⟩ := ((setTo_bits hd).2 i).1 hc
      have := (ha j hj).1
      omega

set_option maxHeartbeats 1000000 in
theorem areVertices_any (n : Int) (rs l : List Int) (ro lo : Option Addr) (rc lc : Nat) (w : World) (hr : IntsAt w ro rs) (hrl : rs.length ≤ 1048576) (hl : IntsAt w lo l) (hll : l.length ≤ 1048576) (hcap : l.length ≤ lc) :
    Calls Tryz.prog 171 #[.agg #[.int .i64 n, .slice ro rs.length rc], .slice lo l.length lc] w fun e w' => e = .returned (.bool (vertsB n rs l)) ∧ Below w.heap.size w w' := by
  go_enter Tryz.func171, Tryz.ntmps171
  go_wp2_with fail
  generalize hW : w.alloc _ = W1
  obtain ⟨hB, -, k0⟩ := alloc1 hW
  replace hr := hr.below hB
  replace hl := hl.below hB
  have hb0 := k0.lt
  have hc0 := k0.cell 0
  have hc1 := k0.cell 1
  simp at hc0 hc1
  clear hW k0
  have HhB := Lib.hid hB
  clear hB
  cases hv : isGraphB n rs
  · have HE := Lib.hid (vertsB_inv (l := l) hv)
    go_loopw [9] (fun i wr => (∃ m : Later W1, wr = m.w) ∧ ∃ k : Nat, k ≤ l.length ∧ i = .int .i64 k) (fun i _ => l.length - (intOf i).toNat)
    case atStart => exact ⟨⟨Later.refl _, rfl⟩, 0, by omega, rfl⟩
    case round =>
      obtain ⟨⟨m, rfl⟩, k, hk, rfl⟩ := hrel
      by_cases hlt : k < l.length
      · obtain ⟨lb, lofs, rfl, hlb, hlc⟩ := hl (by omega)
        have hlen : (l.take k).length = k := by rw [List.length_take]; omega
        have Hhlen := Lib.hid hlen
        clear hlen
        cases h1 : (decide (0 ≤ gi l k) && decide (gi l k ≤ wrap64 (n - 1)))
        · go_wp2_with (first | (go_at_call 59; refine (within_any _ _ _ _).mono ?_; rintro e w' ⟨rfl, rfl⟩))
          go_ret
          exact ⟨retB (by rw [HE.out]), below_later HhB.out m⟩
        · cases h2 : inB (l.take k) (gi l k)
          all_goals
            go_wp2_with (first | (go_at_call 59; refine (within_any _ _ _ _).mono ?_; rintro e w' ⟨rfl, rfl⟩) | (go_at_call 155; refine (Calls.later m (contains_list (l.take k) _ _ _ _ _ ((hl.later m).take k) Hhlen.out (by omega))).mono ?_; rintro e w' ⟨rfl, m, rfl⟩))
          · go_roundw
            case rel => exact ⟨⟨m, rfl⟩, k + 1, by omega, by go_num⟩
            case measure => simp [intOf]; omega
          · go_ret
            exact ⟨retB (by rw [HE.out]), below_later HhB.out m⟩
      · go_wp2_with (first | (go_at_call 45; refine (Calls.later m (implIsGraph_any _ _ _ _ _ (hr.later m) hrl)).mono ?_; rintro e w' ⟨rfl, m, rfl⟩))
        go_ret
        exact ⟨retB (by rw [HE.out]), below_later HhB.out m⟩
  · obtain ⟨rfl, g⟩ := VG.of hv
    have hg1 := g.pos
    have hg2 := g.le
    go_loopw [9] (fun i wr => (∃ m : Later W1, wr = m.w) ∧ ∃ k : Nat, k ≤ l.length ∧ i = .int .i64 k ∧ ∀ j, j < k → (0 ≤ gi l j ∧ gi l j < rs.length) ∧ ∀ i, i < j → gi l i ≠ gi l j) (fun i _ => l.length - (intOf i).toNat)
    case atStart => exact ⟨⟨Later.refl _, rfl⟩, 0, by omega, rfl, fun j h => by omega⟩
    case round =>
      obtain ⟨⟨m, rfl⟩, k, hk, rfl, hP⟩ := hrel
      have HhP := Lib.hid hP
      clear hP
      by_cases hlt : k < l.length
      · obtain ⟨lb, lofs, rfl, hlb, hlc⟩ := hl (by omega)
        have hlen : (l.take k).length = k := by rw [List.length_take]; omega
        have HI : Hid (inB (l.take k) (gi l k) = true ↔ ∃ i, i < k ∧ gi l i = gi l k) := by
          show _ ↔ _
          rw [inB_true, hlen]
          exact ⟨fun ⟨j, h1, h2⟩ => ⟨j, h1, by rw [← h2, gi_take h1]⟩, fun ⟨j, h1, h2⟩ => ⟨j, h1, by rw [gi_take h1, h2]⟩⟩
        have HN : Hid (∀ j, j < l.length → ¬ ((0 ≤ gi l j ∧ gi l j < rs.length) ∧ ∀ i, i < j → gi l i ≠ gi l j) → vertsB rs.length rs l = false) := fun j h1 h2 => by
          cases hc : vertsB rs.length rs l with
          | false => rfl
          | true => exact absurd ((vertsB_true.1 hc).2 j h1) h2
        have Hhlen := Lib.hid hlen
        clear hlen
        cases h1 : (decide (0 ≤ gi l k) && decide (gi l k ≤ (rs.length : Int) - 1))
        · go_wp2_with (first | (go_at_call 59; refine (within_any _ _ _ _).mono ?_; rintro e w' ⟨rfl, rfl⟩))
          go_ret
          refine ⟨retB ?_, below_later HhB.out m⟩
          rw [HN.out k hlt]
          rintro ⟨⟨a, b⟩, _⟩
          rw [decide_eq_true a, decide_eq_true (by omega)] at h1
          cases h1
        · cases h2 : inB (l.take k) (gi l k)
          all_goals
            go_wp2_with (first | (go_at_call 59; refine (within_any _ _ _ _).mono ?_; rintro e w' ⟨rfl, rfl⟩) | (go_at_call 155; refine (Calls.later m (contains_list (l.take k) _ _ _ _ _ ((hl.later m).take k) Hhlen.out (by omega))).mono ?_; rintro e w' ⟨rfl, m, rfl⟩))
          · go_roundw
            case rel =>
              refine ⟨⟨m, rfl⟩, k + 1, by omega, by go_num, all_succ HhP.out ⟨?_, fun i hi he => ?_⟩⟩
              · simp only [Bool.and_eq_true, decide_eq_true_eq] at h1; omega
              · rw [HI.out.2 ⟨i, hi, he⟩] at h2; cases h2
            case measure => simp [intOf]; omega
          · go_ret
            refine ⟨retB ?_, below_later HhB.out m⟩
            rw [HN.out k hlt]
            rintro ⟨_, b⟩
            obtain ⟨i, hi, he⟩ := HI.out.1 h2
            exact b i hi he
      · have HE := Lib.hid (vertsB_true.2 ⟨hv, fun j h => HhP.out j (by omega)⟩)
        go_wp2_with (first | (go_at_call 45; refine (Calls.later m (implIsGraph_any _ _ _ _ _ (hr.later m) hrl)).mono ?_; rintro e w' ⟨rfl, m, rfl⟩))
        go_ret
        exact ⟨retB (by rw [HE.out]), below_later HhB.out m⟩

/-- Whether v and w are neighbours. -/
theorem l2Edge_any (rs : List Int) (v w0 : Nat) (ro : Option Addr) (rc : Nat) (w : World) (hr : IntsAt w ro rs) (g : VG rs) (hv : v < rs.length) (hw : w0 < rs.length) :
    Calls Tryz.prog 101 #[.agg #[.int .i64 rs.length, .slice ro rs.length rc], .int .i64 v, .int .i64 w0] w fun e w' => e = .returned (.bool ((gn rs v).testBit w0)) ∧ Below w.heap.size w w' := by
  have hg2 := g.le
  have HH : Hid (hasN (gn rs v : Int) w0 = (gn rs v).testBit w0) := hasN_nat _ _
  obtain ⟨rb, rofs, rfl, hrb0, hrc0⟩ := hr.graph g
  go_enter Tryz.func101, Tryz.ntmps101
  go_wp2_with fail
  generalize hW : w.alloc _ = W1
  obtain ⟨hB, -, k0⟩ := alloc1 hW
  have hb0 := k0.lt
  have hc1 := k0.cell 1
  simp at hc1
  have hrc : ∀ k, k < rs.length → W1.cell? ⟨rb, rofs + k, none⟩ = some (.int .i64 (gn rs k : Int)) := fun k hk => (hB.cell (p := ⟨rb, rofs + k, none⟩) hrb0).trans (hrc0 k hk)
  clear hW k0 hrc0
  have HhB := Lib.hid hB
  clear hB
  go_wp2
  go_ret
  exact ⟨retB HH.out, HhB.out⟩

end Go.Proofs.YtjikmjhpmkakoaaGreatDoor
