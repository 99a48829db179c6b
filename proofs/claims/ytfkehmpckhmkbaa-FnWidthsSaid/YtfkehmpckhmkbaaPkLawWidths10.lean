/-
  The walks of IsOrder and CutOf on both sides, l27Front of the reference. For at most 2^20 rows and list elements.
-/
import Derived.Test.YtfkehmpckhmkbaaPkLawWidths09
import Derived.Test.YtfkehmpckhmkbaaPkLawWidths06
namespace Go.Proofs.Ytfkehmpckhmkbaa
open Go.RowKit

/-! ### IsOrder -/
def orderB (n : Int) (rs l : List Int) : Bool := vertsB n rs l && ((l.length : Int) == n)
theorem orderB_no {n : Int} {rs l : List Int} (h : vertsB n rs l = false) : orderB n rs l = false := by unfold orderB; rw [h]; rfl
theorem orderB_of {n : Int} {rs l : List Int} (h : vertsB n rs l = true) : orderB n rs l = ((l.length : Int) == n) := by unfold orderB; rw [h]; rfl
theorem orderB_true {n : Int} {rs l : List Int} (h : orderB n rs l = true) : vertsB n rs l = true ∧ n = rs.length ∧ VG rs ∧ l.length = rs.length := by
  unfold orderB at h
  simp only [Bool.and_eq_true, beq_iff_eq] at h
  obtain ⟨hn, g⟩ := VG.of (vertsB_true.1 h.1).1
  exact ⟨h.1, hn, g, by omega⟩

set_option maxHeartbeats 1000000 in
theorem specIsOrder_any (n : Int) (rs l : List Int) (ro lo : Option Addr) (rc lc : Nat) (w : World) (hr : IntsAt w ro rs) (hrl : rs.length ≤ 1048576) (hl : IntsAt w lo l) (hll : l.length ≤ 1048576) :
    Calls Try.prog 52 #[.agg #[.int .i64 n, .slice ro rs.length rc], .slice lo l.length lc] w fun e w' => e = .returned (.bool (orderB n rs l)) ∧ Below w.heap.size w w' := by
  go_enter Try.func52, Try.ntmps52
  go_wp2_with fail
  generalize hW : w.alloc _ = W1
  obtain ⟨hB, -, k0⟩ := alloc1 hW
  replace hr := hr.below hB
  replace hl := hl.below hB
  have hb0 := k0.lt
  have hc0 := k0.cell 0
  have hc1 := k0.cell 1
  simp at hc0 hc1
  clear hW k0
  have HhB := Lib.hid hB
  clear hB
  obtain ⟨m, hm0⟩ : ∃ m : Later W1, m.w = W1 := ⟨Later.refl _, rfl⟩
  refine (fun h => hm0 ▸ h) ?_
  clear hm0
  cases hv : vertsB n rs l
  · have HE := Lib.hid (orderB_no hv)
    go_wp2_with (first | (go_at_call 82; refine (Calls.later m (l4Distinct_any _ _ _ _ _ _ _ _ (hr.later m) hrl (hl.later m) hll)).mono ?_; rintro e w' ⟨rfl, m, rfl⟩))
    go_ret
    exact ⟨retB (by rw [HE.out]), below_later HhB.out m⟩
  · have HE := Lib.hid (orderB_of hv)
    go_wp2_with (first | (go_at_call 82; refine (Calls.later m (l4Distinct_any _ _ _ _ _ _ _ _ (hr.later m) hrl (hl.later m) hll)).mono ?_; rintro e w' ⟨rfl, m, rfl⟩))
    go_ret
    exact ⟨retB (by rw [HE.out]), below_later HhB.out m⟩

set_option maxHeartbeats 1000000 in
theorem implIsOrder_any (n : Int) (rs l : List Int) (ro lo : Option Addr) (rc lc : Nat) (w : World) (hr : IntsAt w ro rs) (hrl : rs.length ≤ 1048576) (hl : IntsAt w lo l) (hll : l.length ≤ 1048576) (hcap : l.length ≤ lc) :
    Calls Try.prog 39 #[.agg #[.int .i64 n, .slice ro rs.length rc], .slice lo l.length lc] w fun e w' => e = .returned (.bool (orderB n rs l)) ∧ Below w.heap.size w w' := by
  go_enter Try.func39, Try.ntmps39
  go_wp2_with fail
  generalize hW : w.alloc _ = W1
  obtain ⟨hB, -, k0⟩ := alloc1 hW
  replace hr := hr.below hB
  replace hl := hl.below hB
  have hb0 := k0.lt
  have hc0 := k0.cell 0
  have hc1 := k0.cell 1
  simp at hc0 hc1
  clear hW k0
  have HhB := Lib.hid hB
  clear hB
  obtain ⟨m, hm0⟩ : ∃ m : Later W1, m.w = W1 := ⟨Later.refl _, rfl⟩
  refine (fun h => hm0 ▸ h) ?_
  clear hm0
  cases hv : vertsB n rs l
  · have HE := Lib.hid (orderB_no hv)
    go_wp2_with (first | (go_at_call 69; refine (Calls.later m (areVertices_any _ _ _ _ _ _ _ _ (hr.later m) hrl (hl.later m) hll hcap)).mono ?_; rintro e w' ⟨rfl, m, rfl⟩))
    go_ret
    exact ⟨retB (by rw [HE.out]), below_later HhB.out m⟩
  · have HE := Lib.hid (orderB_of hv)
    go_wp2_with (first | (go_at_call 69; refine (Calls.later m (areVertices_any _ _ _ _ _ _ _ _ (hr.later m) hrl (hl.later m) hll hcap)).mono ?_; rintro e w' ⟨rfl, m, rfl⟩))
    go_ret
    exact ⟨retB (by rw [HE.out]), below_later HhB.out m⟩

/-- Vertex k of a list of different vertices. -/
theorem vert_new {n : Int} {rs l : List Int} (h : vertsB n rs l = true) {k : Nat} (hk : k < l.length) :
    ∃ v : Nat, gi l k = v ∧ v < rs.length ∧ setTo l (k + 1) = setTo l k + 2 ^ v ∧ setTo l (k + 1) = setTo l k ||| 2 ^ v := by
  have hv := h
  unfold vertsB at hv
  simp only [Bool.and_eq_true] at hv
  obtain ⟨hg, hs, -⟩ := hv
  have hd : ∀ j, j < l.length → diffAt l j = true := by unfold setOk at hs; simpa using hs
  obtain ⟨h1, h2⟩ := ((vertsB_true.1 h).2 k hk).1
  refine ⟨(gi l k).toNat, by omega, by omega, rfl, ?_⟩
  apply Nat.eq_of_testBit_eq; intro i
  rw [Bool.eq_iff_iff, (setTo_bits (fun j hj => hd j (by omega))).2, Nat.testBit_or, Bool.or_eq_true, (setTo_bits (fun j hj => hd j (by omega))).2, Nat.testBit_two_pow, decide_eq_true_eq]
  constructor
  · rintro ⟨j, hj, e⟩
    rcases Nat.lt_succ_iff_lt_or_eq.1 hj with hj | rfl
    · exact .inl ⟨j, hj, e⟩
    · exact .inr (by omega)
  · rintro (⟨j, hj, e⟩ | e)
    · exact ⟨j, by omega, e⟩
    · exact ⟨k, by omega, by omega⟩
theorem setTo_lt {n : Int} {rs l : List Int} (h : vertsB n rs l = true) : ∀ k, k ≤ l.length → setTo l k < 2 ^ rs.length
  | 0, _ => Nat.two_pow_pos _
  | k + 1, hk => by
    obtain ⟨v, -, hv, -, e⟩ := vert_new h (k := k) (by omega)
    rw [e]
    exact Nat.or_lt_two_pow (setTo_lt h k (by omega)) (Nat.pow_lt_pow_right (by decide) hv)

/-! ### The front of a set: its vertices with an edge out of it -/
def outOf (rs : List Int) (S v : Nat) : Bool := decide (gn rs v &&& S ≠ gn rs v)
def frontTo (rs : List Int) (S k : Nat) : Nat := (elsTo S k).countP (outOf rs S)
def frontN (rs : List Int) (S : Nat) : Nat := (els S).countP (outOf rs S)
theorem frontTo_no {rs : List Int} {S k : Nat} (h : S.testBit k = false) : frontTo rs S (k + 1) = frontTo rs S k := by unfold frontTo; rw [elsTo_no h]
theorem frontTo_yes {rs : List Int} {S k : Nat} (h : S.testBit k = true) (b : Bool) (hb : outOf rs S k = b) : frontTo rs S (k + 1) = frontTo rs S k + (if b then 1 else 0) := by
  unfold frontTo; rw [elsTo_yes h, List.countP_append, List.countP_singleton, hb]
theorem frontTo_le (rs : List Int) (S k : Nat) : frontTo rs S k ≤ k := by
  unfold frontTo; exact Nat.le_trans List.countP_le_length (Nat.le_trans (List.length_filter_le _ _) (by simp))

set_option maxHeartbeats 1000000 in
theorem specFront_any (rs : List Int) (S : Nat) (ro : Option Addr) (rc : Nat) (w : World) (hr : IntsAt w ro rs) (g : VG rs) (hS : S < 2 ^ rs.length) :
    Calls Try.prog 33 #[.agg #[.int .i64 rs.length, .slice ro rs.length rc], .int .i64 S] w fun e w' => e = .returned (.int .i64 (frontN rs S)) ∧ Below w.heap.size w w' := by
  have hg1 := g.pos
  have hg2 := g.le
  have hp := g.pow.1
  go_enter Try.func33, Try.ntmps33
  go_wp2_with fail
  generalize hW : w.alloc _ = W1
  obtain ⟨hB, -, k0⟩ := alloc1 hW
  replace hr := hr.below hB
  have hb0 := k0.lt
  have hc0 := k0.cell 0
  have hc1 := k0.cell 1
  simp at hc0 hc1
  clear hW k0
  have HhB := Lib.hid hB
  clear hB
  go_loopw [5, 6] (fun o i wr => (∃ m : Later W1, wr = m.w) ∧ ∃ k : Nat, k ≤ rs.length ∧ o = .int .i64 (frontTo rs S k) ∧ i = .int .i64 k) (fun _ i _ => rs.length - (intOf i).toNat)
  case atStart => exact ⟨⟨Later.refl _, rfl⟩, 0, by omega, rfl, rfl⟩
  case round =>
    obtain ⟨⟨m, rfl⟩, k, hk, rfl, rfl⟩ := hrel
    have hf := frontTo_le rs S k
    by_cases hlt : k < rs.length
    · obtain ⟨rb, rofs, rfl, hrb, hrc⟩ := hr.graph g
      have hl := g.lt k hlt
      have q2 : bits .and .i64 (gn rs k : Int) (S : Int) = ((gn rs k &&& S : Nat) : Int) := bits_and_nat _ _ (by omega) (by omega)
      go_wp2_with fail
      cases hb : S.testBit k
      · have hb' : hasN (S : Int) k = false := by rw [hasN_nat]; exact hb
        have HU := Lib.hid (frontTo_no (rs := rs) hb)
        clear hb q2
        generalize frontTo rs S k = F at *
        refine wp_region_later m rfl (by kernel_rfl) (by kernel_rfl) ?_
        repeat (go_big_quiet_step (fail))
        refine wpQuiet_nil ?_
        rintro _ ⟨m, rfl⟩
        go_wp2_with fail
        go_roundw
        case rel => exact ⟨⟨m, rfl⟩, k + 1, by omega, by rw [HU.out], by go_num⟩
        case measure => simp [intOf]; omega
      · have hb' : hasN (S : Int) k = true := by rw [hasN_nat]; exact hb
        have HU := Lib.hid (frontTo_yes (rs := rs) hb)
        have HQ : Hid (∀ b, (((gn rs k &&& S : Nat) : Int) != (gn rs k : Int)) = b → outOf rs S k = b) := fun b h => by
          unfold outOf; rw [← h, Bool.eq_iff_iff, decide_eq_true_eq, bne_iff_ne]; omega
        clear hb
        generalize frontTo rs S k = F at *
        generalize gn rs k &&& S = A at *
        cases hc : ((A : Int) != (gn rs k : Int))
        all_goals
          refine wp_region_later m rfl (by kernel_rfl) (by kernel_rfl) ?_
          repeat (go_big_quiet_step (fail))
          refine wpQuiet_nil ?_
          rintro _ ⟨m, rfl⟩
          go_wp2_with fail
        · go_roundw
          case rel => exact ⟨⟨m, rfl⟩, k + 1, by omega, by rw [HU.out _ (HQ.out _ hc)]; rfl, by go_num⟩
          case measure => simp [intOf]; omega
        · go_roundw
          case rel => exact ⟨⟨m, rfl⟩, k + 1, by omega, by rw [HU.out _ (HQ.out _ hc)]; rfl, by go_num⟩
          case measure => simp [intOf]; omega
    · go_wp2_with fail
      go_ret
      obtain rfl : k = rs.length := by omega
      exact ⟨retI (by unfold frontTo frontN; rw [els_eq hS hg2]), below_later HhB.out m⟩

/-! ### CutOf -/
def cutTo (rs l : List Int) : Nat → Nat
  | 0 => 0
  | k + 1 => if cutTo rs l k < frontN rs (setTo l (k + 1)) then frontN rs (setTo l (k + 1)) else cutTo rs l k
def cutV (n : Int) (rs l : List Int) : Int := if orderB n rs l = true then cutTo rs l l.length else -1
theorem cutV_no {n : Int} {rs l : List Int} (h : orderB n rs l = false) : cutV n rs l = -1 := by unfold cutV; rw [h]; rfl
theorem cutV_of {n : Int} {rs l : List Int} (h : orderB n rs l = true) : cutV n rs l = cutTo rs l l.length := by unfold cutV; rw [if_pos h]
theorem frontN_le (rs : List Int) (S : Nat) : frontN rs S ≤ 7 := Nat.le_trans List.countP_le_length (els_len S)
theorem cutTo_le (rs l : List Int) (k : Nat) : cutTo rs l k ≤ 7 := by
  induction k with
  | zero => simp [cutTo]
  | succ k ih => unfold cutTo; have := frontN_le rs (setTo l (k + 1)); split <;> omega
theorem cutTo_more {rs l : List Int} {k : Nat} (h : cutTo rs l k < frontN rs (setTo l (k + 1))) : cutTo rs l (k + 1) = frontN rs (setTo l (k + 1)) := by rw [show cutTo rs l (k + 1) = if cutTo rs l k < frontN rs (setTo l (k + 1)) then frontN rs (setTo l (k + 1)) else cutTo rs l k from rfl, if_pos h]
theorem cutTo_same {rs l : List Int} {k : Nat} (h : ¬cutTo rs l k < frontN rs (setTo l (k + 1))) : cutTo rs l (k + 1) = cutTo rs l k := by rw [show cutTo rs l (k + 1) = if cutTo rs l k < frontN rs (setTo l (k + 1)) then frontN rs (setTo l (k + 1)) else cutTo rs l k from rfl, if_neg h]

set_option maxHeartbeats 1000000 in
theorem specCutOf_any (n : Int) (rs l : List Int) (ro lo : Option Addr) (rc lc : Nat) (w : World) (hr : IntsAt w ro rs) (hrl : rs.length ≤ 1048576) (hl : IntsAt w lo l) (hll : l.length ≤ 1048576) :
    Calls Try.prog 22 #[.agg #[.int .i64 n, .slice ro rs.length rc], .slice lo l.length lc] w fun e w' => e = .returned (.int .i64 (cutV n rs l)) ∧ Below w.heap.size w w' := by
  go_enter Try.func22, Try.ntmps22
  go_wp2_with fail
  generalize hW : w.alloc _ = W1
  obtain ⟨hB, -, k0⟩ := alloc1 hW
  replace hr := hr.below hB
  replace hl := hl.below hB
  have hb0 := k0.lt
  have hc0 := k0.cell 0
  have hc1 := k0.cell 1
  simp at hc0 hc1
  clear hW k0
  have HhB := Lib.hid hB
  clear hB
  obtain ⟨m, hm0⟩ : ∃ m : Later W1, m.w = W1 := ⟨Later.refl _, rfl⟩
  refine (fun h => hm0 ▸ h) ?_
  clear hm0
  cases hv : orderB n rs l
  · have HE := Lib.hid (cutV_no hv)
    go_wp2_with (first | (go_at_call 52; refine (Calls.later m (specIsOrder_any _ _ _ _ _ _ _ _ (hr.later m) hrl (hl.later m) hll)).mono ?_; rintro e w' ⟨rfl, m, rfl⟩))
    go_ret
    exact ⟨retI (by rw [HE.out]), below_later HhB.out m⟩
  · have HE := Lib.hid (cutV_of hv)
    obtain ⟨hV, rfl, g, hlen⟩ := orderB_true hv
    have hg1 := g.pos
    have hg2 := g.le
    have hp := g.pow.1
    go_wp2_with (first | (go_at_call 52; refine (Calls.later m (specIsOrder_any _ _ _ _ _ _ _ _ (hr.later m) hrl (hl.later m) hll)).mono ?_; rintro e w' ⟨rfl, m, rfl⟩))
    go_loopw [5, 6, 7] (fun b a i wr => (∃ m : Later W1, wr = m.w) ∧ ∃ k : Nat, k ≤ l.length ∧ b = .int .i64 (cutTo rs l k) ∧ a = .int .i64 (setTo l k) ∧ i = .int .i64 k) (fun _ _ i _ => l.length - (intOf i).toNat)
    case atStart => exact ⟨⟨m, rfl⟩, 0, by omega, rfl, rfl, rfl⟩
    case round =>
      obtain ⟨⟨m, rfl⟩, k, hk, rfl, rfl, rfl⟩ := hrel
      by_cases hlt : k < l.length
      · obtain ⟨lb, lofs, rfl, hlb, hlc⟩ := hl (by omega)
        obtain ⟨v, hv1, hv2, hs1, -⟩ := vert_new hV hlt
        have hvc := hlc k hlt
        rw [hv1] at hvc
        have q1 : pwN v = ((2 ^ v : Nat) : Int) := pwN_small _ (by omega)
        have hS := setTo_lt hV (k + 1) (by omega)
        have hf := frontN_le rs (setTo l (k + 1))
        have hb := cutTo_le rs l k
        have H1 := Lib.hid (fun h => cutTo_more (rs := rs) (l := l) (k := k) h)
        have H2 := Lib.hid (fun h => cutTo_same (rs := rs) (l := l) (k := k) h)
        have hs1' : (setTo l k : Int) + ((2 ^ v : Nat) : Int) = ((setTo l (k + 1) : Nat) : Int) := by rw [hs1]; simp
        have hs2 : setTo l k + 2 ^ v ≤ 127 := by omega
        clear hlc hv1 hs1
        generalize hSn : setTo l (k + 1) = S' at *
        have HhSn := Lib.hid hSn
        clear hSn
        generalize 2 ^ v = C at *
        have hfr := fun m : Later W1 => specFront_any rs S' ro rc m.w (hr.later m) g hS
        generalize setTo l k = A at *
        generalize frontN rs S' = Fr at *
        generalize hN : cutTo rs l (k + 1) = B' at *
        have HhN := Lib.hid hN
        clear hN
        generalize cutTo rs l k = B at *
        by_cases hm : B < Fr
        · go_wp2_with (first | (go_at_call 33; refine (Calls.later m (hfr m)).mono ?_; rintro e w' ⟨rfl, m, rfl⟩))
          go_roundw
          case rel => exact ⟨⟨m, rfl⟩, k + 1, by omega, by rw [HhN.out, H1.out hm], by rw [HhSn.out], by go_num⟩
          case measure => simp [intOf]; omega
        · go_wp2_with (first | (go_at_call 33; refine (Calls.later m (hfr m)).mono ?_; rintro e w' ⟨rfl, m, rfl⟩))
          go_roundw
          case rel => exact ⟨⟨m, rfl⟩, k + 1, by omega, by rw [HhN.out, H2.out hm], by rw [HhSn.out], by go_num⟩
          case measure => simp [intOf]; omega
      · go_wp2_with fail
        go_ret
        obtain rfl : k = l.length := by omega
        exact ⟨retI (by rw [HE.out]), below_later HhB.out m⟩

theorem take_len {l : List Nat} {k : Nat} (h : k = l.length) : l.take k = l := by rw [h, List.take_length]

set_option maxHeartbeats 1000000 in
theorem implCutOf_any (n : Int) (rs l : List Int) (ro lo : Option Addr) (rc lc : Nat) (w : World) (hr : IntsAt w ro rs) (hrl : rs.length ≤ 1048576) (hl : IntsAt w lo l) (hll : l.length ≤ 1048576) (hcap : l.length ≤ lc) :
    Calls Try.prog 20 #[.agg #[.int .i64 n, .slice ro rs.length rc], .slice lo l.length lc] w fun e w' => e = .returned (.int .i64 (cutV n rs l)) ∧ Below w.heap.size w w' := by
  go_enter Try.func20, Try.ntmps20
  go_wp2_with fail
  generalize hW : w.alloc _ = W1
  obtain ⟨hB, -, k0⟩ := alloc1 hW
  replace hr := hr.below hB
  replace hl := hl.below hB
  have hb0 := k0.lt
  have hc0 := k0.cell 0
  have hc1 := k0.cell 1
  simp at hc0 hc1
  clear hW k0
  have HhB := Lib.hid hB
  clear hB
  obtain ⟨m, hm0⟩ : ∃ m : Later W1, m.w = W1 := ⟨Later.refl _, rfl⟩
  refine (fun h => hm0 ▸ h) ?_
  clear hm0
  cases hv : orderB n rs l
  · have HE := Lib.hid (cutV_no hv)
    go_wp2_with (first | (go_at_call 39; refine (Calls.later m (implIsOrder_any _ _ _ _ _ _ _ _ (hr.later m) hrl (hl.later m) hll hcap)).mono ?_; rintro e w' ⟨rfl, m, rfl⟩))
    go_ret
    exact ⟨retI (by rw [HE.out]), below_later HhB.out m⟩
  · have HE := Lib.hid (cutV_of hv)
    obtain ⟨hV, rfl, g, hlen⟩ := orderB_true hv
    have hg1 := g.pos
    have hg2 := g.le
    have hp := g.pow.1
    go_wp2_with (first | (go_at_call 39; refine (Calls.later m (implIsOrder_any _ _ _ _ _ _ _ _ (hr.later m) hrl (hl.later m) hll hcap)).mono ?_; rintro e w' ⟨rfl, m, rfl⟩))
    clear hcap
    go_loopw [5, 6, 18] (fun b a i wr => (∃ m : Later W1, wr = m.w) ∧ ∃ k : Nat, k ≤ l.length ∧ b = .int .i64 (cutTo rs l k) ∧ a = .int .i64 (setTo l k) ∧ i = .int .i64 k) (fun _ _ i _ => l.length - (intOf i).toNat)
    case atStart => exact ⟨⟨m, rfl⟩, 0, by omega, rfl, rfl, rfl⟩
    case round =>
      obtain ⟨⟨m, rfl⟩, k, hk, rfl, rfl, rfl⟩ := hrel
      by_cases hlt : k < l.length
      · obtain ⟨lb, lofs, rfl, hlb, hlc⟩ := hl (by omega)
        obtain ⟨v, hv1, hv2, -, hs1⟩ := vert_new hV hlt
        have hvc := hlc k hlt
        rw [hv1] at hvc
        have q1 : pwN v = ((2 ^ v : Nat) : Int) := pwN_small _ (by omega)
        have hS := setTo_lt hV (k + 1) (by omega)
        have hS0 := setTo_lt hV k (by omega)
        have hpv : 2 ^ v < 2 ^ rs.length := Nat.pow_lt_pow_right (by decide) hv2
        have hf := frontN_le rs (setTo l (k + 1))
        have hb := cutTo_le rs l k
        have H1 := Lib.hid (fun h => cutTo_more (rs := rs) (l := l) (k := k) h)
        have H2 := Lib.hid (fun h => cutTo_same (rs := rs) (l := l) (k := k) h)
        have q2 : bits .or .i64 (setTo l k : Int) ((2 ^ v : Nat) : Int) = ((setTo l (k + 1) : Nat) : Int) := by rw [bits_or_nat _ _ (by omega) (by omega), hs1]
        clear hlc hv1 hs1
        generalize hSn : setTo l (k + 1) = S at *
        have HhSn := Lib.hid hSn
        clear hSn
        generalize 2 ^ v = C at *
        generalize hN : cutTo rs l (k + 1) = B' at *
        have HhN := Lib.hid hN
        clear hN
        generalize cutTo rs l k = B at *
        go_wp2_with fail
        refine (implListN_any _ (by omega) _).mono ?_
        rintro e w2 ⟨ao, ac, rfl, hB2, hL⟩
        obtain ⟨m, rfl⟩ : ∃ m2 : Later W1, m2.w = w2 := ⟨m.on hB2, rfl⟩
        have HW : Hid (∀ m2 : Later m.w, ∃ m' : Later W1, m'.w = m2.w) := fun m2 => ⟨m.on m2.below, rfl⟩
        clear hB2 hvc
        replace hr := hr.later m
        replace hc1 : m.w.cell? _ = _ := (m.cell _ _ hb0).trans hc1
        replace hb0 := Nat.lt_of_lt_of_le hb0 m.size
        replace HhB := Lib.hid (below_later HhB.out m)
        generalize m.w = W2 at *
        clear m
        obtain ⟨m, hm0⟩ : ∃ m : Later W2, m.w = W2 := ⟨Later.refl _, rfl⟩
        refine (fun h => hm0 ▸ h) ?_
        clear hm0
        have hn7 := cnt_le S
        go_wp2_with fail
        go_loopw [9, 29] (fun c i wr => (∃ m : Later W2, wr = m.w) ∧ ∃ j : Nat, j ≤ cnt S ∧ c = .int .i64 (((els S).take j).countP (outOf rs S)) ∧ i = .int .i64 j) (fun _ i _ => cnt S - (intOf i).toNat)
        case atStart => exact ⟨⟨m, rfl⟩, 0, by omega, rfl, rfl⟩
        case round =>
          obtain ⟨⟨m, rfl⟩, j, hj, rfl, rfl⟩ := hrel
          by_cases hjt : j < cnt S
          · obtain ⟨rb, rofs, rfl, hrb, hrc⟩ := hr.graph g
            obtain ⟨ab, aofs, rfl, hab, hac⟩ := hL (by unfold cnt at hjt; omega)
            obtain ⟨p2, p3⟩ := els_at hS hg2 hjt
            have hva := hac j hjt
            have hgl := g.lt _ p2
            have HU : Hid (∀ b, outOf rs S (eln (els S) j) = b → ((els S).take (j + 1)).countP (outOf rs S) = ((els S).take j).countP (outOf rs S) + (if b then 1 else 0)) := fun b hb => by
              rw [take_eln hjt, List.countP_append, List.countP_singleton, hb]
            have hcl : ((els S).take j).countP (outOf rs S) ≤ j := Nat.le_trans List.countP_le_length (by rw [List.length_take]; omega)
            have HQ : Hid (∀ b, (((nDiff (gn rs (eln (els S) j)) S : Nat) : Int) != 0) = b → outOf rs S (eln (els S) j) = b) := fun b h => by
              have e := nDiff_add (a := gn rs (eln (els S) j)) (b := S) (by omega)
              rw [Nat.and_comm] at e
              unfold outOf; rw [← h, Bool.eq_iff_iff, decide_eq_true_eq, bne_iff_ne]
              constructor <;> intro h1 h2 <;> apply h1 <;> omega
            have q3 : bits .andNot .i64 (gn rs (eln (els S) j) : Int) (S : Int) = ((nDiff (gn rs (eln (els S) j)) S : Nat) : Int) := bits_andNot_nat _ _ (by omega)
            generalize ((els S).take j).countP (outOf rs S) = Fj at *
            generalize hev : eln (els S) j = u at *
            have Hhev := Lib.hid hev
            clear hev
            clear hac p3
            generalize nDiff (gn rs u) S = D at *
            cases hc : ((D : Int) != 0)
            all_goals
              go_wp2_with fail
              go_roundw
              case rel => exact ⟨⟨m, rfl⟩, j + 1, by omega, by rw [HU.out _ (HQ.out _ hc)]; rfl, by go_num⟩
              case measure => simp [intOf]; omega
          · have HF : Hid (((els S).take j).countP (outOf rs S) = frontN rs S) := by show _ = _; rw [take_len (by unfold cnt at hj hjt; omega)]; rfl
            have hcl : ((els S).take j).countP (outOf rs S) ≤ 7 := by rw [HF.out]; exact hf
            by_cases hm : B < frontN rs S
            · obtain ⟨m', hm'⟩ := HW.out m
              rw [← HF.out] at hm H1 H2
              generalize ((els S).take j).countP (outOf rs S) = Fr at *
              clear hf
              go_wp2_with fail
              go_roundw
              case rel => exact ⟨⟨m', hm'.symm⟩, k + 1, by omega, by rw [HhN.out, H1.out hm], by rw [HhSn.out], by go_num⟩
              case measure => simp [intOf]; omega
            · obtain ⟨m', hm'⟩ := HW.out m
              rw [← HF.out] at hm H1 H2
              generalize ((els S).take j).countP (outOf rs S) = Fr at *
              clear hf
              go_wp2_with fail
              go_roundw
              case rel => exact ⟨⟨m', hm'.symm⟩, k + 1, by omega, by rw [HhN.out, H2.out hm], by rw [HhSn.out], by go_num⟩
              case measure => simp [intOf]; omega
      · go_wp2_with fail
        go_ret
        obtain rfl : k = l.length := by omega
        exact ⟨retI (by rw [HE.out]), below_later HhB.out m⟩

end Go.Proofs.Ytfkehmpckhmkbaa
