/-
  FindStretched on both sides. For at most 2^20 rows.
-/
import Derived.Test.YtepbhgapjogkjaaLeast
import Derived.Test.YtepbhgapjogkjaaKeeps
namespace Go.Proofs.Ytepbhgapjogkjaa
open Go.RowKit

/-- Does a set hang together and not keep distances? -/
def strP (rs : List Int) (S : Nat) : Bool := decide ((partsOf rs S).length = 1) && !keepB rs.length rs S
theorem strP_zero (rs : List Int) : strP rs 0 = false := by
  have : partsOf rs 0 = [] := partsF_nil rs 0 7
  unfold strP; rw [this]; rfl
theorem strP_of {rs : List Int} {S : Nat} {b c : Bool} (h1 : (((ints (partsOf rs S)).length : Int) == 1) = b) (h2 : keepB rs.length rs S = c) : strP rs S = (b && !c) := by
  unfold strP; rw [h2, ← h1, ints_len]; congr 1; rw [Bool.eq_iff_iff, decide_eq_true_eq, beq_iff_eq]; omega
def strO (n : Int) (rs : List Int) : Option Nat := leastO n rs (strP rs)

set_option maxRecDepth 100000 in
set_option maxHeartbeats 2000000 in
theorem specStretch_any (n : Int) (rs : List Int) (ro : Option Addr) (rc : Nat) (w : World) (hr : IntsAt w ro rs) (hrl : rs.length ≤ 1048576) :
    Calls Try.prog 38 #[.agg #[.int .i64 n, .slice ro rs.length rc]] w fun e w' => e = .returned (.tuple #[.int .i64 (leastI (strO n rs)), .bool (strO n rs).isSome]) ∧ Below w.heap.size w w' := by
  go_enter Try.func38, Try.ntmps38
  go_wp2_with fail
  generalize hW : w.alloc _ = W1
  obtain ⟨hB, -, k0⟩ := alloc1 hW
  replace hr := hr.below hB
  have hb0 := k0.lt
  have hc0 := k0.cell 0
  have hc1 := k0.cell 1
  simp at hc0 hc1
  clear hW k0
  have HhB := Lib.hid hB
  clear hB
  cases hv : isGraphB n rs
  · have HE : Hid (strO n rs = none) := Lib.hid (leastO_no hv)
    go_loopw [4] (fun i wr => (∃ m : Later W1, wr = m.w) ∧ i = .int .i64 1) (fun _ _ => 0)
    case atStart => exact ⟨⟨Later.refl _, rfl⟩, rfl⟩
    case round =>
      obtain ⟨⟨m, rfl⟩, rfl⟩ := hrel
      go_wp2_with (first | (go_at_call 68; refine (Calls.later m (specIsGraph_any _ _ _ _ _ (hr.later m) hrl)).mono ?_; rintro e w' ⟨rfl, m, rfl⟩))
      go_ret2
      exact ⟨by rw [HE.out]; rfl, below_later HhB.out m⟩
  · have HE : Hid (strO n rs = firstB (strP rs) (2 ^ rs.length)) := Lib.hid (leastO_of hv)
    obtain ⟨rfl, g⟩ := VG.of hv
    have hg1 := g.pos
    have hg2 := g.le
    obtain ⟨hp1, hp2⟩ := g.pow
    have hq := pwN_small rs.length (by omega)
    have hz := strP_zero rs
    have HS := Lib.hid (fun k b c => strP_of (rs := rs) (S := k) (b := b) (c := c))
    have HPa : Hid (∀ (S : Nat) (w : World), S < 2 ^ rs.length → IntsAt w ro rs → Calls Try.prog 85 #[.agg #[.int .i64 rs.length, .slice ro rs.length rc], .int .i64 S] w (RetE w (ints (partsOf rs S)))) := Lib.hid fun S w h1 h => specParts_any rs S ro rc w h hv h1
    generalize 2 ^ rs.length = T at *
    generalize strP rs = p at *
    go_loopw [4] (fun i wr => (∃ m : Later W1, wr = m.w) ∧ ∃ k : Nat, 1 ≤ k ∧ k ≤ T ∧ i = .int .i64 k ∧ ∀ j, j < k → p j = false) (fun i _ => T - (intOf i).toNat)
    case atStart => exact ⟨⟨Later.refl _, rfl⟩, 1, by omega, by omega, rfl, fun j h => by rw [show j = 0 by omega]; exact hz⟩
    case round =>
      obtain ⟨⟨m, rfl⟩, k, hk1, hk, rfl, hP⟩ := hrel
      have HhP := Lib.hid hP
      clear hP
      by_cases hlt : k < T
      · have HY := Lib.hid (fun h => all_succ (p := fun j => p j = false) HhP.out h)
        have HH := Lib.hid (fun h => firstB_hit (p := p) hlt HhP.out h)
        have hPa := fun m : Later W1 => HPa.out k m.w hlt (hr.later m)
        have hK := fun m : Later W1 => specKeeps_any rs.length rs k ro rc m.w (hr.later m) hrl
        replace HS := Lib.hid (HS.out k _ _ rfl rfl)
        have hl7 := partsOf_len rs k
        rw [← ints_len] at hl7
        generalize ints (partsOf rs k) = ps at *
        generalize keepB rs.length rs k = kb at *
        go_wp2_with (first | (go_at_call 68; refine (Calls.later m (specIsGraph_any _ _ _ _ _ (hr.later m) hrl)).mono ?_; rintro e w' ⟨rfl, m, rfl⟩))
        refine (hPa m).mono ?_
        rintro e w2 ⟨ao, cap, rfl, hB2, -⟩
        obtain ⟨m, rfl⟩ : ∃ m2 : Later W1, m2.w = w2 := ⟨m.on hB2, rfl⟩
        clear hB2 hPa
        cases h1 : ((ps.length : Int) == 1)
        · have HN := Lib.hid (HY.out (by rw [HS.out, h1]; rfl))
          go_wp2_with fail
          go_roundw
          case rel => exact ⟨⟨m, rfl⟩, k + 1, by omega, by omega, by go_num, HN.out⟩
          case measure => simp [intOf]; omega
        · cases h2 : kb <;> simp only [h2] at hK HS
          · have HN := Lib.hid (HH.out (by rw [HS.out, h1]; rfl))
            go_wp2_with (first | (go_at_call 36; refine (Calls.later m (hK _)).mono ?_; rintro e w' ⟨rfl, m, rfl⟩))
            go_ret2
            exact ⟨by rw [HE.out, HN.out]; rfl, below_later HhB.out m⟩
          · have HN := Lib.hid (HY.out (by rw [HS.out, h1]; rfl))
            go_wp2_with (first | (go_at_call 36; refine (Calls.later m (hK _)).mono ?_; rintro e w' ⟨rfl, m, rfl⟩))
            go_roundw
            case rel => exact ⟨⟨m, rfl⟩, k + 1, by omega, by omega, by go_num, HN.out⟩
            case measure => simp [intOf]; omega
      · have HN := Lib.hid (firstB_none (p := p) (n := T) (fun j h => HhP.out j (by omega)))
        go_wp2_with (first | (go_at_call 68; refine (Calls.later m (specIsGraph_any _ _ _ _ _ (hr.later m) hrl)).mono ?_; rintro e w' ⟨rfl, m, rfl⟩))
        go_ret2
        exact ⟨by rw [HE.out, HN.out]; rfl, below_later HhB.out m⟩

set_option maxRecDepth 100000 in
set_option maxHeartbeats 2000000 in
theorem stretchTest_any (rs : List Int) (ro : Option Addr) (rc : Nat) (hv : isGraphB rs.length rs = true) : TestOf 93 rs ro rc (strP rs) := by
  intro S w hr hS
  have g := (VG.of hv).2
  have hrl : rs.length ≤ 1048576 := by have := g.le; omega
  go_enter Try.func93, Try.ntmps93
  go_wp2_with fail
  generalize hW : w.alloc _ = W1
  obtain ⟨hB, -, k0⟩ := alloc1 hW
  replace hr := hr.below hB
  have hb0 := k0.lt
  have hc0 := k0.cell 0
  have hc1 := k0.cell 1
  simp at hc0 hc1
  clear hW k0
  have HhB := Lib.hid hB
  clear hB
  obtain ⟨m, hm0⟩ : ∃ m : Later W1, m.w = W1 := ⟨Later.refl _, rfl⟩
  refine (fun h => hm0 ▸ h) ?_
  clear hm0
  have HS := Lib.hid (strP_of (rs := rs) (S := S) rfl rfl)
  have hK := fun m : Later W1 => implKeeps_any rs.length rs S ro rc m.w (hr.later m) hrl
  have hl7 := partsOf_len rs S
  rw [← ints_len] at hl7
  refine (implParts_any rs S ro rc _ (hr.later m) hv hS).mono ?_
  rintro e w2 ⟨ao, cap, rfl, hB2, -⟩
  obtain ⟨m, rfl⟩ : ∃ m2 : Later W1, m2.w = w2 := ⟨m.on hB2, rfl⟩
  clear hB2
  generalize ints (partsOf rs S) = ps at *
  generalize keepB rs.length rs S = kb at *
  cases h1 : ((ps.length : Int) == 1)
  · go_wp2_with fail
    go_ret
    exact ⟨retB (by rw [HS.out, h1]; rfl), below_later HhB.out m⟩
  · go_wp2_with (first | (go_at_call 37; refine (Calls.later m (hK _)).mono ?_; rintro e w' ⟨rfl, m, rfl⟩))
    go_ret
    exact ⟨retB (by rw [HS.out, h1]; rfl), below_later HhB.out m⟩

set_option maxRecDepth 100000 in
theorem implStretch_any (n : Int) (rs : List Int) (ro : Option Addr) (rc : Nat) (w : World) (hr : IntsAt w ro rs) (hrl : rs.length ≤ 1048576) :
    Calls Try.prog 39 #[.agg #[.int .i64 n, .slice ro rs.length rc]] w fun e w' => e = .returned (.tuple #[.int .i64 (leastI (strO n rs)), .bool (strO n rs).isSome]) ∧ Below w.heap.size w w' := by
  go_enter Try.func39, Try.ntmps39
  go_wp2_with fail
  generalize hW : w.alloc _ = W1
  obtain ⟨hB, -, k0⟩ := alloc1 hW
  replace hr := hr.below hB
  have hb0 := k0.lt
  have hc0 := k0.cell 0
  have hc1 := k0.cell 1
  simp at hc0 hc1
  clear hW k0
  have HhB := Lib.hid hB
  clear hB
  obtain ⟨m, hm0⟩ : ∃ m : Later W1, m.w = W1 := ⟨Later.refl _, rfl⟩
  refine (fun h => hm0 ▸ h) ?_
  clear hm0
  go_wp2_with (first | (go_at_call 81; refine (Calls.later m (implLeast_any n rs ro rc 93 (strP rs) _ (hr.later m) hrl (fun _ _ => rfl) (fun hv => stretchTest_any rs ro rc hv))).mono ?_; rintro e w' ⟨rfl, m, rfl⟩))
  go_ret2
  exact ⟨rfl, below_later HhB.out m⟩

end Go.Proofs.Ytepbhgapjogkjaa
