/-
  areJoined of the program for whatever pattern. For at most 2^20 rows and list elements.
-/
import Derived.Test.YtfknahckicnaaaaDistinct
namespace Go.Proofs.Ytfknahckicnaaaa
open Go.RowKit

/-- A vertex of a list of different vertices, as a natural number. -/
theorem vertex_at {n : Int} {rs l : List Int} (h : vertsB n rs l = true) {j : Nat} (hj : j < l.length) : ∃ v : Nat, gi l j = v ∧ v < rs.length := by
  obtain ⟨a, b⟩ := ((vertsB_true.1 h).2 j hj).1
  exact ⟨(gi l j).toNat, by omega, by omega⟩

def joinedAt (rs l : List Int) (pat : Nat → Nat → Bool) (i j : Nat) : Bool := (gn rs (gi l j).toNat).testBit (gi l i).toNat == pat j i
def joinB (n : Int) (rs l : List Int) (pat : Nat → Nat → Bool) : Bool := vertsB n rs l && decide (∀ i, i < l.length → ∀ j, j < i → joinedAt rs l pat i j = true)
theorem joinB_no {n : Int} {rs l : List Int} {pat : Nat → Nat → Bool} (h : vertsB n rs l = false) : joinB n rs l pat = false := by unfold joinB; rw [h]; rfl
theorem joinB_bad {n : Int} {rs l : List Int} {pat : Nat → Nat → Bool} {i j : Nat} (hi : i < l.length) (hj : j < i) (h : joinedAt rs l pat i j = false) : joinB n rs l pat = false := by
  unfold joinB; rw [decide_eq_false, Bool.and_false]; intro a; rw [a i hi j hj] at h; cases h
theorem joinB_ok {n : Int} {rs l : List Int} {pat : Nat → Nat → Bool} (hv : vertsB n rs l = true) (h : ∀ i, i < l.length → ∀ j, j < i → joinedAt rs l pat i j = true) : joinB n rs l pat = true := by
  unfold joinB; rw [hv, decide_eq_true h]; rfl
/-- A function that answers the pattern. -/
def PatOf (K : Nat) (n : Nat) (pat : Nat → Nat → Bool) : Prop :=
  ∀ (j i : Nat) (w : World), j < i → i < n → Calls Try.prog K #[.int .i64 j, .int .i64 i] w fun e w' => e = .returned (.bool (pat j i)) ∧ w = w'

set_option maxRecDepth 100000 in
set_option maxHeartbeats 1000000 in
theorem areJoined_any (n : Int) (rs l : List Int) (ro lo : Option Addr) (rc lc K : Nat) (pat : Nat → Nat → Bool) (w : World) (hr : IntsAt w ro rs) (hrl : rs.length ≤ 1048576) (hl : IntsAt w lo l) (hll : l.length ≤ 1048576) (hcap : l.length ≤ lc)
    (hE : ∀ args w, Sem.run Try.prog (callFunc K args) w = .ok (.enter K args) w) (hK : PatOf K l.length pat) :
    Calls Try.prog 73 #[.agg #[.int .i64 n, .slice ro rs.length rc], .slice lo l.length lc, .func (.func K) #[] #[]] w fun e w' => e = .returned (.bool (joinB n rs l pat)) ∧ Below w.heap.size w w' := by
  replace hK := Lib.hid hK
  go_enter Try.func73, Try.ntmps73
  go_wp2_with fail
  generalize hW : w.alloc _ = W1
  obtain ⟨hB, -, k0⟩ := alloc1 hW
  replace hr := hr.below hB
  replace hl := hl.below hB
  have hb0 := k0.lt
  have hc0 := k0.cell 0
  have hc1 := k0.cell 1
  simp at hc0 hc1
  clear hW k0
  have HhB := Lib.hid hB
  clear hB
  obtain ⟨m, hm0⟩ : ∃ m : Later W1, m.w = W1 := ⟨Later.refl _, rfl⟩
  refine (fun h => hm0 ▸ h) ?_
  clear hm0
  cases hv : vertsB n rs l
  · have HE := Lib.hid (joinB_no (pat := pat) hv)
    go_wp2_with (first | (go_at_call 96; refine (Calls.later m (areVertices_any _ _ _ _ _ _ _ _ (hr.later m) hrl (hl.later m) hll hcap)).mono ?_; rintro e w' ⟨rfl, m, rfl⟩))
    go_ret
    exact ⟨retB (by rw [HE.out]), below_later HhB.out m⟩
  · obtain ⟨rfl, g⟩ := VG.of (vertsB_true.1 hv).1
    have hg2 := g.le
    go_wp2_with (first | (go_at_call 96; refine (Calls.later m (areVertices_any _ _ _ _ _ _ _ _ (hr.later m) hrl (hl.later m) hll hcap)).mono ?_; rintro e w' ⟨rfl, m, rfl⟩))
    clear hcap
    go_loopw [15] (fun i wr => (∃ m : Later W1, wr = m.w) ∧ ∃ k : Nat, k ≤ l.length ∧ i = .int .i64 k ∧ ∀ i, i < k → ∀ j, j < i → joinedAt rs l pat i j = true) (fun i _ => l.length - (intOf i).toNat)
    case atStart => exact ⟨⟨m, rfl⟩, 0, by omega, rfl, fun j h => by omega⟩
    case round =>
      obtain ⟨⟨m, rfl⟩, k, hk, rfl, hP⟩ := hrel
      have HhP := Lib.hid hP
      clear hP
      by_cases hlt : k < l.length
      · go_wp2_with fail
        go_loopw [19] (fun i wr => (∃ m : Later W1, wr = m.w) ∧ ∃ t : Nat, t ≤ k ∧ i = .int .i64 t ∧ ∀ j, j < t → joinedAt rs l pat k j = true) (fun i _ => k - (intOf i).toNat)
        case atStart => exact ⟨⟨m, rfl⟩, 0, by omega, rfl, fun j h => by omega⟩
        case round =>
          obtain ⟨⟨m, rfl⟩, t, ht, rfl, hR⟩ := hrel
          have HhR := Lib.hid hR
          clear hR
          by_cases htt : t < k
          · obtain ⟨lb, lofs, rfl, hlb, hlc⟩ := hl (by omega)
            obtain ⟨rb, rofs, rfl, hrb, hrc⟩ := hr.graph g
            have htl : t < l.length := by omega
            obtain ⟨u, hu, hu2⟩ := vertex_at hv htl
            obtain ⟨v, hv1, hv2⟩ := vertex_at hv hlt
            have hcu := hlc t htl
            have hcv := hlc k hlt
            rw [hu] at hcu
            rw [hv1] at hcv
            have HQ : Hid (joinedAt rs l pat k t = ((gn rs u).testBit v == pat t k)) := by show joinedAt rs l pat k t = _; unfold joinedAt; rw [hu, hv1]; rfl
            clear hlc hu hv1
            have hA := fun m : Later W1 => has_any (gn rs u) v (by omega) (by omega) m.w
            simp only [Int.toNat_natCast, hasN_nat] at hA
            have hK' := fun m : Later W1 => hK.out t k m.w htt hlt
            go_wp2_with fail
            cases he : (gn rs u).testBit v <;> cases hq : pat t k
            all_goals
              simp only [he] at hA
              simp only [hq] at hK'
              refine wp_region_later m rfl (by kernel_rfl) (by kernel_rfl) ?_
              repeat (go_big_quiet_step ((first | (go_at_call 50; exact Calls.later_same _ (hA _)) | (with_reducible exact Calls.later_same _ (hK' _)))))
              refine wpQuiet_nil ?_
              rintro _ ⟨m, rfl⟩
              go_wp2_with fail
            · go_roundw
              case rel => exact ⟨⟨m, rfl⟩, t + 1, by omega, by go_num, all_succ HhR.out (by rw [HQ.out, he, hq]; rfl)⟩
              case measure => simp [intOf]; omega
            · go_ret
              exact ⟨retB (by rw [joinB_bad hlt htt (by rw [HQ.out, he, hq]; rfl)]), below_later HhB.out m⟩
            · go_ret
              exact ⟨retB (by rw [joinB_bad hlt htt (by rw [HQ.out, he, hq]; rfl)]), below_later HhB.out m⟩
            · go_roundw
              case rel => exact ⟨⟨m, rfl⟩, t + 1, by omega, by go_num, all_succ HhR.out (by rw [HQ.out, he, hq]; rfl)⟩
              case measure => simp [intOf]; omega
          · go_wp2_with fail
            go_roundw
            case rel => exact ⟨⟨m, rfl⟩, k + 1, by omega, by go_num, all_succ HhP.out (fun j h => HhR.out j (by omega))⟩
            case measure => simp [intOf]; omega
      · have HE := Lib.hid (joinB_ok hv (fun i h => HhP.out i (by omega)))
        go_wp2_with fail
        go_ret
        exact ⟨retB (by rw [HE.out]), below_later HhB.out m⟩

end Go.Proofs.Ytfknahckicnaaaa
