/-
  The test that always holds, as what is asked of a beginning and of a whole list. No conditions.
  areJoined of the program for whatever pattern. For at most 2^20 rows and list elements.
  Suns: the pattern, IsSun of the reference. For at most 2^20 rows and list elements.
-/
import Derived.Test.YtgklgheaojoimaaPkLawStrong21
import Derived.Test.YtgklgheaojoimaaPkLawStrong11
namespace Go.Proofs.Ytgklgheaojoimaa
open Go.RowKit

theorem always_any (X : Nat → Prop) (W : World) (n : Nat) : HoldsOf (S := Unit) 81 #[] X W (fun _ _ => ((), true)) (fun _ _ => True) n := by
  intro m s l ao cap _ hl hn hc
  show Calls Try.prog 81 #[.slice ao n cap] m.w _
  go_enter Try.func81, Try.ntmps81
  go_wp2_with fail
  go_ret
  exact ⟨rfl, trivial, Only.refl _ _ _⟩
theorem alwaysMay_any (X : Nat → Prop) (W : World) (n : Nat) : MayOf 81 #[] X W (fun _ => true) n := by
  intro m l ao n cap hl hn hc hm h0
  show Calls Try.prog 81 #[.slice ao n cap] m.w _
  go_enter Try.func81, Try.ntmps81
  go_wp2_with fail
  go_ret
  exact ⟨rfl, Below.refl _ _⟩

end Go.Proofs.Ytgklgheaojoimaa

namespace Go.Proofs.Ytgklgheaojoimaa
open Go.RowKit

/-- A vertex of a list of different vertices, as a natural number. -/
theorem vertex_at {n : Int} {rs l : List Int} (h : vertsB n rs l = true) {j : Nat} (hj : j < l.length) : ∃ v : Nat, gi l j = v ∧ v < rs.length := by
  obtain ⟨a, b⟩ := ((vertsB_true.1 h).2 j hj).1
  exact ⟨(gi l j).toNat, by omega, by omega⟩

def joinedAt (rs l : List Int) (pat : Nat → Nat → Bool) (i j : Nat) : Bool := (gn rs (gi l j).toNat).testBit (gi l i).toNat == pat j i
def joinB (n : Int) (rs l : List Int) (pat : Nat → Nat → Bool) : Bool := vertsB n rs l && decide (∀ i, i < l.length → ∀ j, j < i → joinedAt rs l pat i j = true)
theorem joinB_no {n : Int} {rs l : List Int} {pat : Nat → Nat → Bool} (h : vertsB n rs l = false) : joinB n rs l pat = false := by unfold joinB; rw [h]; rfl
theorem joinB_bad {n : Int} {rs l : List Int} {pat : Nat → Nat → Bool} {i j : Nat} (hi : i < l.length) (hj : j < i) (h : joinedAt rs l pat i j = false) : joinB n rs l pat = false := by
  unfold joinB; rw [decide_eq_false, Bool.and_false]; intro a; rw [a i hi j hj] at h; cases h
theorem joinB_ok {n : Int} {rs l : List Int} {pat : Nat → Nat → Bool} (hv : vertsB n rs l = true) (h : ∀ i, i < l.length → ∀ j, j < i → joinedAt rs l pat i j = true) : joinB n rs l pat = true := by
  unfold joinB; rw [hv, decide_eq_true h]; rfl
/-- A function that answers the pattern. -/
def PatOf (K : Nat) (n : Nat) (pat : Nat → Nat → Bool) : Prop :=
  ∀ (j i : Nat) (w : World), j < i → i < n → Calls Try.prog K #[.int .i64 j, .int .i64 i] w fun e w' => e = .returned (.bool (pat j i)) ∧ w = w'

set_option maxRecDepth 100000 in
set_option maxHeartbeats 1000000 in
theorem areJoined_any (n : Int) (rs l : List Int) (ro lo : Option Addr) (rc lc K : Nat) (pat : Nat → Nat → Bool) (w : World) (hr : IntsAt w ro rs) (hrl : rs.length ≤ 1048576) (hl : IntsAt w lo l) (hll : l.length ≤ 1048576) (hcap : l.length ≤ lc)
    (hE : ∀ args w, Sem.run Try.prog (callFunc K args) w = .ok (.enter K args) w) (hK : PatOf K l.length pat) :
    Calls Try.prog 114 #[.agg #[.int .i64 n, .slice ro rs.length rc], .slice lo l.length lc, .func (.func K) #[] #[]] w fun e w' => e = .returned (.bool (joinB n rs l pat)) ∧ Below w.heap.size w w' := by
  replace hK := Lib.hid hK
  go_enter Try.func114, Try.ntmps114
  go_wp2_with fail
  generalize hW : w.alloc _ = W1
  obtain ⟨hB, -, k0⟩ := alloc1 hW
  replace hr := hr.below hB
  replace hl := hl.below hB
  have hb0 := k0.lt
  have hc0 := k0.cell 0
  have hc1 := k0.cell 1
  simp at hc0 hc1
  clear hW k0
  have HhB := Lib.hid hB
  clear hB
  obtain ⟨m, hm0⟩ : ∃ m : Later W1, m.w = W1 := ⟨Later.refl _, rfl⟩
  refine (fun h => hm0 ▸ h) ?_
  clear hm0
  cases hv : vertsB n rs l
  · have HE := Lib.hid (joinB_no (pat := pat) hv)
    go_wp2_with (first | (go_at_call 85; refine (Calls.later m (areVertices_any _ _ _ _ _ _ _ _ (hr.later m) hrl (hl.later m) hll hcap)).mono ?_; rintro e w' ⟨rfl, m, rfl⟩))
    go_ret
    exact ⟨retB (by rw [HE.out]), below_later HhB.out m⟩
  · obtain ⟨rfl, g⟩ := VG.of (vertsB_true.1 hv).1
    have hg2 := g.le
    go_wp2_with (first | (go_at_call 85; refine (Calls.later m (areVertices_any _ _ _ _ _ _ _ _ (hr.later m) hrl (hl.later m) hll hcap)).mono ?_; rintro e w' ⟨rfl, m, rfl⟩))
    clear hcap
    go_loopw [15] (fun i wr => (∃ m : Later W1, wr = m.w) ∧ ∃ k : Nat, k ≤ l.length ∧ i = .int .i64 k ∧ ∀ i, i < k → ∀ j, j < i → joinedAt rs l pat i j = true) (fun i _ => l.length - (intOf i).toNat)
    case atStart => exact ⟨⟨m, rfl⟩, 0, by omega, rfl, fun j h => by omega⟩
    case round =>
      obtain ⟨⟨m, rfl⟩, k, hk, rfl, hP⟩ := hrel
      have HhP := Lib.hid hP
      clear hP
      by_cases hlt : k < l.length
      · go_wp2_with fail
        go_loopw [19] (fun i wr => (∃ m : Later W1, wr = m.w) ∧ ∃ t : Nat, t ≤ k ∧ i = .int .i64 t ∧ ∀ j, j < t → joinedAt rs l pat k j = true) (fun i _ => k - (intOf i).toNat)
        case atStart => exact ⟨⟨m, rfl⟩, 0, by omega, rfl, fun j h => by omega⟩
        case round =>
          obtain ⟨⟨m, rfl⟩, t, ht, rfl, hR⟩ := hrel
          have HhR := Lib.hid hR
          clear hR
          by_cases htt : t < k
          · obtain ⟨lb, lofs, rfl, hlb, hlc⟩ := hl (by omega)
            obtain ⟨rb, rofs, rfl, hrb, hrc⟩ := hr.graph g
            have htl : t < l.length := by omega
            obtain ⟨u, hu, hu2⟩ := vertex_at hv htl
            obtain ⟨v, hv1, hv2⟩ := vertex_at hv hlt
            have hcu := hlc t htl
            have hcv := hlc k hlt
            rw [hu] at hcu
            rw [hv1] at hcv
            have HQ : Hid (joinedAt rs l pat k t = ((gn rs u).testBit v == pat t k)) := by show joinedAt rs l pat k t = _; unfold joinedAt; rw [hu, hv1]; rfl
            clear hlc hu hv1
            have hA := fun m : Later W1 => has_any (gn rs u) v (by omega) (by omega) m.w
            simp only [Int.toNat_natCast, hasN_nat] at hA
            have hK' := fun m : Later W1 => hK.out t k m.w htt hlt
            go_wp2_with fail
            cases he : (gn rs u).testBit v <;> cases hq : pat t k
            all_goals
              simp only [he] at hA
              simp only [hq] at hK'
              refine wp_region_later m rfl (by kernel_rfl) (by kernel_rfl) ?_
              repeat (go_big_quiet_step ((first | (go_at_call 86; exact Calls.later_same _ (hA _)) | (with_reducible exact Calls.later_same _ (hK' _)))))
              refine wpQuiet_nil ?_
              rintro _ ⟨m, rfl⟩
              go_wp2_with fail
            · go_roundw
              case rel => exact ⟨⟨m, rfl⟩, t + 1, by omega, by go_num, all_succ HhR.out (by rw [HQ.out, he, hq]; rfl)⟩
              case measure => simp [intOf]; omega
            · go_ret
              exact ⟨retB (by rw [joinB_bad hlt htt (by rw [HQ.out, he, hq]; rfl)]), below_later HhB.out m⟩
            · go_ret
              exact ⟨retB (by rw [joinB_bad hlt htt (by rw [HQ.out, he, hq]; rfl)]), below_later HhB.out m⟩
            · go_roundw
              case rel => exact ⟨⟨m, rfl⟩, t + 1, by omega, by go_num, all_succ HhR.out (by rw [HQ.out, he, hq]; rfl)⟩
              case measure => simp [intOf]; omega
          · go_wp2_with fail
            go_roundw
            case rel => exact ⟨⟨m, rfl⟩, k + 1, by omega, by go_num, all_succ HhP.out (fun j h => HhR.out j (by omega))⟩
            case measure => simp [intOf]; omega
      · have HE := Lib.hid (joinB_ok hv (fun i h => HhP.out i (by omega)))
        go_wp2_with fail
        go_ret
        exact ⟨retB (by rw [HE.out]), below_later HhB.out m⟩

end Go.Proofs.Ytgklgheaojoimaa

namespace Go.Proofs.Ytgklgheaojoimaa
open Go.RowKit

/-! ### IsSun -/
def sunP (j i : Nat) : Bool := decide (i < 3) || (decide (j < 3) && (decide (i = 3 ∧ j ≠ 2) || decide (i = 4 ∧ j ≠ 0) || decide (i = 5 ∧ j ≠ 1)))
def sunB (n : Int) (rs l : List Int) : Bool := decide (l.length = 6) && joinB n rs l sunP

set_option maxHeartbeats 1000000 in
theorem isSunEdge_any : PatOf 115 6 sunP := by
  intro j i w hj hi
  by_cases h3 : i < 3
  · have HE : Hid (sunP j i = true) := by show sunP j i = true; unfold sunP; simp [h3]
    go_enter Try.func115, Try.ntmps115
    go_wp2_with fail
    go_ret
    exact ⟨retB (by rw [HE.out]), rfl⟩
  by_cases hj3 : j < 3
  · obtain rfl | rfl | rfl : i = 3 ∨ i = 4 ∨ i = 5 := by omega
    all_goals
      obtain rfl | rfl | rfl : j = 0 ∨ j = 1 ∨ j = 2 := by omega
      all_goals
        go_enter Try.func115, Try.ntmps115
        go_wp2_with fail
        go_ret
        exact ⟨rfl, rfl⟩
  · have HE : Hid (sunP j i = false) := by show sunP j i = false; unfold sunP; simp [h3, hj3]
    go_enter Try.func115, Try.ntmps115
    go_wp2_with fail
    go_ret
    exact ⟨retB (by rw [HE.out, decide_eq_false (by omega)]), rfl⟩

/-- How the reference says the pattern. -/
theorem sunP_spec {j i : Nat} (hj : j < i) (hi : i < 6) :
    sunP j i = (decide (i < 3) || (decide (j < 3) && (((j : Int) == (i : Int) - 3) || ((j : Int) == ((i : Int) - 2) % 3)))) := by
  have : ∀ i : Fin 6, ∀ j : Fin 6, j.val < i.val → sunP j i = (decide (i.val < 3) || (decide (j.val < 3) && (((j.val : Int) == (i.val : Int) - 3) || ((j.val : Int) == ((i.val : Int) - 2) % 3)))) := by decide
  exact this ⟨i, hi⟩ ⟨j, by omega⟩ hj

set_option maxRecDepth 100000 in
set_option maxHeartbeats 2000000 in
theorem specIsSun_any (n : Int) (rs l : List Int) (ro lo : Option Addr) (rc lc : Nat) (w : World) (hr : IntsAt w ro rs) (hrl : rs.length ≤ 1048576) (hl : IntsAt w lo l) (hll : l.length ≤ 1048576) :
    Calls Try.prog 46 #[.agg #[.int .i64 n, .slice ro rs.length rc], .slice lo l.length lc] w fun e w' => e = .returned (.bool (sunB n rs l)) ∧ Below w.heap.size w w' := by
  go_enter Try.func46, Try.ntmps46
  go_wp2_with fail
  generalize hW : w.alloc _ = W1
  obtain ⟨hB, -, k0⟩ := alloc1 hW
  replace hr := hr.below hB
  replace hl := hl.below hB
  have hb0 := k0.lt
  have hc0 := k0.cell 0
  have hc1 := k0.cell 1
  simp at hc0 hc1
  clear hW k0
  have HhB := Lib.hid hB
  clear hB
  obtain ⟨m, hm0⟩ : ∃ m : Later W1, m.w = W1 := ⟨Later.refl _, rfl⟩
  refine (fun h => hm0 ▸ h) ?_
  clear hm0
  cases hv : vertsB n rs l
  · have HE : Hid (sunB n rs l = false) := by show sunB n rs l = _; unfold sunB; rw [joinB_no hv, Bool.and_false]
    go_wp2_with (first | (go_at_call 98; refine (Calls.later m (l4Distinct_any _ _ _ _ _ _ _ _ (hr.later m) hrl (hl.later m) hll)).mono ?_; rintro e w' ⟨rfl, m, rfl⟩))
    go_ret
    exact ⟨retB (by rw [HE.out]), below_later HhB.out m⟩
  by_cases h6 : l.length = 6
  · have HE : Hid (sunB n rs l = joinB n rs l sunP) := by show sunB n rs l = _; unfold sunB; rw [decide_eq_true h6]; rfl
    have hz : ((l.length : Int) != 6) = false := by rw [bne_eq_false_iff_eq]; omega
    obtain ⟨rfl, g⟩ := VG.of (vertsB_true.1 hv).1
    go_wp2_with (first | (go_at_call 98; refine (Calls.later m (l4Distinct_any _ _ _ _ _ _ _ _ (hr.later m) hrl (hl.later m) hll)).mono ?_; rintro e w' ⟨rfl, m, rfl⟩))
    clear hz
    go_loopw [5] (fun i wr => (∃ m : Later W1, wr = m.w) ∧ ∃ k : Nat, k ≤ 6 ∧ i = .int .i64 k ∧ ∀ i, i < k → ∀ j, j < i → joinedAt rs l sunP i j = true) (fun i _ => 6 - (intOf i).toNat)
    case atStart => exact ⟨⟨m, rfl⟩, 0, by omega, rfl, fun j h => by omega⟩
    case round =>
      obtain ⟨⟨m, rfl⟩, k, hk, rfl, hP⟩ := hrel
      have HhP := Lib.hid hP
      clear hP
      by_cases hlt : k < 6
      · have hk6 : decide ((k : Int) < 6) = true := decide_eq_true (by omega)
        go_wp2_with fail
        go_loopw [6] (fun i wr => (∃ m : Later W1, wr = m.w) ∧ ∃ t : Nat, t ≤ k ∧ i = .int .i64 t ∧ ∀ j, j < t → joinedAt rs l sunP k j = true) (fun i _ => k - (intOf i).toNat)
        case atStart => exact ⟨⟨m, rfl⟩, 0, by omega, rfl, fun j h => by omega⟩
        case round =>
          obtain ⟨⟨m, rfl⟩, t, ht, rfl, hR⟩ := hrel
          have HhR := Lib.hid hR
          clear hR
          by_cases htt : t < k
          · obtain ⟨lb, lofs, rfl, hlb, hlc⟩ := hl (by omega)
            have htl : t < l.length := by omega
            have hkl : k < l.length := by omega
            obtain ⟨u, hu, hu2⟩ := vertex_at hv htl
            obtain ⟨v, hv1, hv2⟩ := vertex_at hv hkl
            have hcu := hlc t htl
            have hcv := hlc k hkl
            rw [hu] at hcu
            rw [hv1] at hcv
            have HQ : Hid (joinedAt rs l sunP k t = ((gn rs v).testBit u == sunP t k)) := by show joinedAt rs l sunP k t = _; unfold joinedAt; rw [hu, hv1, ← g.sym u hu2 v hv2]; rfl
            clear hlc hu hv1
            have hA := fun m : Later W1 => l2Edge_any rs v u ro rc m.w (hr.later m) g hv2 hu2
            have HS := Lib.hid (sunP_spec htt hlt)
            have FIN : Hid (∀ b, sunP t k = b → ((gn rs v).testBit u == b) = true → ∀ i, i < t + 1 → joinedAt rs l sunP k i = true) := fun b h1 h2 => all_succ HhR.out (by rw [HQ.out, h1]; exact h2)
            have BAD : Hid (∀ b, sunP t k = b → ((gn rs v).testBit u == b) = false → sunB rs.length rs l = false) := fun b h1 h2 => by rw [HE.out]; exact joinB_bad hkl htt (by rw [HQ.out, h1]; exact h2)
            by_cases k3 : k < 3
            · have HT : Hid (sunP t k = true) := by show _ = _; rw [HS.out, decide_eq_true k3]; rfl
              go_wp2_with fail
              cases he : (gn rs v).testBit u
              all_goals
                simp only [he] at hA
                refine wp_region_later m rfl (by kernel_rfl) (by kernel_rfl) ?_
                repeat (go_big_quiet_step ((first | (go_at_call 99; exact Calls.later _ (hA _)))))
                refine wpQuiet_nil ?_
                rintro _ ⟨m, rfl⟩
                go_wp2_with fail
              · go_ret
                exact ⟨retB (by rw [BAD.out _ HT.out (by rw [he]; rfl)]), below_later HhB.out m⟩
              · go_roundw
                case rel => exact ⟨⟨m, rfl⟩, t + 1, by omega, by go_num, FIN.out _ HT.out (by rw [he]; rfl)⟩
                case measure => simp [intOf]; omega
            have k3' : decide ((k : Int) < 3) = false := decide_eq_false (by omega)
            by_cases t3 : t < 3
            · have t3' : decide ((t : Int) < 3) = true := decide_eq_true (by omega)
              cases hq1 : ((t : Int) == (k : Int) - 3)
              · go_wp2_with fail
                cases hq2 : ((t : Int) == ((k : Int) - 2) % 3)
                all_goals
                  have HT := Lib.hid HS.out
                  rw [decide_eq_false k3, decide_eq_true t3, hq1, hq2] at HT
                  simp only [Bool.false_or, Bool.true_and] at HT
                  clear hq2
                  cases he : (gn rs v).testBit u
                  all_goals
                    simp only [he] at hA
                    refine wp_region_later m rfl (by kernel_rfl) (by kernel_rfl) ?_
                    repeat (go_big_quiet_step ((first | (go_at_call 99; exact Calls.later _ (hA _)))))
                    refine wpQuiet_nil ?_
                    rintro _ ⟨m, rfl⟩
                    go_wp2_with fail
                · go_roundw
                  case rel => exact ⟨⟨m, rfl⟩, t + 1, by omega, by go_num, FIN.out _ HT.out (by rw [he]; rfl)⟩
                  case measure => simp [intOf]; omega
                · go_ret
                  exact ⟨retB (by rw [BAD.out _ HT.out (by rw [he]; rfl)]), below_later HhB.out m⟩
                · go_ret
                  exact ⟨retB (by rw [BAD.out _ HT.out (by rw [he]; rfl)]), below_later HhB.out m⟩
                · go_roundw
                  case rel => exact ⟨⟨m, rfl⟩, t + 1, by omega, by go_num, FIN.out _ HT.out (by rw [he]; rfl)⟩
                  case measure => simp [intOf]; omega
              · have HT : Hid (sunP t k = true) := by show _ = _; rw [HS.out, decide_eq_false k3, decide_eq_true t3, hq1]; rfl
                go_wp2_with fail
                cases he : (gn rs v).testBit u
                all_goals
                  simp only [he] at hA
                  refine wp_region_later m rfl (by kernel_rfl) (by kernel_rfl) ?_
                  repeat (go_big_quiet_step ((first | (go_at_call 99; exact Calls.later _ (hA _)))))
                  refine wpQuiet_nil ?_
                  rintro _ ⟨m, rfl⟩
                  go_wp2_with fail
                · go_ret
                  exact ⟨retB (by rw [BAD.out _ HT.out (by rw [he]; rfl)]), below_later HhB.out m⟩
                · go_roundw
                  case rel => exact ⟨⟨m, rfl⟩, t + 1, by omega, by go_num, FIN.out _ HT.out (by rw [he]; rfl)⟩
                  case measure => simp [intOf]; omega
            · have HT : Hid (sunP t k = false) := by show _ = _; rw [HS.out, decide_eq_false k3, decide_eq_false t3]; rfl
              have t3' : decide ((t : Int) < 3) = false := decide_eq_false (by omega)
              go_wp2_with fail
              cases he : (gn rs v).testBit u
              all_goals
                simp only [he] at hA
                refine wp_region_later m rfl (by kernel_rfl) (by kernel_rfl) ?_
                repeat (go_big_quiet_step ((first | (go_at_call 99; exact Calls.later _ (hA _)))))
                refine wpQuiet_nil ?_
                rintro _ ⟨m, rfl⟩
                go_wp2_with fail
              · go_roundw
                case rel => exact ⟨⟨m, rfl⟩, t + 1, by omega, by go_num, FIN.out _ HT.out (by rw [he]; rfl)⟩
                case measure => simp [intOf]; omega
              · go_ret
                exact ⟨retB (by rw [BAD.out _ HT.out (by rw [he]; rfl)]), below_later HhB.out m⟩
          · go_wp2_with fail
            go_roundw
            case rel => exact ⟨⟨m, rfl⟩, k + 1, by omega, by go_num, all_succ HhP.out (fun j h => HhR.out j (by omega))⟩
            case measure => simp [intOf]; omega
      · have HJ := Lib.hid (joinB_ok (pat := sunP) hv (fun i h => HhP.out i (by omega)))
        go_wp2_with fail
        go_ret
        exact ⟨retB (by rw [HE.out, HJ.out]), below_later HhB.out m⟩
  · have HE : Hid (sunB n rs l = false) := by show sunB n rs l = _; unfold sunB; rw [decide_eq_false h6]; rfl
    have hz : ((l.length : Int) != 6) = true := by rw [bne_iff_ne]; omega
    clear h6
    go_wp2_with (first | (go_at_call 98; refine (Calls.later m (l4Distinct_any _ _ _ _ _ _ _ _ (hr.later m) hrl (hl.later m) hll)).mono ?_; rintro e w' ⟨rfl, m, rfl⟩))
    go_ret
    exact ⟨retB (by rw [HE.out]), below_later HhB.out m⟩

end Go.Proofs.Ytgklgheaojoimaa
