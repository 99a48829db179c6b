/-
  Cliques by their pairs. No conditions.
  LargestClique and CliqueNumber on both sides. For at most 2^20 rows.
  Largest cliques of a set that falls apart: the greatest of the parts', or their sum. No conditions.
  FormatInt of both sides at numbers from 0 to 99. No further conditions.
  The text of a cotree. Plain: no conditions beyond 'no path of four vertices'.
  areJoined of the program for whatever pattern. For at most 2^20 rows and list elements.
-/
import Derived.Test.YtjikmjhpmkakoaaGreatDoorPkCardCographs15
import Derived.Test.YtjikmjhpmkakoaaGreatDoorPkCardCographs11
import Derived.Test.YtjikmjhpmkakoaaGreatDoorPkCardCographs04
import Derived.Test.YtjikmjhpmkakoaaGreatDoorPkCardCographs16
import Derived.Test.YtjikmjhpmkakoaaGreatDoorPkCardCographs19
import Derived.Test.YtjikmjhpmkakoaaGreatDoorPkCardCographs01
import Derived.Laws.IdiomStrings
import Derived.Test.YtjikmjhpmkakoaaGreatDoorPkCardCographs06
namespace Go.Proofs.YtjikmjhpmkakoaaGreatDoor

theorem sub_bit {S v : Nat} (hS : S < 128) (hv : S.testBit v = true) (b : Nat) : (S - 2 ^ v).testBit b = (S.testBit b && decide (b ≠ v)) := by
  rw [← nDiff_minus hS (pow_sub hv), testBit_nDiff, Nat.testBit_two_pow]
  congr 1
  by_cases h : v = b
  · subst h; simp
  · rw [decide_eq_false h, decide_eq_true (show b ≠ v from fun e => h e.symm)]; rfl
theorem clique_iff {rs : List Int} (g : VG rs) {S : Nat} (hS : S < 2 ^ rs.length) : cliqueN rs S = true ↔ ∀ a b, S.testBit a = true → S.testBit b = true → a ≠ b → ad rs a b = true := by
  have hp := g.pow.1
  constructor
  · intro h a b ha hb hne
    unfold cliqueN at h
    rw [decide_eq_true_eq] at h
    have h1 := h a (testBit_lt hS ha)
    unfold cliqueBad at h1
    rw [ha, Bool.true_and, decide_eq_false_iff_not, Classical.not_not] at h1
    have h2 : (gn rs a &&& S).testBit b = (S - 2 ^ a).testBit b := by rw [h1]
    rw [sub_bit (by omega) ha, hb, Nat.testBit_and, hb, Bool.and_true, Bool.true_and, decide_eq_true (show b ≠ a from fun e => hne e.symm)] at h2
    exact h2
  · intro h
    refine cliqueN_ok fun v _ => ?_
    unfold cliqueBad
    cases hv : S.testBit v
    · rfl
    · rw [Bool.true_and, decide_eq_false_iff_not, Classical.not_not]
      refine Nat.eq_of_testBit_eq fun b => ?_
      rw [sub_bit (by omega) hv, Nat.testBit_and]
      cases hb : S.testBit b
      · rw [Bool.and_false, Bool.false_and]
      · rw [Bool.and_true, Bool.true_and]
        by_cases e : b = v
        · subst e
          have := ad_irr g b
          unfold ad at this
          rw [this, decide_eq_false (show ¬b ≠ b from fun h => h rfl)]
        · rw [decide_eq_true (show b ≠ v from e)]
          exact h v b hv hb (fun e2 => e e2.symm)

end Go.Proofs.YtjikmjhpmkakoaaGreatDoor

namespace Go.Proofs.YtjikmjhpmkakoaaGreatDoor
open Go.RowKit

theorem largestTo_lt (p : Nat → Bool) : ∀ k, 1 ≤ k → largestTo p k < k
  | 0, h => by omega
  | k + 1, _ => by
    unfold largestTo
    split
    · omega
    · have := largestTo_le p k; omega

/-- How many vertices the largest clique has. -/
def clqN (n : Int) (rs : List Int) : Int := if isGraphB n rs = true then (cnt (largestTo (fun S => cliqueB rs.length rs S) (2 ^ rs.length)) : Int) else -1
theorem clqN_no {n : Int} {rs : List Int} (h : isGraphB n rs = false) : clqN n rs = -1 := by unfold clqN; rw [if_neg (by rw [h]; decide)]
theorem clqN_of {n : Int} {rs : List Int} (h : isGraphB n rs = true) : clqN n rs = (cnt (largestTo (fun S => cliqueB rs.length rs S) (2 ^ rs.length)) : Int) := by unfold clqN; rw [if_pos h]

set_option maxRecDepth 100000 in
set_option maxHeartbeats 1000000 in
theorem specLargestClique_any (n : Int) (rs : List Int) (ro : Option Addr) (rc : Nat) (w : World) (hr : IntsAt w ro rs) (hrl : rs.length ≤ 1048576) :
    Calls Tryz.prog 92 #[.agg #[.int .i64 n, .slice ro rs.length rc]] w fun e w' => e = .returned (.int .i64 (largestV n rs fun S => cliqueB rs.length rs S)) ∧ Below w.heap.size w w' := by
  go_enter Tryz.func92, Tryz.ntmps92
  go_wp2_with fail
  generalize hW : w.alloc _ = W1
  obtain ⟨hB, -, k0⟩ := alloc1 hW
  replace hr := hr.below hB
  have hb0 := k0.lt
  have hc0 := k0.cell 0
  have hc1 := k0.cell 1
  simp at hc0 hc1
  clear hW k0
  have HhB := Lib.hid hB
  clear hB
  cases hv : isGraphB n rs
  · have HE : Hid (largestV n rs (fun S => cliqueB rs.length rs S) = 0) := by show largestV n rs _ = 0; unfold largestV; rw [hv]; rfl
    go_loopw [3, 4] (fun b i wr => (∃ m : Later W1, wr = m.w) ∧ b = .int .i64 0 ∧ i = .int .i64 1) (fun _ _ _ => 0)
    case atStart => exact ⟨⟨Later.refl _, rfl⟩, rfl, rfl⟩
    case round =>
      obtain ⟨⟨m, rfl⟩, rfl, rfl⟩ := hrel
      go_wp2_with (first | (go_at_call 12; refine (Calls.later m (specIsGraph_any _ _ _ _ _ (hr.later m) hrl)).mono ?_; rintro e w' ⟨rfl, m, rfl⟩))
      go_ret
      exact ⟨retI (by rw [HE.out]), below_later HhB.out m⟩
  · obtain ⟨rfl, g⟩ := VG.of hv
    have hg1 := g.pos
    have hg2 := g.le
    obtain ⟨hp1, hp2⟩ := g.pow
    have hq := pwN_small rs.length (by omega)
    have HE : Hid (largestV rs.length rs (fun S => cliqueB rs.length rs S) = largestTo (fun S => cliqueB rs.length rs S) (2 ^ rs.length)) := by show largestV rs.length rs _ = _; unfold largestV; rw [if_pos hv]
    generalize 2 ^ rs.length = T at *
    generalize hP : (fun S : Nat => cliqueB rs.length rs S) = p at *
    have hpk : ∀ S : Nat, cliqueB rs.length rs S = p S := fun S => by rw [← hP]
    have HhP := Lib.hid hP
    clear hP
    go_loopw [3, 4] (fun b i wr => (∃ m : Later W1, wr = m.w) ∧ ∃ k : Nat, 1 ≤ k ∧ k ≤ T ∧ b = .int .i64 (largestTo p k) ∧ i = .int .i64 k) (fun _ i _ => T - (intOf i).toNat)
    case atStart => exact ⟨⟨Later.refl _, rfl⟩, 1, by omega, by omega, by rw [largestTo_one]; rfl, rfl⟩
    case round =>
      obtain ⟨⟨m, rfl⟩, k, hk1, hk, rfl, rfl⟩ := hrel
      by_cases hlt : k < T
      · have hl := largestTo_le p k
        have HN : Hid (largestTo p (k + 1) = if cnt (largestTo p k) < cnt k ∧ p k = true then k else largestTo p k) := rfl
        have hn1 := cnt_le k
        have hn2 := cnt_le (largestTo p k)
        generalize hN : largestTo p (k + 1) = L' at *
        have HhN := Lib.hid hN
        clear hN
        generalize largestTo p k = L at *
        have hIS := fun m : Later W1 => specIsClique_any rs.length rs k ro rc m.w (hr.later m) hrl
        rw [hpk k] at hIS
        by_cases hc : cnt L < cnt k
        · cases hp : p k <;> simp only [hp] at hIS
          · go_wp2_with (first | (go_at_call 12; refine (Calls.later m (specIsGraph_any _ _ _ _ _ (hr.later m) hrl)).mono ?_; rintro e w' ⟨rfl, m, rfl⟩) | (go_at_call 34; refine (Calls.later m (specCount_any _ (by omega) _)).mono ?_; rintro e w' ⟨rfl, m, rfl⟩) | (go_at_call 134; refine (Calls.later m (hIS m)).mono ?_; rintro e w' ⟨rfl, m, rfl⟩))
            go_roundw
            case rel => exact ⟨⟨m, rfl⟩, k + 1, by omega, by omega, by rw [HhN.out, HN.out, if_neg (fun h => by rw [hp] at h; exact absurd h.2 (by decide))], by go_num⟩
            case measure => simp [intOf]; omega
          · go_wp2_with (first | (go_at_call 12; refine (Calls.later m (specIsGraph_any _ _ _ _ _ (hr.later m) hrl)).mono ?_; rintro e w' ⟨rfl, m, rfl⟩) | (go_at_call 34; refine (Calls.later m (specCount_any _ (by omega) _)).mono ?_; rintro e w' ⟨rfl, m, rfl⟩) | (go_at_call 134; refine (Calls.later m (hIS m)).mono ?_; rintro e w' ⟨rfl, m, rfl⟩))
            go_roundw
            case rel => exact ⟨⟨m, rfl⟩, k + 1, by omega, by omega, by rw [HhN.out, HN.out, if_pos ⟨hc, hp⟩], by go_num⟩
            case measure => simp [intOf]; omega
        · go_wp2_with (first | (go_at_call 12; refine (Calls.later m (specIsGraph_any _ _ _ _ _ (hr.later m) hrl)).mono ?_; rintro e w' ⟨rfl, m, rfl⟩) | (go_at_call 34; refine (Calls.later m (specCount_any _ (by omega) _)).mono ?_; rintro e w' ⟨rfl, m, rfl⟩))
          go_roundw
          case rel => exact ⟨⟨m, rfl⟩, k + 1, by omega, by omega, by rw [HhN.out, HN.out, if_neg (fun h => hc h.1)], by go_num⟩
          case measure => simp [intOf]; omega
      · go_wp2_with (first | (go_at_call 12; refine (Calls.later m (specIsGraph_any _ _ _ _ _ (hr.later m) hrl)).mono ?_; rintro e w' ⟨rfl, m, rfl⟩))
        go_ret
        obtain rfl : k = T := by omega
        exact ⟨retI (by rw [HhP.out, HE.out]), below_later HhB.out m⟩

set_option maxRecDepth 100000 in
theorem implLargestClique_any (n : Int) (rs : List Int) (ro : Option Addr) (rc : Nat) (w : World) (hr : IntsAt w ro rs) (hrl : rs.length ≤ 1048576) :
    Calls Tryz.prog 128 #[.agg #[.int .i64 n, .slice ro rs.length rc]] w fun e w' => e = .returned (.int .i64 (largestV n rs fun S => cliqueB rs.length rs S)) ∧ Below w.heap.size w w' := by
  go_enter Tryz.func128, Tryz.ntmps128
  go_wp2_with fail
  generalize hW : w.alloc _ = W1
  obtain ⟨hB, -, k0⟩ := alloc1 hW
  replace hr := hr.below hB
  have hb0 := k0.lt
  have hc0 := k0.cell 0
  have hc1 := k0.cell 1
  simp at hc0 hc1
  clear hW k0
  have HhB := Lib.hid hB
  clear hB
  obtain ⟨m, hm0⟩ : ∃ m : Later W1, m.w = W1 := ⟨Later.refl _, rfl⟩
  refine (fun h => hm0 ▸ h) ?_
  clear hm0
  go_wp2_with (first | (go_at_call 129; refine (Calls.later m (implLargest_any n rs ro rc 150 (fun S => cliqueB rs.length rs S) _ (hr.later m) hrl (fun _ _ => rfl) (fun hv S w hr hS => implIsClique_any _ _ _ _ _ _ hr hrl))).mono ?_; rintro e w' ⟨rfl, m, rfl⟩))
  go_ret
  exact ⟨rfl, below_later HhB.out m⟩

set_option maxRecDepth 100000 in
set_option maxHeartbeats 1000000 in
theorem specClqN_any (n : Int) (rs : List Int) (ro : Option Addr) (rc : Nat) (w : World) (hr : IntsAt w ro rs) (hrl : rs.length ≤ 1048576) :
    Calls Tryz.prog 33 #[.agg #[.int .i64 n, .slice ro rs.length rc]] w fun e w' => e = .returned (.int .i64 (clqN n rs)) ∧ Below w.heap.size w w' := by
  go_enter Tryz.func33, Tryz.ntmps33
  go_wp2_with fail
  generalize hW : w.alloc _ = W1
  obtain ⟨hB, -, k0⟩ := alloc1 hW
  replace hr := hr.below hB
  have hb0 := k0.lt
  have hc0 := k0.cell 0
  have hc1 := k0.cell 1
  simp at hc0 hc1
  clear hW k0
  have HhB := Lib.hid hB
  clear hB
  obtain ⟨m, hm0⟩ : ∃ m : Later W1, m.w = W1 := ⟨Later.refl _, rfl⟩
  refine (fun h => hm0 ▸ h) ?_
  clear hm0
  have hL := fun m : Later W1 => specLargestClique_any n rs ro rc m.w (hr.later m) hrl
  cases hv : isGraphB n rs
  · have HE := Lib.hid (clqN_no hv)
    go_wp2_with (first | (go_at_call 12; refine (Calls.later m (specIsGraph_any _ _ _ _ _ (hr.later m) hrl)).mono ?_; rintro e w' ⟨rfl, m, rfl⟩))
    go_ret
    exact ⟨retI (by rw [HE.out]), below_later HhB.out m⟩
  · have HE := Lib.hid (clqN_of hv)
    obtain ⟨rfl, g⟩ := VG.of hv
    obtain ⟨hp1, hp2⟩ := g.pow
    have hlt := largestTo_lt (fun S => cliqueB rs.length rs S) (2 ^ rs.length) (by omega)
    have hV : largestV rs.length rs (fun S => cliqueB rs.length rs S) = (largestTo (fun S => cliqueB rs.length rs S) (2 ^ rs.length) : Int) := by unfold largestV; rw [if_pos hv]
    rw [hV] at hL
    clear hV
    generalize largestTo (fun S : Nat => cliqueB rs.length rs S) (2 ^ rs.length) = L at *
    go_wp2_with (first | (go_at_call 12; refine (Calls.later m (specIsGraph_any _ _ _ _ _ (hr.later m) hrl)).mono ?_; rintro e w' ⟨rfl, m, rfl⟩) | (go_at_call 92; refine (Calls.later m (hL _)).mono ?_; rintro e w' ⟨rfl, m, rfl⟩) | (go_at_call 34; refine (Calls.later m (specCount_any _ (by omega) _)).mono ?_; rintro e w' ⟨rfl, m, rfl⟩))
    go_ret
    exact ⟨retI (by rw [HE.out]), below_later HhB.out m⟩

set_option maxRecDepth 100000 in
set_option maxHeartbeats 1000000 in
theorem implClqN_any (n : Int) (rs : List Int) (ro : Option Addr) (rc : Nat) (w : World) (hr : IntsAt w ro rs) (hrl : rs.length ≤ 1048576) :
    Calls Tryz.prog 85 #[.agg #[.int .i64 n, .slice ro rs.length rc]] w fun e w' => e = .returned (.int .i64 (clqN n rs)) ∧ Below w.heap.size w w' := by
  go_enter Tryz.func85, Tryz.ntmps85
  go_wp2_with fail
  generalize hW : w.alloc _ = W1
  obtain ⟨hB, -, k0⟩ := alloc1 hW
  replace hr := hr.below hB
  have hb0 := k0.lt
  have hc0 := k0.cell 0
  have hc1 := k0.cell 1
  simp at hc0 hc1
  clear hW k0
  have HhB := Lib.hid hB
  clear hB
  obtain ⟨m, hm0⟩ : ∃ m : Later W1, m.w = W1 := ⟨Later.refl _, rfl⟩
  refine (fun h => hm0 ▸ h) ?_
  clear hm0
  have hL := fun m : Later W1 => implLargestClique_any n rs ro rc m.w (hr.later m) hrl
  cases hv : isGraphB n rs
  · have HE := Lib.hid (clqN_no hv)
    go_wp2_with (first | (go_at_call 45; refine (Calls.later m (implIsGraph_any _ _ _ _ _ (hr.later m) hrl)).mono ?_; rintro e w' ⟨rfl, m, rfl⟩))
    go_ret
    exact ⟨retI (by rw [HE.out]), below_later HhB.out m⟩
  · have HE := Lib.hid (clqN_of hv)
    obtain ⟨rfl, g⟩ := VG.of hv
    obtain ⟨hp1, hp2⟩ := g.pow
    have hlt := largestTo_lt (fun S => cliqueB rs.length rs S) (2 ^ rs.length) (by omega)
    have hV : largestV rs.length rs (fun S => cliqueB rs.length rs S) = (largestTo (fun S => cliqueB rs.length rs S) (2 ^ rs.length) : Int) := by unfold largestV; rw [if_pos hv]
    rw [hV] at hL
    clear hV
    generalize largestTo (fun S : Nat => cliqueB rs.length rs S) (2 ^ rs.length) = L at *
    go_wp2_with (first | (go_at_call 45; refine (Calls.later m (implIsGraph_any _ _ _ _ _ (hr.later m) hrl)).mono ?_; rintro e w' ⟨rfl, m, rfl⟩) | (go_at_call 128; refine (Calls.later m (hL _)).mono ?_; rintro e w' ⟨rfl, m, rfl⟩) | (go_at_call 81; refine (Calls.later m (implCount_any _ (by omega) _)).mono ?_; rintro e w' ⟨rfl, m, rfl⟩))
    go_ret
    exact ⟨retI (by rw [HE.out]), below_later HhB.out m⟩

end Go.Proofs.YtjikmjhpmkakoaaGreatDoor

namespace Go.Proofs.YtjikmjhpmkakoaaGreatDoor

def clq (rs : List Int) (T : Nat) : Prop := ∀ a b, T.testBit a = true → T.testBit b = true → a ≠ b → ad rs a b = true
/-- The largest clique within S has k vertices. -/
structure IsW (rs : List Int) (S k : Nat) : Prop where
  ex : ∃ T, subN T S ∧ clq rs T ∧ cnt T = k
  le : ∀ T, subN T S → clq rs T → cnt T ≤ k
theorem cnt_dis_fin : ∀ a b : Fin 128, a.val &&& b.val = 0 → cnt (a.val ||| b.val) = cnt a.val + cnt b.val := by decide +kernel
theorem cnt_dis {A B : Nat} (hA : A < 128) (hB : B < 128) (h : ∀ v, A.testBit v = true → B.testBit v = false) : cnt (A ||| B) = cnt A + cnt B := by
  refine cnt_dis_fin ⟨A, hA⟩ ⟨B, hB⟩ (Nat.eq_of_testBit_eq fun v => ?_)
  rw [Nat.testBit_and, Nat.zero_testBit]
  cases q : A.testBit v
  · rfl
  · rw [h v q]; rfl
theorem IsW.zero (rs : List Int) : IsW rs 0 0 := ⟨⟨0, subN.refl _, fun a _ h => by simp at h, by decide⟩, fun T h _ => by
  have : T = 0 := Nat.eq_zero_of_le_zero h.le
  subst this; decide⟩
theorem IsW.single (rs : List Int) {S : Nat} (h7 : S < 128) (h : cnt S = 1) : IsW rs S 1 :=
  ⟨⟨S, subN.refl _, fun a b ha hb hne => absurd (cnt1_of h7 h ha hb) hne, h⟩, fun T hT _ => by rw [← h]; exact cnt_mono h7 hT⟩
theorem or_lt7 {A B : Nat} (hA : A < 128) (hB : B < 128) : A ||| B < 128 := Nat.or_lt_two_pow (n := 7) hA hB
theorem orb {a b i : Nat} : (a ||| b).testBit i = true ↔ a.testBit i = true ∨ b.testBit i = true := by rw [Nat.testBit_or, Bool.or_eq_true]
theorem IsW.max {rs : List Int} {U P x y : Nat} (hU : U < 128) (hP : P < 128) (hs : ∀ a b, U.testBit a = true → P.testBit b = true → a ≠ b ∧ ad rs a b = false) (h1 : IsW rs U x) (h2 : IsW rs P y) : IsW rs (U ||| P) (max x y) := by
  constructor
  · rcases Nat.le_total x y with h | h
    · obtain ⟨T, t1, t2, t3⟩ := h2.ex
      exact ⟨T, fun v hv => orb.2 (.inr (t1 v hv)), t2, by rw [t3, Nat.max_eq_right h]⟩
    · obtain ⟨T, t1, t2, t3⟩ := h1.ex
      exact ⟨T, fun v hv => orb.2 (.inl (t1 v hv)), t2, by rw [t3, Nat.max_eq_left h]⟩
  · intro T hT hc
    by_cases hq : ∃ b, T.testBit b = true ∧ P.testBit b = true
    · obtain ⟨b, hb, hbP⟩ := hq
      have : subN T P := fun a ha => by
        rcases orb.1 (hT a ha) with h | h
        · obtain ⟨n1, n2⟩ := hs a b h hbP
          rw [hc a b ha hb n1] at n2; cases n2
        · exact h
      exact Nat.le_trans (h2.le T this hc) (Nat.le_max_right _ _)
    · have : subN T U := fun a ha => by
        rcases orb.1 (hT a ha) with h | h
        · exact h
        · exact absurd ⟨a, ha, h⟩ hq
      exact Nat.le_trans (h1.le T this hc) (Nat.le_max_left _ _)
theorem IsW.sum {rs : List Int} (g : VG rs) {U P x y : Nat} (hU : U < 128) (hP : P < 128) (hs : ∀ a b, U.testBit a = true → P.testBit b = true → a ≠ b ∧ ad rs a b = true) (h1 : IsW rs U x) (h2 : IsW rs P y) : IsW rs (U ||| P) (x + y) := by
  have hdis : ∀ v, U.testBit v = true → P.testBit v = false := fun v hv => bfalse fun h => (hs v v hv h).1 rfl
  constructor
  · obtain ⟨A, a1, a2, a3⟩ := h1.ex
    obtain ⟨B, b1, b2, b3⟩ := h2.ex
    refine ⟨A ||| B, fun v hv => ?_, fun u v hu hv hne => ?_, ?_⟩
    · rcases orb.1 hv with h | h
      · exact orb.2 (.inl (a1 v h))
      · exact orb.2 (.inr (b1 v h))
    · rcases orb.1 hu with h | h <;> rcases orb.1 hv with k | k
      · exact a2 u v h k hne
      · exact (hs u v (a1 u h) (b1 v k)).2
      · rw [ad_symm g]; exact (hs v u (a1 v k) (b1 u h)).2
      · exact b2 u v h k hne
    · have hd : ∀ v, A.testBit v = true → B.testBit v = false := fun v hv => bfalse fun h => by
        have := hdis v (a1 v hv)
        rw [b1 v h] at this; cases this
      rw [cnt_dis (a1.lt hU) (b1.lt hP) hd, a3, b3]
  · intro T hT hc
    have e : T = (T &&& U) ||| (T &&& P) := Nat.eq_of_testBit_eq fun v => by
      rw [Nat.testBit_or, Nat.testBit_and, Nat.testBit_and]
      cases q : T.testBit v
      · rfl
      · rcases orb.1 (hT v q) with h | h <;> rw [h] <;> simp
    have sU : subN (T &&& U) U := fun v hv => (and_bit.1 hv).2
    have sP : subN (T &&& P) P := fun v hv => (and_bit.1 hv).2
    have k1 := h1.le (T &&& U) sU fun a b ha hb => hc a b (and_bit.1 ha).1 (and_bit.1 hb).1
    have k2 := h2.le (T &&& P) sP fun a b ha hb => hc a b (and_bit.1 ha).1 (and_bit.1 hb).1
    have hd : ∀ v, (T &&& U).testBit v = true → (T &&& P).testBit v = false := fun v hv => bfalse fun h => by
      have := hdis v (sU v hv)
      rw [sP v h] at this; cases this
    rw [e, cnt_dis (sU.lt hU) (sP.lt hP) hd]
    omega
/-! ### The parts one after the other -/
def orLs (l : List Nat) : Nat := l.foldl (fun a b => a ||| b) 0
theorem orLs_snoc (l : List Nat) (p : Nat) : orLs (l ++ [p]) = orLs l ||| p := by unfold orLs; rw [List.foldl_append]; rfl
theorem orLs_bit (l : List Nat) (v : Nat) : (orLs l).testBit v = true ↔ ∃ Q ∈ l, Q.testBit v = true := by
  have key : ∀ (l : List Nat) (a : Nat), (l.foldl (fun a b => a ||| b) a).testBit v = true ↔ a.testBit v = true ∨ ∃ Q ∈ l, Q.testBit v = true := fun l => by
    induction l with
    | nil => intro a; simp
    | cons p l ih =>
      intro a
      rw [List.foldl_cons, ih, orb]
      simp only [List.mem_cons, exists_eq_or_imp]
      exact or_assoc
  unfold orLs
  rw [key]
  simp
theorem orLs_take {ps : List Nat} {i : Nat} (hi : i < ps.length) : orLs (ps.take (i + 1)) = orLs (ps.take i) ||| eln ps i := by rw [take_eln hi, orLs_snoc]
theorem Pts.at {rs : List Int} {S : Nat} {ps : List Nat} (h : Pts rs S ps) {i : Nat} (hi : i < ps.length) : subN (eln ps i) S ∧ eln ps i ≠ 0 := h.each _ (eln_mem hi)
theorem Pts.pre {rs : List Int} {S : Nat} {ps : List Nat} (h : Pts rs S ps) {i : Nat} (hi : i < ps.length) : ∀ a b, (orLs (ps.take i)).testBit a = true → (eln ps i).testBit b = true → a ≠ b ∧ ad rs a b = false := fun a b ha hb => by
  obtain ⟨Q, hQ, hq⟩ := (orLs_bit _ _).1 ha
  obtain ⟨j, hj, rfl⟩ := List.mem_iff_getElem.1 hQ
  rw [List.length_take] at hj
  have hp := List.pairwise_iff_getElem.1 h.sep j i (by omega) hi (by omega)
  rw [List.getElem_take] at hq
  exact hp a b hq (by rw [eln_get hi] at hb; exact hb)
theorem Pts.sub {rs : List Int} {S : Nat} {ps : List Nat} (h : Pts rs S ps) (i : Nat) : subN (orLs (ps.take i)) S := fun v hv => by
  obtain ⟨Q, hQ, hq⟩ := (orLs_bit _ _).1 hv
  exact (h.each Q (List.mem_of_mem_take hQ)).1 v hq
theorem Pts.whole {rs : List Int} {S : Nat} {ps : List Nat} (h : Pts rs S ps) : orLs ps = S := by
  refine subN.antisymm (fun v hv => ?_) fun v hv => ?_
  · obtain ⟨Q, hQ, hq⟩ := (orLs_bit _ _).1 hv
    exact (h.each Q hQ).1 v hq
  · exact (orLs_bit _ _).2 (h.all v hv)

/-! ### Of all vertices -/
theorem isW_clq {rs : List Int} (hv : isGraphB rs.length rs = true) {k : Nat} (h : IsW rs (2 ^ rs.length - 1) k) : clqN rs.length rs = k := by
  have g := (VG.of hv).2
  have hp := g.pow
  have hB : ∀ S : Nat, S < 2 ^ rs.length → (cliqueB rs.length rs S = true ↔ clq rs S) := fun S hS => by
    have e : cliqueB rs.length rs S = cliqueN rs S := by unfold cliqueB; rw [isSetB_mk hv hS, Bool.true_and, Int.toNat_natCast]
    rw [e, clique_iff g hS]; rfl
  rw [clqN_of hv]
  have key : ∀ {p : Nat → Bool} (_ : p 0 = true) (k : Nat), p (largestTo p k) = true ∧ ∀ S, S < k → p S = true → cnt S ≤ cnt (largestTo p k) := by
    intro p h0 k
    induction k with
    | zero => exact ⟨h0, fun S h => by omega⟩
    | succ k ih =>
      obtain ⟨h1, h2⟩ := ih
      have e : largestTo p (k + 1) = if cnt (largestTo p k) < cnt k ∧ p k = true then k else largestTo p k := rfl
      by_cases hc : cnt (largestTo p k) < cnt k ∧ p k = true
      · rw [e, if_pos hc]
        refine ⟨hc.2, fun S hS hp => ?_⟩
        rcases Nat.lt_succ_iff_lt_or_eq.1 hS with h | rfl
        · have := h2 S h hp; omega
        · exact Nat.le_refl _
      · rw [e, if_neg hc]
        refine ⟨h1, fun S hS hp => ?_⟩
        rcases Nat.lt_succ_iff_lt_or_eq.1 hS with h | rfl
        · exact h2 S h hp
        · by_cases h : cnt (largestTo p S) < cnt S
          · exact absurd ⟨h, hp⟩ hc
          · omega
  have h0 : (fun S : Nat => cliqueB rs.length rs S) 0 = true := (hB 0 (by omega)).2 fun a _ h => by simp at h
  obtain ⟨k1, k2⟩ := key (p := fun S : Nat => cliqueB rs.length rs S) h0 (2 ^ rs.length)
  have hlt : largestTo (fun S : Nat => cliqueB rs.length rs S) (2 ^ rs.length) < 2 ^ rs.length := largestTo_lt _ _ (by omega)
  generalize largestTo (fun S : Nat => cliqueB rs.length rs S) (2 ^ rs.length) = M at *
  obtain ⟨T, t1, t2, t3⟩ := h.ex
  have a1 := k2 T (t1.lt (all_lt _)) ((hB T (t1.lt (all_lt _))).2 t2)
  have a2 := h.le M (sub_all hlt) ((hB M hlt).1 k1)
  omega
theorem indep_ad {rs : List Int} (g : VG rs) {S : Nat} (hS : S < 2 ^ rs.length) : indepN rs S = true ↔ ∀ a b, S.testBit a = true → S.testBit b = true → ad rs a b = false := by
  have h128 := g.pow.1
  unfold indepN
  rw [decide_eq_true_eq]
  constructor
  · intro h a b ha hb
    refine bfalse fun e => ?_
    have h1 : (nbrs rs S &&& S).testBit b = true := and_bit.2 ⟨(nbrs_bit (by omega)).2 ⟨a, ha, e⟩, hb⟩
    rw [h] at h1; simp at h1
  · intro h
    refine Nat.eq_of_testBit_eq fun i => ?_
    rw [Nat.zero_testBit]
    refine bfalse fun e => ?_
    obtain ⟨h1, h2⟩ := and_bit.1 e
    obtain ⟨a, ha, e2⟩ := (nbrs_bit (by omega)).1 h1
    have := h a i ha h2
    unfold ad at this
    rw [e2] at this; cases this
theorem isW_indep {f h : List Int} (c : Co f h) (hv : isGraphB f.length f = true) {k : Nat} (hw : IsW h (2 ^ f.length - 1) k) : ∃ I : Nat, I < 128 ∧ largestV f.length f (fun S => indepB f.length f S) = (I : Int) ∧ cnt I = k := by
  have g := c.gf
  have hp := g.pow
  have hB : ∀ S : Nat, S < 2 ^ f.length → (indepB f.length f S = true ↔ clq h S) := fun S hS => by
    rw [indepB_nat (isSetB_mk hv hS), indep_ad g hS]
    constructor
    · intro k1 a b ha hb hne
      rw [c.opp a b (testBit_lt hS ha) (testBit_lt hS hb) hne, k1 a b ha hb]; rfl
    · intro k1 a b ha hb
      by_cases e : a = b
      · subst e; exact ad_irr g a
      · have := k1 a b ha hb e
        rw [c.opp a b (testBit_lt hS ha) (testBit_lt hS hb) e] at this
        simpa using this
  have key : ∀ {p : Nat → Bool} (_ : p 0 = true) (k : Nat), p (largestTo p k) = true ∧ ∀ S, S < k → p S = true → cnt S ≤ cnt (largestTo p k) := by
    intro p h0 k
    induction k with
    | zero => exact ⟨h0, fun S h => by omega⟩
    | succ k ih =>
      obtain ⟨h1, h2⟩ := ih
      have e : largestTo p (k + 1) = if cnt (largestTo p k) < cnt k ∧ p k = true then k else largestTo p k := rfl
      by_cases hc : cnt (largestTo p k) < cnt k ∧ p k = true
      · rw [e, if_pos hc]
        refine ⟨hc.2, fun S hS hp => ?_⟩
        rcases Nat.lt_succ_iff_lt_or_eq.1 hS with h | rfl
        · have := h2 S h hp; omega
        · exact Nat.le_refl _
      · rw [e, if_neg hc]
        refine ⟨h1, fun S hS hp => ?_⟩
        rcases Nat.lt_succ_iff_lt_or_eq.1 hS with h | rfl
        · exact h2 S h hp
        · by_cases h : cnt (largestTo p S) < cnt S
          · exact absurd ⟨h, hp⟩ hc
          · omega
  have h0 : (fun S : Nat => indepB f.length f S) 0 = true := (hB 0 (by omega)).2 fun a _ h => by simp at h
  obtain ⟨k1, k2⟩ := key (p := fun S : Nat => indepB f.length f S) h0 (2 ^ f.length)
  have hlt : largestTo (fun S : Nat => indepB f.length f S) (2 ^ f.length) < 2 ^ f.length := largestTo_lt _ _ (by omega)
  have e : largestV f.length f (fun S => indepB f.length f S) = (largestTo (fun S : Nat => indepB f.length f S) (2 ^ f.length) : Int) := by unfold largestV; rw [if_pos hv]
  rw [e]
  generalize largestTo (fun S : Nat => indepB f.length f S) (2 ^ f.length) = M at *
  obtain ⟨T, t1, t2, t3⟩ := hw.ex
  have a1 := k2 T (t1.lt (all_lt _)) ((hB T (t1.lt (all_lt _))).2 t2)
  have a2 := hw.le M (sub_all hlt) ((hB M hlt).1 k1)
  exact ⟨M, by omega, rfl, by omega⟩

end Go.Proofs.YtjikmjhpmkakoaaGreatDoor

namespace Go.Proofs.YtjikmjhpmkakoaaGreatDoor
open Go.RowKit

def digB (k : Nat) : UInt8 := UInt8.ofNat (48 + k)
/-- A number below 100 as text. -/
def numS (k : Nat) : ByteArray := if k < 10 then ⟨#[digB k]⟩ else ⟨#[digB (k / 10), digB (k % 10)]⟩

def digitsS : ByteArray := ⟨#[48, 49, 50, 51, 52, 53, 54, 55, 56, 57, 97, 98, 99, 100, 101, 102, 103, 104, 105, 106, 107, 108, 109, 110, 111, 112, 113, 114, 115, 116, 117, 118, 119, 120, 121, 122]⟩
def pairsS : ByteArray := ⟨#[48, 48, 48, 49, 48, 50, 48, 51, 48, 52, 48, 53, 48, 54, 48, 55, 48, 56, 48, 57, 49, 48, 49, 49, 49, 50, 49, 51, 49, 52, 49, 53, 49, 54, 49, 55, 49, 56, 49, 57, 50, 48, 50, 49, 50, 50, 50, 51, 50, 52, 50, 53, 50, 54, 50, 55, 50, 56, 50, 57, 51, 48, 51, 49, 51, 50, 51, 51, 51, 52, 51, 53, 51, 54, 51, 55, 51, 56, 51, 57, 52, 48, 52, 49, 52, 50, 52, 51, 52, 52, 52, 53, 52, 54, 52, 55, 52, 56, 52, 57, 53, 48, 53, 49, 53, 50, 53, 51, 53, 52, 53, 53, 53, 54, 53, 55, 53, 56, 53, 57, 54, 48, 54, 49, 54, 50, 54, 51, 54, 52, 54, 53, 54, 54, 54, 55, 54, 56, 54, 57, 55, 48, 55, 49, 55, 50, 55, 51, 55, 52, 55, 53, 55, 54, 55, 55, 55, 56, 55, 57, 56, 48, 56, 49, 56, 50, 56, 51, 56, 52, 56, 53, 56, 54, 56, 55, 56, 56, 56, 57, 57, 48, 57, 49, 57, 50, 57, 51, 57, 52, 57, 53, 57, 54, 57, 55, 57, 56, 57, 57]⟩
theorem pairs_fin : ∀ k : Fin 100, 10 ≤ k.val → pairsS.extract (k.val * 2) (k.val * 2 + 2) = numS k.val := by decide +kernel
theorem digits_fin : ∀ k : Fin 10, digitsS.extract k.val (k.val + 1) = numS k.val := by decide +kernel

set_option maxRecDepth 100000 in
set_option maxHeartbeats 1000000 in
theorem small_any (k : Nat) (hk : k < 100) (w : World) : Calls Tryz.prog 175 #[.int .i64 k] w fun e w' => e = .returned (.string (numS k)) ∧ w = w' := by
  by_cases h : k < 10
  · have hD := digits_fin ⟨k, h⟩
    have HhD := Lib.hid hD
    clear hD
    go_enter Tryz.func175, Tryz.ntmps175
    go_wp2_with fail
    go_ret
    exact ⟨congrArg (fun s => Ending.returned (.string s)) HhD.out, rfl⟩
  · have hD := pairs_fin ⟨k, hk⟩ (by show 10 ≤ k; omega)
    have HhD := Lib.hid hD
    clear hD
    go_enter Tryz.func175, Tryz.ntmps175
    go_wp2_with fail
    go_ret
    exact ⟨congrArg (fun s => Ending.returned (.string s)) HhD.out, rfl⟩

theorem itoa_any (k : Nat) (hk : k < 100) (w : World) : Calls Tryz.prog 72 #[.int .i64 k] w fun e w' => e = .returned (.string (numS k)) ∧ w = w' := by
  have hS := fun w => small_any k hk w
  have h1 : ∀ w, Calls Tryz.prog 161 #[.int .i64 k, .int .i64 10] w fun e w' => e = .returned (.string (numS k)) ∧ w = w' := fun w => by
    go_enter Tryz.func161, Tryz.ntmps161
    go_wp2_with (first | (go_at_call 175; refine (hS _).mono ?_; rintro e w' ⟨rfl, rfl⟩))
    go_ret
    exact ⟨rfl, rfl⟩
  have h2 : ∀ w, Calls Tryz.prog 145 #[.int .i64 k] w fun e w' => e = .returned (.string (numS k)) ∧ w = w' := fun w => by
    go_enter Tryz.func145, Tryz.ntmps145
    go_wp2_with (first | (go_at_call 161; refine (h1 _).mono ?_; rintro e w' ⟨rfl, rfl⟩))
    go_ret
    exact ⟨rfl, rfl⟩
  have h3 : ∀ w, Calls Tryz.prog 118 #[.int .i64 k] w fun e w' => e = .returned (.string (numS k)) ∧ w = w' := fun w => by
    go_enter Tryz.func118, Tryz.ntmps118
    go_wp2_with (first | (go_at_call 145; refine (h2 _).mono ?_; rintro e w' ⟨rfl, rfl⟩))
    go_ret
    exact ⟨rfl, rfl⟩
  clear h1 h2 hS
  go_enter Tryz.func72, Tryz.ntmps72
  go_wp2_with (first | (go_at_call 118; refine (h3 _).mono ?_; rintro e w' ⟨rfl, rfl⟩))
  go_ret
  exact ⟨rfl, rfl⟩

theorem digB_fin : ∀ d : Fin 10, ((digB d.val).toNat : Int) = 48 + (d.val : Int) := by decide +kernel
/-- string([]byte{byte('0' + d)}). -/
theorem run_digit (d : Nat) (hd : d < 10) (x : Int) (hx : x = 48 + (d : Int)) (w : World) :
    Sem.run Tryz.prog (convert 22 9 (.slice (some ⟨w.heap.size, 0, none⟩) 1 1)) (w.alloc (.cells #[.int .u8 x] 5)) = .ok (.string ⟨#[digB d]⟩) (w.alloc (.cells #[.int .u8 x] 5)) := by
  have h := run_convert_bytes_back (P := Tryz.prog) (w.alloc (.cells #[.int .u8 x] 5)) 22 9 5 ⟨w.heap.size, 0, none⟩ 1 [digB d] Tryz.underlying22 Tryz.underlying5 Tryz.underlying9 (fun j hj => by
    obtain rfl : j = 0 := by simp at hj; exact hj
    have := digB_fin ⟨d, hd⟩
    dsimp only at this
    rw [List.getElem_cons_zero, this, ← hx]
    obtain ⟨-, -, h3, -⟩ := box_facts (w := w) (cs := #[.int .u8 x]) (T := 5) rfl
    simp [Addr.add, h3])
  exact h

theorem app_data (a b : Array UInt8) : (⟨a⟩ : ByteArray) ++ (⟨b⟩ : ByteArray) = ⟨a ++ b⟩ := ByteArray.ext (by simp [ByteArray.data_append])
/-- The digits that have been written, the rest n. -/
def FmtAt (k : Nat) (n : Int) (s : ByteArray) : Prop := (n = k ∧ s = ⟨#[]⟩) ∨ (10 ≤ k ∧ n = (k / 10 : Nat) ∧ s = ⟨#[digB (k % 10)]⟩) ∨ (n = 0 ∧ s = numS k)

set_option maxRecDepth 100000 in
set_option maxHeartbeats 1000000 in
theorem fmt_any (k : Nat) (hk : k < 100) (w : World) : Calls Tryz.prog 74 #[.int .i64 k] w fun e w' => e = .returned (.string (numS k)) ∧ Below w.heap.size w w' := by
  by_cases h0 : k = 0
  · subst h0
    go_enter Tryz.func74, Tryz.ntmps74
    go_wp2_with fail
    go_ret
    exact ⟨rfl, Below.refl _ _⟩
  · have hne : ((k : Int) == 0) = false := by simpa using h0
    have hne2 : ((k : Int) != 0) = true := by simpa using h0
    go_enter Tryz.func74, Tryz.ntmps74
    go_wp2_with fail
    go_loopw [0, 3] (fun n s wr => (∃ m : Later w, wr = m.w) ∧ ∃ (x : Int) (t : ByteArray), n = .int .i64 x ∧ s = .string t ∧ FmtAt k x t) (fun n _ _ => (intOf n).toNat)
    case atStart => exact ⟨⟨Later.refl _, rfl⟩, k, ⟨#[]⟩, rfl, rfl, .inl ⟨rfl, rfl⟩⟩
    case round =>
      obtain ⟨⟨m, rfl⟩, x, t, rfl, rfl, hF⟩ := hrel
      rcases hF with ⟨rfl, rfl⟩ | ⟨h10, rfl, rfl⟩ | ⟨rfl, rfl⟩
      · have hcv := fun w => run_digit (k % 10) (Nat.mod_lt _ (by omega)) (48 + (k : Int) % 10) (by omega) w
        go_wp2_with fail
        go_roundw
        case rel =>
          refine ⟨⟨m.on ((Below.refl _ _).alloc (Nat.le_refl _) _), rfl⟩, _, _, rfl, rfl, ?_⟩
          rw [app_data]
          by_cases h : k < 10
          · refine .inr (.inr ⟨by omega, ?_⟩)
            unfold numS
            rw [if_pos h, Nat.mod_eq_of_lt h]; rfl
          · exact .inr (.inl ⟨by omega, by omega, rfl⟩)
        case measure => simp [intOf]; omega
      · have hcv := fun w => run_digit (k / 10) (by omega) (48 + ((k / 10 : Nat) : Int)) rfl w
        have hmod : (((k / 10 : Nat) : Int)) % 10 = ((k / 10 : Nat) : Int) := by omega
        have hq : ((k / 10 : Nat) : Int) / 10 = 0 := by omega
        have hp : 0 < ((k / 10 : Nat) : Int) := by omega
        obtain ⟨d, hd⟩ : ∃ d, d = k / 10 := ⟨_, rfl⟩
        rw [← hd] at hcv hmod hq hp ⊢
        have hd1 : d < 10 := by omega
        have Hhd := Lib.hid hd
        clear hd
        have hpne : ((d : Int) != 0) = true := by rw [bne_iff_ne]; omega
        go_wp2_with fail
        go_roundw
        case rel =>
          refine ⟨⟨m.on ((Below.refl _ _).alloc (Nat.le_refl _) _), rfl⟩, _, _, rfl, rfl, .inr (.inr ⟨by omega, ?_⟩)⟩
          rw [app_data]
          unfold numS
          rw [if_neg (by omega), ← Hhd.out]; rfl
        case measure => simp [intOf]; omega
      · go_wp2_with fail
        go_ret
        exact ⟨rfl, m.below⟩

end Go.Proofs.YtjikmjhpmkakoaaGreatDoor

namespace Go.Proofs.YtjikmjhpmkakoaaGreatDoor

def bs (l : List UInt8) : ByteArray := ⟨l.toArray⟩
theorem bs_app (a b : List UInt8) : bs a ++ bs b = bs (a ++ b) := by unfold bs; rw [app_data]; simp
theorem bs_inj {a b : List UInt8} (h : bs a = bs b) : a = b := by
  unfold bs at h
  have h2 : a.toArray = b.toArray := congrArg ByteArray.data h
  simpa using h2
theorem bs_size (l : List UInt8) : (bs l).size = l.length := by show l.toArray.size = _; simp
/-- The parts' texts, each behind a blank. -/
def bodyT (t : Nat → List UInt8) (ps : List Nat) : List UInt8 := ps.flatMap fun P => 32 :: t P
theorem bodyT_snoc (t : Nat → List UInt8) (ps : List Nat) (P : Nat) : bodyT t (ps ++ [P]) = bodyT t ps ++ (32 :: t P) := by unfold bodyT; rw [List.flatMap_append]; simp
theorem bodyT_take {t : Nat → List UInt8} {ps : List Nat} {i : Nat} (hi : i < ps.length) : bodyT t (ps.take (i + 1)) = bodyT t (ps.take i) ++ (32 :: t (eln ps i)) := by rw [take_eln hi, bodyT_snoc]
def txtF (f h : List Int) : Nat → Nat → List UInt8
  | 0, _ => []
  | k + 1, S => if cnt S = 1 then [digB (low S)] else if (partsOf f S).length = 1 then [40, 42] ++ bodyT (txtF f h k) (partsOf h S) ++ [41] else [40, 43] ++ bodyT (txtF f h k) (partsOf f S) ++ [41]
theorem txtF_one {f h : List Int} {k S : Nat} (h1 : cnt S = 1) : txtF f h (k + 1) S = [digB (low S)] := by show (if _ then _ else _) = _; rw [if_pos h1]
theorem txtF_ser {f h : List Int} {k S : Nat} (h1 : ¬cnt S = 1) (h2 : (partsOf f S).length = 1) : txtF f h (k + 1) S = [40, 42] ++ bodyT (txtF f h k) (partsOf h S) ++ [41] := by show (if _ then _ else _) = _; rw [if_neg h1, if_pos h2]
theorem txtF_par {f h : List Int} {k S : Nat} (h1 : ¬cnt S = 1) (h2 : ¬(partsOf f S).length = 1) : txtF f h (k + 1) S = [40, 43] ++ bodyT (txtF f h k) (partsOf f S) ++ [41] := by show (if _ then _ else _) = _; rw [if_neg h1, if_neg h2]
theorem Pts.two {rs : List Int} {S : Nat} {ps : List Nat} (h : Pts rs S ps) (h7 : S < 128) (h1 : ps.length ≠ 1) (h2 : 1 ≤ cnt S) : 2 ≤ ps.length := by
  match ps, h, h1 with
  | [], h, _ =>
    have : S = 0 := by rw [← h.whole]; rfl
    subst this
    have : cnt 0 = 0 := by decide
    omega
  | [A], _, h1 => exact absurd rfl h1
  | A :: B :: l, _, _ => simp
/-- The body of a set that falls apart. -/
theorem body_len {rs : List Int} {t : Nat → List UInt8} {S : Nat} {ps : List Nat} (hP : Pts rs S ps) (h7 : S < 128) (ht : ∀ P ∈ ps, (t P).length + 5 ≤ 6 * cnt P) : ∀ i, i ≤ ps.length → (bodyT t (ps.take i)).length + 4 * i ≤ 6 * cnt (orLs (ps.take i))
  | 0, _ => by simp [bodyT]
  | i + 1, hi => by
    have ih := body_len hP h7 ht i (by omega)
    have h1 : i < ps.length := by omega
    have h2 := ht _ (eln_mem h1)
    have hsub := hP.sub i
    rw [bodyT_take h1, orLs_take h1, cnt_dis (hsub.lt h7) ((hP.at h1).1.lt h7) fun v hv => bfalse fun e => (hP.pre h1 v v hv e).1 rfl, List.length_append, List.length_cons]
    omega
theorem txt_len {f h : List Int} (c : Co f h) (hp : noP4 f) : ∀ k S, S < 2 ^ f.length → 1 ≤ cnt S → cnt S ≤ k → (txtF f h k S).length + 5 ≤ 6 * cnt S
  | 0, _, _, _, _ => by omega
  | k + 1, S, hS, h0, hk => by
    have h7 : S < 128 := by have := c.gf.pow.1; omega
    by_cases h1 : cnt S = 1
    · rw [txtF_one h1, h1]; simp
    · have key : ∀ {rs ps}, Pts rs S ps → ps.length ≠ 1 → (bodyT (txtF f h k) ps).length + 8 ≤ 6 * cnt S := fun {rs ps} hP hn => by
        have h2 := hP.two h7 hn h0
        have := body_len (t := txtF f h k) hP h7 (fun P hP' => by
          obtain ⟨l1, l2⟩ := hP.less h7 hn hP'
          exact txt_len c hp k P ((hP.each P hP').1.lt hS) (by omega) (by omega)) ps.length (Nat.le_refl _)
        rw [List.take_length, hP.whole] at this
        omega
      by_cases h2 : (partsOf f S).length = 1
      · have h3 := (cog_parts c hp hS (by omega)).resolve_left fun h => h h2
        have := key (parts_pts c.gh (by rw [← c.len]; exact hS)) h3
        rw [txtF_ser h1 h2]
        simp; omega
      · have := key (parts_pts c.gf hS) h2
        rw [txtF_par h1 h2]
        simp; omega
/-- What CotreeOf says. -/
def ctV (f : List Int) : List UInt8 := txtF f (compl f) 7 (2 ^ f.length - 1)
theorem ctV_len {f : List Int} (hv : isGraphB f.length f = true) (hp : noP4 f) : (ctV f).length ≤ 37 := by
  have g := (VG.of hv).2
  have h1 := txt_len (Co.compl g) hp 7 (2 ^ f.length - 1) (all_lt _) (by
    have h2 := cnt_zero (S := 2 ^ f.length - 1) (by have := g.pow; omega) (by have := g.pow; omega)
    omega) (cnt_le _)
  have h2 := cnt_le (2 ^ f.length - 1)
  unfold ctV
  omega

end Go.Proofs.YtjikmjhpmkakoaaGreatDoor

namespace Go.Proofs.YtjikmjhpmkakoaaGreatDoor
open Go.RowKit

/-- A vertex of a list of different vertices, as a natural number. -/
theorem vertex_at {n : Int} {rs l : List Int} (h : vertsB n rs l = true) {j : Nat} (hj : j < l.length) : ∃ v : Nat, gi l j = v ∧ v < rs.length := by
  obtain ⟨a, b⟩ := ((vertsB_true.1 h).2 j hj).1
  exact ⟨(gi l j).toNat, by omega, by omega⟩

def joinedAt (rs l : List Int) (pat : Nat → Nat → Bool) (i j : Nat) : Bool := (gn rs (gi l j).toNat).testBit (gi l i).toNat == pat j i
def joinB (n : Int) (rs l : List Int) (pat : Nat → Nat → Bool) : Bool := vertsB n rs l && decide (∀ i, i < l.length → ∀ j, j < i → joinedAt rs l pat i j = true)
theorem joinB_no {n : Int} {rs l : List Int} {pat : Nat → Nat → Bool} (h : vertsB n rs l = false) : joinB n rs l pat = false := by unfold joinB; rw [h]; rfl
theorem joinB_bad {n : Int} {rs l : List Int} {pat : Nat → Nat → Bool} {i j : Nat} (hi : i < l.length) (hj : j < i) (h : joinedAt rs l pat i j = false) : joinB n rs l pat = false := by
  unfold joinB; rw [decide_eq_false, Bool.and_false]; intro a; rw [a i hi j hj] at h; cases h
theorem joinB_ok {n : Int} {rs l : List Int} {pat : Nat → Nat → Bool} (hv : vertsB n rs l = true) (h : ∀ i, i < l.length → ∀ j, j < i → joinedAt rs l pat i j = true) : joinB n rs l pat = true := by
  unfold joinB; rw [hv, decide_eq_true h]; rfl
end Go.Proofs.YtjikmjhpmkakoaaGreatDoor
