/-
  The walks of IsDominating and IsPacking on both sides. For at most 2^20 rows.
  The walks of largest and fewest of the program, for whatever test; of LargestPacking and FewestDominating of the reference. For at most 2^20 rows.
  The walks of IsClique and IsCliqueCover on both sides. For at most 2^20 rows and sets.
-/
import Derived.Test.YtfkehmpckhmkbaaGreatPkLawPerfect03
import Derived.Test.YtfkehmpckhmkbaaGreatPkLawPerfect05
namespace Go.Proofs.YtfkehmpckhmkbaaGreat
open Go.RowKit

def domB (n : Int) (rs : List Int) (s : Int) : Bool := isSetB n rs s && decide (around rs s.toNat = 2 ^ rs.length - 1)
theorem domB_nat {rs : List Int} {S : Nat} (h : isSetB rs.length rs S = true) : domB rs.length rs S = (((around rs S : Nat) : Int) == ((2 ^ rs.length - 1 : Nat) : Int)) := by
  unfold domB; rw [h, Bool.true_and, Int.toNat_natCast, Bool.eq_iff_iff, decide_eq_true_eq, beq_iff_eq]; exact Int.ofNat_inj.symm
theorem domB_no {n : Int} {rs : List Int} {s : Int} (h : isSetB n rs s = false) : domB n rs s = false := by unfold domB; rw [h]; rfl



/-- Vertex v and its neighbours have at most one vertex in S. -/
def packAt (rs : List Int) (S v : Nat) : Nat := cnt ((gn rs v ||| 2 ^ v) &&& S)
def packB (n : Int) (rs : List Int) (s : Int) : Bool := isSetB n rs s && decide (∀ v, v < rs.length → packAt rs s.toNat v ≤ 1)
theorem packB_no {n : Int} {rs : List Int} {s : Int} (h : isSetB n rs s = false) : packB n rs s = false := by unfold packB; rw [h]; rfl
theorem packB_bad {n : Int} {rs : List Int} {S v : Nat} (hv : v < rs.length) (h : 1 < packAt rs S v) : packB n rs S = false := by
  unfold packB; rw [Int.toNat_natCast, decide_eq_false (fun a => by have := a v hv; omega), Bool.and_false]
theorem packB_ok {n : Int} {rs : List Int} {S : Nat} (h : isSetB n rs S = true) (ha : ∀ v, v < rs.length → packAt rs S v ≤ 1) : packB n rs S = true := by
  unfold packB; rw [h, Int.toNat_natCast, decide_eq_true ha]; rfl

/-- What the walks want of vertex k. -/
theorem pack_facts {rs : List Int} (g : VG rs) {S k : Nat} (hS : S < 2 ^ rs.length) (hk : k < rs.length) :
    pwN k = ((2 ^ k : Nat) : Int) ∧ bits .or .i64 (gn rs k : Int) ((2 ^ k : Nat) : Int) = ((gn rs k ||| 2 ^ k : Nat) : Int) ∧ bits .and .i64 ((gn rs k ||| 2 ^ k : Nat) : Int) (S : Int) = (((gn rs k ||| 2 ^ k) &&& S : Nat) : Int) ∧ (gn rs k ||| 2 ^ k) &&& S < 128 := by
  have h1 := g.lt k hk
  have h2 := g.pow.1
  have h3 : 2 ^ k < 2 ^ rs.length := Nat.pow_lt_pow_right (by decide) hk
  have h4 : gn rs k ||| 2 ^ k < 2 ^ rs.length := Nat.or_lt_two_pow h1 h3
  have h5 : (gn rs k ||| 2 ^ k) &&& S ≤ S := Nat.and_le_right
  have h6 := g.le
  exact ⟨pwN_small _ (by omega), bits_or_nat _ _ (by omega) (by omega), bits_and_nat _ _ (by omega) (by omega), by omega⟩



end Go.Proofs.YtfkehmpckhmkbaaGreat

namespace Go.Proofs.YtfkehmpckhmkbaaGreat
open Go.RowKit

/-- The least of the sets below k with most vertices for which something holds. -/
def largestTo (p : Nat → Bool) : Nat → Nat
  | 0 => 0
  | k + 1 => if cnt (largestTo p k) < cnt k ∧ p k = true then k else largestTo p k
theorem largestTo_le (p : Nat → Bool) (k : Nat) : largestTo p k ≤ k := by
  induction k with
  | zero => exact Nat.le_refl _
  | succ k ih => unfold largestTo; split <;> omega
theorem largestTo_one (p : Nat → Bool) : largestTo p 1 = 0 := by unfold largestTo largestTo; rw [if_neg (by omega)]
/-- The least of the sets below k with fewest vertices for which something holds; -1 if there is none. -/
def fewestTo (p : Nat → Bool) : Nat → Int
  | 0 => -1
  | k + 1 => if (fewestTo p k < 0 ∨ cnt k < cnt (fewestTo p k).toNat) ∧ p k = true then k else fewestTo p k
theorem fewestTo_le (p : Nat → Bool) (k : Nat) : -1 ≤ fewestTo p k ∧ fewestTo p k < k ∨ fewestTo p k = -1 := by
  induction k with
  | zero => exact .inr rfl
  | succ k ih => unfold fewestTo; split <;> omega

/-- What largest says of a graph and a test. -/
def largestV (n : Int) (rs : List Int) (p : Nat → Bool) : Int := if isGraphB n rs = true then largestTo p (2 ^ rs.length) else 0
def fewestV (n : Int) (rs : List Int) (p : Nat → Bool) : Int := if isGraphB n rs = true then fewestTo p (2 ^ rs.length) else -1

/-- A function that answers p of a graph and a set. -/
def TestOf (K : Nat) (rs : List Int) (ro : Option Addr) (rc : Nat) (p : Nat → Bool) : Prop :=
  ∀ (S : Nat) (w : World), IntsAt w ro rs → S < 2 ^ rs.length → Calls Tryz.prog K #[.agg #[.int .i64 rs.length, .slice ro rs.length rc], .int .i64 S] w fun e w' => e = .returned (.bool (p S)) ∧ Below w.heap.size w w'

set_option maxRecDepth 100000 in
set_option maxHeartbeats 1000000 in
theorem implLargest_any (n : Int) (rs : List Int) (ro : Option Addr) (rc K : Nat) (p : Nat → Bool) (w : World) (hr : IntsAt w ro rs) (hrl : rs.length ≤ 1048576) (hE : ∀ args w, Sem.run Tryz.prog (callFunc K args) w = .ok (.enter K args) w) (hK : isGraphB rs.length rs = true → TestOf K rs ro rc p) :
    Calls Tryz.prog 98 #[.agg #[.int .i64 n, .slice ro rs.length rc], .func (.func K) #[] #[]] w fun e w' => e = .returned (.int .i64 (largestV n rs p)) ∧ Below w.heap.size w w' := by
  go_enter Tryz.func98, Tryz.ntmps98
  go_wp2_with fail
  generalize hW : w.alloc _ = W1
  obtain ⟨hB, -, k0⟩ := alloc1 hW
  replace hr := hr.below hB
  have hb0 := k0.lt
  have hc0 := k0.cell 0
  have hc1 := k0.cell 1
  simp at hc0 hc1
  clear hW k0
  have HhB := Lib.hid hB
  clear hB
  obtain ⟨m, hm0⟩ : ∃ m : Later W1, m.w = W1 := ⟨Later.refl _, rfl⟩
  refine (fun h => hm0 ▸ h) ?_
  clear hm0
  cases hv : isGraphB n rs
  · have HE : Hid (largestV n rs p = 0) := by show largestV n rs p = 0; unfold largestV; rw [hv]; rfl
    go_wp2_with (first | (go_at_call 34; refine (Calls.later m (implIsGraph_any _ _ _ _ _ (hr.later m) hrl)).mono ?_; rintro e w' ⟨rfl, m, rfl⟩))
    go_ret
    exact ⟨retI (by rw [HE.out]), below_later HhB.out m⟩
  · obtain ⟨rfl, g⟩ := VG.of hv
    replace hK := Lib.hid (hK hv)
    have hg2 := g.le
    obtain ⟨hp1, hp2⟩ := g.pow
    have HE : Hid (largestV rs.length rs p = largestTo p (2 ^ rs.length)) := by show largestV rs.length rs p = _; unfold largestV; rw [if_pos hv]
    have HT : Hid (2 ^ rs.length = 2 ^ rs.length - 1 + 1) := by show _ = _; omega
    have HS : Hid (∀ S, S < 2 ^ rs.length - 1 + 1 → S < 2 ^ rs.length) := fun S h => by omega
    have hAll := fun m : Later W1 => implAll_any rs.length (.slice ro rs.length rc) hg2 m.w
    generalize hT : 2 ^ rs.length - 1 = T at *
    have hT1 : 1 ≤ T := by omega
    have hT2 : T ≤ 127 := by omega
    replace HE := Lib.hid (HE.out.trans (congrArg (fun x => (largestTo p x : Int)) HT.out))
    clear hT hp1 hp2
    go_wp2_with (first | (go_at_call 34; refine (Calls.later m (implIsGraph_any _ _ _ _ _ (hr.later m) hrl)).mono ?_; rintro e w' ⟨rfl, m, rfl⟩))
    go_loopw [5, 6] (fun b i wr => (∃ m : Later W1, wr = m.w) ∧ ∃ k : Nat, 1 ≤ k ∧ k ≤ T + 1 ∧ b = .int .i64 (largestTo p k) ∧ i = .int .i64 k) (fun _ i _ => T + 1 - (intOf i).toNat)
    case atStart => exact ⟨⟨m, rfl⟩, 1, by omega, by omega, by rw [largestTo_one]; rfl, rfl⟩
    case round =>
      obtain ⟨⟨m, rfl⟩, k, hk1, hk, rfl, rfl⟩ := hrel
      by_cases hlt : k ≤ T
      · have hl := largestTo_le p k
        have HN : Hid (largestTo p (k + 1) = if cnt (largestTo p k) < cnt k ∧ p k = true then k else largestTo p k) := rfl
        have hn1 := cnt_le k
        have hn2 := cnt_le (largestTo p k)
        generalize hN : largestTo p (k + 1) = L' at *
        have HhN := Lib.hid hN
        clear hN
        generalize largestTo p k = L at *
        by_cases hc : cnt L < cnt k
        · have hK' := fun m : Later W1 => hK.out k m.w (hr.later m) (HS.out k (by omega))
          cases hp : p k <;> simp only [hp] at hK'
          · go_wp2_with (first | (go_at_call 62; refine (Calls.later m (hAll m)).mono ?_; rintro e w' ⟨rfl, m, rfl⟩) | (go_at_call 66; refine (Calls.later m (implCount_any _ (by omega) _)).mono ?_; rintro e w' ⟨rfl, m, rfl⟩))
            refine (Calls.later m (hK' m)).mono ?_
            rintro e w' ⟨rfl, m, rfl⟩
            go_wp2_with fail
            go_roundw
            case rel => exact ⟨⟨m, rfl⟩, k + 1, by omega, by omega, by rw [HhN.out, HN.out, if_neg (fun h => by rw [hp] at h; exact absurd h.2 (by decide))], by go_num⟩
            case measure => simp [intOf]; omega
          · go_wp2_with (first | (go_at_call 62; refine (Calls.later m (hAll m)).mono ?_; rintro e w' ⟨rfl, m, rfl⟩) | (go_at_call 66; refine (Calls.later m (implCount_any _ (by omega) _)).mono ?_; rintro e w' ⟨rfl, m, rfl⟩))
            refine (Calls.later m (hK' m)).mono ?_
            rintro e w' ⟨rfl, m, rfl⟩
            go_wp2_with fail
            go_roundw
            case rel => exact ⟨⟨m, rfl⟩, k + 1, by omega, by omega, by rw [HhN.out, HN.out, if_pos ⟨hc, hp⟩], by go_num⟩
            case measure => simp [intOf]; omega
        · go_wp2_with (first | (go_at_call 62; refine (Calls.later m (hAll m)).mono ?_; rintro e w' ⟨rfl, m, rfl⟩) | (go_at_call 66; refine (Calls.later m (implCount_any _ (by omega) _)).mono ?_; rintro e w' ⟨rfl, m, rfl⟩))
          go_roundw
          case rel => exact ⟨⟨m, rfl⟩, k + 1, by omega, by omega, by rw [HhN.out, HN.out, if_neg (fun h => hc h.1)], by go_num⟩
          case measure => simp [intOf]; omega
      · go_wp2_with (first | (go_at_call 62; refine (Calls.later m (hAll m)).mono ?_; rintro e w' ⟨rfl, m, rfl⟩))
        go_ret
        obtain rfl : k = T + 1 := by omega
        exact ⟨retI (by rw [HE.out]), below_later HhB.out m⟩

theorem fewestTo_form (p : Nat → Bool) (k : Nat) : fewestTo p k = -1 ∨ ∃ L : Nat, L < k ∧ fewestTo p k = (L : Int) := by
  rcases fewestTo_le p k with h | h
  · by_cases h0 : fewestTo p k = -1
    · exact .inl h0
    · exact .inr ⟨(fewestTo p k).toNat, by omega, by omega⟩
  · exact .inl h
theorem fewestTo_succ (p : Nat → Bool) (k : Nat) : fewestTo p (k + 1) = if (fewestTo p k < 0 ∨ cnt k < cnt (fewestTo p k).toNat) ∧ p k = true then (k : Int) else fewestTo p k := rfl
theorem fewestTo_skip {p : Nat → Bool} {k : Nat} (h : p k = false) : fewestTo p (k + 1) = fewestTo p k := by rw [fewestTo_succ, if_neg (fun a => by rw [h] at a; exact absurd a.2 (by decide))]
theorem fewestTo_new {p : Nat → Bool} {k : Nat} (h : p k = true) (h0 : fewestTo p k < 0 ∨ cnt k < cnt (fewestTo p k).toNat) : fewestTo p (k + 1) = (k : Int) := by rw [fewestTo_succ, if_pos ⟨h0, h⟩]
theorem fewestTo_keep {p : Nat → Bool} {k L : Nat} (h : fewestTo p k = (L : Int)) (h0 : ¬cnt k < cnt L) : fewestTo p (k + 1) = fewestTo p k := by
  rw [fewestTo_succ, if_neg]
  rw [h, Int.toNat_natCast]; rintro ⟨a | a, _⟩ <;> omega






end Go.Proofs.YtfkehmpckhmkbaaGreat

namespace Go.Proofs.YtfkehmpckhmkbaaGreat
open Go.RowKit

/-- Vertex v of S lacks a neighbour in S. -/
def cliqueBad (rs : List Int) (S v : Nat) : Bool := S.testBit v && decide (¬ gn rs v &&& S = S - 2 ^ v)
def cliqueN (rs : List Int) (S : Nat) : Bool := decide (∀ v, v < rs.length → cliqueBad rs S v = false)
def cliqueB (n : Int) (rs : List Int) (s : Int) : Bool := isSetB n rs s && cliqueN rs s.toNat
theorem cliqueB_no {n : Int} {rs : List Int} {s : Int} (h : isSetB n rs s = false) : cliqueB n rs s = false := by unfold cliqueB; rw [h]; rfl
theorem cliqueN_bad {rs : List Int} {S v : Nat} (hv : v < rs.length) (h : cliqueBad rs S v = true) : cliqueN rs S = false := by
  unfold cliqueN; rw [decide_eq_false_iff_not]; intro a; rw [a v hv] at h; cases h
theorem cliqueN_ok {rs : List Int} {S : Nat} (h : ∀ v, v < rs.length → cliqueBad rs S v = false) : cliqueN rs S = true := by unfold cliqueN; rw [decide_eq_true_eq]; exact h
theorem cliqueB_nat {n : Int} {rs : List Int} {S : Nat} (h : isSetB n rs S = true) : cliqueB n rs S = cliqueN rs S := by unfold cliqueB; rw [h, Bool.true_and, Int.toNat_natCast]

set_option maxHeartbeats 1000000 in
theorem specIsClique_any (n : Int) (rs : List Int) (s : Int) (ro : Option Addr) (rc : Nat) (w : World) (hr : IntsAt w ro rs) (hrl : rs.length ≤ 1048576) :
    Calls Tryz.prog 74 #[.agg #[.int .i64 n, .slice ro rs.length rc], .int .i64 s] w fun e w' => e = .returned (.bool (cliqueB n rs s)) ∧ Below w.heap.size w w' := by
  go_enter Tryz.func74, Tryz.ntmps74
  go_wp2_with fail
  generalize hW : w.alloc _ = W1
  obtain ⟨hB, -, k0⟩ := alloc1 hW
  replace hr := hr.below hB
  have hb0 := k0.lt
  have hc0 := k0.cell 0
  have hc1 := k0.cell 1
  simp at hc0 hc1
  clear hW k0
  have HhB := Lib.hid hB
  clear hB
  obtain ⟨m, hm0⟩ : ∃ m : Later W1, m.w = W1 := ⟨Later.refl _, rfl⟩
  refine (fun h => hm0 ▸ h) ?_
  clear hm0
  cases hv : isSetB n rs s
  · have HE := Lib.hid (cliqueB_no hv)
    go_wp2_with (first | (go_at_call 68; refine (Calls.later m (specIsSet_any _ _ _ _ _ _ (hr.later m) hrl)).mono ?_; rintro e w' ⟨rfl, m, rfl⟩))
    go_ret
    exact ⟨retB (by rw [HE.out]), below_later HhB.out m⟩
  · obtain ⟨rfl, g, S, rfl, hS⟩ := isSetB_true hv
    have HE := Lib.hid (cliqueB_nat hv)
    have hg1 := g.pos
    have hg2 := g.le
    have hp := g.pow.1
    go_wp2_with (first | (go_at_call 68; refine (Calls.later m (specIsSet_any _ _ _ _ _ _ (hr.later m) hrl)).mono ?_; rintro e w' ⟨rfl, m, rfl⟩))
    go_loopw [5] (fun i wr => (∃ m : Later W1, wr = m.w) ∧ ∃ k : Nat, k ≤ rs.length ∧ i = .int .i64 k ∧ ∀ v, v < k → cliqueBad rs S v = false) (fun i _ => rs.length - (intOf i).toNat)
    case atStart => exact ⟨⟨m, rfl⟩, 0, by omega, rfl, fun v h => by omega⟩
    case round =>
      obtain ⟨⟨m, rfl⟩, k, hk, rfl, hP⟩ := hrel
      have HhP := Lib.hid hP
      clear hP
      by_cases hlt : k < rs.length
      · obtain ⟨rb, rofs, rfl, hrb, hrc⟩ := hr.graph g
        have hl := g.lt k hlt
        have q1 : pwN k = ((2 ^ k : Nat) : Int) := pwN_small _ (by omega)
        have q2 : bits .and .i64 (gn rs k : Int) (S : Int) = ((gn rs k &&& S : Nat) : Int) := bits_and_nat _ _ (by omega) (by omega)
        have q3 : 2 ^ k ≤ 2 ^ rs.length := Nat.pow_le_pow_right (by decide) (by omega)
        have q4 : gn rs k &&& S ≤ S := Nat.and_le_right
        go_wp2_with fail
        cases hb : S.testBit k
        · have hb' : hasN (S : Int) k = false := by rw [hasN_nat]; exact hb
          have HQ : Hid (cliqueBad rs S k = false) := by show cliqueBad rs S k = false; unfold cliqueBad; rw [hb]; rfl
          clear hb q1 q2 q4
          refine wp_region_later m rfl (by kernel_rfl) (by kernel_rfl) ?_
          repeat (go_big_quiet_step (fail))
          refine wpQuiet_nil ?_
          rintro _ ⟨m, rfl⟩
          go_wp2_with fail
          go_roundw
          case rel => exact ⟨⟨m, rfl⟩, k + 1, by omega, by go_num, all_succ HhP.out HQ.out⟩
          case measure => simp [intOf]; omega
        · have hb' : hasN (S : Int) k = true := by rw [hasN_nat]; exact hb
          have hle := pow_le_of_testBit hb
          have HQ : Hid (∀ b, (((gn rs k &&& S : Nat) : Int) != (S : Int) - ((2 ^ k : Nat) : Int)) = b → cliqueBad rs S k = b) := fun b h => by
            unfold cliqueBad; rw [hb, Bool.true_and, ← h, Bool.eq_iff_iff, decide_eq_true_eq, bne_iff_ne]
            constructor <;> intro h1 h2 <;> apply h1 <;> omega
          clear hb
          generalize gn rs k &&& S = A at *
          generalize 2 ^ k = C at *
          cases hc : ((A : Int) != (S : Int) - (C : Int))
          all_goals
            refine wp_region_later m rfl (by kernel_rfl) (by kernel_rfl) ?_
            repeat (go_big_quiet_step (fail))
            refine wpQuiet_nil ?_
            rintro _ ⟨m, rfl⟩
            go_wp2_with fail
          · go_roundw
            case rel => exact ⟨⟨m, rfl⟩, k + 1, by omega, by go_num, all_succ HhP.out (HQ.out _ hc)⟩
            case measure => simp [intOf]; omega
          · go_ret
            exact ⟨retB (by rw [HE.out, cliqueN_bad hlt (HQ.out _ hc)]), below_later HhB.out m⟩
      · go_wp2_with fail
        go_ret
        exact ⟨retB (by rw [HE.out, cliqueN_ok (fun v h => HhP.out v (by omega))]), below_later HhB.out m⟩

set_option maxHeartbeats 1000000 in
theorem implisClique_any (rs : List Int) (S : Nat) (ro : Option Addr) (rc : Nat) (w : World) (hr : IntsAt w ro rs) (g : VG rs) (hS : S < 2 ^ rs.length) :
    Calls Tryz.prog 110 #[.agg #[.int .i64 rs.length, .slice ro rs.length rc], .int .i64 S] w fun e w' => e = .returned (.bool (cliqueN rs S)) ∧ Below w.heap.size w w' := by
  have hg1 := g.pos
  have hg2 := g.le
  have hp := g.pow.1
  have hc7 := cnt_le S
  go_enter Tryz.func110, Tryz.ntmps110
  go_wp2_with fail
  generalize hW : w.alloc _ = W1
  obtain ⟨hB, -, k0⟩ := alloc1 hW
  replace hr := hr.below hB
  have hb0 := k0.lt
  have hc0 := k0.cell 0
  have hc1 := k0.cell 1
  simp at hc0 hc1
  clear hW k0
  have HhB := Lib.hid hB
  clear hB
  obtain ⟨m, hm0⟩ : ∃ m : Later W1, m.w = W1 := ⟨Later.refl _, rfl⟩
  refine (fun h => hm0 ▸ h) ?_
  clear hm0
  refine (implListN_any _ (by omega) _).mono ?_
  rintro e w2 ⟨lo, lc, rfl, hB2, hL⟩
  obtain ⟨m, rfl⟩ : ∃ m2 : Later W1, m2.w = w2 := ⟨m.on hB2, rfl⟩
  clear hB2 hc0
  replace hr := hr.later m
  replace hc1 : m.w.cell? _ = _ := (m.cell _ _ hb0).trans hc1
  replace hb0 := Nat.lt_of_lt_of_le hb0 m.size
  replace HhB := Lib.hid (below_later HhB.out m)
  generalize m.w = W2 at *
  clear m
  obtain ⟨m, hm0⟩ : ∃ m : Later W2, m.w = W2 := ⟨Later.refl _, rfl⟩
  refine (fun h => hm0 ▸ h) ?_
  clear hm0
  go_wp2_with fail
  go_loopw [10] (fun i wr => (∃ m : Later W2, wr = m.w) ∧ ∃ k : Nat, k ≤ cnt S ∧ i = .int .i64 k ∧ ∀ j, j < k → cliqueBad rs S (eln (els S) j) = false) (fun i _ => cnt S - (intOf i).toNat)
  case atStart => exact ⟨⟨m, rfl⟩, 0, by omega, rfl, fun j h => by omega⟩
  case round =>
    obtain ⟨⟨m, rfl⟩, k, hk, rfl, hP⟩ := hrel
    have HhP := Lib.hid hP
    clear hP
    by_cases hlt : k < cnt S
    · obtain ⟨rb, rofs, rfl, hrb, hrc⟩ := hr.graph g
      obtain ⟨lb, lofs, rfl, hlb, hlc⟩ := hL (by unfold cnt at hlt; omega)
      obtain ⟨q2, q3⟩ := els_at hS hg2 hlt
      have hv := hlc k hlt
      have hle := pow_le_of_testBit q3
      have hl := g.lt _ q2
      have HQ : Hid (∀ b, (((nDiff S (gn rs (eln (els S) k)) : Nat) : Int) != ((2 ^ eln (els S) k : Nat) : Int)) = b → cliqueBad rs S (eln (els S) k) = b) := fun b h => by
        have e := nDiff_add (a := S) (b := gn rs (eln (els S) k)) (by omega)
        unfold cliqueBad; rw [q3, Bool.true_and, ← h, Bool.eq_iff_iff, decide_eq_true_eq, bne_iff_ne]
        constructor <;> intro h1 h2 <;> apply h1 <;> omega
      generalize hev : eln (els S) k = v at *
      have Hhev := Lib.hid hev
      clear hev
      have p1 : pwN v = ((2 ^ v : Nat) : Int) := pwN_small _ (by omega)
      have p2 : bits .andNot .i64 (S : Int) (gn rs v : Int) = ((nDiff S (gn rs v) : Nat) : Int) := bits_andNot_nat _ _ (by omega)
      clear hlc q3
      generalize nDiff S (gn rs v) = A at *
      generalize 2 ^ v = C at *
      go_wp2_with fail
      cases hc : ((A : Int) != (C : Int))
      all_goals
        refine wp_region_later m rfl (by kernel_rfl) (by kernel_rfl) ?_
        repeat (go_big_quiet_step (fail))
        refine wpQuiet_nil ?_
        rintro _ ⟨m, rfl⟩
        go_wp2_with fail
      · go_roundw
        case rel => exact ⟨⟨m, rfl⟩, k + 1, by omega, by go_num, all_succ HhP.out (by rw [Hhev.out]; exact HQ.out _ hc)⟩
        case measure => simp [intOf]; omega
      · go_ret
        exact ⟨retB (by rw [cliqueN_bad q2 (HQ.out _ hc)]), below_later HhB.out m⟩
    · go_wp2_with fail
      go_ret
      refine ⟨retB ?_, below_later HhB.out m⟩
      rw [cliqueN_ok]
      intro v hv
      cases hb : S.testBit v with
      | false => unfold cliqueBad; rw [hb]; rfl
      | true =>
        obtain ⟨j, hj, he⟩ := List.mem_iff_getElem.1 ((mem_els hS hg2).2 hb)
        have := HhP.out j (by unfold cnt at hlt; omega)
        have e2 : eln (els S) j = v := by simp [eln, hj, he]
        rwa [e2] at this

set_option maxHeartbeats 1000000 in
theorem implIsClique_any (n : Int) (rs : List Int) (s : Int) (ro : Option Addr) (rc : Nat) (w : World) (hr : IntsAt w ro rs) (hrl : rs.length ≤ 1048576) :
    Calls Tryz.prog 99 #[.agg #[.int .i64 n, .slice ro rs.length rc], .int .i64 s] w fun e w' => e = .returned (.bool (cliqueB n rs s)) ∧ Below w.heap.size w w' := by
  go_enter Tryz.func99, Tryz.ntmps99
  go_wp2_with fail
  generalize hW : w.alloc _ = W1
  obtain ⟨hB, -, k0⟩ := alloc1 hW
  replace hr := hr.below hB
  have hb0 := k0.lt
  have hc0 := k0.cell 0
  have hc1 := k0.cell 1
  simp at hc0 hc1
  clear hW k0
  have HhB := Lib.hid hB
  clear hB
  obtain ⟨m, hm0⟩ : ∃ m : Later W1, m.w = W1 := ⟨Later.refl _, rfl⟩
  refine (fun h => hm0 ▸ h) ?_
  clear hm0
  cases hv : isSetB n rs s
  · have HE := Lib.hid (cliqueB_no hv)
    go_wp2_with (first | (go_at_call 63; refine (Calls.later m (implIsSet_any _ _ _ _ _ _ (hr.later m) hrl)).mono ?_; rintro e w' ⟨rfl, m, rfl⟩))
    go_ret
    exact ⟨retB (by rw [HE.out]), below_later HhB.out m⟩
  · obtain ⟨rfl, g, S, rfl, hS⟩ := isSetB_true hv
    have HE := Lib.hid (cliqueB_nat hv)
    go_wp2_with (first | (go_at_call 63; refine (Calls.later m (implIsSet_any _ _ _ _ _ _ (hr.later m) hrl)).mono ?_; rintro e w' ⟨rfl, m, rfl⟩) | (go_at_call 110; refine (Calls.later m (implisClique_any _ _ _ _ _ (hr.later m) g hS)).mono ?_; rintro e w' ⟨rfl, m, rfl⟩))
    go_ret
    exact ⟨retB (by rw [HE.out]), below_later HhB.out m⟩

/-! ### IsCliqueCover -/
/-- The first k sets together. -/
def accTo (l : List Int) : Nat → Nat
  | 0 => 0
  | k + 1 => accTo l k ||| (gi l k).toNat
def coverAt (n : Int) (rs l : List Int) (j : Nat) : Bool := cliqueB n rs (gi l j) && decide (accTo l j &&& (gi l j).toNat = 0)
def coverB (n : Int) (rs l : List Int) : Bool := isGraphB n rs && decide ((∀ j, j < l.length → coverAt n rs l j = true) ∧ accTo l l.length = 2 ^ rs.length - 1)
theorem coverB_no {n : Int} {rs l : List Int} (h : isGraphB n rs = false) : coverB n rs l = false := by unfold coverB; rw [h]; rfl
theorem coverB_bad {n : Int} {rs l : List Int} {j : Nat} (hj : j < l.length) (h : coverAt n rs l j = false) : coverB n rs l = false := by
  unfold coverB; rw [decide_eq_false, Bool.and_false]; rintro ⟨a, _⟩; rw [a j hj] at h; cases h
theorem coverB_end {n : Int} {rs l : List Int} (hg : isGraphB n rs = true) (h : ∀ j, j < l.length → coverAt n rs l j = true) : coverB n rs l = (((accTo l l.length : Nat) : Int) == ((2 ^ rs.length - 1 : Nat) : Int)) := by
  unfold coverB; rw [hg, Bool.true_and, Bool.eq_iff_iff, decide_eq_true_eq, beq_iff_eq]
  exact ⟨fun ⟨_, b⟩ => by rw [b], fun b => ⟨h, Int.ofNat_inj.1 b⟩⟩
theorem cliqueB_graph {n : Int} {rs : List Int} {s : Int} (h : cliqueB n rs s = true) : isSetB n rs s = true := by unfold cliqueB at h; simp only [Bool.and_eq_true] at h; exact h.1
theorem cliqueB_inv {n : Int} {rs : List Int} {s : Int} (h : isGraphB n rs = false) : cliqueB n rs s = false := by unfold cliqueB isSetB; rw [h]; rfl
theorem accTo_lt {rs l : List Int} {k : Nat} (h : ∀ j, j < k → coverAt rs.length rs l j = true) : accTo l k < 2 ^ rs.length := by
  induction k with
  | zero => exact Nat.two_pow_pos _
  | succ k ih =>
    have := h k (by omega)
    unfold coverAt at this
    simp only [Bool.and_eq_true] at this
    obtain ⟨_, _, S, h1, h2⟩ := isSetB_true (cliqueB_graph this.1)
    unfold accTo
    exact Nat.or_lt_two_pow (ih fun j hj => h j (by omega)) (by rw [h1]; simpa using h2)

/-- What the walks want of set k, where it is a clique. -/
theorem cover_facts {rs l : List Int} {k : Nat} (g : VG rs) (h : ∀ j, j < k → coverAt rs.length rs l j = true) (hc : cliqueB rs.length rs (gi l k) = true) :
    bits .and .i64 (accTo l k : Int) (gi l k) = ((accTo l k &&& (gi l k).toNat : Nat) : Int) ∧ bits .or .i64 (accTo l k : Int) (gi l k) = ((accTo l (k + 1) : Nat) : Int) := by
  obtain ⟨_, _, S, h1, h2⟩ := isSetB_true (cliqueB_graph hc)
  have h3 := accTo_lt h
  have h4 := g.pow.1
  rw [h1, Int.toNat_natCast]
  exact ⟨bits_and_nat _ _ (by omega) (by omega), by rw [bits_or_nat _ _ (by omega) (by omega)]; show _ = ((accTo l k ||| (gi l k).toNat : Nat) : Int); rw [h1, Int.toNat_natCast]⟩



end Go.Proofs.YtfkehmpckhmkbaaGreat
