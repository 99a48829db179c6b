/-
  The walks of IsDominating and IsPacking on both sides. For at most 2^20 rows.
  The walks of largest and fewest of the program, for whatever test; of LargestPacking and FewestDominating of the reference. For at most 2^20 rows.
  least of the program, for whatever function. For at most 2^20 rows.
-/
import Derived.Test.YtjikmjhpmkakoaaGreatDoorPkCardHereditary03
namespace Go.Proofs.YtjikmjhpmkakoaaGreatDoor
open Go.RowKit

def domB (n : Int) (rs : List Int) (s : Int) : Bool := isSetB n rs s && decide (around rs s.toNat = 2 ^ rs.length - 1)
theorem domB_nat {rs : List Int} {S : Nat} (h : isSetB rs.length rs S = true) : domB rs.length rs S = (((around rs S : Nat) : Int) == ((2 ^ rs.length - 1 : Nat) : Int)) := by
  unfold domB; rw [h, Bool.true_and, Int.toNat_natCast, Bool.eq_iff_iff, decide_eq_true_eq, beq_iff_eq]; exact Int.ofNat_inj.symm
theorem domB_no {n : Int} {rs : List Int} {s : Int} (h : isSetB n rs s = false) : domB n rs s = false := by unfold domB; rw [h]; rfl



/-- Vertex v and its neighbours have at most one vertex in S. -/
def packAt (rs : List Int) (S v : Nat) : Nat := cnt ((gn rs v ||| 2 ^ v) &&& S)
def packB (n : Int) (rs : List Int) (s : Int) : Bool := isSetB n rs s && decide (∀ v, v < rs.length → packAt rs s.toNat v ≤ 1)
theorem packB_no {n : Int} {rs : List Int} {s : Int} (h : isSetB n rs s = false) : packB n rs s = false := by unfold packB; rw [h]; rfl
theorem packB_bad {n : Int} {rs : List Int} {S v : Nat} (hv : v < rs.length) (h : 1 < packAt rs S v) : packB n rs S = false := by
  unfold packB; rw [Int.toNat_natCast, decide_eq_false (fun a => by have := a v hv; omega), Bool.and_false]
theorem packB_ok {n : Int} {rs : List Int} {S : Nat} (h : isSetB n rs S = true) (ha : ∀ v, v < rs.length → packAt rs S v ≤ 1) : packB n rs S = true := by
  unfold packB; rw [h, Int.toNat_natCast, decide_eq_true ha]; rfl

/-- What the walks want of vertex k. -/
theorem pack_facts {rs : List Int} (g : VG rs) {S k : Nat} (hS : S < 2 ^ rs.length) (hk : k < rs.length) :
    pwN k = ((2 ^ k : Nat) : Int) ∧ bits .or .i64 (gn rs k : Int) ((2 ^ k : Nat) : Int) = ((gn rs k ||| 2 ^ k : Nat) : Int) ∧ bits .and .i64 ((gn rs k ||| 2 ^ k : Nat) : Int) (S : Int) = (((gn rs k ||| 2 ^ k) &&& S : Nat) : Int) ∧ (gn rs k ||| 2 ^ k) &&& S < 128 := by
  have h1 := g.lt k hk
  have h2 := g.pow.1
  have h3 : 2 ^ k < 2 ^ rs.length := Nat.pow_lt_pow_right (by decide) hk
  have h4 : gn rs k ||| 2 ^ k < 2 ^ rs.length := Nat.or_lt_two_pow h1 h3
  have h5 : (gn rs k ||| 2 ^ k) &&& S ≤ S := Nat.and_le_right
  have h6 := g.le
  exact ⟨pwN_small _ (by omega), bits_or_nat _ _ (by omega) (by omega), bits_and_nat _ _ (by omega) (by omega), by omega⟩



end Go.Proofs.YtjikmjhpmkakoaaGreatDoor

namespace Go.Proofs.YtjikmjhpmkakoaaGreatDoor
open Go.RowKit

/-- The least of the sets below k with most vertices for which something holds. -/
def largestTo (p : Nat → Bool) : Nat → Nat
  | 0 => 0
  | k + 1 => if cnt (largestTo p k) < cnt k ∧ p k = true then k else largestTo p k
theorem largestTo_le (p : Nat → Bool) (k : Nat) : largestTo p k ≤ k := by
  induction k with
  | zero => exact Nat.le_refl _
  | succ k ih => unfold largestTo; split <;> omega
theorem largestTo_one (p : Nat → Bool) : largestTo p 1 = 0 := by unfold largestTo largestTo; rw [if_neg (by omega)]
/-- The least of the sets below k with fewest vertices for which something holds; -1 if there is none. -/
def fewestTo (p : Nat → Bool) : Nat → Int
  | 0 => -1
  | k + 1 => if (fewestTo p k < 0 ∨ cnt k < cnt (fewestTo p k).toNat) ∧ p k = true then k else fewestTo p k
theorem fewestTo_le (p : Nat → Bool) (k : Nat) : -1 ≤ fewestTo p k ∧ fewestTo p k < k ∨ fewestTo p k = -1 := by
  induction k with
  | zero => exact .inr rfl
  | succ k ih => unfold fewestTo; split <;> omega

/-- What largest says of a graph and a test. -/
def largestV (n : Int) (rs : List Int) (p : Nat → Bool) : Int := if isGraphB n rs = true then largestTo p (2 ^ rs.length) else 0
def fewestV (n : Int) (rs : List Int) (p : Nat → Bool) : Int := if isGraphB n rs = true then fewestTo p (2 ^ rs.length) else -1

/-- A function that answers p of a graph and a set. -/
def TestOf (K : Nat) (rs : List Int) (ro : Option Addr) (rc : Nat) (p : Nat → Bool) : Prop :=
  ∀ (S : Nat) (w : World), IntsAt w ro rs → S < 2 ^ rs.length → Calls Tryz.prog K #[.agg #[.int .i64 rs.length, .slice ro rs.length rc], .int .i64 S] w fun e w' => e = .returned (.bool (p S)) ∧ Below w.heap.size w w'

set_option maxRecDepth 100000 in
set_option maxHeartbeats 1000000 in
theorem implLargest_any (n : Int) (rs : List Int) (ro : Option Addr) (rc K : Nat) (p : Nat → Bool) (w : World) (hr : IntsAt w ro rs) (hrl : rs.length ≤ 1048576) (hE : ∀ args w, Sem.run Tryz.prog (callFunc K args) w = .ok (.enter K args) w) (hK : isGraphB rs.length rs = true → TestOf K rs ro rc p) :
    Calls Tryz.prog 129 #[.agg #[.int .i64 n, .slice ro rs.length rc], .func (.func K) #[] #[]] w fun e w' => e = .returned (.int .i64 (largestV n rs p)) ∧ Below w.heap.size w w' := by
  go_enter Tryz.func129, Tryz.ntmps129
  go_wp2_with fail
  generalize hW : w.alloc _ = W1
  obtain ⟨hB, -, k0⟩ := alloc1 hW
  replace hr := hr.below hB
  have hb0 := k0.lt
  have hc0 := k0.cell 0
  have hc1 := k0.cell 1
  simp at hc0 hc1
  clear hW k0
  have HhB := Lib.hid hB
  clear hB
  obtain ⟨m, hm0⟩ : ∃ m : Later W1, m.w = W1 := ⟨Later.refl _, rfl⟩
  refine (fun h => hm0 ▸ h) ?_
  clear hm0
  cases hv : isGraphB n rs
  · have HE : Hid (largestV n rs p = 0) := by show largestV n rs p = 0; unfold largestV; rw [hv]; rfl
    go_wp2_with (first | (go_at_call 45; refine (Calls.later m (implIsGraph_any _ _ _ _ _ (hr.later m) hrl)).mono ?_; rintro e w' ⟨rfl, m, rfl⟩))
    go_ret
    exact ⟨retI (by rw [HE.out]), below_later HhB.out m⟩
  · obtain ⟨rfl, g⟩ := VG.of hv
    replace hK := Lib.hid (hK hv)
    have hg2 := g.le
    obtain ⟨hp1, hp2⟩ := g.pow
    have HE : Hid (largestV rs.length rs p = largestTo p (2 ^ rs.length)) := by show largestV rs.length rs p = _; unfold largestV; rw [if_pos hv]
    have HT : Hid (2 ^ rs.length = 2 ^ rs.length - 1 + 1) := by show _ = _; omega
    have HS : Hid (∀ S, S < 2 ^ rs.length - 1 + 1 → S < 2 ^ rs.length) := fun S h => by omega
    have hAll := fun m : Later W1 => implAll_any rs.length (.slice ro rs.length rc) hg2 m.w
    generalize hT : 2 ^ rs.length - 1 = T at *
    have hT1 : 1 ≤ T := by omega
    have hT2 : T ≤ 127 := by omega
    replace HE := Lib.hid (HE.out.trans (congrArg (fun x => (largestTo p x : Int)) HT.out))
    clear hT hp1 hp2
    go_wp2_with (first | (go_at_call 45; refine (Calls.later m (implIsGraph_any _ _ _ _ _ (hr.later m) hrl)).mono ?_; rintro e w' ⟨rfl, m, rfl⟩))
    go_loopw [5, 6] (fun b i wr => (∃ m : Later W1, wr = m.w) ∧ ∃ k : Nat, 1 ≤ k ∧ k ≤ T + 1 ∧ b = .int .i64 (largestTo p k) ∧ i = .int .i64 k) (fun _ i _ => T + 1 - (intOf i).toNat)
    case atStart => exact ⟨⟨m, rfl⟩, 1, by omega, by omega, by rw [largestTo_one]; rfl, rfl⟩
    case round =>
      obtain ⟨⟨m, rfl⟩, k, hk1, hk, rfl, rfl⟩ := hrel
      by_cases hlt : k ≤ T
      · have hl := largestTo_le p k
        have HN : Hid (largestTo p (k + 1) = if cnt (largestTo p k) < cnt k ∧ p k = true then k else largestTo p k) := rfl
        have hn1 := cnt_le k
        have hn2 := cnt_le (largestTo p k)
        generalize hN : largestTo p (k + 1) = L' at *
        have HhN := Lib.hid hN
        clear hN
        generalize largestTo p k = L at *
        by_cases hc : cnt L < cnt k
        · have hK' := fun m : Later W1 => hK.out k m.w (hr.later m) (HS.out k (by omega))
          cases hp : p k <;> simp only [hp] at hK'
          · go_wp2_with (first | (go_at_call 46; refine (Calls.later m (hAll m)).mono ?_; rintro e w' ⟨rfl, m, rfl⟩) | (go_at_call 81; refine (Calls.later m (implCount_any _ (by omega) _)).mono ?_; rintro e w' ⟨rfl, m, rfl⟩))
            refine (Calls.later m (hK' m)).mono ?_
            rintro e w' ⟨rfl, m, rfl⟩
            go_wp2_with fail
            go_roundw
            case rel => exact ⟨⟨m, rfl⟩, k + 1, by omega, by omega, by rw [HhN.out, HN.out, if_neg (fun h => by rw [hp] at h; exact absurd h.2 (by decide))], by go_num⟩
            case measure => simp [intOf]; omega
          · go_wp2_with (first | (go_at_call 46; refine (Calls.later m (hAll m)).mono ?_; rintro e w' ⟨rfl, m, rfl⟩) | (go_at_call 81; refine (Calls.later m (implCount_any _ (by omega) _)).mono ?_; rintro e w' ⟨rfl, m, rfl⟩))
            refine (Calls.later m (hK' m)).mono ?_
            rintro e w' ⟨rfl, m, rfl⟩
            go_wp2_with fail
            go_roundw
            case rel => exact ⟨⟨m, rfl⟩, k + 1, by omega, by omega, by rw [HhN.out, HN.out, if_pos ⟨hc, hp⟩], by go_num⟩
            case measure => simp [intOf]; omega
        · go_wp2_with (first | (go_at_call 46; refine (Calls.later m (hAll m)).mono ?_; rintro e w' ⟨rfl, m, rfl⟩) | (go_at_call 81; refine (Calls.later m (implCount_any _ (by omega) _)).mono ?_; rintro e w' ⟨rfl, m, rfl⟩))
          go_roundw
          case rel => exact ⟨⟨m, rfl⟩, k + 1, by omega, by omega, by rw [HhN.out, HN.out, if_neg (fun h => hc h.1)], by go_num⟩
          case measure => simp [intOf]; omega
      · go_wp2_with (first | (go_at_call 46; refine (Calls.later m (hAll m)).mono ?_; rintro e w' ⟨rfl, m, rfl⟩))
        go_ret
        obtain rfl : k = T + 1 := by omega
        exact ⟨retI (by rw [HE.out]), below_later HhB.out m⟩

theorem fewestTo_form (p : Nat → Bool) (k : Nat) : fewestTo p k = -1 ∨ ∃ L : Nat, L < k ∧ fewestTo p k = (L : Int) := by
  rcases fewestTo_le p k with h | h
  · by_cases h0 : fewestTo p k = -1
    · exact .inl h0
    · exact .inr ⟨(fewestTo p k).toNat, by omega, by omega⟩
  · exact .inl h
theorem fewestTo_succ (p : Nat → Bool) (k : Nat) : fewestTo p (k + 1) = if (fewestTo p k < 0 ∨ cnt k < cnt (fewestTo p k).toNat) ∧ p k = true then (k : Int) else fewestTo p k := rfl
theorem fewestTo_skip {p : Nat → Bool} {k : Nat} (h : p k = false) : fewestTo p (k + 1) = fewestTo p k := by rw [fewestTo_succ, if_neg (fun a => by rw [h] at a; exact absurd a.2 (by decide))]
theorem fewestTo_new {p : Nat → Bool} {k : Nat} (h : p k = true) (h0 : fewestTo p k < 0 ∨ cnt k < cnt (fewestTo p k).toNat) : fewestTo p (k + 1) = (k : Int) := by rw [fewestTo_succ, if_pos ⟨h0, h⟩]
theorem fewestTo_keep {p : Nat → Bool} {k L : Nat} (h : fewestTo p k = (L : Int)) (h0 : ¬cnt k < cnt L) : fewestTo p (k + 1) = fewestTo p k := by
  rw [fewestTo_succ, if_neg]
  rw [h, Int.toNat_natCast]; rintro ⟨a | a, _⟩ <;> omega






end Go.Proofs.YtjikmjhpmkakoaaGreatDoor

namespace Go.Proofs.YtjikmjhpmkakoaaGreatDoor
open Go.RowKit

/-- The least set for which something holds. -/
def leastO (n : Int) (rs : List Int) (p : Nat → Bool) : Option Nat := if isGraphB n rs = true then firstB p (2 ^ rs.length) else none
def leastI (o : Option Nat) : Int := match o with | some k => k | none => 0
theorem leastO_no {n : Int} {rs : List Int} {p : Nat → Bool} (h : isGraphB n rs = false) : leastO n rs p = none := by unfold leastO; rw [if_neg (by rw [h]; decide)]
theorem leastO_of {n : Int} {rs : List Int} {p : Nat → Bool} (h : isGraphB n rs = true) : leastO n rs p = firstB p (2 ^ rs.length) := by unfold leastO; rw [if_pos h]
theorem leastO_congr {n : Int} {rs : List Int} {p q : Nat → Bool} (h : isGraphB n rs = true → ∀ S, S < 2 ^ rs.length → p S = q S) : leastO n rs p = leastO n rs q := by
  unfold leastO
  split
  · rename_i hv
    unfold firstB
    have key : ∀ l : List Nat, (∀ x, x ∈ l → x < 2 ^ rs.length) → l.find? p = l.find? q := by
      intro l
      induction l with
      | nil => simp
      | cons a l ih =>
        intro hl
        rw [List.find?_cons, List.find?_cons, h hv a (hl a (by simp)), ih (fun x hx => hl x (by simp [hx]))]
    exact key _ (fun x hx => by simpa using hx)
  · rfl

set_option maxRecDepth 100000 in
set_option maxHeartbeats 1000000 in
theorem implLeast_any (n : Int) (rs : List Int) (ro : Option Addr) (rc K : Nat) (p : Nat → Bool) (w : World) (hr : IntsAt w ro rs) (hrl : rs.length ≤ 1048576) (hE : ∀ args w, Sem.run Tryz.prog (callFunc K args) w = .ok (.enter K args) w) (hK : isGraphB rs.length rs = true → TestOf K rs ro rc p) :
    Calls Tryz.prog 50 #[.agg #[.int .i64 n, .slice ro rs.length rc], .func (.func K) #[] #[]] w fun e w' => e = .returned (.tuple #[.int .i64 (leastI (leastO n rs p)), .bool (leastO n rs p).isSome]) ∧ Below w.heap.size w w' := by
  go_enter Tryz.func50, Tryz.ntmps50
  go_wp2_with fail
  generalize hW : w.alloc _ = W1
  obtain ⟨hB, -, k0⟩ := alloc1 hW
  replace hr := hr.below hB
  have hb0 := k0.lt
  have hc0 := k0.cell 0
  have hc1 := k0.cell 1
  simp at hc0 hc1
  clear hW k0
  have HhB := Lib.hid hB
  clear hB
  obtain ⟨m, hm0⟩ : ∃ m : Later W1, m.w = W1 := ⟨Later.refl _, rfl⟩
  refine (fun h => hm0 ▸ h) ?_
  clear hm0
  cases hv : isGraphB n rs
  · have HE := Lib.hid (leastO_no (p := p) hv)
    go_wp2_with (first | (go_at_call 45; refine (Calls.later m (implIsGraph_any _ _ _ _ _ (hr.later m) hrl)).mono ?_; rintro e w' ⟨rfl, m, rfl⟩))
    go_ret2
    exact ⟨by rw [HE.out]; rfl, below_later HhB.out m⟩
  · obtain ⟨rfl, g⟩ := VG.of hv
    replace hK := Lib.hid (hK hv)
    have hg2 := g.le
    obtain ⟨hp1, hp2⟩ := g.pow
    have HE := Lib.hid (leastO_of (p := p) hv)
    have hAll := fun m : Later W1 => implAll_any rs.length (.slice ro rs.length rc) hg2 m.w
    have HT : Hid (2 ^ rs.length = 2 ^ rs.length - 1 + 1) := by show _ = _; omega
    have HS : Hid (∀ S, S < 2 ^ rs.length - 1 + 1 → S < 2 ^ rs.length) := fun S h => by omega
    generalize hT : 2 ^ rs.length - 1 = T at *
    have hT1 : 1 ≤ T := by omega
    have hT2 : T ≤ 127 := by omega
    replace HE := Lib.hid (HE.out.trans (congrArg (fun x => firstB p x) HT.out))
    clear hT hp1 hp2
    go_wp2_with (first | (go_at_call 45; refine (Calls.later m (implIsGraph_any _ _ _ _ _ (hr.later m) hrl)).mono ?_; rintro e w' ⟨rfl, m, rfl⟩) | (go_at_call 46; refine (Calls.later m (hAll m)).mono ?_; rintro e w' ⟨rfl, m, rfl⟩))
    go_loopw [13] (fun i wr => (∃ m : Later W1, wr = m.w) ∧ ∃ k : Nat, k ≤ T + 1 ∧ i = .int .i64 k ∧ ∀ j, j < k → p j = false) (fun i _ => T + 1 - (intOf i).toNat)
    case atStart => exact ⟨⟨m, rfl⟩, 0, by omega, rfl, fun j h => by omega⟩
    case round =>
      obtain ⟨⟨m, rfl⟩, k, hk, rfl, hP⟩ := hrel
      have HhP := Lib.hid hP
      clear hP
      by_cases hlt : k < T + 1
      · have hK' := fun m : Later W1 => hK.out k m.w (hr.later m) (HS.out k (by omega))
        cases hp : p k <;> simp only [hp] at hK'
        · have HY := Lib.hid (all_succ (p := fun j => p j = false) HhP.out hp)
          go_wp2_with fail
          refine (Calls.later m (hK' m)).mono ?_
          rintro e w' ⟨rfl, m, rfl⟩
          go_wp2_with fail
          go_roundw
          case rel => exact ⟨⟨m, rfl⟩, k + 1, by omega, by go_num, HY.out⟩
          case measure => simp [intOf]; omega
        · have HJ := Lib.hid (firstB_hit hlt HhP.out hp)
          go_wp2_with fail
          refine (Calls.later m (hK' m)).mono ?_
          rintro e w' ⟨rfl, m, rfl⟩
          go_wp2_with fail
          go_ret2
          exact ⟨by rw [HE.out, HJ.out]; rfl, below_later HhB.out m⟩
      · have HJ := Lib.hid (firstB_none (p := p) (n := T + 1) (fun j h => HhP.out j (by omega)))
        go_wp2_with fail
        go_ret2
        exact ⟨by rw [HE.out, HJ.out]; rfl, below_later HhB.out m⟩

end Go.Proofs.YtjikmjhpmkakoaaGreatDoor
