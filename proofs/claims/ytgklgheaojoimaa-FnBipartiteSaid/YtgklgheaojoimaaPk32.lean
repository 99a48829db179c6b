/-
  The walks of IsDominating and IsPacking on both sides. For at most 2^20 rows.
  The walks of largest and fewest of the program, for whatever test; of LargestPacking and FewestDominating of the reference. For at most 2^20 rows.
  isVertex of the program. For at most 2^20 rows and vertices.
-/
import Derived.Test.YtgklgheaojoimaaSets
namespace Go.Proofs.Ytgklgheaojoimaa
open Go.RowKit

def domB (n : Int) (rs : List Int) (s : Int) : Bool := isSetB n rs s && decide (around rs s.toNat = 2 ^ rs.length - 1)
theorem domB_nat {rs : List Int} {S : Nat} (h : isSetB rs.length rs S = true) : domB rs.length rs S = (((around rs S : Nat) : Int) == ((2 ^ rs.length - 1 : Nat) : Int)) := by
  unfold domB; rw [h, Bool.true_and, Int.toNat_natCast, Bool.eq_iff_iff, decide_eq_true_eq, beq_iff_eq]; exact Int.ofNat_inj.symm
theorem domB_no {n : Int} {rs : List Int} {s : Int} (h : isSetB n rs s = false) : domB n rs s = false := by unfold domB; rw [h]; rfl



/-- Vertex v and its neighbours have at most one vertex in S. -/
def packAt (rs : List Int) (S v : Nat) : Nat := cnt ((gn rs v ||| 2 ^ v) &&& S)
def packB (n : Int) (rs : List Int) (s : Int) : Bool := isSetB n rs s && decide (∀ v, v < rs.length → packAt rs s.toNat v ≤ 1)
theorem packB_no {n : Int} {rs : List Int} {s : Int} (h : isSetB n rs s = false) : packB n rs s = false := by unfold packB; rw [h]; rfl
theorem packB_bad {n : Int} {rs : List Int} {S v : Nat} (hv : v < rs.length) (h : 1 < packAt rs S v) : packB n rs S = false := by
  unfold packB; rw [Int.toNat_natCast, decide_eq_false (fun a => by have := a v hv; omega), Bool.and_false]
theorem packB_ok {n : Int} {rs : List Int} {S : Nat} (h : isSetB n rs S = true) (ha : ∀ v, v < rs.length → packAt rs S v ≤ 1) : packB n rs S = true := by
  unfold packB; rw [h, Int.toNat_natCast, decide_eq_true ha]; rfl

/-- What the walks want of vertex k. -/
theorem pack_facts {rs : List Int} (g : VG rs) {S k : Nat} (hS : S < 2 ^ rs.length) (hk : k < rs.length) :
    pwN k = ((2 ^ k : Nat) : Int) ∧ bits .or .i64 (gn rs k : Int) ((2 ^ k : Nat) : Int) = ((gn rs k ||| 2 ^ k : Nat) : Int) ∧ bits .and .i64 ((gn rs k ||| 2 ^ k : Nat) : Int) (S : Int) = (((gn rs k ||| 2 ^ k) &&& S : Nat) : Int) ∧ (gn rs k ||| 2 ^ k) &&& S < 128 := by
  have h1 := g.lt k hk
  have h2 := g.pow.1
  have h3 : 2 ^ k < 2 ^ rs.length := Nat.pow_lt_pow_right (by decide) hk
  have h4 : gn rs k ||| 2 ^ k < 2 ^ rs.length := Nat.or_lt_two_pow h1 h3
  have h5 : (gn rs k ||| 2 ^ k) &&& S ≤ S := Nat.and_le_right
  have h6 := g.le
  exact ⟨pwN_small _ (by omega), bits_or_nat _ _ (by omega) (by omega), bits_and_nat _ _ (by omega) (by omega), by omega⟩



end Go.Proofs.Ytgklgheaojoimaa

namespace Go.Proofs.Ytgklgheaojoimaa
open Go.RowKit

/-- The least of the sets below k with most vertices for which something holds. -/
def largestTo (p : Nat → Bool) : Nat → Nat
  | 0 => 0
  | k + 1 => if cnt (largestTo p k) < cnt k ∧ p k = true then k else largestTo p k
theorem largestTo_le (p : Nat → Bool) (k : Nat) : largestTo p k ≤ k := by
  induction k with
  | zero => exact Nat.le_refl _
  | succ k ih => unfold largestTo; split <;> omega
theorem largestTo_one (p : Nat → Bool) : largestTo p 1 = 0 := by unfold largestTo largestTo; rw [if_neg (by omega)]
/-- The least of the sets below k with fewest vertices for which something holds; -1 if there is none. -/
def fewestTo (p : Nat → Bool) : Nat → Int
  | 0 => -1
  | k + 1 => if (fewestTo p k < 0 ∨ cnt k < cnt (fewestTo p k).toNat) ∧ p k = true then k else fewestTo p k
theorem fewestTo_le (p : Nat → Bool) (k : Nat) : -1 ≤ fewestTo p k ∧ fewestTo p k < k ∨ fewestTo p k = -1 := by
  induction k with
  | zero => exact .inr rfl
  | succ k ih => unfold fewestTo; split <;> omega

/-- What largest says of a graph and a test. -/
def largestV (n : Int) (rs : List Int) (p : Nat → Bool) : Int := if isGraphB n rs = true then largestTo p (2 ^ rs.length) else 0
def fewestV (n : Int) (rs : List Int) (p : Nat → Bool) : Int := if isGraphB n rs = true then fewestTo p (2 ^ rs.length) else -1

/-- A function that answers p of a graph and a set. -/
def TestOf (K : Nat) (rs : List Int) (ro : Option Addr) (rc : Nat) (p : Nat → Bool) : Prop :=
  ∀ (S : Nat) (w : World), IntsAt w ro rs → S < 2 ^ rs.length → Calls Try.prog K #[.agg #[.int .i64 rs.length, .slice ro rs.length rc], .int .i64 S] w fun e w' => e = .returned (.bool (p S)) ∧ Below w.heap.size w w'


theorem fewestTo_form (p : Nat → Bool) (k : Nat) : fewestTo p k = -1 ∨ ∃ L : Nat, L < k ∧ fewestTo p k = (L : Int) := by
  rcases fewestTo_le p k with h | h
  · by_cases h0 : fewestTo p k = -1
    · exact .inl h0
    · exact .inr ⟨(fewestTo p k).toNat, by omega, by omega⟩
  · exact .inl h
theorem fewestTo_succ (p : Nat → Bool) (k : Nat) : fewestTo p (k + 1) = if (fewestTo p k < 0 ∨ cnt k < cnt (fewestTo p k).toNat) ∧ p k = true then (k : Int) else fewestTo p k := rfl
theorem fewestTo_skip {p : Nat → Bool} {k : Nat} (h : p k = false) : fewestTo p (k + 1) = fewestTo p k := by rw [fewestTo_succ, if_neg (fun a => by rw [h] at a; exact absurd a.2 (by decide))]
theorem fewestTo_new {p : Nat → Bool} {k : Nat} (h : p k = true) (h0 : fewestTo p k < 0 ∨ cnt k < cnt (fewestTo p k).toNat) : fewestTo p (k + 1) = (k : Int) := by rw [fewestTo_succ, if_pos ⟨h0, h⟩]
theorem fewestTo_keep {p : Nat → Bool} {k L : Nat} (h : fewestTo p k = (L : Int)) (h0 : ¬cnt k < cnt L) : fewestTo p (k + 1) = fewestTo p k := by
  rw [fewestTo_succ, if_neg]
  rw [h, Int.toNat_natCast]; rintro ⟨a | a, _⟩ <;> omega

set_option maxRecDepth 100000 in
set_option maxHeartbeats 1000000 in
theorem implFewest_any (n : Int) (rs : List Int) (ro : Option Addr) (rc K : Nat) (p : Nat → Bool) (w : World) (hr : IntsAt w ro rs) (hrl : rs.length ≤ 1048576) (hE : ∀ args w, Sem.run Try.prog (callFunc K args) w = .ok (.enter K args) w) (hK : isGraphB rs.length rs = true → TestOf K rs ro rc p) :
    Calls Try.prog 89 #[.agg #[.int .i64 n, .slice ro rs.length rc], .func (.func K) #[] #[]] w fun e w' => e = .returned (.int .i64 (fewestV n rs p)) ∧ Below w.heap.size w w' := by
  go_enter Try.func89, Try.ntmps89
  go_wp2_with fail
  generalize hW : w.alloc _ = W1
  obtain ⟨hB, -, k0⟩ := alloc1 hW
  replace hr := hr.below hB
  have hb0 := k0.lt
  have hc0 := k0.cell 0
  have hc1 := k0.cell 1
  simp at hc0 hc1
  clear hW k0
  have HhB := Lib.hid hB
  clear hB
  obtain ⟨m, hm0⟩ : ∃ m : Later W1, m.w = W1 := ⟨Later.refl _, rfl⟩
  refine (fun h => hm0 ▸ h) ?_
  clear hm0
  cases hv : isGraphB n rs
  · have HE : Hid (fewestV n rs p = -1) := by show fewestV n rs p = -1; unfold fewestV; rw [hv]; rfl
    go_wp2_with (first | (go_at_call 70; refine (Calls.later m (implIsGraph_any _ _ _ _ _ (hr.later m) hrl)).mono ?_; rintro e w' ⟨rfl, m, rfl⟩))
    go_ret
    exact ⟨retI (by rw [HE.out]), below_later HhB.out m⟩
  · obtain ⟨rfl, g⟩ := VG.of hv
    replace hK := Lib.hid (hK hv)
    have hg2 := g.le
    obtain ⟨hp1, hp2⟩ := g.pow
    have HE : Hid (fewestV rs.length rs p = fewestTo p (2 ^ rs.length)) := by show fewestV rs.length rs p = _; unfold fewestV; rw [if_pos hv]
    have HT : Hid (2 ^ rs.length = 2 ^ rs.length - 1 + 1) := by show _ = _; omega
    have HS : Hid (∀ S, S < 2 ^ rs.length - 1 + 1 → S < 2 ^ rs.length) := fun S h => by omega
    have hAll := fun m : Later W1 => implAll_any rs.length (.slice ro rs.length rc) hg2 m.w
    generalize hT : 2 ^ rs.length - 1 = T at *
    have hT1 : 1 ≤ T := by omega
    have hT2 : T ≤ 127 := by omega
    replace HE := Lib.hid (HE.out.trans (congrArg (fun x => fewestTo p x) HT.out))
    clear hT hp1 hp2
    go_wp2_with (first | (go_at_call 70; refine (Calls.later m (implIsGraph_any _ _ _ _ _ (hr.later m) hrl)).mono ?_; rintro e w' ⟨rfl, m, rfl⟩) | (go_at_call 72; refine (Calls.later m (hAll m)).mono ?_; rintro e w' ⟨rfl, m, rfl⟩))
    go_loopw [5, 13] (fun b i wr => (∃ m : Later W1, wr = m.w) ∧ ∃ k : Nat, k ≤ T + 1 ∧ b = .int .i64 (fewestTo p k) ∧ i = .int .i64 k) (fun _ i _ => T + 1 - (intOf i).toNat)
    case atStart => exact ⟨⟨m, rfl⟩, 0, by omega, rfl, rfl⟩
    case round =>
      obtain ⟨⟨m, rfl⟩, k, hk, rfl, rfl⟩ := hrel
      by_cases hlt : k < T + 1
      · have hn1 := cnt_le k
        have hK' := fun m : Later W1 => hK.out k m.w (hr.later m) (HS.out k (by omega))
        have H0 := Lib.hid (fun h => fewestTo_skip (p := p) (k := k) h)
        have H1 := Lib.hid (fun h => fewestTo_new (p := p) (k := k) h)
        have H2 := Lib.hid (fun L h => fewestTo_keep (p := p) (k := k) (L := L) h)
        rcases fewestTo_form p k with hF | ⟨L, hL, hF⟩
        · rw [hF] at H0 H1 ⊢
          clear H2
          have HhF := Lib.hid hF
          clear hF
          cases hp : p k <;> simp only [hp] at hK'
          · go_wp2_with fail
            refine (Calls.later m (hK' m)).mono ?_
            rintro e w' ⟨rfl, m, rfl⟩
            go_wp2_with fail
            go_roundw
            case rel => exact ⟨⟨m, rfl⟩, k + 1, by omega, by rw [H0.out hp], by go_num⟩
            case measure => simp [intOf]; omega
          · go_wp2_with fail
            refine (Calls.later m (hK' m)).mono ?_
            rintro e w' ⟨rfl, m, rfl⟩
            go_wp2_with fail
            go_roundw
            case rel => exact ⟨⟨m, rfl⟩, k + 1, by omega, by rw [H1.out hp (.inl (by omega))], by go_num⟩
            case measure => simp [intOf]; omega
        · rw [hF] at H0 H1 ⊢
          replace H2 := Lib.hid (H2.out L hF)
          rw [hF] at H2
          have HhF := Lib.hid hF
          clear hF
          have hn2 := cnt_le L
          by_cases hc : cnt k < cnt L
          · cases hp : p k <;> simp only [hp] at hK'
            · go_wp2_with (first | (go_at_call 133; refine (Calls.later m (implCount_any _ (by omega) _)).mono ?_; rintro e w' ⟨rfl, m, rfl⟩))
              refine (Calls.later m (hK' m)).mono ?_
              rintro e w' ⟨rfl, m, rfl⟩
              go_wp2_with fail
              go_roundw
              case rel => exact ⟨⟨m, rfl⟩, k + 1, by omega, by rw [H0.out hp], by go_num⟩
              case measure => simp [intOf]; omega
            · go_wp2_with (first | (go_at_call 133; refine (Calls.later m (implCount_any _ (by omega) _)).mono ?_; rintro e w' ⟨rfl, m, rfl⟩))
              refine (Calls.later m (hK' m)).mono ?_
              rintro e w' ⟨rfl, m, rfl⟩
              go_wp2_with fail
              go_roundw
              case rel => exact ⟨⟨m, rfl⟩, k + 1, by omega, by rw [H1.out hp (.inr hc)], by go_num⟩
              case measure => simp [intOf]; omega
          · go_wp2_with (first | (go_at_call 133; refine (Calls.later m (implCount_any _ (by omega) _)).mono ?_; rintro e w' ⟨rfl, m, rfl⟩))
            go_roundw
            case rel => exact ⟨⟨m, rfl⟩, k + 1, by omega, by rw [H2.out hc], by go_num⟩
            case measure => simp [intOf]; omega
      · go_wp2_with fail
        go_ret
        obtain rfl : k = T + 1 := by omega
        exact ⟨retI (by rw [HE.out]), below_later HhB.out m⟩





end Go.Proofs.Ytgklgheaojoimaa

namespace Go.Proofs.Ytgklgheaojoimaa
open Go.RowKit

/-- All numbers of a list are vertices' numbers. -/
def vtx (n : Int) (l : List Int) : Bool := decide (∀ j, j < l.length → (decide (0 ≤ gi l j) && decide (gi l j ≤ n - 1)) = true)
theorem vtx_bad {n : Int} {l : List Int} {j : Nat} (hj : j < l.length) (h : (decide (0 ≤ gi l j) && decide (gi l j ≤ n - 1)) = false) : vtx n l = false := by
  unfold vtx; rw [decide_eq_false_iff_not]; intro a; rw [a j hj] at h; exact absurd h (by decide)
theorem vtx_ok {n : Int} {l : List Int} (h : ∀ j, j < l.length → (decide (0 ≤ gi l j) && decide (gi l j ≤ n - 1)) = true) : vtx n l = true := by unfold vtx; rw [decide_eq_true h]

/-- A graph, and the numbers are its vertices'. -/
def vtxB (n : Int) (rs l : List Int) : Bool := isGraphB n rs && vtx n l
theorem vtxB_inv {n : Int} {rs l : List Int} (h : isGraphB n rs = false) : vtxB n rs l = false := by unfold vtxB; rw [h]; rfl
theorem vtxB_of {n : Int} {rs l : List Int} (h : isGraphB n rs = true) : vtxB n rs l = vtx n l := by unfold vtxB; rw [h]; rfl

set_option maxHeartbeats 1000000 in
theorem isVertex_any (n : Int) (rs l : List Int) (ro lo : Option Addr) (rc lc : Nat) (w : World) (hr : IntsAt w ro rs) (hrl : rs.length ≤ 1048576) (hl : IntsAt w lo l) (hll : l.length ≤ 1048576) :
    Calls Try.prog 143 #[.agg #[.int .i64 n, .slice ro rs.length rc], .slice lo l.length lc] w fun e w' => e = .returned (.bool (vtxB n rs l)) ∧ Below w.heap.size w w' := by
  go_enter Try.func143, Try.ntmps143
  go_wp2_with fail
  generalize hW : w.alloc _ = W1
  obtain ⟨hB, -, k0⟩ := alloc1 hW
  replace hr := hr.below hB
  replace hl := hl.below hB
  have hb0 := k0.lt
  have hc0 := k0.cell 0
  have hc1 := k0.cell 1
  simp at hc0 hc1
  clear hW k0
  have HhB := Lib.hid hB
  clear hB
  cases hv : isGraphB n rs
  · have HE := Lib.hid (vtxB_inv (l := l) hv)
    go_loopw [9] (fun i wr => (∃ m : Later W1, wr = m.w) ∧ ∃ k : Nat, k ≤ l.length ∧ i = .int .i64 k) (fun i _ => l.length - (intOf i).toNat)
    case atStart => exact ⟨⟨Later.refl _, rfl⟩, 0, by omega, rfl⟩
    case round =>
      obtain ⟨⟨m, rfl⟩, k, hk, rfl⟩ := hrel
      by_cases hlt : k < l.length
      · obtain ⟨lb, lofs, rfl, hlb, hlc⟩ := hl (by omega)
        have hlk := hlc k hlt
        clear hlc
        cases h1 : (decide (0 ≤ gi l k) && decide (gi l k ≤ wrap64 (n - 1)))
        · go_wp2_with (first | (go_at_call 119; refine (within_any _ _ _ _).mono ?_; rintro e w' ⟨rfl, rfl⟩))
          go_ret
          exact ⟨retB (by rw [HE.out]), below_later HhB.out m⟩
        · go_wp2_with (first | (go_at_call 119; refine (within_any _ _ _ _).mono ?_; rintro e w' ⟨rfl, rfl⟩))
          go_roundw
          case rel => exact ⟨⟨m, rfl⟩, k + 1, by omega, by go_num⟩
          case measure => simp [intOf]; omega
      · go_wp2_with (first | (go_at_call 70; refine (Calls.later m (implIsGraph_any _ _ _ _ _ (hr.later m) hrl)).mono ?_; rintro e w' ⟨rfl, m, rfl⟩))
        go_ret
        exact ⟨retB (by rw [HE.out]), below_later HhB.out m⟩
  · have HE := Lib.hid (vtxB_of (l := l) hv)
    obtain ⟨rfl, g⟩ := VG.of hv
    have hg1 := g.pos
    have hg2 := g.le
    go_loopw [9] (fun i wr => (∃ m : Later W1, wr = m.w) ∧ ∃ k : Nat, k ≤ l.length ∧ i = .int .i64 k ∧ ∀ j, j < k → (decide (0 ≤ gi l j) && decide (gi l j ≤ (rs.length : Int) - 1)) = true) (fun i _ => l.length - (intOf i).toNat)
    case atStart => exact ⟨⟨Later.refl _, rfl⟩, 0, by omega, rfl, fun j h => by omega⟩
    case round =>
      obtain ⟨⟨m, rfl⟩, k, hk, rfl, hP⟩ := hrel
      have HhP := Lib.hid hP
      clear hP
      by_cases hlt : k < l.length
      · obtain ⟨lb, lofs, rfl, hlb, hlc⟩ := hl (by omega)
        have hlk := hlc k hlt
        have HN := Lib.hid (fun h => vtx_bad (n := rs.length) hlt h)
        have HY := Lib.hid (fun h => all_succ (p := fun j => (decide (0 ≤ gi l j) && decide (gi l j ≤ (rs.length : Int) - 1)) = true) HhP.out h)
        clear hlc
        generalize gi l k = x at *
        cases h1 : (decide (0 ≤ x) && decide (x ≤ (rs.length : Int) - 1))
        · go_wp2_with (first | (go_at_call 119; refine (within_any _ _ _ _).mono ?_; rintro e w' ⟨rfl, rfl⟩))
          go_ret
          exact ⟨retB (by rw [HE.out, HN.out h1]), below_later HhB.out m⟩
        · go_wp2_with (first | (go_at_call 119; refine (within_any _ _ _ _).mono ?_; rintro e w' ⟨rfl, rfl⟩))
          go_roundw
          case rel => exact ⟨⟨m, rfl⟩, k + 1, by omega, by go_num, HY.out h1⟩
          case measure => simp [intOf]; omega
      · have HM := Lib.hid (vtx_ok (n := rs.length) (l := l) (fun j hj => HhP.out j (by omega)))
        go_wp2_with (first | (go_at_call 70; refine (Calls.later m (implIsGraph_any _ _ _ _ _ (hr.later m) hrl)).mono ?_; rintro e w' ⟨rfl, m, rfl⟩))
        go_ret
        exact ⟨retB (by rw [HE.out, HM.out]), below_later HhB.out m⟩

end Go.Proofs.Ytgklgheaojoimaa
