/-
  The walks of largest and fewest of the program, for whatever test; of LargestPacking and FewestDominating of the reference. For at most 2^20 rows.
-/
import Derived.Test.YtkefkmjfjghggaaDominate
namespace Go.Proofs.Ytkefkmjfjghggaa
open Go.RowKit

/-- The least of the sets below k with most vertices for which something holds. -/
def largestTo (p : Nat → Bool) : Nat → Nat
  | 0 => 0
  | k + 1 => if cnt (largestTo p k) < cnt k ∧ p k = true then k else largestTo p k
theorem largestTo_le (p : Nat → Bool) (k : Nat) : largestTo p k ≤ k := by
  induction k with
  | zero => exact Nat.le_refl _
  | succ k ih => unfold largestTo; split <;> omega
theorem largestTo_one (p : Nat → Bool) : largestTo p 1 = 0 := by unfold largestTo largestTo; rw [if_neg (by omega)]
/-- The least of the sets below k with fewest vertices for which something holds; -1 if there is none. -/
def fewestTo (p : Nat → Bool) : Nat → Int
  | 0 => -1
  | k + 1 => if (fewestTo p k < 0 ∨ cnt k < cnt (fewestTo p k).toNat) ∧ p k = true then k else fewestTo p k
theorem fewestTo_le (p : Nat → Bool) (k : Nat) : -1 ≤ fewestTo p k ∧ fewestTo p k < k ∨ fewestTo p k = -1 := by
  induction k with
  | zero => exact .inr rfl
  | succ k ih => unfold fewestTo; split <;> omega

/-- What largest says of a graph and a test. -/
def largestV (n : Int) (rs : List Int) (p : Nat → Bool) : Int := if isGraphB n rs = true then largestTo p (2 ^ rs.length) else 0
def fewestV (n : Int) (rs : List Int) (p : Nat → Bool) : Int := if isGraphB n rs = true then fewestTo p (2 ^ rs.length) else -1

/-- A function that answers p of a graph and a set. -/
def TestOf (K : Nat) (rs : List Int) (ro : Option Addr) (rc : Nat) (p : Nat → Bool) : Prop :=
  ∀ (S : Nat) (w : World), IntsAt w ro rs → S < 2 ^ rs.length → Calls Try.prog K #[.agg #[.int .i64 rs.length, .slice ro rs.length rc], .int .i64 S] w fun e w' => e = .returned (.bool (p S)) ∧ Below w.heap.size w w'


theorem fewestTo_form (p : Nat → Bool) (k : Nat) : fewestTo p k = -1 ∨ ∃ L : Nat, L < k ∧ fewestTo p k = (L : Int) := by
  rcases fewestTo_le p k with h | h
  · by_cases h0 : fewestTo p k = -1
    · exact .inl h0
    · exact .inr ⟨(fewestTo p k).toNat, by omega, by omega⟩
  · exact .inl h
theorem fewestTo_succ (p : Nat → Bool) (k : Nat) : fewestTo p (k + 1) = if (fewestTo p k < 0 ∨ cnt k < cnt (fewestTo p k).toNat) ∧ p k = true then (k : Int) else fewestTo p k := rfl
theorem fewestTo_skip {p : Nat → Bool} {k : Nat} (h : p k = false) : fewestTo p (k + 1) = fewestTo p k := by rw [fewestTo_succ, if_neg (fun a => by rw [h] at a; exact absurd a.2 (by decide))]
theorem fewestTo_new {p : Nat → Bool} {k : Nat} (h : p k = true) (h0 : fewestTo p k < 0 ∨ cnt k < cnt (fewestTo p k).toNat) : fewestTo p (k + 1) = (k : Int) := by rw [fewestTo_succ, if_pos ⟨h0, h⟩]
theorem fewestTo_keep {p : Nat → Bool} {k L : Nat} (h : fewestTo p k = (L : Int)) (h0 : ¬cnt k < cnt L) : fewestTo p (k + 1) = fewestTo p k := by
  rw [fewestTo_succ, if_neg]
  rw [h, Int.toNat_natCast]; rintro ⟨a | a, _⟩ <;> omega

set_option maxRecDepth 100000 in
set_option maxHeartbeats 1000000 in
theorem implFewest_any (n : Int) (rs : List Int) (ro : Option Addr) (rc K : Nat) (p : Nat → Bool) (w : World) (hr : IntsAt w ro rs) (hrl : rs.length ≤ 1048576) (hE : ∀ args w, Sem.run Try.prog (callFunc K args) w = .ok (.enter K args) w) (hK : isGraphB rs.length rs = true → TestOf K rs ro rc p) :
    Calls Try.prog 108 #[.agg #[.int .i64 n, .slice ro rs.length rc], .func (.func K) #[] #[]] w fun e w' => e = .returned (.int .i64 (fewestV n rs p)) ∧ Below w.heap.size w w' := by
  go_enter Try.func108, Try.ntmps108
  go_wp2_with fail
  generalize hW : w.alloc _ = W1
  obtain ⟨hB, -, k0⟩ := alloc1 hW
  replace hr := hr.below hB
  have hb0 := k0.lt
  have hc0 := k0.cell 0
  have hc1 := k0.cell 1
  simp at hc0 hc1
  clear hW k0
  have HhB := Lib.hid hB
  clear hB
  obtain ⟨m, hm0⟩ : ∃ m : Later W1, m.w = W1 := ⟨Later.refl _, rfl⟩
  refine (fun h => hm0 ▸ h) ?_
  clear hm0
  cases hv : isGraphB n rs
  · have HE : Hid (fewestV n rs p = -1) := by show fewestV n rs p = -1; unfold fewestV; rw [hv]; rfl
    go_wp2_with (first | (go_at_call 72; refine (Calls.later m (implIsGraph_any _ _ _ _ _ (hr.later m) hrl)).mono ?_; rintro e w' ⟨rfl, m, rfl⟩))
    go_ret
    exact ⟨retI (by rw [HE.out]), below_later HhB.out m⟩
  · obtain ⟨rfl, g⟩ := VG.of hv
    replace hK := Lib.hid (hK hv)
    have hg2 := g.le
    obtain ⟨hp1, hp2⟩ := g.pow
    have HE : Hid (fewestV rs.length rs p = fewestTo p (2 ^ rs.length)) := by show fewestV rs.length rs p = _; unfold fewestV; rw [if_pos hv]
    have HT : Hid (2 ^ rs.length = 2 ^ rs.length - 1 + 1) := by show _ = _; omega
    have HS : Hid (∀ S, S < 2 ^ rs.length - 1 + 1 → S < 2 ^ rs.length) := fun S h => by omega
    have hAll := fun m : Later W1 => implAll_any rs.length (.slice ro rs.length rc) hg2 m.w
    generalize hT : 2 ^ rs.length - 1 = T at *
    have hT1 : 1 ≤ T := by omega
    have hT2 : T ≤ 127 := by omega
    replace HE := Lib.hid (HE.out.trans (congrArg (fun x => fewestTo p x) HT.out))
    clear hT hp1 hp2
    go_wp2_with (first | (go_at_call 72; refine (Calls.later m (implIsGraph_any _ _ _ _ _ (hr.later m) hrl)).mono ?_; rintro e w' ⟨rfl, m, rfl⟩) | (go_at_call 82; refine (Calls.later m (hAll m)).mono ?_; rintro e w' ⟨rfl, m, rfl⟩))
    go_loopw [5, 13] (fun b i wr => (∃ m : Later W1, wr = m.w) ∧ ∃ k : Nat, k ≤ T + 1 ∧ b = .int .i64 (fewestTo p k) ∧ i = .int .i64 k) (fun _ i _ => T + 1 - (intOf i).toNat)
    case atStart => exact ⟨⟨m, rfl⟩, 0, by omega, rfl, rfl⟩
    case round =>
      obtain ⟨⟨m, rfl⟩, k, hk, rfl, rfl⟩ := hrel
      by_cases hlt : k < T + 1
      · have hn1 := cnt_le k
        have hK' := fun m : Later W1 => hK.out k m.w (hr.later m) (HS.out k (by omega))
        have H0 := Lib.hid (fun h => fewestTo_skip (p := p) (k := k) h)
        have H1 := Lib.hid (fun h => fewestTo_new (p := p) (k := k) h)
        have H2 := Lib.hid (fun L h => fewestTo_keep (p := p) (k := k) (L := L) h)
        rcases fewestTo_form p k with hF | ⟨L, hL, hF⟩
        · rw [hF] at H0 H1 ⊢
          clear H2
          have HhF := Lib.hid hF
          clear hF
          cases hp : p k <;> simp only [hp] at hK'
          · go_wp2_with fail
            refine (Calls.later m (hK' m)).mono ?_
            rintro e w' ⟨rfl, m, rfl⟩
            go_wp2_with fail
            go_roundw
            case rel => exact ⟨⟨m, rfl⟩, k + 1, by omega, by rw [H0.out hp], by go_num⟩
            case measure => simp [intOf]; omega
          · go_wp2_with fail
            refine (Calls.later m (hK' m)).mono ?_
            rintro e w' ⟨rfl, m, rfl⟩
            go_wp2_with fail
            go_roundw
            case rel => exact ⟨⟨m, rfl⟩, k + 1, by omega, by rw [H1.out hp (.inl (by omega))], by go_num⟩
            case measure => simp [intOf]; omega
        · rw [hF] at H0 H1 ⊢
          replace H2 := Lib.hid (H2.out L hF)
          rw [hF] at H2
          have HhF := Lib.hid hF
          clear hF
          have hn2 := cnt_le L
          by_cases hc : cnt k < cnt L
          · cases hp : p k <;> simp only [hp] at hK'
            · go_wp2_with (first | (go_at_call 150; refine (Calls.later m (implCount_any _ (by omega) _)).mono ?_; rintro e w' ⟨rfl, m, rfl⟩))
              refine (Calls.later m (hK' m)).mono ?_
              rintro e w' ⟨rfl, m, rfl⟩
              go_wp2_with fail
              go_roundw
              case rel => exact ⟨⟨m, rfl⟩, k + 1, by omega, by rw [H0.out hp], by go_num⟩
              case measure => simp [intOf]; omega
            · go_wp2_with (first | (go_at_call 150; refine (Calls.later m (implCount_any _ (by omega) _)).mono ?_; rintro e w' ⟨rfl, m, rfl⟩))
              refine (Calls.later m (hK' m)).mono ?_
              rintro e w' ⟨rfl, m, rfl⟩
              go_wp2_with fail
              go_roundw
              case rel => exact ⟨⟨m, rfl⟩, k + 1, by omega, by rw [H1.out hp (.inr hc)], by go_num⟩
              case measure => simp [intOf]; omega
          · go_wp2_with (first | (go_at_call 150; refine (Calls.later m (implCount_any _ (by omega) _)).mono ?_; rintro e w' ⟨rfl, m, rfl⟩))
            go_roundw
            case rel => exact ⟨⟨m, rfl⟩, k + 1, by omega, by rw [H2.out hc], by go_num⟩
            case measure => simp [intOf]; omega
      · go_wp2_with fail
        go_ret
        obtain rfl : k = T + 1 := by omega
        exact ⟨retI (by rw [HE.out]), below_later HhB.out m⟩





end Go.Proofs.Ytkefkmjfjghggaa
