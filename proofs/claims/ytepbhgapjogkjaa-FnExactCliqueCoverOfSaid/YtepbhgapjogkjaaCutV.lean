/-
  CutVertices on both sides. For at most 2^20 rows.
-/
import Derived.Test.YtepbhgapjogkjaaPartsW
import Derived.Test.YtepbhgapjogkjaaAdd
import Derived.Deep.RegionHeld3
namespace Go.Proofs.Ytepbhgapjogkjaa
open Go.RowKit

/-- The numbers below k for which something holds, as a set. -/
def accB (p : Nat → Bool) : Nat → Nat
  | 0 => 0
  | k + 1 => if p k = true then accB p k ||| 2 ^ k else accB p k
theorem accB_lt (p : Nat → Bool) : ∀ k, accB p k < 2 ^ k
  | 0 => by simp [accB]
  | k + 1 => by
    have ih := accB_lt p k
    have e : 2 ^ (k + 1) = 2 ^ k + 2 ^ k := by omega
    unfold accB; split
    · rw [or_pow _ _ ih]; omega
    · omega
theorem accB_yes {p : Nat → Bool} {k : Nat} (h : p k = true) : accB p (k + 1) = accB p k ||| 2 ^ k := by show (if p k = true then _ else _) = _; rw [if_pos h]
theorem accB_no {p : Nat → Bool} {k : Nat} (h : p k = false) : accB p (k + 1) = accB p k := by show (if p k = true then _ else _) = _; rw [if_neg (by rw [h]; decide)]
theorem accB_add {p : Nat → Bool} {k : Nat} (h : p k = true) : accB p (k + 1) = accB p k + 2 ^ k := by rw [accB_yes h, or_pow _ _ (accB_lt p k)]
theorem accB_bit (p : Nat → Bool) (i : Nat) : ∀ k, (accB p k).testBit i = (decide (i < k) && p i)
  | 0 => by simp [accB]
  | k + 1 => by
    have ih := accB_bit p i k
    cases h : p k
    · rw [accB_no h, ih]
      by_cases e : i = k
      · subst e; simp [h]
      · have : (i < k + 1) ↔ i < k := by omega
        simp [this]
    · rw [accB_yes h, Nat.testBit_or, ih, Nat.testBit_two_pow]
      by_cases e : k = i
      · subst e; simp [h]
      · have : (i < k + 1) ↔ i < k := by omega
        simp [this, e]

/-- Is v a vertex without which there are more parts? -/
def cutP (rs : List Int) (v : Nat) : Bool := decide ((partsOf rs (2 ^ rs.length - 1)).length < (partsOf rs (2 ^ rs.length - 1 - 2 ^ v)).length)
def cutVN (n : Int) (rs : List Int) : Int := if isGraphB n rs = true then accB (cutP rs) rs.length else 0
theorem cutVN_no {n : Int} {rs : List Int} (h : isGraphB n rs = false) : cutVN n rs = 0 := by unfold cutVN; rw [if_neg (by rw [h]; decide)]
theorem cutVN_of {n : Int} {rs : List Int} (h : isGraphB n rs = true) : cutVN n rs = accB (cutP rs) rs.length := by unfold cutVN; rw [if_pos h]

/-- All vertices but one. -/
theorem but_facts {N v : Nat} (hN : N ≤ 7) (hv : v < N) : 2 ^ N - 1 - 2 ^ v < 2 ^ N ∧ nDiff (2 ^ N - 1) (2 ^ v) = 2 ^ N - 1 - 2 ^ v ∧ 2 ^ v ≤ 2 ^ N - 1 := by
  have h1 : 2 ^ N ≤ 128 := Nat.pow_le_pow_right (n := 2) (by decide) hN
  have hs : subN (2 ^ v) (2 ^ N - 1) := pow_sub (all_bit.2 hv)
  have h2 := hs.le
  have := Nat.two_pow_pos N
  have := Nat.two_pow_pos v
  exact ⟨by omega, nDiff_minus (by omega) hs, h2⟩

set_option maxRecDepth 100000 in
set_option maxHeartbeats 2000000 in
theorem specCutV_any (n : Int) (rs : List Int) (ro : Option Addr) (rc : Nat) (w : World) (hr : IntsAt w ro rs) (hrl : rs.length ≤ 1048576) :
    Calls Try.prog 32 #[.agg #[.int .i64 n, .slice ro rs.length rc]] w fun e w' => e = .returned (.int .i64 (cutVN n rs)) ∧ Below w.heap.size w w' := by
  go_enter Try.func32, Try.ntmps32
  go_wp2_with fail
  generalize hW : w.alloc _ = W1
  obtain ⟨hB, -, k0⟩ := alloc1 hW
  replace hr := hr.below hB
  have hb0 := k0.lt
  have hc0 := k0.cell 0
  have hc1 := k0.cell 1
  simp at hc0 hc1
  clear hW k0
  have HhB := Lib.hid hB
  clear hB
  cases hv : isGraphB n rs
  · have HE := Lib.hid (cutVN_no hv)
    go_loopw [3, 4] (fun b i wr => (∃ m : Later W1, wr = m.w) ∧ b = .int .i64 0 ∧ i = .int .i64 0) (fun _ _ _ => 0)
    case atStart => exact ⟨⟨Later.refl _, rfl⟩, rfl, rfl⟩
    case round =>
      obtain ⟨⟨m, rfl⟩, rfl, rfl⟩ := hrel
      by_cases hn0 : 0 < n
      all_goals
        go_wp2_with (first | (go_at_call 68; refine (Calls.later m (specIsGraph_any _ _ _ _ _ (hr.later m) hrl)).mono ?_; rintro e w' ⟨rfl, m, rfl⟩))
        go_ret
        exact ⟨retI (by rw [HE.out]), below_later HhB.out m⟩
  · have HE := Lib.hid (cutVN_of hv)
    obtain ⟨rfl, g⟩ := VG.of hv
    have hg1 := g.pos
    have hg2 := g.le
    obtain ⟨hp1, hp2⟩ := g.pow
    have hq := pwN_small rs.length (by omega)
    have q1 : IntKind.i64.wrap (((2 ^ rs.length : Nat) : Int) - 1) = ((2 ^ rs.length - 1 : Nat) : Int) := by rw [IntKind_i64_in _ (by omega) (by omega)]; omega
    have HA : Hid (∀ (T : Nat) (w : World), T < 2 ^ rs.length → IntsAt w ro rs → Calls Try.prog 85 #[.agg #[.int .i64 rs.length, .slice ro rs.length rc], .int .i64 T] w (RetE w (ints (partsOf rs T)))) := Lib.hid fun T w h1 h => specParts_any rs T ro rc w h hv h1
    have hT1 : 2 ^ rs.length - 1 < 2 ^ rs.length := by omega
    go_loopw [3, 4] (fun b i wr => (∃ m : Later W1, wr = m.w) ∧ ∃ k : Nat, k ≤ rs.length ∧ b = .int .i64 (accB (cutP rs) k) ∧ i = .int .i64 k) (fun _ i _ => rs.length - (intOf i).toNat)
    case atStart => exact ⟨⟨Later.refl _, rfl⟩, 0, by omega, rfl, rfl⟩
    case round =>
      obtain ⟨⟨m, rfl⟩, k, hk, rfl, rfl⟩ := hrel
      by_cases hlt : k < rs.length
      · obtain ⟨b1, -, b3⟩ := but_facts hg2 hlt
        have q2 := pwN_small k (by omega)
        have q3 : IntKind.i64.wrap (((2 ^ rs.length - 1 : Nat) : Int) - ((2 ^ k : Nat) : Int)) = ((2 ^ rs.length - 1 - 2 ^ k : Nat) : Int) := by rw [IntKind_i64_in _ (by omega) (by omega)]; omega
        have HY := Lib.hid (fun h => accB_add (p := cutP rs) (k := k) h)
        have HN := Lib.hid (fun h => accB_no (p := cutP rs) (k := k) h)
        have hal := accB_lt (cutP rs) k
        have hcp : cutP rs k = decide ((ints (partsOf rs (2 ^ rs.length - 1))).length < (ints (partsOf rs (2 ^ rs.length - 1 - 2 ^ k))).length) := by rw [ints_len, ints_len]; rfl
        have q4 : wrap64 ((accB (cutP rs) k : Int) + ((2 ^ k : Nat) : Int)) = ((accB (cutP rs) k + 2 ^ k : Nat) : Int) := by
          have : 2 ^ k ≤ 2 ^ 6 := Nat.pow_le_pow_right (by decide) (by omega)
          simp only [wrap64]; omega
        have hl1 := partsOf_len rs (2 ^ rs.length - 1)
        have hl2 := partsOf_len rs (2 ^ rs.length - 1 - 2 ^ k)
        rw [← ints_len] at hl1 hl2
        generalize cutP rs k = c at *
        generalize accB (cutP rs) k = ac at *
        generalize 2 ^ rs.length - 1 - 2 ^ k = T2 at *
        generalize 2 ^ rs.length - 1 = T1 at *
        generalize 2 ^ rs.length = T0 at *
        generalize 2 ^ k = T3 at *
        go_wp2_with (first | (go_at_call 68; refine (Calls.later m (specIsGraph_any _ _ _ _ _ (hr.later m) hrl)).mono ?_; rintro e w' ⟨rfl, m, rfl⟩))
        have hS' : ∀ w', Below W1.heap.size W1 w' → Below W1.heap.size W1 w' ∧ w'.cell? ⟨w.heap.size, 0, none⟩ = some (.int .i64 rs.length) ∧ w'.cell? ⟨w.heap.size, 1, none⟩ = some (.slice ro rs.length rc) := fun w' h => ⟨h, (h.cell hb0).trans hc0, (h.cell hb0).trans hc1⟩
        go_region_held3 (fun w' => Below W1.heap.size W1 w' ∧ w'.cell? ⟨w.heap.size, 0, none⟩ = some (.int .i64 rs.length) ∧ w'.cell? ⟨w.heap.size, 1, none⟩ = some (.slice ro rs.length rc))
          (exact hS' _ (by first | exact m.below.drew | assumption))
          (first
            | (go_at_call 85; go_must (refine (HA.out _ _ (by assumption) (hr.below (And.left (by assumption : Below W1.heap.size W1 _ ∧ _)))).mono ?_); rintro e w3 ⟨ao, cap, rfl, hB3, -⟩; have hB5 := below_more (And.left (by assumption : Below W1.heap.size W1 _ ∧ _)) hB3))
        all_goals
          clear hS' hB3
          obtain ⟨m, rfl⟩ : ∃ m2 : Later W1, m2.w = w3 := ⟨⟨w3, hB5⟩, rfl⟩
          clear hB5
          rw [← hcp]
          cases hc : c
          · go_wp2_with fail
            go_roundw
            case rel => exact ⟨⟨m, rfl⟩, k + 1, by omega, by rw [HN.out hc], by go_num⟩
            case measure => simp [intOf]; omega
          · go_wp2_with fail
            go_roundw
            case rel => exact ⟨⟨m, rfl⟩, k + 1, by omega, by rw [HY.out hc, ← q4], by go_num⟩
            case measure => simp [intOf]; omega
      · go_wp2_with (first | (go_at_call 68; refine (Calls.later m (specIsGraph_any _ _ _ _ _ (hr.later m) hrl)).mono ?_; rintro e w' ⟨rfl, m, rfl⟩))
        go_ret
        obtain rfl : k = rs.length := by omega
        exact ⟨retI (by rw [HE.out]), below_later HhB.out m⟩

set_option maxRecDepth 100000 in
set_option maxHeartbeats 2000000 in
theorem implCutV_any (n : Int) (rs : List Int) (ro : Option Addr) (rc : Nat) (w : World) (hr : IntsAt w ro rs) (hrl : rs.length ≤ 1048576) :
    Calls Try.prog 33 #[.agg #[.int .i64 n, .slice ro rs.length rc]] w fun e w' => e = .returned (.int .i64 (cutVN n rs)) ∧ Below w.heap.size w w' := by
  go_enter Try.func33, Try.ntmps33
  go_wp2_with fail
  generalize hW : w.alloc _ = W1
  obtain ⟨hB, -, k0⟩ := alloc1 hW
  replace hr := hr.below hB
  have hb0 := k0.lt
  have hc0 := k0.cell 0
  have hc1 := k0.cell 1
  simp at hc0 hc1
  clear hW k0
  have HhB := Lib.hid hB
  clear hB
  obtain ⟨m, hm0⟩ : ∃ m : Later W1, m.w = W1 := ⟨Later.refl _, rfl⟩
  refine (fun h => hm0 ▸ h) ?_
  clear hm0
  cases hv : isGraphB n rs
  · have HE := Lib.hid (cutVN_no hv)
    go_wp2_with (first | (go_at_call 77; refine (Calls.later m (implIsGraph_any _ _ _ _ _ (hr.later m) hrl)).mono ?_; rintro e w' ⟨rfl, m, rfl⟩))
    go_ret
    exact ⟨retI (by rw [HE.out]), below_later HhB.out m⟩
  · have HE := Lib.hid (cutVN_of hv)
    obtain ⟨rfl, g⟩ := VG.of hv
    have hg1 := g.pos
    have hg2 := g.le
    obtain ⟨hp1, hp2⟩ := g.pow
    have HA : Hid (∀ (T : Nat) (w : World), T < 2 ^ rs.length → IntsAt w ro rs → Calls Try.prog 86 #[.agg #[.int .i64 rs.length, .slice ro rs.length rc], .int .i64 T] w (RetE w (ints (partsOf rs T)))) := Lib.hid fun T w h1 h => implParts_any rs T ro rc w h hv h1
    have hT1 : 2 ^ rs.length - 1 < 2 ^ rs.length := by omega
    have HL : Hid (∀ w : World, Calls Try.prog 63 #[.agg #[.int .i64 rs.length, .slice ro rs.length rc]] w fun e w' => e = .returned (.int .i64 (2 ^ rs.length - 1 : Nat)) ∧ Below w.heap.size w w') := Lib.hid fun w => implAll_any _ _ hg2 w
    go_wp2_with (first | (go_at_call 77; refine (Calls.later m (implIsGraph_any _ _ _ _ _ (hr.later m) hrl)).mono ?_; rintro e w' ⟨rfl, m, rfl⟩))
    go_loopw [3, 10] (fun b i wr => (∃ m : Later W1, wr = m.w) ∧ ∃ k : Nat, k ≤ rs.length ∧ b = .int .i64 (accB (cutP rs) k) ∧ i = .int .i64 k) (fun _ i _ => rs.length - (intOf i).toNat)
    case atStart => exact ⟨⟨m, rfl⟩, 0, by omega, rfl, rfl⟩
    case round =>
      obtain ⟨⟨m, rfl⟩, k, hk, rfl, rfl⟩ := hrel
      by_cases hlt : k < rs.length
      · obtain ⟨b1, b2, b3⟩ := but_facts hg2 hlt
        have q2 := pwN_small k (by omega)
        have q3 : bits .andNot .i64 ((2 ^ rs.length - 1 : Nat) : Int) ((2 ^ k : Nat) : Int) = ((2 ^ rs.length - 1 - 2 ^ k : Nat) : Int) := by rw [bits_andNot_nat _ _ (by omega), b2]
        have HY := Lib.hid (fun h => accB_yes (p := cutP rs) (k := k) h)
        have HN := Lib.hid (fun h => accB_no (p := cutP rs) (k := k) h)
        have hal := accB_lt (cutP rs) k
        have hcp : cutP rs k = decide ((ints (partsOf rs (2 ^ rs.length - 1))).length < (ints (partsOf rs (2 ^ rs.length - 1 - 2 ^ k))).length) := by rw [ints_len, ints_len]; rfl
        have q4 : bits .or .i64 (accB (cutP rs) k : Int) ((2 ^ k : Nat) : Int) = ((accB (cutP rs) k ||| 2 ^ k : Nat) : Int) := by
          have : 2 ^ k ≤ 2 ^ 6 := Nat.pow_le_pow_right (by decide) (by omega)
          rw [bits_or_nat _ _ (by omega) (by omega)]
        have hl1 := partsOf_len rs (2 ^ rs.length - 1)
        have hl2 := partsOf_len rs (2 ^ rs.length - 1 - 2 ^ k)
        rw [← ints_len] at hl1 hl2
        generalize cutP rs k = c at *
        generalize accB (cutP rs) k ||| 2 ^ k = ac' at *
        generalize accB (cutP rs) k = ac at *
        generalize 2 ^ rs.length - 1 - 2 ^ k = T2 at *
        generalize 2 ^ rs.length - 1 = T1 at *
        generalize 2 ^ rs.length = T0 at *
        generalize 2 ^ k = T3 at *
        go_wp2_with fail
        have hS' : ∀ w', Below W1.heap.size W1 w' → Below W1.heap.size W1 w' ∧ w'.cell? ⟨w.heap.size, 0, none⟩ = some (.int .i64 rs.length) ∧ w'.cell? ⟨w.heap.size, 1, none⟩ = some (.slice ro rs.length rc) := fun w' h => ⟨h, (h.cell hb0).trans hc0, (h.cell hb0).trans hc1⟩
        go_region_held3 (fun w' => Below W1.heap.size W1 w' ∧ w'.cell? ⟨w.heap.size, 0, none⟩ = some (.int .i64 rs.length) ∧ w'.cell? ⟨w.heap.size, 1, none⟩ = some (.slice ro rs.length rc))
          (exact hS' _ (by first | exact m.below.drew | assumption))
          (first
            | (go_at_call 63; go_must (refine (HL.out _).mono ?_); rintro e w3 ⟨rfl, hB3⟩; have hB5 := below_more (And.left (by assumption : Below W1.heap.size W1 _ ∧ _)) hB3)
            | (go_at_call 86; go_must (refine (HA.out _ _ (by assumption) (hr.below (And.left (by assumption : Below W1.heap.size W1 _ ∧ _)))).mono ?_); rintro e w3 ⟨ao, cap, rfl, hB3, -⟩; have hB5 := below_more (And.left (by assumption : Below W1.heap.size W1 _ ∧ _)) hB3))
        all_goals
          clear hS' hB3
          obtain ⟨m, rfl⟩ : ∃ m2 : Later W1, m2.w = w3 := ⟨⟨w3, hB5⟩, rfl⟩
          clear hB5
          rw [← hcp]
          cases hc : c
          · go_wp2_with fail
            go_roundw
            case rel => exact ⟨⟨m, rfl⟩, k + 1, by omega, by rw [HN.out hc], by go_num⟩
            case measure => simp [intOf]; omega
          · go_wp2_with fail
            go_roundw
            case rel => exact ⟨⟨m, rfl⟩, k + 1, by omega, by rw [HY.out hc, ← q4], by go_num⟩
            case measure => simp [intOf]; omega
      · go_wp2_with fail
        go_ret
        obtain rfl : k = rs.length := by omega
        exact ⟨retI (by rw [HE.out]), below_later HhB.out m⟩

end Go.Proofs.Ytepbhgapjogkjaa
