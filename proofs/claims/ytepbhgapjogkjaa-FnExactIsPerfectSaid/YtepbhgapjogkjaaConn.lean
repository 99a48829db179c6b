/-
  IsConnected on both sides; distances are the same both ways; the part of a graph is a graph. For at most 2^20 rows.
-/
import Derived.Test.YtepbhgapjogkjaaIndI
import Derived.Test.YtepbhgapjogkjaaDist
import Derived.Deep.RegionHeld3
namespace Go.Proofs.Ytepbhgapjogkjaa
open Go.RowKit

/-! ### The part of a graph is a graph -/
theorem indRow_bit (rs : List Int) (l : List Nat) (i j : Nat) : ∀ k, (indRow rs l i k).testBit j = (decide (j < k) && (gn rs (eln l i)).testBit (eln l j))
  | 0 => by simp [indRow]
  | k + 1 => by
    have ih := indRow_bit rs l i j k
    cases h : (gn rs (eln l i)).testBit (eln l k)
    · rw [indRow_no h, ih]
      by_cases e : j = k
      · subst e; simp [h]
      · have : (j < k + 1) ↔ j < k := by omega
        simp [this]
    · rw [indRow_yes h, ← or_pow _ _ (indRow_lt rs l i k), Nat.testBit_or, ih, Nat.testBit_two_pow]
      by_cases e : k = j
      · subst e; simp [h]
      · have : (j < k + 1) ↔ j < k := by omega
        simp [this, e]
theorem ind_at {rs : List Int} {S v : Nat} (hv : v < cnt S) : gi (ind rs S) v = (indRow rs (els S) v (cnt S) : Int) := by
  unfold ind indTo gi
  simp [hv]
  rfl
theorem ind_gn {rs : List Int} {S v : Nat} (hv : v < cnt S) : gn (ind rs S) v = indRow rs (els S) v (cnt S) := by unfold gn; rw [ind_at hv, Int.toNat_natCast]
theorem ind_graph {rs : List Int} (g : VG rs) {S : Nat} (hS : S < 2 ^ rs.length) (h0 : 0 < S) : isGraphB (cnt S) (ind rs S) = true := by
  have hl := ind_len rs S
  have hc := cnt_le S
  have h1 : 0 < cnt S := cnt_pos hS g.le h0
  have key := isGraphB_mk (rs := ind rs S) (by omega) (by omega) (fun v hv => ?_) (fun v hv u hu => ?_)
  · rw [hl] at key; exact key
  · rw [hl] at hv
    have h2 := indRow_lt rs (els S) v (cnt S)
    have h3 := g.irr _ (els_lt hS g.le hv)
    unfold rowOk
    rw [ind_at hv, hl, pwN_small _ (by omega), hasN_nat, indRow_bit, h3]
    simp only [Bool.and_false, Bool.not_false, Bool.and_true, Bool.and_eq_true, decide_eq_true_eq]
    omega
  · rw [hl] at hv
    have hu' : u < cnt S := by omega
    rw [ind_at hv, ind_at hu', hasN_nat, hasN_nat, indRow_bit, indRow_bit, decide_eq_true hv, decide_eq_true hu', g.sym _ (els_lt hS g.le hv) _ (els_lt hS g.le hu')]

/-! ### Distances both ways -/
theorem reach_bit {rs : List Int} (g : VG rs) {v n u : Nat} (hv : v < rs.length) : (reach rs v (n + 1)).testBit u = true ↔ (reach rs v n).testBit u = true ∨ ∃ a, (reach rs v n).testBit a = true ∧ (gn rs a).testBit u = true := by
  rw [reach_succ g hv, around_bit (by have := reach_lt hv n (rs := rs); have := g.pow.1; omega)]
theorem reach_front {rs : List Int} (g : VG rs) : ∀ n v u, v < rs.length → ((reach rs v (n + 1)).testBit u = true ↔ (reach rs v n).testBit u = true ∨ ∃ b, (gn rs v).testBit b = true ∧ (reach rs b n).testBit u = true)
  | 0, v, u, hv => by
    rw [reach_bit g hv]
    have e : ∀ x y : Nat, (reach rs x 0).testBit y = true ↔ x = y := fun x y => pow_bit
    simp only [e]
    constructor
    · rintro (h | ⟨a, rfl, h⟩)
      · exact .inl h
      · exact .inr ⟨u, h, rfl⟩
    · rintro (h | ⟨b, h, rfl⟩)
      · exact .inl h
      · exact .inr ⟨v, rfl, h⟩
  | n + 1, v, u, hv => by
    have hb : ∀ b, (gn rs v).testBit b = true → b < rs.length := fun b h => testBit_lt (g.lt v hv) h
    rw [reach_bit g hv]
    constructor
    · rintro (h | ⟨a, h1, h2⟩)
      · exact .inl h
      · rcases (reach_front g n v a hv).1 h1 with h3 | ⟨b, h3, h4⟩
        · exact .inl ((reach_bit g hv).2 (.inr ⟨a, h3, h2⟩))
        · exact .inr ⟨b, h3, (reach_bit g (hb b h3)).2 (.inr ⟨a, h4, h2⟩)⟩
    · rintro (h | ⟨b, h1, h2⟩)
      · exact .inl h
      · rcases (reach_bit g (hb b h1)).1 h2 with h3 | ⟨a, h3, h4⟩
        · exact .inl ((reach_front g n v u hv).2 (.inr ⟨b, h1, h3⟩))
        · exact .inr ⟨a, (reach_front g n v a hv).2 (.inr ⟨b, h1, h3⟩), h4⟩
theorem reach_sym {rs : List Int} (g : VG rs) : ∀ n v u, v < rs.length → u < rs.length → ((reach rs v n).testBit u = true ↔ (reach rs u n).testBit v = true)
  | 0, v, u, _, _ => by
    show (2 ^ v).testBit u = true ↔ (2 ^ u).testBit v = true
    rw [pow_bit, pow_bit]; exact eq_comm
  | n + 1, v, u, hv, hu => by
    rw [reach_bit g hv, reach_front g n u v hu, reach_sym g n v u hv hu]
    constructor
    · rintro (h | ⟨a, h1, h2⟩)
      · exact .inl h
      · have ha := testBit_lt (reach_lt hv n) h1
        exact .inr ⟨a, by rw [g.sym u hu a ha]; exact h2, (reach_sym g n v a hv ha).1 h1⟩
    · rintro (h | ⟨a, h1, h2⟩)
      · exact .inl h
      · have ha := testBit_lt (g.lt u hu) h1
        exact .inr ⟨a, (reach_sym g n v a hv ha).2 h2, by rw [g.sym a ha u hu]; exact h1⟩
theorem distV_sym {rs : List Int} (g : VG rs) {v u : Nat} (hv : v < rs.length) (hu : u < rs.length) : distV rs v u = distV rs u v := by
  have e : (fun n => (reach rs v n).testBit u) = fun n => (reach rs u n).testBit v := by
    funext n
    rw [Bool.eq_iff_iff]; exact reach_sym g n v u hv hu
  unfold distV
  rw [e]
theorem distV_self {rs : List Int} {v : Nat} (hv : v < rs.length) : distV rs v v = 0 := distV_hit (n := 0) (by omega) (fun j h => by omega) (pow_bit.2 rfl)

/-! ### IsConnected -/
def connN (rs : List Int) : Bool := decide ((partsOf rs (2 ^ rs.length - 1)).length = 1)
def connB (n : Int) (rs : List Int) : Bool := isGraphB n rs && connN rs
theorem connB_no {n : Int} {rs : List Int} (h : isGraphB n rs = false) : connB n rs = false := by unfold connB; rw [h]; rfl
theorem connB_of {n : Int} {rs : List Int} (h : isGraphB n rs = true) : connB n rs = (((partsOf rs (2 ^ rs.length - 1)).length : Int) == 1) := by
  unfold connB connN; rw [h, Bool.true_and, Bool.eq_iff_iff, decide_eq_true_eq, beq_iff_eq]; omega

set_option maxRecDepth 100000 in
set_option maxHeartbeats 2000000 in
theorem specConn_any (n : Int) (rs : List Int) (ro : Option Addr) (rc : Nat) (w : World) (hr : IntsAt w ro rs) (hrl : rs.length ≤ 1048576) :
    Calls Try.prog 89 #[.agg #[.int .i64 n, .slice ro rs.length rc]] w fun e w' => e = .returned (.bool (connB n rs)) ∧ Below w.heap.size w w' := by
  go_enter Try.func89, Try.ntmps89
  go_wp2_with fail
  generalize hW : w.alloc _ = W1
  obtain ⟨hB, -, k0⟩ := alloc1 hW
  replace hr := hr.below hB
  have hb0 := k0.lt
  have hc0 := k0.cell 0
  have hc1 := k0.cell 1
  simp at hc0 hc1
  clear hW k0
  have HhB := Lib.hid hB
  clear hB
  obtain ⟨m, hm0⟩ : ∃ m : Later W1, m.w = W1 := ⟨Later.refl _, rfl⟩
  refine (fun h => hm0 ▸ h) ?_
  clear hm0
  cases hv : isGraphB n rs
  · have HE := Lib.hid (connB_no hv)
    have hG := fun m : Later W1 => specIsGraph_any n rs ro rc m.w (hr.later m) hrl
    rw [hv] at hG
    refine wp_region_later m rfl (by kernel_rfl) (by kernel_rfl) ?_
    repeat (go_big_quiet_step ((first | (go_at_call 68; exact Calls.later _ (hG _)))))
    refine wpQuiet_nil ?_
    rintro _ ⟨m, rfl⟩
    go_wp2_with fail
    go_ret
    exact ⟨retB (by rw [HE.out]), below_later HhB.out m⟩
  · have HE := Lib.hid (connB_of hv)
    obtain ⟨rfl, g⟩ := VG.of hv
    have hg1 := g.pos
    have hg2 := g.le
    obtain ⟨hp1, hp2⟩ := g.pow
    have hq := pwN_small rs.length (by omega)
    have q1 : IntKind.i64.wrap (((2 ^ rs.length : Nat) : Int) - 1) = ((2 ^ rs.length - 1 : Nat) : Int) := by rw [IntKind_i64_in _ (by omega) (by omega)]; omega
    have HA : Hid (∀ w : World, IntsAt w ro rs → Calls Try.prog 85 #[.agg #[.int .i64 rs.length, .slice ro rs.length rc], .int .i64 (2 ^ rs.length - 1 : Nat)] w (RetE w (ints (partsOf rs (2 ^ rs.length - 1))))) := Lib.hid fun w h => specParts_any rs (2 ^ rs.length - 1) ro rc w h hv (all_lt _)
    have HG : Hid (∀ w : World, IntsAt w ro rs → Calls Try.prog 68 #[.agg #[.int .i64 rs.length, .slice ro rs.length rc]] w fun e w' => e = .returned (.bool true) ∧ Below w.heap.size w w') := Lib.hid fun w h => by
      have := specIsGraph_any rs.length rs ro rc w h hrl
      rwa [hv] at this
    have hl1 := partsOf_len rs (2 ^ rs.length - 1)
    rw [← ints_len] at hl1 HE
    generalize ints (partsOf rs (2 ^ rs.length - 1)) = ps at *
    generalize 2 ^ rs.length - 1 = T1 at *
    generalize 2 ^ rs.length = T0 at *
    have hS' : ∀ w', Below W1.heap.size W1 w' → Below W1.heap.size W1 w' ∧ w'.cell? ⟨w.heap.size, 0, none⟩ = some (.int .i64 rs.length) ∧ w'.cell? ⟨w.heap.size, 1, none⟩ = some (.slice ro rs.length rc) := fun w' h => ⟨h, (h.cell hb0).trans hc0, (h.cell hb0).trans hc1⟩
    go_region_held3 (fun w' => Below W1.heap.size W1 w' ∧ w'.cell? ⟨w.heap.size, 0, none⟩ = some (.int .i64 rs.length) ∧ w'.cell? ⟨w.heap.size, 1, none⟩ = some (.slice ro rs.length rc))
      (exact hS' _ (by first | exact m.below.drew | assumption))
      (first
        | (go_at_call 68; go_must (refine (HG.out _ (hr.below (And.left (by assumption : Below W1.heap.size W1 _ ∧ _)))).mono ?_); rintro e w3 ⟨rfl, hB3⟩; have hB5 := below_more (And.left (by assumption : Below W1.heap.size W1 _ ∧ _)) hB3)
        | (go_at_call 85; go_must (refine (HA.out _ (hr.below (And.left (by assumption : Below W1.heap.size W1 _ ∧ _)))).mono ?_); rintro e w3 ⟨ao, cap, rfl, hB3, -⟩; have hB5 := below_more (And.left (by assumption : Below W1.heap.size W1 _ ∧ _)) hB3))
    all_goals
      have hBB := below_more' HhB.out hB5
      clear hS' hB3 hB5
      have HhBB := Lib.hid hBB
      clear hBB
      go_wp2_with fail
      go_ret
      exact ⟨retB (by rw [HE.out]), HhBB.out⟩

set_option maxRecDepth 100000 in
set_option maxHeartbeats 2000000 in
theorem implConn_any (n : Int) (rs : List Int) (ro : Option Addr) (rc : Nat) (w : World) (hr : IntsAt w ro rs) (hrl : rs.length ≤ 1048576) :
    Calls Try.prog 91 #[.agg #[.int .i64 n, .slice ro rs.length rc]] w fun e w' => e = .returned (.bool (connB n rs)) ∧ Below w.heap.size w w' := by
  go_enter Try.func91, Try.ntmps91
  go_wp2_with fail
  generalize hW : w.alloc _ = W1
  obtain ⟨hB, -, k0⟩ := alloc1 hW
  replace hr := hr.below hB
  have hb0 := k0.lt
  have hc0 := k0.cell 0
  have hc1 := k0.cell 1
  simp at hc0 hc1
  clear hW k0
  have HhB := Lib.hid hB
  clear hB
  obtain ⟨m, hm0⟩ : ∃ m : Later W1, m.w = W1 := ⟨Later.refl _, rfl⟩
  refine (fun h => hm0 ▸ h) ?_
  clear hm0
  cases hv : isGraphB n rs
  · have HE := Lib.hid (connB_no hv)
    have hG := fun m : Later W1 => implIsGraph_any n rs ro rc m.w (hr.later m) hrl
    rw [hv] at hG
    refine wp_region_later m rfl (by kernel_rfl) (by kernel_rfl) ?_
    repeat (go_big_quiet_step ((first | (go_at_call 77; exact Calls.later _ (hG _)))))
    refine wpQuiet_nil ?_
    rintro _ ⟨m, rfl⟩
    go_wp2_with fail
    go_ret
    exact ⟨retB (by rw [HE.out]), below_later HhB.out m⟩
  · have HE := Lib.hid (connB_of hv)
    obtain ⟨rfl, g⟩ := VG.of hv
    have hg1 := g.pos
    have hg2 := g.le
    obtain ⟨hp1, hp2⟩ := g.pow
    have HA : Hid (∀ w : World, IntsAt w ro rs → Calls Try.prog 86 #[.agg #[.int .i64 rs.length, .slice ro rs.length rc], .int .i64 (2 ^ rs.length - 1 : Nat)] w (RetE w (ints (partsOf rs (2 ^ rs.length - 1))))) := Lib.hid fun w h => implParts_any rs (2 ^ rs.length - 1) ro rc w h hv (all_lt _)
    have HL : Hid (∀ w : World, Calls Try.prog 63 #[.agg #[.int .i64 rs.length, .slice ro rs.length rc]] w fun e w' => e = .returned (.int .i64 (2 ^ rs.length - 1 : Nat)) ∧ Below w.heap.size w w') := Lib.hid fun w => implAll_any _ _ hg2 w
    have HG : Hid (∀ w : World, IntsAt w ro rs → Calls Try.prog 77 #[.agg #[.int .i64 rs.length, .slice ro rs.length rc]] w fun e w' => e = .returned (.bool true) ∧ Below w.heap.size w w') := Lib.hid fun w h => by
      have := implIsGraph_any rs.length rs ro rc w h hrl
      rwa [hv] at this
    have hl1 := partsOf_len rs (2 ^ rs.length - 1)
    rw [← ints_len] at hl1 HE
    generalize ints (partsOf rs (2 ^ rs.length - 1)) = ps at *
    generalize 2 ^ rs.length - 1 = T1 at *
    have hS' : ∀ w', Below W1.heap.size W1 w' → Below W1.heap.size W1 w' ∧ w'.cell? ⟨w.heap.size, 0, none⟩ = some (.int .i64 rs.length) ∧ w'.cell? ⟨w.heap.size, 1, none⟩ = some (.slice ro rs.length rc) := fun w' h => ⟨h, (h.cell hb0).trans hc0, (h.cell hb0).trans hc1⟩
    go_region_held3 (fun w' => Below W1.heap.size W1 w' ∧ w'.cell? ⟨w.heap.size, 0, none⟩ = some (.int .i64 rs.length) ∧ w'.cell? ⟨w.heap.size, 1, none⟩ = some (.slice ro rs.length rc))
      (exact hS' _ (by first | exact m.below.drew | assumption))
      (first
        | (go_at_call 77; go_must (refine (HG.out _ (hr.below (And.left (by assumption : Below W1.heap.size W1 _ ∧ _)))).mono ?_); rintro e w3 ⟨rfl, hB3⟩; have hB5 := below_more (And.left (by assumption : Below W1.heap.size W1 _ ∧ _)) hB3)
        | (go_at_call 63; go_must (refine (HL.out _).mono ?_); rintro e w3 ⟨rfl, hB3⟩; have hB5 := below_more (And.left (by assumption : Below W1.heap.size W1 _ ∧ _)) hB3)
        | (go_at_call 86; go_must (refine (HA.out _ (hr.below (And.left (by assumption : Below W1.heap.size W1 _ ∧ _)))).mono ?_); rintro e w3 ⟨ao, cap, rfl, hB3, -⟩; have hB5 := below_more (And.left (by assumption : Below W1.heap.size W1 _ ∧ _)) hB3))
    all_goals
      have hBB := below_more' HhB.out hB5
      clear hS' hB3 hB5
      have HhBB := Lib.hid hBB
      clear hBB
      go_wp2_with fail
      go_ret
      exact ⟨retB (by rw [HE.out]), HhBB.out⟩

end Go.Proofs.Ytepbhgapjogkjaa
