/-
  RemoveEdge of the reference: the rows stay as many as they were. For at most 2^20 rows and at least one.
  A graph with an edge less. No conditions.
  flip of the program, where the edge is there: it is taken away. The graph is right.
  The search for holes of the reference, and what both sides find. For at most 2^20 rows.
  FindHole on both sides. For at most 2^20 rows.
  Suns: the pattern, IsSun of the reference. For at most 2^20 rows and list elements.
  FindSun of the program, and what both sides find. For at most 2^20 rows.
  The walk of l8Has of the reference. For at most 2^20 list elements.
  FindSun of the reference. For at most 2^20 rows.
  StrongObstacle on both sides. For at most 2^20 rows.
  Strongly chordal graphs of at most six vertices: there is a simple order exactly if there is neither a hole nor a sun. No conditions beyond that.
  Graphs of at most four vertices need no more colours than a largest clique has vertices. No conditions.
  LeastImperfect and IsPerfect on both sides. For at most 2^20 rows.
  IsPerfectObstacle on both sides. For at most 2^20 rows and list elements.
  Maximal cliques that follow one another: each set of vertices has a simple vertex. No conditions beyond that.
  l6Simplicial, EliminationOf and IsChordal of the reference. For at most 2^20 rows.
  Orders by which vertices are taken away one by one: a simple order is an elimination, IsElimination of the program says so. For orders whose capacity is at least their length.
  Perfect graphs of at most six vertices: perfect exactly if no five vertices are a hole. No conditions beyond that.
  FindOddHole on both sides. For at most 2^20 rows.
  FindAntihole and PerfectObstacle on both sides. For at most 2^20 rows.
  Perfect graphs of at most six vertices: obstacles, complements, covers. No conditions beyond that.
-/
import Derived.Test.YtjikmjhpmkakoaaGreatDoorPkCardCographs07
import Derived.Test.YtjikmjhpmkakoaaGreatDoorPkCardCographs05
import Derived.Test.YtjikmjhpmkakoaaGreatDoorPkCardCographs04
import Derived.Test.YtjikmjhpmkakoaaGreatDoorPkCardCographs21
import Derived.Test.YtjikmjhpmkakoaaGreatDoorPkCardCographs13
import Derived.Test.YtjikmjhpmkakoaaGreatDoorPkCardCographs20
import Derived.Test.YtjikmjhpmkakoaaGreatDoorPkCardCographs06
import Derived.Deep.RegionHeld3
import Derived.Deep.CutRange
import Derived.Test.YtjikmjhpmkakoaaGreatDoorPkCardCographs15
import Derived.Test.YtjikmjhpmkakoaaGreatDoorPkCardCographs26
import Derived.Test.YtjikmjhpmkakoaaGreatDoorPkCardCographs16
import Derived.Test.YtjikmjhpmkakoaaGreatDoorPkCardCographs24
import Derived.Test.YtjikmjhpmkakoaaGreatDoorPkCardCographs18
import Derived.Test.YtjikmjhpmkakoaaGreatDoorPkCardCographs22
import Derived.Test.YtjikmjhpmkakoaaGreatDoorPkCardCographs11
import Derived.Test.YtjikmjhpmkakoaaGreatDoorPkCardCographs29
namespace Go.Proofs.YtjikmjhpmkakoaaGreatDoor
open Go.RowKit

end Go.Proofs.YtjikmjhpmkakoaaGreatDoor

namespace Go.Proofs.YtjikmjhpmkakoaaGreatDoor
open Go.RowKit

def remE (rs : List Int) (v w : Nat) : List Int := rowsOf rs.length fun i j => eb rs i j && !isE v w i j
theorem remE_len (rs : List Int) (v w : Nat) : (remE rs v w).length = rs.length := rowsOf_len _ _
theorem remE_eb {rs : List Int} {v w i j : Nat} (hi : i < rs.length) (hj : j < rs.length) : eb (remE rs v w) i j = (eb rs i j && !isE v w i j) := eb_rowsOf hi hj
theorem remE_VG {rs : List Int} (g : VG rs) {v w : Nat} : VG (remE rs v w) :=
  rowsOf_VG g.pos g.le (fun i hi => by rw [eb_irr g hi]; rfl) (fun i hi j hj => by rw [eb_sym g hi hj, isE_sym])
end Go.Proofs.YtjikmjhpmkakoaaGreatDoor

namespace Go.Proofs.YtjikmjhpmkakoaaGreatDoor
open Go.RowKit

theorem xor_rem {a k : Nat} (ha : a < 128) (hk : k ≤ 6) (h : a.testBit k = true) : bits .xor .i64 (a : Int) (pwN k) = ((nDiff a (2 ^ k) : Nat) : Int) := by
  have hp : 2 ^ k ≤ 2 ^ 6 := Nat.pow_le_pow_right (by decide) hk
  rw [pwN_small k (by omega), bits_xor_nat _ _ (by omega) (by omega)]
  congr 1
  apply Nat.eq_of_testBit_eq
  intro j
  rw [Nat.testBit_xor, testBit_nDiff, Nat.testBit_two_pow]
  by_cases e : k = j
  · subst e; rw [h]; simp
  · rw [decide_eq_false e]; simp
theorem remE_setN {rs : List Int} (g : VG rs) {v w : Nat} (hv : v < rs.length) (hw : w < rs.length) (hne : v ≠ w) :
    (rs.set v ((nDiff (gn rs v) (2 ^ w) : Nat) : Int)).set w ((nDiff (gn rs w) (2 ^ v) : Nat) : Int) = remE rs v w := by
  refine gi_ext (by simp [remE_len]) fun i hi => ?_
  simp only [List.length_set] at hi
  unfold remE
  rw [rowsOf_at hi]
  have hcase : ∀ a b, a < rs.length → nDiff (gn rs a) (2 ^ b) = accB (fun j => eb rs a j && !decide (j = b)) rs.length := by
    intro a b ha
    apply Nat.eq_of_testBit_eq
    intro j
    rw [accB_bit, testBit_nDiff, Nat.testBit_two_pow]
    by_cases hj : j < rs.length
    · rw [decide_eq_true hj, Bool.true_and]
      show (eb rs a j && _) = _
      congr 2
      rw [Bool.eq_iff_iff]; simp; omega
    · rw [decide_eq_false hj, Bool.false_and, testBit_ge (g.lt a ha) (by omega)]; rfl
  by_cases e1 : i = w
  · subst e1
    rw [show gi ((rs.set v ((nDiff (gn rs v) (2 ^ i) : Nat) : Int)).set i ((nDiff (gn rs i) (2 ^ v) : Nat) : Int)) i = ((nDiff (gn rs i) (2 ^ v) : Nat) : Int) by simp [gi, hi], hcase i v hi]
    congr 1
    refine accB_congr _ fun j hj => ?_
    congr 2
    unfold isE
    rw [Bool.eq_iff_iff]; simp; omega
  · by_cases e2 : i = v
    · subst e2
      rw [show gi ((rs.set i ((nDiff (gn rs i) (2 ^ w) : Nat) : Int)).set w ((nDiff (gn rs w) (2 ^ i) : Nat) : Int)) i = ((nDiff (gn rs i) (2 ^ w) : Nat) : Int) by simp [gi, hi, Ne.symm e1], hcase i w hi]
      congr 1
      refine accB_congr _ fun j hj => ?_
      congr 2
      unfold isE
      rw [Bool.eq_iff_iff]; simp; omega
    · rw [show gi ((rs.set v ((nDiff (gn rs v) (2 ^ w) : Nat) : Int)).set w ((nDiff (gn rs w) (2 ^ v) : Nat) : Int)) i = gi rs i by simp [gi, Ne.symm e1, Ne.symm e2], g.row i hi]
      congr 1
      apply Nat.eq_of_testBit_eq
      intro j
      rw [accB_bit]
      by_cases hj : j < rs.length
      · rw [decide_eq_true hj, Bool.true_and, show isE v w i j = false by unfold isE; simp [e1, e2]]; simp [eb]
      · rw [decide_eq_false hj, Bool.false_and, testBit_ge (g.lt i hi) (by omega)]

set_option maxRecDepth 100000 in
set_option maxHeartbeats 1000000 in
theorem flipRem_any (ys : List Int) (a b g1 cap N : Nat) (w : World) (hN : ys.length = N) (hR : RowAt w g1 cap ys) (g : VG ys) (ha : a < N) (hb : b < N) (hab : a ≠ b) (he : eb ys a b = true) :
    Calls Tryz.prog 61 #[.agg #[.int .i64 N, .slice (some ⟨g1, 0, none⟩) N cap], .int .i64 a, .int .i64 b] w fun e w' => e = .returned (.tuple #[]) ∧ Only (fun x => x = g1) w.heap.size w w' ∧ RowAt w' g1 cap (remE ys a b) := by
  subst hN
  have HS := Lib.hid (remE_setN g ha hb hab)
  have he2 := he
  rw [eb_sym g ha hb] at he2
  have hga := g.lt128 ha
  have hgb := g.lt128 hb
  have hl7 := g.le
  have HX1 := Lib.hid (xor_rem hga (k := b) (by omega) he)
  have HX2 := Lib.hid (xor_rem hgb (k := a) (by omega) he2)
  have z1 := hR.cell a ha
  rw [g.row a ha] at z1
  have z2 := hR.frozen a
  have zl := hR.lt
  have x4 : gi (ys.set a ((nDiff (gn ys a) (2 ^ b) : Nat) : Int)) b = (gn ys b : Int) := by rw [← g.row b hb]; simp [gi, hab]
  clear he he2
  go_enter Tryz.func61, Tryz.ntmps61
  go_wp2_with fail
  generalize hW : World.alloc _ _ = W1
  obtain ⟨hB, -, k0⟩ := alloc1 hW
  replace z1 := (hB.cell (p := ⟨g1, a, none⟩) zl).trans z1
  replace z2 := (hB.frozen (p := ⟨g1, a, none⟩) zl).trans z2
  have hR1 := hR.below hB
  have hb0 := k0.lt
  have hc1 := k0.cell 1
  simp at hc1
  have hl1 := hR1.lt
  clear hW
  have HhB := Lib.hid hB
  clear hB
  have HhR1 := Lib.hid hR1
  clear hR1
  have HhR := Lib.hid hR
  clear hR
  have Hx4 := Lib.hid x4
  clear x4
  have Hk0 := Lib.hid k0
  clear k0
  obtain ⟨m, hm0⟩ : ∃ m : Later W1, m.w = W1 := ⟨Later.refl _, rfl⟩
  refine (fun h => hm0 ▸ h) ?_
  clear hm0
  go_wp2_with fail
  go_still_tail 8, (by kernel_rfl)
  refine wpList_drew_on m fun m => ?_
  go_wp2_with fail
  generalize hW3 : World.setCell _ _ _ = W3
  rw [HX1.out] at hW3
  have hO3 : Only (fun x => x = g1) W1.heap.size W1 W3 := hW3 ▸ (Only.of (X := fun x => x = g1) m.below).setCell (p := ⟨g1, a, none⟩) (.inl rfl) _
  have hR3 : RowAt W3 g1 cap (ys.set a ((nDiff (gn ys a) (2 ^ b) : Nat) : Int)) := hW3 ▸ (HhR1.out.below m.below).store a _
  have hne : ¬ w.heap.size = g1 := by omega
  have x1 := (hO3.cell (p := ⟨w.heap.size, 1, none⟩) hb0 hne).trans hc1
  have x2 := hR3.frozen b
  have x3 := hR3.cell b (by simpa using hb)
  rw [Hx4.out] at x3
  have b1 := Nat.lt_of_lt_of_le hb0 hO3.size
  have b2 := hR3.lt
  clear hW3 z1 z2 hc1 hb0 hl1 m
  have HhR3 := Lib.hid hR3
  clear hR3
  have HhO3 := Lib.hid hO3
  clear hO3
  obtain ⟨m, hm0⟩ : ∃ m : Later W3, m.w = W3 := ⟨Later.refl _, rfl⟩
  refine (fun h => hm0 ▸ h) ?_
  clear hm0
  go_wp2_with fail
  go_still_tail 8, (by kernel_rfl)
  refine wpList_drew_on m fun m => ?_
  go_wp2_with fail
  go_end0
  rw [HX2.out]
  refine ⟨rfl, ?_, ?_⟩
  · exact (((Only.of (X := fun x => x = g1) HhB.out).trans (HhO3.out.mono HhB.out.size fun b _ h => h)).more m.below (Nat.le_trans HhB.out.size HhO3.out.size)).setCell (p := ⟨g1, b, none⟩) (.inl rfl) _
  · rw [← HS.out]; exact (HhR3.out.below m.below).store b _

end Go.Proofs.YtjikmjhpmkakoaaGreatDoor

namespace Go.Proofs.YtjikmjhpmkakoaaGreatDoor
open Go.RowKit

/-! ### The searches -/
end Go.Proofs.YtjikmjhpmkakoaaGreatDoor

namespace Go.Proofs.YtjikmjhpmkakoaaGreatDoor
open Go.RowKit

end Go.Proofs.YtjikmjhpmkakoaaGreatDoor

namespace Go.Proofs.YtjikmjhpmkakoaaGreatDoor
open Go.RowKit

/-! ### IsSun -/
end Go.Proofs.YtjikmjhpmkakoaaGreatDoor

namespace Go.Proofs.YtjikmjhpmkakoaaGreatDoor
open Go.RowKit

/-! ### Beginnings of lists -/
/-! ### Suns -/
end Go.Proofs.YtjikmjhpmkakoaaGreatDoor

namespace Go.Proofs.YtjikmjhpmkakoaaGreatDoor
open Go.RowKit

end Go.Proofs.YtjikmjhpmkakoaaGreatDoor

namespace Go.Proofs.YtjikmjhpmkakoaaGreatDoor
open Go.RowKit



end Go.Proofs.YtjikmjhpmkakoaaGreatDoor

namespace Go.Proofs.YtjikmjhpmkakoaaGreatDoor
open Go.RowKit

end Go.Proofs.YtjikmjhpmkakoaaGreatDoor

namespace Go.Proofs.YtjikmjhpmkakoaaGreatDoor
open Go.RowKit

theorem and_sub {a b : Nat} : a &&& b = a ↔ ∀ c, a.testBit c = true → b.testBit c = true := by
  constructor
  · intro h c hc
    rw [← h, Nat.testBit_and, Bool.and_eq_true] at hc
    exact hc.2
  · intro h
    refine Nat.eq_of_testBit_eq fun c => ?_
    rw [Nat.testBit_and]
    cases q : a.testBit c
    · rfl
    · rw [h c q]; rfl
theorem nestB_iff {a b : Nat} : nestB a b = true ↔ (∀ c, a.testBit c = true → b.testBit c = true) ∨ ∀ c, b.testBit c = true → a.testBit c = true := by
  unfold nestB
  rw [decide_eq_true_eq, and_sub, Nat.and_comm a b, and_sub]
theorem hood_bit {rs : List Int} {S u c : Nat} : (hood rs S u).testBit c = true ↔ nb rs u c ∧ S.testBit c = true := by
  unfold hood nb ad
  rw [Nat.testBit_and, Nat.testBit_or, Nat.testBit_two_pow, Bool.and_eq_true, Bool.or_eq_true, decide_eq_true_eq]
  exact and_congr_left fun _ => Or.comm
theorem mem_eln {l : List Nat} {v : Nat} (h : v ∈ l) : ∃ i, i < l.length ∧ eln l i = v := by
  obtain ⟨i, hi, rfl⟩ := List.getElem_of_mem h
  exact ⟨i, hi, by simp [eln, hi]⟩
theorem simple_iff {rs : List Int} (g : VG rs) {S v : Nat} (hS : S < 2 ^ rs.length) : simpleN rs S v = true ↔
    ∀ a b, S.testBit a = true → S.testBit b = true → nb rs v a → nb rs v b → (∀ c, S.testBit c = true → nb rs a c → nb rs b c) ∨ ∀ c, S.testBit c = true → nb rs b c → nb rs a c := by
  have hk : ∀ a b, nestB (hood rs S a) (hood rs S b) = true ↔ ((∀ c, S.testBit c = true → nb rs a c → nb rs b c) ∨ ∀ c, S.testBit c = true → nb rs b c → nb rs a c) := fun a b => by
    rw [nestB_iff]
    simp only [hood_bit]
    constructor
    · rintro (h | h)
      · exact .inl fun c hc hn => (h c ⟨hn, hc⟩).1
      · exact .inr fun c hc hn => (h c ⟨hn, hc⟩).1
    · rintro (h | h)
      · exact .inl fun c hc => ⟨h c hc.2 hc.1, hc.2⟩
      · exact .inr fun c hc => ⟨h c hc.2 hc.1, hc.2⟩
  have hh := hood_lt (rs := rs) hS v
  constructor
  · intro h a b ha hb hva hvb
    unfold simpleN at h
    rw [decide_eq_true_eq] at h
    obtain ⟨i, hi, ei⟩ := mem_eln ((mem_els hh g.le).2 (hood_bit.2 ⟨hva, ha⟩))
    obtain ⟨j, hj, ej⟩ := mem_eln ((mem_els hh g.le).2 (hood_bit.2 ⟨hvb, hb⟩))
    rcases Nat.lt_trichotomy i j with h' | h' | h'
    · have := h j hj i h'
      unfold nestAt at this
      rw [ei, ej, hk] at this
      exact this.symm
    · subst h'
      rw [← ei, ← ej]
      exact .inl fun _ _ h => h
    · have := h i hi j h'
      unfold nestAt at this
      rwa [ei, ej, hk] at this
  · intro h
    refine simpleN_ok fun i hi j hj => ?_
    unfold nestAt
    rw [hk]
    have h1 := hood_bit.1 (els_at hh g.le hi).2
    have h2 := hood_bit.1 (els_at hh g.le (k := j) (by omega)).2
    exact h _ _ h1.2 h2.2 h1.1 h2.1

/-! ### The formulas -/
/-! ### What the formulas say -/
/-- If each set has a simple vertex there is a simple order. -/
theorem ord_of {rs : List Int} (hv : isGraphB rs.length rs = true) (h : ∀ S : Nat, 0 < S → S < 2 ^ rs.length → ∃ v, v < rs.length ∧ simpleB rs.length rs v S = true) : (ordV rs.length rs).isSome = true := by
  have key : ∀ (f S : Nat) (out : List Int), S ≤ f → S < 2 ^ rs.length → (ordF rs f S out).isSome = true := by
    intro f
    induction f with
    | zero => intro S out _ _; rfl
    | succ f ih =>
      intro S out hf hS
      by_cases h0 : S = 0
      · subst h0; rw [ordF_zero]; rfl
      · cases hl : leastB rs S with
        | none =>
          obtain ⟨v, hv1, hv2⟩ := h S (by omega) hS
          unfold leastB firstB at hl
          rw [List.find?_eq_none] at hl
          exact absurd hv2 (hl v (List.mem_range.2 hv1))
        | some v =>
          rw [ordF_some hf (by omega) hl]
          have := (leastB_left hl).2.2
          exact ih _ _ (by omega) (by omega)
  rw [ordV_of hv]
  have := Nat.two_pow_pos rs.length
  exact key _ _ _ (Nat.le_refl _) (by omega)
theorem join_ad {rs : List Int} (g : VG rs) {n : Int} {t : List Nat} {pat : Nat → Nat → Bool} (h : joinB n rs (t.map Int.ofNat) pat = true) {i j : Nat} (hi : i < t.length) (hj : j < i) : ad rs (eln t i) (eln t j) = pat j i := by
  unfold joinB at h
  rw [Bool.and_eq_true, decide_eq_true_eq] at h
  have := h.2 i (by simpa using hi) j hj
  unfold joinedAt at this
  rw [gi_map t j (by omega), gi_map t i hi, Int.toNat_natCast, Int.toNat_natCast, beq_iff_eq] at this
  rw [ad_symm g]
  exact this
theorem eln_ne {t : List Nat} (hn : t.Nodup) {i j : Nat} (hi : i < t.length) (hj : j < t.length) (h : i ≠ j) : eln t i ≠ eln t j := fun e => by
  have hw := List.pairwise_iff_getElem.1 hn
  simp only [eln, List.getD_eq_getElem?_getD, List.getElem?_eq_getElem hi, List.getElem?_eq_getElem hj, Option.getD_some] at e
  rcases Nat.lt_or_gt_of_ne h with h | h
  · exact hw i j hi hj h e
  · exact hw j i hj hi h e.symm
end Go.Proofs.YtjikmjhpmkakoaaGreatDoor

namespace Go.Proofs.YtjikmjhpmkakoaaGreatDoor
open Go.RowKit

theorem or_false {a b : Bool} (h : (a || b) = true) (ha : a = false) : b = true := by rw [ha] at h; exact h
end Go.Proofs.YtjikmjhpmkakoaaGreatDoor

namespace Go.Proofs.YtjikmjhpmkakoaaGreatDoor
open Go.RowKit

/-! ### IsPerfect -/
end Go.Proofs.YtjikmjhpmkakoaaGreatDoor

namespace Go.Proofs.YtjikmjhpmkakoaaGreatDoor
open Go.RowKit

end Go.Proofs.YtjikmjhpmkakoaaGreatDoor

namespace Go.Proofs.YtjikmjhpmkakoaaGreatDoor

/-- A clique that no vertex can join. -/
def maxcB (rs : List Int) (S : Nat) : Bool := cliqueN rs S && decide (∀ v, v < rs.length → S.testBit v = true ∨ gn rs v &&& S ≠ S)
def mcN (rs : List Int) : List Nat := (List.range (2 ^ rs.length)).filter fun S => decide (1 ≤ S) && maxcB rs S
theorem mem_mcN {rs : List Int} {S : Nat} : S ∈ mcN rs ↔ S < 2 ^ rs.length ∧ 1 ≤ S ∧ maxcB rs S = true := by
  unfold mcN
  rw [List.mem_filter, List.mem_range, Bool.and_eq_true, decide_eq_true_eq]
theorem mcN_clique {rs : List Int} {S : Nat} (h : S ∈ mcN rs) : S < 2 ^ rs.length ∧ cliqueN rs S = true := by
  obtain ⟨h1, -, h3⟩ := mem_mcN.1 h
  unfold maxcB at h3
  rw [Bool.and_eq_true] at h3
  exact ⟨h1, h3.1⟩
theorem great {p : Nat → Prop} (N : Nat) : ∀ k, k ≤ N → ∀ S, N - k ≤ S → S < N → p S → ∃ T, T < N ∧ p T ∧ ∀ U, T < U → U < N → ¬p U := by
  intro k
  induction k with
  | zero => intro _ S h1 h2; omega
  | succ k ih =>
    intro hk S h1 h2 hp
    by_cases h : ∃ U, S < U ∧ U < N ∧ p U
    · obtain ⟨U, hU1, hU2, hU3⟩ := h
      exact ih (by omega) U (by omega) hU2 hU3
    · exact ⟨S, h2, hp, fun U hU1 hU2 hU3 => h ⟨U, hU1, hU2, hU3⟩⟩
theorem clique_more {rs : List Int} (g : VG rs) {S : Nat} (hS : S < 2 ^ rs.length) (h0 : 1 ≤ S) (hc : cliqueN rs S = true) : ∃ T, T ∈ mcN rs ∧ ∀ a, S.testBit a = true → T.testBit a = true := by
  obtain ⟨T, h1, ⟨h2, h3, h4⟩, h5⟩ := great (p := fun T => S ≤ T ∧ cliqueN rs T = true ∧ ∀ a, S.testBit a = true → T.testBit a = true) (2 ^ rs.length) (2 ^ rs.length) (Nat.le_refl _) S (by omega) hS ⟨Nat.le_refl _, hc, fun _ h => h⟩
  refine ⟨T, mem_mcN.2 ⟨h1, by omega, ?_⟩, h4⟩
  unfold maxcB
  rw [h3, Bool.true_and, decide_eq_true_eq]
  intro v hv
  cases hb : T.testBit v
  · refine .inr fun he => ?_
    have hlt : T ||| 2 ^ v < 2 ^ rs.length := Nat.or_lt_two_pow h1 (Nat.pow_lt_pow_right (by decide) hv)
    have hbit : ∀ a, (T ||| 2 ^ v).testBit a = true ↔ T.testBit a = true ∨ v = a := fun a => by rw [Nat.testBit_or, Nat.testBit_two_pow, Bool.or_eq_true, decide_eq_true_eq]
    have hgt : T < T ||| 2 ^ v := by
      refine Nat.lt_of_le_of_ne Nat.left_le_or fun e => ?_
      have : (T ||| 2 ^ v).testBit v = true := (hbit v).2 (.inr rfl)
      rw [← e, hb] at this; cases this
    have hva : ∀ a, T.testBit a = true → ad rs v a = true := fun a ha => by
      have : (gn rs v &&& T).testBit a = true := by rw [he]; exact ha
      rw [Nat.testBit_and, Bool.and_eq_true] at this
      exact this.1
    refine h5 _ hgt hlt ⟨Nat.le_trans h2 (Nat.le_of_lt hgt), (clique_iff g hlt).2 fun a b ha hb2 hne => ?_, fun a ha => (hbit a).2 (.inl (h4 a ha))⟩
    rcases (hbit a).1 ha with ha | rfl
    · rcases (hbit b).1 hb2 with hb2 | rfl
      · exact (clique_iff g h1).1 h3 a b ha hb2 hne
      · rw [ad_symm g]; exact hva a ha
    · rcases (hbit b).1 hb2 with hb2 | rfl
      · exact hva b hb2
      · exact absurd rfl hne
  · exact .inl rfl

/-- The maximal cliques in an order in which each vertex is in sets that follow one another. -/
structure IvlP (rs : List Int) (d : List Nat) : Prop where
  all : ∀ S, S ∈ mcN rs → S ∈ d
  only : ∀ S, S ∈ d → S ∈ mcN rs
  con : ∀ v i j k, i < j → j < k → k < d.length → (eln d i).testBit v = true → (eln d k).testBit v = true → (eln d j).testBit v = true
theorem IvlP.both {rs : List Int} {d : List Nat} (h : IvlP rs d) (g : VG rs) {i a b : Nat} (hi : i < d.length) (ha : (eln d i).testBit a = true) (hb : (eln d i).testBit b = true) : nb rs a b := by
  obtain ⟨h1, h2⟩ := mcN_clique (h.only _ (eln_mem hi))
  by_cases e : a = b
  · exact .inl e
  · exact .inr ((clique_iff g h1).1 h2 a b ha hb e)
theorem IvlP.share {rs : List Int} {d : List Nat} (h : IvlP rs d) (g : VG rs) {a b : Nat} (ha : a < rs.length) (hb : b < rs.length) (hn : nb rs a b) : ∃ i, i < d.length ∧ (eln d i).testBit a = true ∧ (eln d i).testBit b = true := by
  have hlt : 2 ^ a ||| 2 ^ b < 2 ^ rs.length := Nat.or_lt_two_pow (Nat.pow_lt_pow_right (by decide) ha) (Nat.pow_lt_pow_right (by decide) hb)
  have hbit : ∀ x, (2 ^ a ||| 2 ^ b).testBit x = true ↔ a = x ∨ b = x := fun x => by rw [Nat.testBit_or, Nat.testBit_two_pow, Nat.testBit_two_pow, Bool.or_eq_true, decide_eq_true_eq, decide_eq_true_eq]
  have hpos : 1 ≤ 2 ^ a ||| 2 ^ b := Nat.le_trans (Nat.two_pow_pos a) Nat.left_le_or
  obtain ⟨T, hT, hs⟩ := clique_more g hlt hpos ((clique_iff g hlt).2 fun x y hx hy hne => by
    rcases (hbit x).1 hx with rfl | rfl
    · rcases (hbit y).1 hy with rfl | rfl
      · exact absurd rfl hne
      · exact hn.resolve_left hne
    · rcases (hbit y).1 hy with rfl | rfl
      · rw [ad_symm g]; exact hn.resolve_left fun e => hne e.symm
      · exact absurd rfl hne)
  obtain ⟨i, hi, rfl⟩ := mem_eln (h.all T hT)
  exact ⟨i, hi, hs a ((hbit a).2 (.inl rfl)), hs b ((hbit b).2 (.inr rfl))⟩
theorem least_of {p : Nat → Prop} : ∀ n, p n → ∃ t, t ≤ n ∧ p t ∧ ∀ s, s < t → ¬p s := by
  intro n
  induction n using Nat.strongRecOn with
  | _ n ih =>
    intro h
    by_cases h1 : ∃ m, m < n ∧ p m
    · obtain ⟨m, hm, hp⟩ := h1
      obtain ⟨t, h2, h3, h4⟩ := ih m hm hp
      exact ⟨t, by omega, h3, h4⟩
    · exact ⟨n, Nat.le_refl _, h, fun s hs hp => h1 ⟨s, hs, hp⟩⟩
/-- The vertex that ends first is simple. -/
theorem IvlP.simple {rs : List Int} {d : List Nat} (h : IvlP rs d) (g : VG rs) {S : Nat} (h0 : 0 < S) (hS : S < 2 ^ rs.length) : ∃ v, v < rs.length ∧ S.testBit v = true ∧ simpleN rs S v = true := by
  have hlt : ∀ v, S.testBit v = true → v < rs.length := fun v hv => testBit_lt hS hv
  obtain ⟨v0, hv0⟩ : ∃ v, S.testBit v = true := Nat.exists_testBit_of_ne_zero (by omega)
  have hhas : ∀ v, S.testBit v = true → ∃ i, i < d.length ∧ (eln d i).testBit v = true := fun v hv => by
    obtain ⟨i, hi, h1, -⟩ := h.share g (hlt v hv) (hlt v hv) (.inl rfl)
    exact ⟨i, hi, h1⟩
  obtain ⟨t, -, ⟨v, hv, ht⟩, hmin⟩ := least_of (p := fun t => ∃ v, S.testBit v = true ∧ ∀ i, t < i → i < d.length → (eln d i).testBit v = false) d.length ⟨v0, hv0, fun i h1 h2 => by omega⟩
  -- all vertices of the set have a place from t on
  have hfrom : ∀ x, S.testBit x = true → ∃ i, t ≤ i ∧ i < d.length ∧ (eln d i).testBit x = true := fun x hx => by
    rcases Nat.eq_zero_or_pos t with h1 | h1
    · obtain ⟨i, hi, h2⟩ := hhas x hx
      exact ⟨i, by omega, hi, h2⟩
    · refine Classical.byContradiction fun hno => hmin (t - 1) (by omega) ⟨x, hx, fun i hi1 hi2 => ?_⟩
      cases hb : (eln d i).testBit x
      · rfl
      · exact absurd ⟨i, by omega, hi2, hb⟩ hno
  have htl : t < d.length := by obtain ⟨i, h1, h2, -⟩ := hfrom v hv; omega
  -- what has a place up to t is at t
  have hat : ∀ x i, S.testBit x = true → i ≤ t → (eln d i).testBit x = true → (eln d t).testBit x = true := fun x i hx hi hb => by
    obtain ⟨j, hj1, hj2, hj3⟩ := hfrom x hx
    rcases Nat.lt_or_ge i t with h1 | h1
    · rcases Nat.lt_or_ge t j with h2 | h2
      · exact h.con x i t j h1 h2 hj2 hb hj3
      · obtain rfl : t = j := by omega
        exact hj3
    · obtain rfl : i = t := by omega
      exact hb
  have hnb : ∀ a, S.testBit a = true → nb rs v a → (eln d t).testBit a = true := fun a ha hn => by
    obtain ⟨i, hi, h1, h2⟩ := h.share g (hlt v hv) (hlt a ha) hn
    refine hat a i ha (Classical.byContradiction fun h3 => ?_) h2
    rw [ht i (by omega) hi] at h1; cases h1
  refine ⟨v, hlt v hv, hv, (simple_iff g hS).2 fun a b ha hb hva hvb => ?_⟩
  have ha' := hnb a ha hva
  have hb' := hnb b hb hvb
  -- a common place of a and a neighbour that is none of b's lies behind t
  have key : ∀ a b x, S.testBit a = true → S.testBit b = true → S.testBit x = true → (eln d t).testBit a = true → (eln d t).testBit b = true → nb rs a x → ¬nb rs b x → ∃ i, t < i ∧ i < d.length ∧ (eln d i).testBit a = true ∧ (eln d i).testBit x = true := fun a b x ha hb hx hta htb h1 h2 => by
    obtain ⟨i, hi, h3, h4⟩ := h.share g (hlt a ha) (hlt x hx) h1
    refine ⟨i, Classical.byContradiction fun h5 => h2 (h.both g htl htb (hat x i hx (by omega) h4)), hi, h3, h4⟩
  by_cases hab : ∀ c, S.testBit c = true → nb rs a c → nb rs b c
  · exact .inl hab
  · refine .inr fun y hy hby => Classical.byContradiction fun hay => hab fun x hx hax => Classical.byContradiction fun hbx => ?_
    obtain ⟨i, hi1, hi2, hi3, hi4⟩ := key a b x ha hb hx ha' hb' hax hbx
    obtain ⟨j, hj1, hj2, hj3, hj4⟩ := key b a y hb ha hy hb' ha' hby hay
    rcases Nat.lt_trichotomy i j with h1 | h1 | h1
    · exact hbx (h.both g hi2 (h.con b t i j hi1 h1 hj2 hb' hj3) hi4)
    · subst h1; exact hbx (h.both g hi2 hj3 hi4)
    · exact hay (h.both g hj2 (h.con a t j i hj1 h1 hi2 ha' hi3) hj4)
/-- Such a graph has a simple order. -/
theorem IvlP.order {rs : List Int} {d : List Nat} (h : IvlP rs d) (hv : isGraphB rs.length rs = true) : (ordV rs.length rs).isSome = true := by
  refine ord_of hv fun S h0 hS => ?_
  obtain ⟨v, h1, h2, h3⟩ := h.simple (VG.of hv).2 h0 hS
  refine ⟨v, h1, ?_⟩
  unfold simpleB
  rw [isSetB_mk hv hS, Int.toNat_natCast, Int.toNat_natCast, h3, hasN_nat, h2]
  simp; omega

end Go.Proofs.YtjikmjhpmkakoaaGreatDoor

namespace Go.Proofs.YtjikmjhpmkakoaaGreatDoor
open Go.RowKit

end Go.Proofs.YtjikmjhpmkakoaaGreatDoor

namespace Go.Proofs.YtjikmjhpmkakoaaGreatDoor
open Go.RowKit

/-- Vertices in an order, each with the set of those that were left. -/
structure ElimO (p : Nat → Nat → Bool) (rs : List Int) (t : List Nat) : Prop where
  len : t.length = rs.length
  nodup : t.Nodup
  lt : ∀ x ∈ t, x < rs.length
  all : ∀ x, x < rs.length → x ∈ t
  step : ∀ i, i < t.length → ∃ Si, Si < 128 ∧ p Si (eln t i) = true ∧ ∀ x, Si.testBit x = true ↔ x < rs.length ∧ x ∉ t.take i
theorem ElimO.order {p : Nat → Nat → Bool} {rs : List Int} {t : List Nat} (h : ElimO p rs t) (hv : isGraphB rs.length rs = true) : orderB rs.length rs (t.map Int.ofNat) = true := by
  have hvb : vertsB rs.length rs (t.map Int.ofNat) = true := vertsB_true.2 ⟨hv, fun j hj => by
    rw [List.length_map] at hj
    have hl := h.lt _ (eln_mem hj)
    rw [gi_map t j hj]
    refine ⟨⟨by omega, by omega⟩, fun i hij e => ?_⟩
    rw [gi_map t i (by omega)] at e
    exact eln_ne h.nodup (by omega) hj (by omega) (Int.ofNat.inj e)⟩
  rw [orderB_of hvb, List.length_map, h.len]
  exact beq_self_eq_true _
theorem mem_take {t : List Nat} {i x : Nat} : x ∈ t.take i ↔ ∃ j, j < i ∧ j < t.length ∧ eln t j = x := by
  rw [List.mem_take_iff_getElem]
  constructor
  · rintro ⟨j, hj, rfl⟩
    refine ⟨j, by omega, by omega, ?_⟩
    simp [eln, show j < t.length by omega]
  · rintro ⟨j, h1, h2, rfl⟩
    exact ⟨j, by omega, by simp [eln, h2]⟩
/-- The later neighbours of a vertex, by the set that was left. -/
theorem ElimO.later {p : Nat → Nat → Bool} {rs : List Int} {t : List Nat} (h : ElimO p rs t) (hv : isGraphB rs.length rs = true) {i : Nat} (hi : i < t.length) {Si : Nat} (hS : ∀ x, Si.testBit x = true ↔ x < rs.length ∧ x ∉ t.take i) : laterN rs (t.map Int.ofNat) i = gn rs (eln t i) &&& Si := by
  have ho := (orderB_true (h.order hv)).1
  refine Nat.eq_of_testBit_eq fun x => ?_
  unfold laterN
  rw [gi_map t i hi, Int.toNat_natCast, Nat.testBit_and, Nat.testBit_and]
  congr 1
  rw [Bool.eq_iff_iff, behind_bit ho (by rw [List.length_map]; omega), hS, mem_take]
  refine and_congr_right fun _ => not_congr ?_
  constructor
  · rintro ⟨j, hj, e⟩
    rw [gi_map t j (by omega)] at e
    exact ⟨j, hj, by omega, Int.ofNat.inj e⟩
  · rintro ⟨j, hj, hjl, e⟩
    exact ⟨j, hj, by rw [gi_map t j hjl, e]⟩
end Go.Proofs.YtjikmjhpmkakoaaGreatDoor

namespace Go.Proofs.YtjikmjhpmkakoaaGreatDoor

/-! ### Formulas -/
/-! ### Colourings -/
/-- Five vertices are a hole. -/
def c5 (rs : List Int) : Prop := ∃ t : List Nat, t.length = 5 ∧ t.Nodup ∧ (∀ y ∈ t, y < rs.length) ∧ joinB rs.length rs (t.map Int.ofNat) (holeP 5) = true
end Go.Proofs.YtjikmjhpmkakoaaGreatDoor

namespace Go.Proofs.YtjikmjhpmkakoaaGreatDoor
open Go.RowKit

end Go.Proofs.YtjikmjhpmkakoaaGreatDoor

namespace Go.Proofs.YtjikmjhpmkakoaaGreatDoor
open Go.RowKit

end Go.Proofs.YtjikmjhpmkakoaaGreatDoor

namespace Go.Proofs.YtjikmjhpmkakoaaGreatDoor

/-- A hole of five vertices, in a circle. -/
structure C5 (rs : List Int) (a b c d e : Nat) : Prop where
  ab : ad rs a b = true
  bc : ad rs b c = true
  cd : ad rs c d = true
  de : ad rs d e = true
  ea : ad rs e a = true
  ac : ad rs a c = false
  a_d : ad rs a d = false
  bd : ad rs b d = false
  be : ad rs b e = false
  ce : ad rs c e = false
def v5 (a b c d e : Nat) : Fin 5 → Nat
  | 0 => a
  | 1 => b
  | 2 => c
  | 3 => d
  | 4 => e
def tab5 (i j : Fin 5) : Bool := decide ((i.val + 1) % 5 = j.val) || decide ((j.val + 1) % 5 = i.val)
theorem C5.tab {rs : List Int} {a b c d e : Nat} (g : VG rs) (h : C5 rs a b c d e) : ∀ i j : Fin 5, ad rs (v5 a b c d e i) (v5 a b c d e j) = tab5 i j := by
  intro i j
  exact match i, j with
    | 0, 0 => ad_irr g _
    | 0, 1 => h.ab
    | 0, 2 => h.ac
    | 0, 3 => h.a_d
    | 0, 4 => (ad_symm g _ _).trans h.ea
    | 1, 0 => (ad_symm g _ _).trans h.ab
    | 1, 1 => ad_irr g _
    | 1, 2 => h.bc
    | 1, 3 => h.bd
    | 1, 4 => h.be
    | 2, 0 => (ad_symm g _ _).trans h.ac
    | 2, 1 => (ad_symm g _ _).trans h.bc
    | 2, 2 => ad_irr g _
    | 2, 3 => h.cd
    | 2, 4 => h.ce
    | 3, 0 => (ad_symm g _ _).trans h.a_d
    | 3, 1 => (ad_symm g _ _).trans h.bd
    | 3, 2 => (ad_symm g _ _).trans h.cd
    | 3, 3 => ad_irr g _
    | 3, 4 => h.de
    | 4, 0 => h.ea
    | 4, 1 => (ad_symm g _ _).trans h.be
    | 4, 2 => (ad_symm g _ _).trans h.ce
    | 4, 3 => (ad_symm g _ _).trans h.de
    | 4, 4 => ad_irr g _
theorem C5.lt {rs : List Int} {a b c d e : Nat} (g : VG rs) (h : C5 rs a b c d e) : ∀ i, v5 a b c d e i < rs.length := fun i =>
  match i with
  | 0 => (ad_lt g h.ab).1
  | 1 => (ad_lt g h.bc).1
  | 2 => (ad_lt g h.cd).1
  | 3 => (ad_lt g h.de).1
  | 4 => (ad_lt g h.ea).1
theorem tab5_sep : ∀ i j : Fin 5, i ≠ j → ∃ k, tab5 i k ≠ tab5 j k := by decide
theorem C5.inj {rs : List Int} {a b c d e : Nat} (g : VG rs) (h : C5 rs a b c d e) {i j : Fin 5} (he : v5 a b c d e i = v5 a b c d e j) : i = j := by
  refine Classical.byContradiction fun hne => ?_
  obtain ⟨k, hk⟩ := tab5_sep i j hne
  exact hk (by rw [← h.tab g, ← h.tab g, he])
theorem C5.nodup {rs : List Int} {a b c d e : Nat} (g : VG rs) (h : C5 rs a b c d e) : [a, b, c, d, e].Nodup := by
  have H : ∀ i j : Fin 5, i ≠ j → v5 a b c d e i ≠ v5 a b c d e j := fun i j hne he => hne (h.inj g he)
  have h01 : a ≠ b := H 0 1 (by decide)
  have h02 : a ≠ c := H 0 2 (by decide)
  have h03 : a ≠ d := H 0 3 (by decide)
  have h04 : a ≠ e := H 0 4 (by decide)
  have h12 : b ≠ c := H 1 2 (by decide)
  have h13 : b ≠ d := H 1 3 (by decide)
  have h14 : b ≠ e := H 1 4 (by decide)
  have h23 : c ≠ d := H 2 3 (by decide)
  have h24 : c ≠ e := H 2 4 (by decide)
  have h34 : d ≠ e := H 3 4 (by decide)
  simp [h01, h02, h03, h04, h12, h13, h14, h23, h24, h34]
theorem C5.of {rs : List Int} (g : VG rs) {t : List Nat} (hl : t.length = 5) (h : joinB rs.length rs (t.map Int.ofNat) (holeP 5) = true) : ∃ a b c d e, C5 rs a b c d e := by
  match t, hl, h with
  | [a, b, c, d, e], _, h =>
    have H : ∀ i j, j < i → i < 5 → ad rs (eln [a, b, c, d, e] j) (eln [a, b, c, d, e] i) = holeP 5 j i := fun i j hj hi => by
      rw [ad_symm g]; exact join_ad g h (i := i) (j := j) hi hj
    exact ⟨a, b, c, d, e, H 1 0 (by omega) (by omega), H 2 1 (by omega) (by omega), H 3 2 (by omega) (by omega), H 4 3 (by omega) (by omega), (ad_symm g _ _).trans (H 4 0 (by omega) (by omega)), H 2 0 (by omega) (by omega), H 3 0 (by omega) (by omega), H 3 1 (by omega) (by omega), H 4 1 (by omega) (by omega), H 4 2 (by omega) (by omega)⟩
theorem c5_get {rs : List Int} (g : VG rs) (h : c5 rs) : ∃ a b c d e, C5 rs a b c d e := by
  obtain ⟨t, h1, -, -, h4⟩ := h
  exact C5.of g h1 h4

/-! ### Parts and complements -/
/-! ### Five vertices need three colours -/
/-! ### Odd holes -/
end Go.Proofs.YtjikmjhpmkakoaaGreatDoor
