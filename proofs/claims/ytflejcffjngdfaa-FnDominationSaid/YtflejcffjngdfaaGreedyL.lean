/-
  Plain laws of the greedy dominating set: what is left at each step of a simple order; the best one of a hood. No conditions.
-/
import Derived.Test.YtflejcffjngdfaaOrder
import Derived.Test.YtflejcffjngdfaaParts
namespace Go.Proofs.Ytflejcffjngdfaa
open Go.RowKit

/-- Each vertex of the list is one of what is then left. -/
def ordOk (N : Nat) : Nat → List Nat → Prop
  | _, [] => True
  | L, v :: t => v < N ∧ L.testBit v = true ∧ ordOk N (L - 2 ^ v) t
theorem ordF_ok {rs : List Int} : ∀ (f S : Nat) (out x : List Int), ordF rs f S out = some x → ∃ t : List Nat, x = out ++ t.map Int.ofNat ∧ ordOk rs.length S t
  | 0, S, out, x, h => by
    have : some out = some x := h
    simp only [Option.some.injEq] at this
    exact ⟨[], by simp [this], trivial⟩
  | f + 1, S, out, x, h => by
    by_cases h0 : S = 0
    · rw [h0, ordF_zero] at h
      simp only [Option.some.injEq] at h
      exact ⟨[], by simp [h], trivial⟩
    · have h1 : (if S = 0 then some out else match leastB rs S with | none => none | some v => ordF rs f (S - 2 ^ v) (out ++ [(v : Int)])) = some x := h
      rw [if_neg h0] at h1
      cases hl : leastB rs S with
      | none => rw [hl] at h1; cases h1
      | some v =>
        rw [hl] at h1
        obtain ⟨a1, a2, -, -⟩ := leastB_left hl
        obtain ⟨t, h2, h3⟩ := ordF_ok f _ _ x h1
        exact ⟨v :: t, by rw [h2]; simp, a1, a2, h3⟩
/-- The score of a vertex: how large its hood in what is left is. -/
def score (rs : List Int) (L u : Nat) : Nat := cnt (hood rs L u)
def bestTo (rs : List Int) (L : Nat) (l : List Nat) : Nat → Nat
  | 0 => eln l 0
  | k + 1 => if score rs L (bestTo rs L l k) < score rs L (eln l k) then eln l k else bestTo rs L l k
theorem bestTo_one (rs : List Int) (L : Nat) (l : List Nat) : bestTo rs L l 1 = eln l 0 := by
  show (if _ < _ then eln l 0 else eln l 0) = _
  split <;> rfl
theorem bestTo_yes {rs : List Int} {L k : Nat} {l : List Nat} (h : score rs L (bestTo rs L l k) < score rs L (eln l k)) : bestTo rs L l (k + 1) = eln l k := by
  show (if _ then _ else _) = _; rw [if_pos h]
theorem bestTo_no {rs : List Int} {L k : Nat} {l : List Nat} (h : ¬score rs L (bestTo rs L l k) < score rs L (eln l k)) : bestTo rs L l (k + 1) = bestTo rs L l k := by
  show (if _ then _ else _) = _; rw [if_neg h]
theorem bestTo_mem {rs : List Int} {L : Nat} {l : List Nat} (h : 0 < l.length) : ∀ k, k ≤ l.length → bestTo rs L l k ∈ l
  | 0, _ => eln_mem h
  | k + 1, hk => by
    show (if _ then _ else _) ∈ l
    split
    · exact eln_mem (by omega)
    · exact bestTo_mem h k (by omega)
def bestOf (rs : List Int) (L v : Nat) : Nat := bestTo rs L (els (hood rs L v)) (cnt (hood rs L v))
def greedyF (rs : List Int) : List Nat → Nat → Nat → Nat
  | [], S, _ => S
  | v :: t, S, L => if (around rs S).testBit v = true then greedyF rs t S (L - 2 ^ v) else greedyF rs t (S ||| 2 ^ bestOf rs L v) (L - 2 ^ v)
theorem greedyF_has {rs : List Int} {v S L : Nat} {t : List Nat} (h : (around rs S).testBit v = true) : greedyF rs (v :: t) S L = greedyF rs t S (L - 2 ^ v) := by
  show (if _ then _ else _) = _; rw [if_pos h]
theorem greedyF_new {rs : List Int} {v S L : Nat} {t : List Nat} (h : (around rs S).testBit v = false) : greedyF rs (v :: t) S L = greedyF rs t (S ||| 2 ^ bestOf rs L v) (L - 2 ^ v) := by
  show (if _ then _ else _) = _; rw [if_neg (by rw [h]; decide)]
/-- The list of an order, as natural numbers. -/
def natsOf (x : List Int) : List Nat := x.map Int.toNat
theorem natsOf_map (t : List Nat) : natsOf (t.map Int.ofNat) = t := by
  unfold natsOf; rw [List.map_map]
  have : (Int.toNat ∘ Int.ofNat) = id := by funext a; simp
  rw [this, List.map_id]
def greedyV (n : Int) (rs : List Int) : Int := match ordV n rs with | some x => greedyF rs (natsOf x) 0 (2 ^ rs.length - 1) | none => 0
/-- The order, at hand. -/
theorem ordV_facts {n : Int} {rs x : List Int} (h : ordV n rs = some x) : n = rs.length ∧ isGraphB rs.length rs = true ∧ ∃ t : List Nat, x = t.map Int.ofNat ∧ ordOk rs.length (2 ^ rs.length - 1) t ∧ greedyV n rs = greedyF rs t 0 (2 ^ rs.length - 1) := by
  cases hv : isGraphB n rs
  · rw [ordV_no hv] at h; cases h
  · have h' := h
    rw [ordV_of hv] at h
    obtain ⟨t, h1, h2⟩ := ordF_ok _ _ _ _ h
    rw [List.nil_append] at h1
    obtain ⟨h3, -⟩ := VG.of hv
    refine ⟨h3, h3 ▸ hv, t, h1, h2, ?_⟩
    unfold greedyV
    rw [h', h1]
    show ((greedyF rs (natsOf (t.map Int.ofNat)) 0 (2 ^ rs.length - 1) : Nat) : Int) = _
    rw [natsOf_map]

/-! ### The two scores -/
theorem cnt_add_fin : ∀ b : Fin 128, ∀ u : Fin 7, b.val.testBit u.val = false → cnt (b.val ||| 2 ^ u.val) = cnt b.val + 1 := by decide +kernel
theorem score_eq {rs : List Int} (g : VG rs) {L u : Nat} (hL : L < 2 ^ rs.length) (hu : L.testBit u = true) : score rs L u = cnt (gn rs u &&& L) + 1 := by
  have hl := testBit_lt hL hu
  have hN := g.le
  have hp := g.pow.1
  have e : hood rs L u = (gn rs u &&& L) ||| 2 ^ u := by
    apply Nat.eq_of_testBit_eq
    intro i
    unfold hood
    simp only [Nat.testBit_and, Nat.testBit_or, Nat.testBit_two_pow]
    by_cases e : u = i
    · subst e; rw [hu]; simp
    · simp [e]
  have hlt : gn rs u &&& L < 128 := Nat.lt_of_le_of_lt Nat.and_le_right (by omega)
  unfold score
  rw [e]
  exact cnt_add_fin ⟨_, hlt⟩ ⟨u, by omega⟩ (by simp [Nat.testBit_and, g.irr u hl])
theorem hood_mem {rs : List Int} {L v u : Nat} (h : (hood rs L v).testBit u = true) : L.testBit u = true := by
  unfold hood at h; rw [Nat.testBit_and] at h; simp at h; exact h.2
theorem hood_self {rs : List Int} {L v : Nat} (h : L.testBit v = true) : (hood rs L v).testBit v = true := by
  unfold hood; rw [Nat.testBit_and, h, Nat.testBit_or, Nat.testBit_two_pow]; simp
/-- What a step of the walk has at hand. -/
structure GreedyAt (rs : List Int) (t : List Nat) (i S L : Nat) : Prop where
  ok : ordOk rs.length L (t.drop i)
  set : S < 2 ^ rs.length
  left : L < 2 ^ rs.length
  val : greedyF rs (t.drop i) S L = greedyF rs t 0 (2 ^ rs.length - 1)
theorem GreedyAt.start {rs : List Int} {t : List Nat} (h : ordOk rs.length (2 ^ rs.length - 1) t) : GreedyAt rs t 0 0 (2 ^ rs.length - 1) := ⟨h, Nat.two_pow_pos _, all_lt _, rfl⟩
theorem drop_eln {t : List Nat} {i : Nat} (h : i < t.length) : t.drop i = eln t i :: t.drop (i + 1) := by
  rw [List.drop_eq_getElem_cons h]; simp [eln, h]
theorem GreedyAt.at {rs : List Int} {t : List Nat} {i S L : Nat} (h : GreedyAt rs t i S L) (hi : i < t.length) : eln t i < rs.length ∧ L.testBit (eln t i) = true := by
  have := h.ok
  rw [drop_eln hi] at this
  exact ⟨this.1, this.2.1⟩
theorem GreedyAt.has {rs : List Int} {t : List Nat} {i S L : Nat} (h : GreedyAt rs t i S L) (hi : i < t.length) (hb : (around rs S).testBit (eln t i) = true) : GreedyAt rs t (i + 1) S (L - 2 ^ eln t i) := by
  have h1 := h.ok
  have h2 := h.val
  rw [drop_eln hi] at h1 h2
  rw [greedyF_has hb] at h2
  exact ⟨h1.2.2, h.set, Nat.lt_of_le_of_lt (Nat.sub_le _ _) h.left, h2⟩
theorem GreedyAt.new {rs : List Int} (g : VG rs) {t : List Nat} {i S L : Nat} (h : GreedyAt rs t i S L) (hi : i < t.length) (hb : (around rs S).testBit (eln t i) = false) : GreedyAt rs t (i + 1) (S ||| 2 ^ bestOf rs L (eln t i)) (L - 2 ^ eln t i) := by
  have h1 := h.ok
  have h2 := h.val
  have h3 := h.at hi
  rw [drop_eln hi] at h1 h2
  rw [greedyF_new hb] at h2
  have hp := g.pow.1
  have hH := hood_lt h.left (eln t i) (rs := rs)
  have hm := hood_self (rs := rs) h3.2
  have h0 : 0 < (els (hood rs L (eln t i))).length := List.length_pos_of_mem ((mem_els hH g.le).2 hm)
  have hbm : bestOf rs L (eln t i) ∈ els (hood rs L (eln t i)) := bestTo_mem h0 _ (Nat.le_refl _)
  have hbl : bestOf rs L (eln t i) < rs.length := testBit_lt hH ((mem_els hH g.le).1 hbm)
  exact ⟨h1.2.2, Nat.or_lt_two_pow h.set (Nat.pow_lt_pow_right (by decide) hbl), Nat.lt_of_le_of_lt (Nat.sub_le _ _) h.left, h2⟩
theorem GreedyAt.done {rs : List Int} {t : List Nat} {S L : Nat} (h : GreedyAt rs t t.length S L) : S = greedyF rs t 0 (2 ^ rs.length - 1) := by
  have := h.val
  rw [List.drop_length] at this
  exact this

end Go.Proofs.Ytflejcffjngdfaa
