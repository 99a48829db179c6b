/-
  Plain laws: the complement of a graph is a graph; a coloring is found with enough colors, and its colors are below their number. No conditions.
-/
import Derived.Test.YtkefkmjfjghggaaColorWith
import Derived.Test.YtkefkmjfjghggaaCompl
import Derived.Test.YtkefkmjfjghggaaParts
namespace Go.Proofs.Ytkefkmjfjghggaa
open Go.RowKit

theorem complRow_bit {rs : List Int} {v i : Nat} : (complRow rs v).testBit i = true ↔ i < rs.length ∧ (gn rs v).testBit i = false ∧ v ≠ i := by
  unfold complRow
  rw [nDiff_bit, nDiff_bit, all_bit]
  constructor
  · rintro ⟨⟨h1, h2⟩, h3⟩
    exact ⟨h1, h2, fun e => by rw [(pow_bit).2 e] at h3; cases h3⟩
  · rintro ⟨h1, h2, h3⟩
    refine ⟨⟨h1, h2⟩, ?_⟩
    cases h : (2 ^ v).testBit i
    · rfl
    · exact absurd (pow_bit.1 h) h3
theorem complRow_lt (rs : List Int) (v : Nat) : complRow rs v < 2 ^ rs.length := Nat.lt_of_le_of_lt ((nDiff_sub _ _).trans (nDiff_sub _ _)).le (all_lt _)
theorem compl_graph {rs : List Int} (g : VG rs) : isGraphB rs.length (compl rs) = true := by
  have hl := compl_len rs
  have h1 := g.pos
  have h2 := g.le
  have key := isGraphB_mk (rs := compl rs) (by omega) (by omega) (fun v hv => ?_) (fun v hv u hu => ?_)
  · rw [hl] at key; exact key
  · rw [hl] at hv
    have h3 := complRow_lt rs v
    unfold rowOk
    rw [compl_at hv, hl, pwN_small _ (by omega), hasN_nat]
    have h4 : (complRow rs v).testBit v = false := by
      cases h : (complRow rs v).testBit v
      · rfl
      · exact absurd rfl (complRow_bit.1 h).2.2
    rw [h4]
    simp only [Bool.not_false, Bool.and_true, Bool.and_eq_true, decide_eq_true_eq]
    omega
  · rw [hl] at hv
    have hu' : u < rs.length := by omega
    rw [compl_at hv, compl_at hu', hasN_nat, hasN_nat, Bool.eq_iff_iff, complRow_bit, complRow_bit, g.sym v hv u hu']
    constructor
    · rintro ⟨_, a, b⟩; exact ⟨hv, a, fun e => b e.symm⟩
    · rintro ⟨_, a, b⟩; exact ⟨hu', a, fun e => b e.symm⟩

/-! ### What the search for a coloring finds -/
theorem pigeon : ∀ (k : Nat) (l : List Int), l.length < k → ∃ c, c < k ∧ (c : Int) ∉ l
  | 0, l, h => by omega
  | k + 1, l, h => by
    by_cases hm : (k : Int) ∈ l
    · have hl := List.length_erase_of_mem hm
      have hp : 0 < l.length := List.length_pos_of_mem hm
      obtain ⟨c, h1, h2⟩ := pigeon k (l.erase (k : Int)) (by omega)
      exact ⟨c, by omega, fun h3 => h2 ((List.mem_erase_of_ne (by omega)).2 h3)⟩
    · exact ⟨k, by omega, hm⟩
theorem freeTo_not {rs l : List Int} {c : Nat} (h : (c : Int) ∉ l) : ∀ t, t ≤ l.length → freeTo rs l c t = true
  | 0, _ => rfl
  | t + 1, ht => by
    have ih := freeTo_not (rs := rs) h t (by omega)
    have hc : clash rs l c t = false := by
      unfold clash
      have : (gi l t == (c : Int)) = false := by
        rw [beq_eq_false_iff_ne]
        intro e
        apply h
        rw [← e]
        have : t < l.length := by omega
        simp [gi, this]
      rw [this]; rfl
    show (freeTo rs l c t && !clash rs l c t) = true
    rw [ih, hc]; rfl
theorem preB_some {step : Nat → Option (List Int) → Option (List Int) × Bool} (h : ∀ c, (step c none).2 = (step c none).1.isNone) {j n : Nat} (hj : j < n) (hs : (step j none).1.isSome = true) : (preB step none n).1.isSome = true := by
  cases hn : (preB step none n).1 with
  | some x => rfl
  | none =>
    exfalso
    have h2 := preB_last h n
    rw [hn] at h2
    have h3 : ∀ i, i ≤ n → (preB step none i).2 = true := fun i hi => by
      cases h4 : (preB step none i).2
      · have := preB_stop h4 n hi
        rw [this, h4] at h2; cases h2
      · rfl
    have h5 := h3 j (by omega)
    have h6 := preB_last h j
    rw [h5] at h6
    have h7 : (preB step none j).1 = none := by simpa using h6.symm
    have h8 : preB step none (j + 1) = step j none := by rw [preB, if_pos h5, h7]
    have h9 := h3 (j + 1) (by omega)
    rw [h8, h (j)] at h9
    rw [Option.isNone_iff_eq_none] at h9
    rw [h9] at hs; cases hs
theorem firstC_some' {rs : List Int} {kc : Nat} : ∀ f l, l.length + f ≤ kc → (firstC rs kc f l).isSome = true
  | 0, l, _ => rfl
  | f + 1, l, h => by
    obtain ⟨c, h1, h2⟩ := pigeon kc l (by omega)
    refine preB_some (fun c => by
      split
      · exact colRun_last rs kc f _
      · rfl) h1 ?_
    rw [if_pos (freeTo_not h2 _ (Nat.le_refl _))]
    exact firstC_some' f _ (by simp; omega)
/-- What is kept at each step holds of the coloring that is found. -/
theorem firstC_inv {rs : List Int} {kc : Nat} (P : List Int → Prop) (hs : ∀ l c, P l → c < kc → freeTo rs l c l.length = true → P (l ++ [(c : Int)])) : ∀ f l x, P l → firstC rs kc f l = some x → P x
  | 0, l, x, hl, h => by
    have : some l = some x := h
    simp only [Option.some.injEq] at this
    rw [← this]; exact hl
  | f + 1, l, x, hl, h => by
    have hj : ∀ j, j ≤ kc → ∀ x, (preB (fun c s => if freeTo rs l c l.length = true then colRun lastV rs kc f s (l ++ [(c : Int)]) else (s, true)) none j).1 = some x → P x := by
      intro j
      induction j with
      | zero => intro _ x hx; cases hx
      | succ j ih =>
        intro hjk x hx
        rw [preB] at hx
        split at hx
        · rename_i h2
          have hn : (preB (fun c s => if freeTo rs l c l.length = true then colRun lastV rs kc f s (l ++ [(c : Int)]) else (s, true)) none j).1 = none := by
            have := preB_last (step := fun c s => if freeTo rs l c l.length = true then colRun lastV rs kc f s (l ++ [(c : Int)]) else (s, true)) (fun c => by
              split
              · exact colRun_last rs kc f _
              · rfl) j
            rw [h2] at this
            simpa using this.symm
          rw [hn] at hx
          split at hx
          · rename_i h3
            exact firstC_inv P hs f _ x (hs l j hl (by omega) h3) hx
          · cases hx
        · exact ih (by omega) x hx
    exact hj kc (Nat.le_refl _) x h
def below (kc : Nat) (l : List Int) : Prop := ∀ y, y ∈ l → ∃ c : Nat, c < kc ∧ y = (c : Int)
theorem firstC_below {rs : List Int} {kc f : Nat} {x : List Int} (h : firstC rs kc f [] = some x) : below kc x := by
  refine firstC_inv (rs := rs) (kc := kc) (below kc) (fun l c hl hc _ y hy => ?_) f [] x (fun y hy => by cases hy) h
  simp only [List.mem_append, List.mem_singleton] at hy
  rcases hy with hy | rfl
  · exact hl y hy
  · exact ⟨c, hc, rfl⟩
/-- Of a graph: the chromatic number, and the first coloring with so many colors. -/
theorem chrom_facts {rs : List Int} {n : Int} (hv : isGraphB n rs = true) : ∃ (k : Nat) (x : List Int), chromV n rs = k ∧ 1 ≤ k ∧ k ≤ 7 ∧ colWith n rs k = some x ∧ x.length = rs.length ∧ ∀ t, t < rs.length → ∃ c : Nat, c < k ∧ gi x t = (c : Int) := by
  have g := (VG.of hv).2
  have h7 : (colWith n rs ((6 + 1 : Nat) : Int)).isSome = true := by
    rw [colWith_of hv (by decide)]
    exact firstC_some' _ _ (by have := g.le; simp; omega)
  unfold chromV
  cases hf : firstB (fun j => (colWith n rs ((j + 1 : Nat) : Int)).isSome) 7 with
  | none =>
    exfalso
    unfold firstB at hf
    rw [List.find?_range_eq_none] at hf
    have := hf 6 (by omega)
    rw [h7] at this; cases this
  | some j =>
    unfold firstB at hf
    rw [List.find?_range_eq_some] at hf
    obtain ⟨h1, h2, -⟩ := hf
    have hj : j < 7 := by simpa using h2
    obtain ⟨x, hx⟩ := Option.isSome_iff_exists.1 h1
    have hc := colWith_of (k := j + 1) hv (by rw [Bool.and_eq_true, decide_eq_true_eq, decide_eq_true_eq]; omega)
    rw [hx] at hc
    refine ⟨j + 1, x, rfl, by omega, by omega, hx, ?_, fun t ht => ?_⟩
    · have := firstC_len rs (j + 1) _ _ _ hc.symm
      simpa using this
    · have hl := firstC_len rs (j + 1) _ _ _ hc.symm
      have ht' : t < x.length := by rw [hl]; simpa using ht
      have := firstC_below hc.symm (x[t]) (List.getElem_mem ht')
      simpa [gi, ht'] using this

end Go.Proofs.Ytkefkmjfjghggaa
