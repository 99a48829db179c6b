/-
  Cliques by their pairs. No conditions.
  Maximal cliques that follow one another: each set of vertices has a simple vertex. No conditions beyond that.
  The walk of IsSimple of the program. For at most 2^20 rows.
  slices.IndexFunc and SimpleOrder of the program. For at most 2^20 rows.
  Orders by which vertices are taken away one by one: a simple order is an elimination, IsElimination of the program says so. For orders whose capacity is at least their length.
-/
import Derived.Test.YtfkehmpckhmkbaaPkLawWidths30
import Derived.Test.YtfkehmpckhmkbaaPkLawWidths09
import Derived.Test.YtfkehmpckhmkbaaPkLawWidths04
import Derived.Test.YtfkehmpckhmkbaaPkLawWidths32
import Derived.Test.YtfkehmpckhmkbaaPkLawWidths25
import Derived.Test.YtfkehmpckhmkbaaPkLawWidths05
import Derived.Deep.RegionHeld3
import Derived.Test.YtfkehmpckhmkbaaPkLawWidths01
import Derived.Deep.RegionLaw
import Derived.Laws.EntriesVeiled
import Derived.Test.YtfkehmpckhmkbaaPkLawWidths15
namespace Go.Proofs.Ytfkehmpckhmkbaa

theorem sub_bit {S v : Nat} (hS : S < 128) (hv : S.testBit v = true) (b : Nat) : (S - 2 ^ v).testBit b = (S.testBit b && decide (b ≠ v)) := by
  rw [← nDiff_minus hS (pow_sub hv), testBit_nDiff, Nat.testBit_two_pow]
  congr 1
  by_cases h : v = b
  · subst h; simp
  · rw [decide_eq_false h, decide_eq_true (show b ≠ v from fun e => h e.symm)]; rfl
theorem clique_iff {rs : List Int} (g : VG rs) {S : Nat} (hS : S < 2 ^ rs.length) : cliqueN rs S = true ↔ ∀ a b, S.testBit a = true → S.testBit b = true → a ≠ b → ad rs a b = true := by
  have hp := g.pow.1
  constructor
  · intro h a b ha hb hne
    unfold cliqueN at h
    rw [decide_eq_true_eq] at h
    have h1 := h a (testBit_lt hS ha)
    unfold cliqueBad at h1
    rw [ha, Bool.true_and, decide_eq_false_iff_not, Classical.not_not] at h1
    have h2 : (gn rs a &&& S).testBit b = (S - 2 ^ a).testBit b := by rw [h1]
    rw [sub_bit (by omega) ha, hb, Nat.testBit_and, hb, Bool.and_true, Bool.true_and, decide_eq_true (show b ≠ a from fun e => hne e.symm)] at h2
    exact h2
  · intro h
    refine cliqueN_ok fun v _ => ?_
    unfold cliqueBad
    cases hv : S.testBit v
    · rfl
    · rw [Bool.true_and, decide_eq_false_iff_not, Classical.not_not]
      refine Nat.eq_of_testBit_eq fun b => ?_
      rw [sub_bit (by omega) hv, Nat.testBit_and]
      cases hb : S.testBit b
      · rw [Bool.and_false, Bool.false_and]
      · rw [Bool.and_true, Bool.true_and]
        by_cases e : b = v
        · subst e
          have := ad_irr g b
          unfold ad at this
          rw [this, decide_eq_false (show ¬b ≠ b from fun h => h rfl)]
        · rw [decide_eq_true (show b ≠ v from e)]
          exact h v b hv hb (fun e2 => e e2.symm)

end Go.Proofs.Ytfkehmpckhmkbaa

namespace Go.Proofs.Ytfkehmpckhmkbaa

/-- A clique that no vertex can join. -/
def maxcB (rs : List Int) (S : Nat) : Bool := cliqueN rs S && decide (∀ v, v < rs.length → S.testBit v = true ∨ gn rs v &&& S ≠ S)
def mcN (rs : List Int) : List Nat := (List.range (2 ^ rs.length)).filter fun S => decide (1 ≤ S) && maxcB rs S
theorem mem_mcN {rs : List Int} {S : Nat} : S ∈ mcN rs ↔ S < 2 ^ rs.length ∧ 1 ≤ S ∧ maxcB rs S = true := by
  unfold mcN
  rw [List.mem_filter, List.mem_range, Bool.and_eq_true, decide_eq_true_eq]
theorem mcN_clique {rs : List Int} {S : Nat} (h : S ∈ mcN rs) : S < 2 ^ rs.length ∧ cliqueN rs S = true := by
  obtain ⟨h1, -, h3⟩ := mem_mcN.1 h
  unfold maxcB at h3
  rw [Bool.and_eq_true] at h3
  exact ⟨h1, h3.1⟩
theorem great {p : Nat → Prop} (N : Nat) : ∀ k, k ≤ N → ∀ S, N - k ≤ S → S < N → p S → ∃ T, T < N ∧ p T ∧ ∀ U, T < U → U < N → ¬p U := by
  intro k
  induction k with
  | zero => intro _ S h1 h2; omega
  | succ k ih =>
    intro hk S h1 h2 hp
    by_cases h : ∃ U, S < U ∧ U < N ∧ p U
    · obtain ⟨U, hU1, hU2, hU3⟩ := h
      exact ih (by omega) U (by omega) hU2 hU3
    · exact ⟨S, h2, hp, fun U hU1 hU2 hU3 => h ⟨U, hU1, hU2, hU3⟩⟩
theorem clique_more {rs : List Int} (g : VG rs) {S : Nat} (hS : S < 2 ^ rs.length) (h0 : 1 ≤ S) (hc : cliqueN rs S = true) : ∃ T, T ∈ mcN rs ∧ ∀ a, S.testBit a = true → T.testBit a = true := by
  obtain ⟨T, h1, ⟨h2, h3, h4⟩, h5⟩ := great (p := fun T => S ≤ T ∧ cliqueN rs T = true ∧ ∀ a, S.testBit a = true → T.testBit a = true) (2 ^ rs.length) (2 ^ rs.length) (Nat.le_refl _) S (by omega) hS ⟨Nat.le_refl _, hc, fun _ h => h⟩
  refine ⟨T, mem_mcN.2 ⟨h1, by omega, ?_⟩, h4⟩
  unfold maxcB
  rw [h3, Bool.true_and, decide_eq_true_eq]
  intro v hv
  cases hb : T.testBit v
  · refine .inr fun he => ?_
    have hlt : T ||| 2 ^ v < 2 ^ rs.length := Nat.or_lt_two_pow h1 (Nat.pow_lt_pow_right (by decide) hv)
    have hbit : ∀ a, (T ||| 2 ^ v).testBit a = true ↔ T.testBit a = true ∨ v = a := fun a => by rw [Nat.testBit_or, Nat.testBit_two_pow, Bool.or_eq_true, decide_eq_true_eq]
    have hgt : T < T ||| 2 ^ v := by
      refine Nat.lt_of_le_of_ne Nat.left_le_or fun e => ?_
      have : (T ||| 2 ^ v).testBit v = true := (hbit v).2 (.inr rfl)
      rw [← e, hb] at this; cases this
    have hva : ∀ a, T.testBit a = true → ad rs v a = true := fun a ha => by
      have : (gn rs v &&& T).testBit a = true := by rw [he]; exact ha
      rw [Nat.testBit_and, Bool.and_eq_true] at this
      exact this.1
    refine h5 _ hgt hlt ⟨Nat.le_trans h2 (Nat.le_of_lt hgt), (clique_iff g hlt).2 fun a b ha hb2 hne => ?_, fun a ha => (hbit a).2 (.inl (h4 a ha))⟩
    rcases (hbit a).1 ha with ha | rfl
    · rcases (hbit b).1 hb2 with hb2 | rfl
      · exact (clique_iff g h1).1 h3 a b ha hb2 hne
      · rw [ad_symm g]; exact hva a ha
    · rcases (hbit b).1 hb2 with hb2 | rfl
      · exact hva b hb2
      · exact absurd rfl hne
  · exact .inl rfl

/-- The maximal cliques in an order in which each vertex is in sets that follow one another. -/
structure IvlP (rs : List Int) (d : List Nat) : Prop where
  all : ∀ S, S ∈ mcN rs → S ∈ d
  only : ∀ S, S ∈ d → S ∈ mcN rs
  con : ∀ v i j k, i < j → j < k → k < d.length → (eln d i).testBit v = true → (eln d k).testBit v = true → (eln d j).testBit v = true
theorem IvlP.both {rs : List Int} {d : List Nat} (h : IvlP rs d) (g : VG rs) {i a b : Nat} (hi : i < d.length) (ha : (eln d i).testBit a = true) (hb : (eln d i).testBit b = true) : nb rs a b := by
  obtain ⟨h1, h2⟩ := mcN_clique (h.only _ (eln_mem hi))
  by_cases e : a = b
  · exact .inl e
  · exact .inr ((clique_iff g h1).1 h2 a b ha hb e)
theorem IvlP.share {rs : List Int} {d : List Nat} (h : IvlP rs d) (g : VG rs) {a b : Nat} (ha : a < rs.length) (hb : b < rs.length) (hn : nb rs a b) : ∃ i, i < d.length ∧ (eln d i).testBit a = true ∧ (eln d i).testBit b = true := by
  have hlt : 2 ^ a ||| 2 ^ b < 2 ^ rs.length := Nat.or_lt_two_pow (Nat.pow_lt_pow_right (by decide) ha) (Nat.pow_lt_pow_right (by decide) hb)
  have hbit : ∀ x, (2 ^ a ||| 2 ^ b).testBit x = true ↔ a = x ∨ b = x := fun x => by rw [Nat.testBit_or, Nat.testBit_two_pow, Nat.testBit_two_pow, Bool.or_eq_true, decide_eq_true_eq, decide_eq_true_eq]
  have hpos : 1 ≤ 2 ^ a ||| 2 ^ b := Nat.le_trans (Nat.two_pow_pos a) Nat.left_le_or
  obtain ⟨T, hT, hs⟩ := clique_more g hlt hpos ((clique_iff g hlt).2 fun x y hx hy hne => by
    rcases (hbit x).1 hx with rfl | rfl
    · rcases (hbit y).1 hy with rfl | rfl
      · exact absurd rfl hne
      · exact hn.resolve_left hne
    · rcases (hbit y).1 hy with rfl | rfl
      · rw [ad_symm g]; exact hn.resolve_left fun e => hne e.symm
      · exact absurd rfl hne)
  obtain ⟨i, hi, rfl⟩ := mem_eln (h.all T hT)
  exact ⟨i, hi, hs a ((hbit a).2 (.inl rfl)), hs b ((hbit b).2 (.inr rfl))⟩
theorem least_of {p : Nat → Prop} : ∀ n, p n → ∃ t, t ≤ n ∧ p t ∧ ∀ s, s < t → ¬p s := by
  intro n
  induction n using Nat.strongRecOn with
  | _ n ih =>
    intro h
    by_cases h1 : ∃ m, m < n ∧ p m
    · obtain ⟨m, hm, hp⟩ := h1
      obtain ⟨t, h2, h3, h4⟩ := ih m hm hp
      exact ⟨t, by omega, h3, h4⟩
    · exact ⟨n, Nat.le_refl _, h, fun s hs hp => h1 ⟨s, hs, hp⟩⟩
/-- The vertex that ends first is simple. -/
theorem IvlP.simple {rs : List Int} {d : List Nat} (h : IvlP rs d) (g : VG rs) {S : Nat} (h0 : 0 < S) (hS : S < 2 ^ rs.length) : ∃ v, v < rs.length ∧ S.testBit v = true ∧ simpleN rs S v = true := by
  have hlt : ∀ v, S.testBit v = true → v < rs.length := fun v hv => testBit_lt hS hv
  obtain ⟨v0, hv0⟩ : ∃ v, S.testBit v = true := Nat.exists_testBit_of_ne_zero (by omega)
  have hhas : ∀ v, S.testBit v = true → ∃ i, i < d.length ∧ (eln d i).testBit v = true := fun v hv => by
    obtain ⟨i, hi, h1, -⟩ := h.share g (hlt v hv) (hlt v hv) (.inl rfl)
    exact ⟨i, hi, h1⟩
  obtain ⟨t, -, ⟨v, hv, ht⟩, hmin⟩ := least_of (p := fun t => ∃ v, S.testBit v = true ∧ ∀ i, t < i → i < d.length → (eln d i).testBit v = false) d.length ⟨v0, hv0, fun i h1 h2 => by omega⟩
  -- all vertices of the set have a place from t on
  have hfrom : ∀ x, S.testBit x = true → ∃ i, t ≤ i ∧ i < d.length ∧ (eln d i).testBit x = true := fun x hx => by
    rcases Nat.eq_zero_or_pos t with h1 | h1
    · obtain ⟨i, hi, h2⟩ := hhas x hx
      exact ⟨i, by omega, hi, h2⟩
    · refine Classical.byContradiction fun hno => hmin (t - 1) (by omega) ⟨x, hx, fun i hi1 hi2 => ?_⟩
      cases hb : (eln d i).testBit x
      · rfl
      · exact absurd ⟨i, by omega, hi2, hb⟩ hno
  have htl : t < d.length := by obtain ⟨i, h1, h2, -⟩ := hfrom v hv; omega
  -- what has a place up to t is at t
  have hat : ∀ x i, S.testBit x = true → i ≤ t → (eln d i).testBit x = true → (eln d t).testBit x = true := fun x i hx hi hb => by
    obtain ⟨j, hj1, hj2, hj3⟩ := hfrom x hx
    rcases Nat.lt_or_ge i t with h1 | h1
    · rcases Nat.lt_or_ge t j with h2 | h2
      · exact h.con x i t j h1 h2 hj2 hb hj3
      · obtain rfl : t = j := by omega
        exact hj3
    · obtain rfl : i = t := by omega
      exact hb
  have hnb : ∀ a, S.testBit a = true → nb rs v a → (eln d t).testBit a = true := fun a ha hn => by
    obtain ⟨i, hi, h1, h2⟩ := h.share g (hlt v hv) (hlt a ha) hn
    refine hat a i ha (Classical.byContradiction fun h3 => ?_) h2
    rw [ht i (by omega) hi] at h1; cases h1
  refine ⟨v, hlt v hv, hv, (simple_iff g hS).2 fun a b ha hb hva hvb => ?_⟩
  have ha' := hnb a ha hva
  have hb' := hnb b hb hvb
  -- a common place of a and a neighbour that is none of b's lies behind t
  have key : ∀ a b x, S.testBit a = true → S.testBit b = true → S.testBit x = true → (eln d t).testBit a = true → (eln d t).testBit b = true → nb rs a x → ¬nb rs b x → ∃ i, t < i ∧ i < d.length ∧ (eln d i).testBit a = true ∧ (eln d i).testBit x = true := fun a b x ha hb hx hta htb h1 h2 => by
    obtain ⟨i, hi, h3, h4⟩ := h.share g (hlt a ha) (hlt x hx) h1
    refine ⟨i, Classical.byContradiction fun h5 => h2 (h.both g htl htb (hat x i hx (by omega) h4)), hi, h3, h4⟩
  by_cases hab : ∀ c, S.testBit c = true → nb rs a c → nb rs b c
  · exact .inl hab
  · refine .inr fun y hy hby => Classical.byContradiction fun hay => hab fun x hx hax => Classical.byContradiction fun hbx => ?_
    obtain ⟨i, hi1, hi2, hi3, hi4⟩ := key a b x ha hb hx ha' hb' hax hbx
    obtain ⟨j, hj1, hj2, hj3, hj4⟩ := key b a y hb ha hy hb' ha' hby hay
    rcases Nat.lt_trichotomy i j with h1 | h1 | h1
    · exact hbx (h.both g hi2 (h.con b t i j hi1 h1 hj2 hb' hj3) hi4)
    · subst h1; exact hbx (h.both g hi2 hj3 hi4)
    · exact hay (h.both g hj2 (h.con a t j i hj1 h1 hi2 ha' hi3) hj4)
/-- Such a graph has a simple order. -/
theorem IvlP.order {rs : List Int} {d : List Nat} (h : IvlP rs d) (hv : isGraphB rs.length rs = true) : (ordV rs.length rs).isSome = true := by
  refine ord_of hv fun S h0 hS => ?_
  obtain ⟨v, h1, h2, h3⟩ := h.simple (VG.of hv).2 h0 hS
  refine ⟨v, h1, ?_⟩
  unfold simpleB
  rw [isSetB_mk hv hS, Int.toNat_natCast, Int.toNat_natCast, h3, hasN_nat, h2]
  simp; omega

/-- Different members of a list, as many as it has: all of them. -/
theorem full_of_nodup : ∀ (d l : List Nat), d.Nodup → (∀ x ∈ d, x ∈ l) → l.length ≤ d.length → ∀ x ∈ l, x ∈ d
  | [], l, _, _, h, x, hx => by
    have : l = [] := List.length_eq_zero_iff.1 (by simpa using h)
    subst this; simp at hx
  | a :: d, l, hd, hs, h, x, hx => by
    by_cases e : x = a
    · subst e; simp
    · obtain ⟨h1, h2⟩ := List.nodup_cons.1 hd
      refine List.mem_cons_of_mem _ (full_of_nodup d (l.erase a) h2 (fun y hy => (List.mem_erase_of_ne fun e2 => h1 (by rw [← e2]; exact hy)).2 (hs y (List.mem_cons_of_mem _ hy))) ?_ x ((List.mem_erase_of_ne e).2 hx))
      rw [List.length_erase_of_mem (hs a (by simp))]
      simp at h; omega

end Go.Proofs.Ytfkehmpckhmkbaa

namespace Go.Proofs.Ytfkehmpckhmkbaa
open Go.RowKit

theorem OwnE.room {w : World} {base cap : Nat} {ao : Option Addr} {xs : List Int} (h : OwnE w base ao cap xs) : xs.length ≤ cap := by
  rcases h with ⟨hl, ⟨h1, h2⟩ | ⟨g, cp, cur, hv, hg, hb, hn, hm, hsz, ht⟩⟩ | ⟨rfl, -, -⟩
  · omega
  · simp only [Value.slice.injEq] at hv
    omega
  · simp

theorem wpList_later_drew2 {W : World} {P : Program} {ops : Array Oper} {Q : Exit → Act → World → Prop} {rest : List Oper} {a : Act} (m : Later W) (h : ∀ m' : Later W, Below m.w.heap.size m.w m'.w → wpList P ops Q rest a m'.w) : wpList P ops Q rest a m.w.drew :=
  h ⟨m.w.drew, m.below.drew⟩ (Below.refl _ _).drew

/-- The closed hoods of the first k vertices of a list. -/
def hoodsTo (rs : List Int) (S : Nat) (l : List Nat) (k : Nat) : List Int := (l.take k).map fun u => (hood rs S u : Int)
theorem hoodsTo_succ {rs : List Int} {S k : Nat} {l : List Nat} (hk : k < l.length) : hoodsTo rs S l (k + 1) = hoodsTo rs S l k ++ [(hood rs S (eln l k) : Int)] := by
  unfold hoodsTo; rw [take_eln hk, List.map_append]; rfl
theorem hoodsTo_len {rs : List Int} {S k : Nat} {l : List Nat} (hk : k ≤ l.length) : (hoodsTo rs S l k).length = k := by
  unfold hoodsTo; rw [List.length_map, List.length_take]; omega
theorem hoodsTo_at {rs : List Int} {S k n : Nat} {l : List Nat} (hk : k < n) (hn : n ≤ l.length) : gi (hoodsTo rs S l n) k = (hood rs S (eln l k) : Int) := by
  have h : k < l.length := by omega
  simp [hoodsTo, gi, eln, hk, h]
theorem nest_diff (a b : Nat) (b1 b2 : Bool) (h1 : ((nDiff a b : Int) != 0) = b1) (h2 : ((nDiff b a : Int) != 0) = b2) : nestB a b = !(b1 && b2) := by
  have e : ∀ x y : Nat, nDiff x y = 0 ↔ x &&& y = x := fun x y => by
    unfold nDiff
    constructor
    · intro h
      apply Nat.eq_of_testBit_eq
      intro i
      have := congrArg (fun z => z.testBit i) h
      simp only [Nat.testBit_xor, Nat.zero_testBit, bne_eq_false_iff_eq] at this
      exact this.symm
    · intro h
      rw [h, Nat.xor_self]
  have e1 := e a b
  have e2 := e b a
  rw [Nat.and_comm] at e2
  rw [← h1, ← h2]
  unfold nestB
  rw [Bool.eq_iff_iff, decide_eq_true_eq]
  simp only [Bool.not_eq_true', Bool.and_eq_false_iff, bne_eq_false_iff_eq]
  omega


end Go.Proofs.Ytfkehmpckhmkbaa

namespace Go.Proofs.Ytfkehmpckhmkbaa
open Go.RowKit

theorem idxV_first {p : Nat → Bool} {n k : Nat} (hk : k < n) (h : ∀ j, j < k → p j = false) (hp : p k = true) : (k : Int) = idxV (firstB p n) := by rw [firstB_hit hk h hp]; rfl
theorem idxV_never {p : Nat → Bool} {n : Nat} (h : ∀ j, j < n → p j = false) : -1 = idxV (firstB p n) := by rw [firstB_none h]; rfl


/-- The first place of a list that passes. -/
theorem find_first (p : Nat → Bool) (l : List Nat) : (firstB (fun j => p (eln l j)) l.length = none ∧ l.find? p = none) ∨ ∃ j, j < l.length ∧ firstB (fun j => p (eln l j)) l.length = some j ∧ l.find? p = some (eln l j) := by
  rcases h : firstB (fun j => p (eln l j)) l.length with _ | j
  · refine .inl ⟨rfl, ?_⟩
    rw [List.find?_eq_none]
    intro x hx
    obtain ⟨i, hi, rfl⟩ := List.mem_iff_getElem.1 hx
    unfold firstB at h
    rw [List.find?_eq_none] at h
    have := h i (by simpa using hi)
    simpa [eln, hi] using this
  · refine .inr ⟨j, ?_⟩
    unfold firstB at h
    rw [List.find?_range_eq_some] at h
    obtain ⟨h1, h2, h3⟩ := h
    have hj : j < l.length := by simpa using h2
    refine ⟨hj, rfl, ?_⟩
    rw [List.find?_eq_some_iff_getElem]
    refine ⟨h1, j, hj, by simp [eln, hj], fun i hi => ?_⟩
    have := h3 i hi
    have hil : i < l.length := by omega
    simpa [eln, hil] using this
theorem least_els {rs : List Int} {S : Nat} (g : VG rs) (hS : S < 2 ^ rs.length) : leastB rs S = (els S).find? fun v : Nat => simpleB rs.length rs v S := by
  rw [els_eq hS g.le]
  unfold leastB firstB elsTo
  rw [List.find?_filter]
  congr 1
  funext v
  cases h : simpleB rs.length rs v S
  · simp
  · simp [(simple_left h).1]
theorem nDiff_pow {S v : Nat} (h : S < 9223372036854775808) (hv : S.testBit v = true) : nDiff S (2 ^ v) = S - 2 ^ v := by
  have h1 := nDiff_add (b := 2 ^ v) h
  have h2 : 2 ^ v &&& S = 2 ^ v := by
    apply Nat.eq_of_testBit_eq
    intro i
    rw [Nat.testBit_and, Nat.testBit_two_pow]
    by_cases e : v = i
    · subst e; simp [hv]
    · simp [e]
  rw [h2] at h1
  omega
theorem OwnE.setB' {w : World} {base cap : Nat} {ao : Option Addr} {xs : List Int} (h : OwnE w base ao cap xs) {a : Addr} (ha : a.block < base) (u : Value) : OwnE (w.setCell a u) base ao cap xs :=
  h.imp (fun h => ownsRow_setCell_below h ha u) id
/-- The number in the variable of block b. -/
def cellN (w : World) (b : Nat) : Nat := match w.cell? ⟨b, 0, none⟩ with | some v => (intOf v).toNat | none => 0
theorem cellN_blk {w : World} {b x : Nat} {T : TypeId} (h : Blk w b #[.int .i64 x] T) : cellN w b = x := by
  have := h.cell 0
  simp at this
  simp [cellN, this, intOf]


end Go.Proofs.Ytfkehmpckhmkbaa

namespace Go.Proofs.Ytfkehmpckhmkbaa
open Go.RowKit

/-- One vertex after the other that passes, until none is left. -/
def chainP (p : Nat → Nat → Bool) (N : Nat) : Nat → List Nat → Prop
  | S, [] => S = 0
  | S, v :: t => v < N ∧ p S v = true ∧ chainP p N (S - 2 ^ v) t
theorem takeF_chain {p : Nat → Nat → Bool} {N : Nat} (hp : ∀ S v, p S v = true → S.testBit v = true) : ∀ (f S : Nat) (out l : List Int), S ≤ f → takeF p N f S out = some l → ∃ t : List Nat, l = out ++ t.map Int.ofNat ∧ chainP p N S t := by
  intro f
  induction f with
  | zero =>
    intro S out l hS h
    obtain rfl : S = 0 := by omega
    rw [takeF_zero] at h
    exact ⟨[], by simpa using (Option.some.inj h).symm, rfl⟩
  | succ f ih =>
    intro S out l hS h
    by_cases h0 : S = 0
    · subst h0
      rw [takeF_zero] at h
      exact ⟨[], by simpa using (Option.some.inj h).symm, rfl⟩
    · cases hl : leastP p N S with
      | none => rw [takeF_none hS (by omega) hl] at h; cases h
      | some v =>
        rw [takeF_some hS (by omega) hl] at h
        have h1 := hl
        unfold leastP firstB at h1
        have h2 := List.find?_some h1
        have h3 := List.mem_range.1 (List.mem_of_find?_eq_some h1)
        have h4 := Nat.ge_two_pow_of_testBit (hp _ _ h2)
        have h5 := Nat.two_pow_pos v
        obtain ⟨t, e, ht⟩ := ih (S - 2 ^ v) _ _ (by omega) h
        exact ⟨v :: t, by rw [e]; simp, h3, h2, ht⟩
theorem chain_facts {p : Nat → Nat → Bool} {N : Nat} (hp : ∀ S v, p S v = true → S.testBit v = true) : ∀ (t : List Nat) (S : Nat), S < 128 → chainP p N S t →
    (∀ x, x ∈ t ↔ S.testBit x = true) ∧ t.Nodup ∧ (∀ x ∈ t, x < N) ∧ ∀ i, i < t.length → ∃ Si, Si < 128 ∧ p Si (eln t i) = true ∧ ∀ x, Si.testBit x = true ↔ S.testBit x = true ∧ x ∉ t.take i
  | [], S, _, h => by
    have h : S = 0 := h
    subst h
    exact ⟨fun x => by simp, List.nodup_nil, fun x hx => by simp at hx, fun i hi => by simp at hi⟩
  | v :: t, S, hS, ⟨h1, h2, h3⟩ => by
    have hb := hp _ _ h2
    have hbit := sub_bit hS hb
    obtain ⟨a1, a2, a3, a4⟩ := chain_facts hp t (S - 2 ^ v) (Nat.lt_of_le_of_lt (Nat.sub_le _ _) hS) h3
    have hbit2 : ∀ x, (S - 2 ^ v).testBit x = true ↔ S.testBit x = true ∧ x ≠ v := fun x => by rw [hbit, Bool.and_eq_true, decide_eq_true_eq]
    refine ⟨fun x => ?_, List.nodup_cons.2 ⟨fun h => ((hbit2 v).1 ((a1 v).1 h)).2 rfl, a2⟩, fun x hx => ?_, fun i hi => ?_⟩
    · rw [List.mem_cons, a1, hbit2]
      constructor
      · rintro (rfl | h)
        · exact hb
        · exact h.1
      · intro h
        by_cases e : x = v
        · exact .inl e
        · exact .inr ⟨h, e⟩
    · rcases List.mem_cons.1 hx with rfl | hx
      · exact h1
      · exact a3 x hx
    · cases i with
      | zero => exact ⟨S, hS, h2, fun x => by simp⟩
      | succ i =>
        obtain ⟨Si, b1, b2, b3⟩ := a4 i (by simpa using hi)
        refine ⟨Si, b1, b2, fun x => ?_⟩
        rw [b3, hbit2, List.take_succ_cons, List.mem_cons]
        constructor
        · rintro ⟨⟨c1, c2⟩, c3⟩
          exact ⟨c1, fun h => h.elim c2 c3⟩
        · rintro ⟨c1, c2⟩
          exact ⟨⟨c1, fun h => c2 (.inl h)⟩, fun h => c2 (.inr h)⟩
theorem nodup_sub_len : ∀ (d l : List Nat), d.Nodup → (∀ x ∈ d, x ∈ l) → d.length ≤ l.length
  | [], _, _, _ => Nat.zero_le _
  | a :: d, l, hd, hs => by
    obtain ⟨h1, h2⟩ := List.nodup_cons.1 hd
    have hal := hs a (by simp)
    have := nodup_sub_len d (l.erase a) h2 fun y hy => (List.mem_erase_of_ne fun e => h1 (by rw [← e]; exact hy)).2 (hs y (List.mem_cons_of_mem _ hy))
    rw [List.length_erase_of_mem hal] at this
    have := List.length_pos_of_mem hal
    simp; omega
/-- Vertices in an order, each with the set of those that were left. -/
structure ElimO (p : Nat → Nat → Bool) (rs : List Int) (t : List Nat) : Prop where
  len : t.length = rs.length
  nodup : t.Nodup
  lt : ∀ x ∈ t, x < rs.length
  all : ∀ x, x < rs.length → x ∈ t
  step : ∀ i, i < t.length → ∃ Si, Si < 128 ∧ p Si (eln t i) = true ∧ ∀ x, Si.testBit x = true ↔ x < rs.length ∧ x ∉ t.take i
theorem chain_elim {p : Nat → Nat → Bool} {rs : List Int} (g : VG rs) (hp : ∀ S v, p S v = true → S.testBit v = true) {t : List Nat} (h : chainP p rs.length (2 ^ rs.length - 1) t) : ElimO p rs t := by
  have h128 := g.pow.1
  obtain ⟨a1, a2, a3, a4⟩ := chain_facts hp t _ (by omega) h
  have hall : ∀ x, (2 ^ rs.length - 1).testBit x = true ↔ x < rs.length := fun x => by rw [Nat.testBit_two_pow_sub_one, decide_eq_true_eq]
  refine ⟨Nat.le_antisymm (nodup_lt7 _ _ a2 a3) ?_, a2, a3, fun x hx => (a1 x).2 ((hall x).2 hx), fun i hi => ?_⟩
  · have := nodup_sub_len (List.range rs.length) t List.nodup_range fun x hx => (a1 x).2 ((hall x).2 (List.mem_range.1 hx))
    simpa using this
  · obtain ⟨Si, b1, b2, b3⟩ := a4 i hi
    exact ⟨Si, b1, b2, fun x => by rw [b3, hall]⟩
theorem ElimO.order {p : Nat → Nat → Bool} {rs : List Int} {t : List Nat} (h : ElimO p rs t) (hv : isGraphB rs.length rs = true) : orderB rs.length rs (t.map Int.ofNat) = true := by
  have hvb : vertsB rs.length rs (t.map Int.ofNat) = true := vertsB_true.2 ⟨hv, fun j hj => by
    rw [List.length_map] at hj
    have hl := h.lt _ (eln_mem hj)
    rw [gi_map t j hj]
    refine ⟨⟨by omega, by omega⟩, fun i hij e => ?_⟩
    rw [gi_map t i (by omega)] at e
    exact eln_ne h.nodup (by omega) hj (by omega) (Int.ofNat.inj e)⟩
  rw [orderB_of hvb, List.length_map, h.len]
  exact beq_self_eq_true _
theorem mem_take {t : List Nat} {i x : Nat} : x ∈ t.take i ↔ ∃ j, j < i ∧ j < t.length ∧ eln t j = x := by
  rw [List.mem_take_iff_getElem]
  constructor
  · rintro ⟨j, hj, rfl⟩
    refine ⟨j, by omega, by omega, ?_⟩
    simp [eln, show j < t.length by omega]
  · rintro ⟨j, h1, h2, rfl⟩
    exact ⟨j, by omega, by simp [eln, h2]⟩
/-- The later neighbours of a vertex, by the set that was left. -/
theorem ElimO.later {p : Nat → Nat → Bool} {rs : List Int} {t : List Nat} (h : ElimO p rs t) (hv : isGraphB rs.length rs = true) {i : Nat} (hi : i < t.length) {Si : Nat} (hS : ∀ x, Si.testBit x = true ↔ x < rs.length ∧ x ∉ t.take i) : laterN rs (t.map Int.ofNat) i = gn rs (eln t i) &&& Si := by
  have ho := (orderB_true (h.order hv)).1
  refine Nat.eq_of_testBit_eq fun x => ?_
  unfold laterN
  rw [gi_map t i hi, Int.toNat_natCast, Nat.testBit_and, Nat.testBit_and]
  congr 1
  rw [Bool.eq_iff_iff, behind_bit ho (by rw [List.length_map]; omega), hS, mem_take]
  refine and_congr_right fun _ => not_congr ?_
  constructor
  · rintro ⟨j, hj, e⟩
    rw [gi_map t j (by omega)] at e
    exact ⟨j, hj, by omega, Int.ofNat.inj e⟩
  · rintro ⟨j, hj, hjl, e⟩
    exact ⟨j, hj, by rw [gi_map t j hjl, e]⟩
theorem splB_bit (rs : List Int) : ∀ S v, splB rs S v = true → S.testBit v = true := fun S v h => by unfold splB at h; rw [Bool.and_eq_true] at h; exact h.1
/-- An elimination of the reference. -/
theorem elim_facts {n : Int} {rs l : List Int} (h : elimV n rs = some l) : n = rs.length ∧ isGraphB rs.length rs = true ∧ ∃ t : List Nat, l = t.map Int.ofNat ∧ ElimO (splB rs) rs t := by
  cases hv : isGraphB n rs
  · rw [elimV_no hv] at h; cases h
  · obtain ⟨rfl, g⟩ := VG.of hv
    rw [elimV_of hv] at h
    obtain ⟨t, e, ht⟩ := takeF_chain (splB_bit rs) _ _ _ _ (Nat.le_refl _) h
    exact ⟨rfl, hv, t, by simpa using e, chain_elim g (splB_bit rs) ht⟩
theorem ordF_take {rs : List Int} : ∀ (f S : Nat) (out : List Int), ordF rs f S out = takeF (fun S v => simpleB rs.length rs v S) rs.length f S out
  | 0, _, _ => rfl
  | f + 1, S, out => by
    show (if S = 0 then some out else match leastB rs S with | none => none | some v => ordF rs f (S - 2 ^ v) (out ++ [(v : Int)])) = (if S = 0 then some out else match leastP (fun S v => simpleB rs.length rs v S) rs.length S with | none => none | some v => takeF (fun S v => simpleB rs.length rs v S) rs.length f (S - 2 ^ v) (out ++ [(v : Int)]))
    have e : leastB rs S = leastP (fun S v => simpleB rs.length rs v S) rs.length S := rfl
    rw [e]
    split
    · rfl
    · cases leastP (fun S v => simpleB rs.length rs v S) rs.length S with
      | none => rfl
      | some v => exact ordF_take f _ _
theorem simple_bit (rs : List Int) : ∀ S v : Nat, simpleB rs.length rs v S = true → S.testBit v = true := fun _ _ h => (simple_left h).1
theorem simple_n {rs : List Int} {S v : Nat} (h : simpleB rs.length rs v S = true) : S < 2 ^ rs.length ∧ simpleN rs S v = true := by
  unfold simpleB at h
  rw [Bool.and_eq_true, Bool.and_eq_true, Bool.and_eq_true] at h
  obtain ⟨-, -, S', e, hS⟩ := isSetB_true h.1
  obtain rfl : S = S' := Int.ofNat.inj e
  have h3 := h.2.2
  rw [Bool.and_eq_true] at h3
  exact ⟨hS, by simpa using h3.2⟩
/-- A simple order is an elimination. -/
theorem simple_elim {n : Int} {rs l : List Int} (h : ordV n rs = some l) : orderB n rs l = true ∧ ∀ i, i < l.length → cliqueN rs (laterN rs l i) = true := by
  cases hv : isGraphB n rs
  · rw [ordV_no hv] at h; cases h
  · obtain ⟨rfl, g⟩ := VG.of hv
    rw [ordV_of hv, ordF_take] at h
    obtain ⟨t, e, ht⟩ := takeF_chain (simple_bit rs) _ _ _ _ (Nat.le_refl _) h
    have hE := chain_elim g (simple_bit rs) ht
    obtain rfl : l = t.map Int.ofNat := by simpa using e
    refine ⟨hE.order hv, fun i hi => ?_⟩
    rw [List.length_map] at hi
    obtain ⟨Si, b1, b2, b3⟩ := hE.step i hi
    rw [hE.later hv hi b3]
    obtain ⟨hS, hs⟩ := simple_n b2
    have h1 := (simple_iff g hS).1 hs
    have hlt : gn rs (eln t i) &&& Si < 2 ^ rs.length := Nat.lt_of_le_of_lt Nat.and_le_right hS
    refine (clique_iff g hlt).2 fun a b ha hb hne => ?_
    rw [Nat.testBit_and, Bool.and_eq_true] at ha hb
    rcases h1 a b ha.2 hb.2 (.inr ha.1) (.inr hb.1) with h | h
    · rcases h a ha.2 (.inl rfl) with e | e
      · exact absurd e.symm hne
      · rw [ad_symm g]; exact e
    · rcases h b hb.2 (.inl rfl) with e | e
      · exact absurd e hne
      · exact e



end Go.Proofs.Ytfkehmpckhmkbaa
