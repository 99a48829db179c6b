/-
  Maximal cliques that follow one another: each set of vertices has a simple vertex. No conditions beyond that.
-/
import Derived.Test.YtgklgheaojoimaaPkLawStrong42
import Derived.Test.YtgklgheaojoimaaPkLawStrong18
namespace Go.Proofs.Ytgklgheaojoimaa

theorem sub_bit {S v : Nat} (hS : S < 128) (hv : S.testBit v = true) (b : Nat) : (S - 2 ^ v).testBit b = (S.testBit b && decide (b ≠ v)) := by
  rw [← nDiff_minus hS (pow_sub hv), testBit_nDiff, Nat.testBit_two_pow]
  congr 1
  by_cases h : v = b
  · subst h; simp
  · rw [decide_eq_false h, decide_eq_true (show b ≠ v from fun e => h e.symm)]; rfl
theorem clique_iff {rs : List Int} (g : VG rs) {S : Nat} (hS : S < 2 ^ rs.length) : cliqueN rs S = true ↔ ∀ a b, S.testBit a = true → S.testBit b = true → a ≠ b → ad rs a b = true := by
  have hp := g.pow.1
  constructor
  · intro h a b ha hb hne
    unfold cliqueN at h
    rw [decide_eq_true_eq] at h
    have h1 := h a (testBit_lt hS ha)
    unfold cliqueBad at h1
    rw [ha, Bool.true_and, decide_eq_false_iff_not, Classical.not_not] at h1
    have h2 : (gn rs a &&& S).testBit b = (S - 2 ^ a).testBit b := by rw [h1]
    rw [sub_bit (by omega) ha, hb, Nat.testBit_and, hb, Bool.and_true, Bool.true_and, decide_eq_true (show b ≠ a from fun e => hne e.symm)] at h2
    exact h2
  · intro h
    refine cliqueN_ok fun v _ => ?_
    unfold cliqueBad
    cases hv : S.testBit v
    · rfl
    · rw [Bool.true_and, decide_eq_false_iff_not, Classical.not_not]
      refine Nat.eq_of_testBit_eq fun b => ?_
      rw [sub_bit (by omega) hv, Nat.testBit_and]
      cases hb : S.testBit b
      · rw [Bool.and_false, Bool.false_and]
      · rw [Bool.and_true, Bool.true_and]
        by_cases e : b = v
        · subst e
          have := ad_irr g b
          unfold ad at this
          rw [this, decide_eq_false (show ¬b ≠ b from fun h => h rfl)]
        · rw [decide_eq_true (show b ≠ v from e)]
          exact h v b hv hb (fun e2 => e e2.symm)

/-- A clique that no vertex can join. -/
def maxcB (rs : List Int) (S : Nat) : Bool := cliqueN rs S && decide (∀ v, v < rs.length → S.testBit v = true ∨ gn rs v &&& S ≠ S)
def mcN (rs : List Int) : List Nat := (List.range (2 ^ rs.length)).filter fun S => decide (1 ≤ S) && maxcB rs S
theorem mem_mcN {rs : List Int} {S : Nat} : S ∈ mcN rs ↔ S < 2 ^ rs.length ∧ 1 ≤ S ∧ maxcB rs S = true := by
  unfold mcN
  rw [List.mem_filter, List.mem_range, Bool.and_eq_true, decide_eq_true_eq]
theorem mcN_clique {rs : List Int} {S : Nat} (h : S ∈ mcN rs) : S < 2 ^ rs.length ∧ cliqueN rs S = true := by
  obtain ⟨h1, -, h3⟩ := mem_mcN.1 h
  unfold maxcB at h3
  rw [Bool.and_eq_true] at h3
  exact ⟨h1, h3.1⟩
theorem great {p : Nat → Prop} (N : Nat) : ∀ k, k ≤ N → ∀ S, N - k ≤ S → S < N → p S → ∃ T, T < N ∧ p T ∧ ∀ U, T < U → U < N → ¬p U := by
  intro k
  induction k with
  | zero => intro _ S h1 h2; omega
  | succ k ih =>
    intro hk S h1 h2 hp
    by_cases h : ∃ U, S < U ∧ U < N ∧ p U
    · obtain ⟨U, hU1, hU2, hU3⟩ := h
      exact ih (by omega) U (by omega) hU2 hU3
    · exact ⟨S, h2, hp, fun U hU1 hU2 hU3 => h ⟨U, hU1, hU2, hU3⟩⟩
theorem clique_more {rs : List Int} (g : VG rs) {S : Nat} (hS : S < 2 ^ rs.length) (h0 : 1 ≤ S) (hc : cliqueN rs S = true) : ∃ T, T ∈ mcN rs ∧ ∀ a, S.testBit a = true → T.testBit a = true := by
  obtain ⟨T, h1, ⟨h2, h3, h4⟩, h5⟩ := great (p := fun T => S ≤ T ∧ cliqueN rs T = true ∧ ∀ a, S.testBit a = true → T.testBit a = true) (2 ^ rs.length) (2 ^ rs.length) (Nat.le_refl _) S (by omega) hS ⟨Nat.le_refl _, hc, fun _ h => h⟩
  refine ⟨T, mem_mcN.2 ⟨h1, by omega, ?_⟩, h4⟩
  unfold maxcB
  rw [h3, Bool.true_and, decide_eq_true_eq]
  intro v hv
  cases hb : T.testBit v
  · refine .inr fun he => ?_
    have hlt : T ||| 2 ^ v < 2 ^ rs.length := Nat.or_lt_two_pow h1 (Nat.pow_lt_pow_right (by decide) hv)
    have hbit : ∀ a, (T ||| 2 ^ v).testBit a = true ↔ T.testBit a = true ∨ v = a := fun a => by rw [Nat.testBit_or, Nat.testBit_two_pow, Bool.or_eq_true, decide_eq_true_eq]
    have hgt : T < T ||| 2 ^ v := by
      refine Nat.lt_of_le_of_ne Nat.left_le_or fun e => ?_
      have : (T ||| 2 ^ v).testBit v = true := (hbit v).2 (.inr rfl)
      rw [← e, hb] at this; cases this
    have hva : ∀ a, T.testBit a = true → ad rs v a = true := fun a ha => by
      have : (gn rs v &&& T).testBit a = true := by rw [he]; exact ha
      rw [Nat.testBit_and, Bool.and_eq_true] at this
      exact this.1
    refine h5 _ hgt hlt ⟨Nat.le_trans h2 (Nat.le_of_lt hgt), (clique_iff g hlt).2 fun a b ha hb2 hne => ?_, fun a ha => (hbit a).2 (.inl (h4 a ha))⟩
    rcases (hbit a).1 ha with ha | rfl
    · rcases (hbit b).1 hb2 with hb2 | rfl
      · exact (clique_iff g h1).1 h3 a b ha hb2 hne
      · rw [ad_symm g]; exact hva a ha
    · rcases (hbit b).1 hb2 with hb2 | rfl
      · exact hva b hb2
      · exact absurd rfl hne
  · exact .inl rfl

/-- The maximal cliques in an order in which each vertex is in sets that follow one another. -/
structure IvlP (rs : List Int) (d : List Nat) : Prop where
  all : ∀ S, S ∈ mcN rs → S ∈ d
  only : ∀ S, S ∈ d → S ∈ mcN rs
  con : ∀ v i j k, i < j → j < k → k < d.length → (eln d i).testBit v = true → (eln d k).testBit v = true → (eln d j).testBit v = true
theorem IvlP.both {rs : List Int} {d : List Nat} (h : IvlP rs d) (g : VG rs) {i a b : Nat} (hi : i < d.length) (ha : (eln d i).testBit a = true) (hb : (eln d i).testBit b = true) : nb rs a b := by
  obtain ⟨h1, h2⟩ := mcN_clique (h.only _ (eln_mem hi))
  by_cases e : a = b
  · exact .inl e
  · exact .inr ((clique_iff g h1).1 h2 a b ha hb e)
theorem IvlP.share {rs : List Int} {d : List Nat} (h : IvlP rs d) (g : VG rs) {a b : Nat} (ha : a < rs.length) (hb : b < rs.length) (hn : nb rs a b) : ∃ i, i < d.length ∧ (eln d i).testBit a = true ∧ (eln d i).testBit b = true := by
  have hlt : 2 ^ a ||| 2 ^ b < 2 ^ rs.length := Nat.or_lt_two_pow (Nat.pow_lt_pow_right (by decide) ha) (Nat.pow_lt_pow_right (by decide) hb)
  have hbit : ∀ x, (2 ^ a ||| 2 ^ b).testBit x = true ↔ a = x ∨ b = x := fun x => by rw [Nat.testBit_or, Nat.testBit_two_pow, Nat.testBit_two_pow, Bool.or_eq_true, decide_eq_true_eq, decide_eq_true_eq]
  have hpos : 1 ≤ 2 ^ a ||| 2 ^ b := Nat.le_trans (Nat.two_pow_pos a) Nat.left_le_or
  obtain ⟨T, hT, hs⟩ := clique_more g hlt hpos ((clique_iff g hlt).2 fun x y hx hy hne => by
    rcases (hbit x).1 hx with rfl | rfl
    · rcases (hbit y).1 hy with rfl | rfl
      · exact absurd rfl hne
      · exact hn.resolve_left hne
    · rcases (hbit y).1 hy with rfl | rfl
      · rw [ad_symm g]; exact hn.resolve_left fun e => hne e.symm
      · exact absurd rfl hne)
  obtain ⟨i, hi, rfl⟩ := mem_eln (h.all T hT)
  exact ⟨i, hi, hs a ((hbit a).2 (.inl rfl)), hs b ((hbit b).2 (.inr rfl))⟩
theorem least_of {p : Nat → Prop} : ∀ n, p n → ∃ t, t ≤ n ∧ p t ∧ ∀ s, s < t → ¬p s := by
  intro n
  induction n using Nat.strongRecOn with
  | _ n ih =>
    intro h
    by_cases h1 : ∃ m, m < n ∧ p m
    · obtain ⟨m, hm, hp⟩ := h1
      obtain ⟨t, h2, h3, h4⟩ := ih m hm hp
      exact ⟨t, by omega, h3, h4⟩
    · exact ⟨n, Nat.le_refl _, h, fun s hs hp => h1 ⟨s, hs, hp⟩⟩
/-- The vertex that ends first is simple. -/
theorem IvlP.simple {rs : List Int} {d : List Nat} (h : IvlP rs d) (g : VG rs) {S : Nat} (h0 : 0 < S) (hS : S < 2 ^ rs.length) : ∃ v, v < rs.length ∧ S.testBit v = true ∧ simpleN rs S v = true := by
  have hlt : ∀ v, S.testBit v = true → v < rs.length := fun v hv => testBit_lt hS hv
  obtain ⟨v0, hv0⟩ : ∃ v, S.testBit v = true := Nat.exists_testBit_of_ne_zero (by omega)
  have hhas : ∀ v, S.testBit v = true → ∃ i, i < d.length ∧ (eln d i).testBit v = true := fun v hv => by
    obtain ⟨i, hi, h1, -⟩ := h.share g (hlt v hv) (hlt v hv) (.inl rfl)
    exact ⟨i, hi, h1⟩
  obtain ⟨t, -, ⟨v, hv, ht⟩, hmin⟩ := least_of (p := fun t => ∃ v, S.testBit v = true ∧ ∀ i, t < i → i < d.length → (eln d i).testBit v = false) d.length ⟨v0, hv0, fun i h1 h2 => by omega⟩
  -- all vertices of the set have a place from t on
  have hfrom : ∀ x, S.testBit x = true → ∃ i, t ≤ i ∧ i < d.length ∧ (eln d i).testBit x = true := fun x hx => by
    rcases Nat.eq_zero_or_pos t with h1 | h1
    · obtain ⟨i, hi, h2⟩ := hhas x hx
      exact ⟨i, by omega, hi, h2⟩
    · refine Classical.byContradiction fun hno => hmin (t - 1) (by omega) ⟨x, hx, fun i hi1 hi2 => ?_⟩
      cases hb : (eln d i).testBit x
      · rfl
      · exact absurd ⟨i, by omega, hi2, hb⟩ hno
  have htl : t < d.length := by obtain ⟨i, h1, h2, -⟩ := hfrom v hv; omega
  -- what has a place up to t is at t
  have hat : ∀ x i, S.testBit x = true → i ≤ t → (eln d i).testBit x = true → (eln d t).testBit x = true := fun x i hx hi hb => by
    obtain ⟨j, hj1, hj2, hj3⟩ := hfrom x hx
    rcases Nat.lt_or_ge i t with h1 | h1
    · rcases Nat.lt_or_ge t j with h2 | h2
      · exact h.con x i t j h1 h2 hj2 hb hj3
      · obtain rfl : t = j := by omega
        exact hj3
    · obtain rfl : i = t := by omega
      exact hb
  have hnb : ∀ a, S.testBit a = true → nb rs v a → (eln d t).testBit a = true := fun a ha hn => by
    obtain ⟨i, hi, h1, h2⟩ := h.share g (hlt v hv) (hlt a ha) hn
    refine hat a i ha (Classical.byContradiction fun h3 => ?_) h2
    rw [ht i (by omega) hi] at h1; cases h1
  refine ⟨v, hlt v hv, hv, (simple_iff g hS).2 fun a b ha hb hva hvb => ?_⟩
  have ha' := hnb a ha hva
  have hb' := hnb b hb hvb
  -- a common place of a and a neighbour that is none of b's lies behind t
  have key : ∀ a b x, S.testBit a = true → S.testBit b = true → S.testBit x = true → (eln d t).testBit a = true → (eln d t).testBit b = true → nb rs a x → ¬nb rs b x → ∃ i, t < i ∧ i < d.length ∧ (eln d i).testBit a = true ∧ (eln d i).testBit x = true := fun a b x ha hb hx hta htb h1 h2 => by
    obtain ⟨i, hi, h3, h4⟩ := h.share g (hlt a ha) (hlt x hx) h1
    refine ⟨i, Classical.byContradiction fun h5 => h2 (h.both g htl htb (hat x i hx (by omega) h4)), hi, h3, h4⟩
  by_cases hab : ∀ c, S.testBit c = true → nb rs a c → nb rs b c
  · exact .inl hab
  · refine .inr fun y hy hby => Classical.byContradiction fun hay => hab fun x hx hax => Classical.byContradiction fun hbx => ?_
    obtain ⟨i, hi1, hi2, hi3, hi4⟩ := key a b x ha hb hx ha' hb' hax hbx
    obtain ⟨j, hj1, hj2, hj3, hj4⟩ := key b a y hb ha hy hb' ha' hby hay
    rcases Nat.lt_trichotomy i j with h1 | h1 | h1
    · exact hbx (h.both g hi2 (h.con b t i j hi1 h1 hj2 hb' hj3) hi4)
    · subst h1; exact hbx (h.both g hi2 hj3 hi4)
    · exact hay (h.both g hj2 (h.con a t j i hj1 h1 hi2 ha' hi3) hj4)
/-- Such a graph has a simple order. -/
theorem IvlP.order {rs : List Int} {d : List Nat} (h : IvlP rs d) (hv : isGraphB rs.length rs = true) : (ordV rs.length rs).isSome = true := by
  refine ord_of hv fun S h0 hS => ?_
  obtain ⟨v, h1, h2, h3⟩ := h.simple (VG.of hv).2 h0 hS
  refine ⟨v, h1, ?_⟩
  unfold simpleB
  rw [isSetB_mk hv hS, Int.toNat_natCast, Int.toNat_natCast, h3, hasN_nat, h2]
  simp; omega

/-- Different members of a list, as many as it has: all of them. -/
theorem full_of_nodup : ∀ (d l : List Nat), d.Nodup → (∀ x ∈ d, x ∈ l) → l.length ≤ d.length → ∀ x ∈ l, x ∈ d
  | [], l, _, _, h, x, hx => by
    have : l = [] := List.length_eq_zero_iff.1 (by simpa using h)
    subst this; simp at hx
  | a :: d, l, hd, hs, h, x, hx => by
    by_cases e : x = a
    · subst e; simp
    · obtain ⟨h1, h2⟩ := List.nodup_cons.1 hd
      refine List.mem_cons_of_mem _ (full_of_nodup d (l.erase a) h2 (fun y hy => (List.mem_erase_of_ne fun e2 => h1 (by rw [← e2]; exact hy)).2 (hs y (List.mem_cons_of_mem _ hy))) ?_ x ((List.mem_erase_of_ne e).2 hx))
      rw [List.length_erase_of_mem (hs a (by simp))]
      simp at h; omega

end Go.Proofs.Ytgklgheaojoimaa
