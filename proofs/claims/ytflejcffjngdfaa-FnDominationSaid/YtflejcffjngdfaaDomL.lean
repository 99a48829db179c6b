/-
  Plain law of domination: no packing is larger than a dominating set; the greedy set of a simple order is as large as the largest packing. No conditions.
-/
import Derived.Test.YtflejcffjngdfaaGreedyL
import Derived.Test.YtflejcffjngdfaaGap
import Derived.Test.YtflejcffjngdfaaDp
import Derived.Test.YtflejcffjngdfaaPathwL
import Derived.Test.YtflejcffjngdfaaFill
namespace Go.Proofs.Ytflejcffjngdfaa
open Go.RowKit

/-- b is a, or a neighbour of a. -/
def near (rs : List Int) (a b : Nat) : Prop := a = b ∨ (gn rs a).testBit b = true
theorem near.symm {rs : List Int} (g : VG rs) {a b : Nat} (ha : a < rs.length) (hb : b < rs.length) (h : near rs a b) : near rs b a := by
  rcases h with h | h
  · exact .inl h.symm
  · exact .inr (by rw [g.sym b hb a ha]; exact h)
theorem ball_bit {rs : List Int} {a i : Nat} : (gn rs a ||| 2 ^ a).testBit i = true ↔ near rs a i := by
  unfold near
  rw [Nat.testBit_or, Bool.or_eq_true, pow_bit]
  exact Or.comm
theorem hood_bit {rs : List Int} {L a i : Nat} : (hood rs L a).testBit i = true ↔ near rs a i ∧ L.testBit i = true := by
  unfold hood
  rw [Nat.testBit_and, Bool.and_eq_true, ball_bit]
theorem around_near {rs : List Int} {S i : Nat} (hS : S < 128) : (around rs S).testBit i = true ↔ ∃ a, S.testBit a = true ∧ near rs a i := by
  rw [around_bit hS]
  constructor
  · rintro (h | ⟨a, h1, h2⟩)
    · exact ⟨i, h, .inl rfl⟩
    · exact ⟨a, h1, .inr h2⟩
  · rintro ⟨a, h1, rfl | h2⟩
    · exact .inl h1
    · exact .inr ⟨a, h1, h2⟩
theorem minus_bit {L v i : Nat} (hL : L < 128) (hv : L.testBit v = true) : (L - 2 ^ v).testBit i = true ↔ L.testBit i = true ∧ i ≠ v := by
  obtain ⟨h1, h2⟩ := minus_or hL hv
  have h3 : L.testBit i = ((L - 2 ^ v) ||| 2 ^ v).testBit i := by rw [h1]
  rw [Nat.testBit_or] at h3
  constructor
  · intro h
    exact ⟨by rw [h3, h]; rfl, fun e => by rw [e, h2] at h; cases h⟩
  · rintro ⟨h, hne⟩
    rw [h, Nat.testBit_two_pow, decide_eq_false (fun e => hne e.symm), Bool.or_false] at h3
    exact h3.symm

/-! ### Weak duality -/
theorem cnt_split_fin : ∀ a b : Fin 128, cnt a.val ≤ cnt (a.val &&& b.val) + cnt (nDiff a.val b.val) := by decide +kernel
theorem cover_le {rs : List Int} (g : VG rs) {X : Nat} (hX : X < 2 ^ rs.length) : ∀ (l : List Nat), (∀ d, d ∈ l → d < rs.length) → (∀ d, d < rs.length → packAt rs X d ≤ 1) → ∀ Y, subN Y X → (∀ i, Y.testBit i = true → ∃ d, d ∈ l ∧ near rs d i) → cnt Y ≤ l.length := by
  have hp := g.pow.1
  intro l
  induction l with
  | nil =>
    intro _ _ Y hY h
    have hY7 : Y < 128 := hY.lt (by omega)
    by_cases h0 : Y = 0
    · subst h0; exact Nat.le_of_eq (by decide)
    · obtain ⟨d, hd, -⟩ := h _ (low_facts hY7 h0).1
      cases hd
  | cons d l ih =>
    intro hl h1 Y hY h
    have hd : d < rs.length := hl d (List.mem_cons_self ..)
    have hY7 : Y < 128 := hY.lt (by omega)
    have hM : gn rs d ||| 2 ^ d < 2 ^ rs.length := Nat.or_lt_two_pow (g.lt d hd) (Nat.pow_lt_pow_right (by decide) hd)
    have hM7 : gn rs d ||| 2 ^ d < 128 := by omega
    have e1 := cnt_split_fin ⟨Y, hY7⟩ ⟨_, hM7⟩
    dsimp only at e1
    have e2 : cnt (Y &&& (gn rs d ||| 2 ^ d)) ≤ 1 := by
      refine Nat.le_trans (cnt_mono (B := (gn rs d ||| 2 ^ d) &&& X) (Nat.lt_of_le_of_lt Nat.and_le_left hM7) fun i hi => ?_) (h1 d hd)
      rw [Nat.testBit_and, Bool.and_eq_true] at hi ⊢
      exact ⟨hi.2, hY i hi.1⟩
    have e3 := ih (fun d hd => hl d (List.mem_cons_of_mem _ hd)) h1 (nDiff Y (gn rs d ||| 2 ^ d)) ((nDiff_sub _ _).trans hY) fun i hi => by
      rw [nDiff_bit] at hi
      obtain ⟨d', hd', hn⟩ := h i hi.1
      rcases List.mem_cons.1 hd' with rfl | hd'
      · rw [ball_bit.2 hn] at hi; cases hi.2
      · exact ⟨d', hd', hn⟩
    rw [List.length_cons]; omega
theorem dom_pack {rs : List Int} (g : VG rs) {D X : Nat} (hD : D < 2 ^ rs.length) (hX : X < 2 ^ rs.length) (hd : around rs D = 2 ^ rs.length - 1) (hp : ∀ d, d < rs.length → packAt rs X d ≤ 1) : cnt X ≤ cnt D := by
  have h7 := g.pow.1
  refine cover_le g hX (els D) (fun d h => testBit_lt hD ((mem_els hD g.le).1 h)) hp X (subN.refl _) fun i hi => ?_
  have h1 : (around rs D).testBit i = true := by rw [hd]; exact all_bit.2 (testBit_lt hX hi)
  obtain ⟨a, h2, h3⟩ := (around_near (by omega)).1 h1
  exact ⟨a, (mem_els hD g.le).2 h2, h3⟩

/-! ### The best sets -/
theorem fewestTo_best (p : Nat → Bool) : ∀ k, (∃ S, S < k ∧ p S = true) → ∃ L : Nat, L < k ∧ fewestTo p k = (L : Int) ∧ p L = true ∧ ∀ S, S < k → p S = true → cnt L ≤ cnt S := by
  intro k
  induction k with
  | zero => rintro ⟨S, h, -⟩; omega
  | succ k ih =>
    rintro ⟨S, hS, hp⟩
    by_cases he : ∃ S, S < k ∧ p S = true
    · obtain ⟨L, h1, h2, h3, h4⟩ := ih he
      by_cases hc : cnt k < cnt L ∧ p k = true
      · refine ⟨k, by omega, ?_, hc.2, fun S hS hp => ?_⟩
        · rw [fewestTo_succ, h2, Int.toNat_natCast, if_pos ⟨.inr hc.1, hc.2⟩]
        · rcases Nat.lt_succ_iff_lt_or_eq.1 hS with h | rfl
          · have := h4 S h hp; omega
          · exact Nat.le_refl _
      · refine ⟨L, by omega, ?_, h3, fun S hS hp => ?_⟩
        · rw [fewestTo_succ, h2, Int.toNat_natCast, if_neg]
          rintro ⟨h | h, hk⟩
          · omega
          · exact hc ⟨h, hk⟩
        · rcases Nat.lt_succ_iff_lt_or_eq.1 hS with h | rfl
          · exact h4 S h hp
          · by_cases h : cnt S < cnt L
            · exact absurd ⟨h, hp⟩ hc
            · omega
    · obtain rfl : S = k := by
        rcases Nat.lt_succ_iff_lt_or_eq.1 hS with h | h
        · exact absurd ⟨S, h, hp⟩ he
        · exact h
      have h0 : fewestTo p S = -1 := by
        have : ∀ j, j ≤ S → fewestTo p j = -1 := by
          intro j
          induction j with
          | zero => intro _; rfl
          | succ j ih =>
            intro hj
            have hpj : p j = false := by
              cases h : p j
              · rfl
              · exact absurd ⟨j, by omega, h⟩ he
            rw [fewestTo_skip hpj]; exact ih (by omega)
        exact this S (Nat.le_refl _)
      refine ⟨S, by omega, fewestTo_new hp (.inl (by rw [h0]; decide)), hp, fun T hT hq => ?_⟩
      rcases Nat.lt_succ_iff_lt_or_eq.1 hT with h | rfl
      · exact absurd ⟨T, h, hq⟩ he
      · exact Nat.le_refl _
theorem largestTo_best {p : Nat → Bool} (h0 : p 0 = true) : ∀ k, p (largestTo p k) = true ∧ ∀ S, S < k → p S = true → cnt S ≤ cnt (largestTo p k) := by
  intro k
  induction k with
  | zero => exact ⟨h0, fun S h => by omega⟩
  | succ k ih =>
    obtain ⟨h1, h2⟩ := ih
    have e : largestTo p (k + 1) = if cnt (largestTo p k) < cnt k ∧ p k = true then k else largestTo p k := rfl
    by_cases hc : cnt (largestTo p k) < cnt k ∧ p k = true
    · rw [e, if_pos hc]
      refine ⟨hc.2, fun S hS hp => ?_⟩
      rcases Nat.lt_succ_iff_lt_or_eq.1 hS with h | rfl
      · have := h2 S h hp; omega
      · exact Nat.le_refl _
    · rw [e, if_neg hc]
      refine ⟨h1, fun S hS hp => ?_⟩
      rcases Nat.lt_succ_iff_lt_or_eq.1 hS with h | rfl
      · exact h2 S h hp
      · by_cases h : cnt (largestTo p S) < cnt S
        · exact absurd ⟨h, hp⟩ hc
        · omega

/-! ### The greedy set -/
/-- Simple vertices, taken away one by one till none is left. -/
def simOk (rs : List Int) : Nat → List Nat → Prop
  | L, [] => L = 0
  | L, v :: t => v < rs.length ∧ L.testBit v = true ∧ (∀ a b, (hood rs L v).testBit a = true → (hood rs L v).testBit b = true → subN (hood rs L a) (hood rs L b) ∨ subN (hood rs L b) (hood rs L a)) ∧ simOk rs (L - 2 ^ v) t
theorem simple_nest {rs : List Int} (g : VG rs) {L v : Nat} (hL : L < 2 ^ rs.length) (h : simpleN rs L v = true) {a b : Nat} (ha : (hood rs L v).testBit a = true) (hb : (hood rs L v).testBit b = true) : subN (hood rs L a) (hood rs L b) ∨ subN (hood rs L b) (hood rs L a) := by
  have hH := hood_lt hL v (rs := rs)
  obtain ⟨i, hi, rfl⟩ := (els_has hH g.le).1 ha
  obtain ⟨j, hj, rfl⟩ := (els_has hH g.le).1 hb
  have hs := of_decide_eq_true h
  have key : ∀ i, i < cnt (hood rs L v) → ∀ j, j < i → subN (hood rs L (eln (els (hood rs L v)) i)) (hood rs L (eln (els (hood rs L v)) j)) ∨ subN (hood rs L (eln (els (hood rs L v)) j)) (hood rs L (eln (els (hood rs L v)) i)) := fun i hi j hj => by
    rcases of_decide_eq_true (hs i hi j hj) with h | h
    · exact .inl (subN_iff.2 h)
    · exact .inr (subN_iff.2 (by rw [Nat.and_comm]; exact h))
  rcases Nat.lt_trichotomy i j with h | h | h
  · exact (key j hj i h).symm
  · rw [h]; exact .inl (subN.refl _)
  · exact key i hi j h
theorem ordF_sim {rs : List Int} (hg : isGraphB rs.length rs = true) : ∀ (f S : Nat) (out x : List Int), S ≤ f → S < 2 ^ rs.length → ordF rs f S out = some x → ∃ t : List Nat, x = out ++ t.map Int.ofNat ∧ simOk rs S t
  | 0, S, out, x, hS, _, h => by
    have : some out = some x := h
    simp only [Option.some.injEq] at this
    exact ⟨[], by simp [this], by show S = 0; omega⟩
  | f + 1, S, out, x, hS, hlt, h => by
    have g := (VG.of hg).2
    by_cases h0 : S = 0
    · rw [h0, ordF_zero] at h
      simp only [Option.some.injEq] at h
      exact ⟨[], by simp [h], h0⟩
    · have h1 : (if S = 0 then some out else match leastB rs S with | none => none | some v => ordF rs f (S - 2 ^ v) (out ++ [(v : Int)])) = some x := h
      rw [if_neg h0] at h1
      cases hl : leastB rs S with
      | none => rw [hl] at h1; cases h1
      | some v =>
        rw [hl] at h1
        obtain ⟨a1, a2, a3, a4⟩ := leastB_left hl
        have hsim : simpleB rs.length rs v S = true := by
          unfold leastB firstB at hl
          exact List.find?_some (p := fun v : Nat => simpleB rs.length rs v S) hl
        obtain ⟨t, h2, h3⟩ := ordF_sim hg f _ _ x (by omega) (Nat.lt_of_le_of_lt (Nat.sub_le _ _) hlt) h1
        refine ⟨v :: t, by rw [h2]; simp, a1, a2, fun a b ha hb => simple_nest g hlt ?_ ha hb, h3⟩
        unfold simpleB at hsim
        simp only [Bool.and_eq_true, Int.toNat_natCast] at hsim
        exact hsim.2.2.2
theorem bestTo_max {rs : List Int} {L : Nat} {l : List Nat} : ∀ k j, j < k → score rs L (eln l j) ≤ score rs L (bestTo rs L l k)
  | 0, j, h => by omega
  | k + 1, j, h => by
    have e : bestTo rs L l (k + 1) = if score rs L (bestTo rs L l k) < score rs L (eln l k) then eln l k else bestTo rs L l k := rfl
    rw [e]
    rcases Nat.lt_succ_iff_lt_or_eq.1 h with h | rfl
    · have := bestTo_max (rs := rs) (L := L) (l := l) k j h
      split <;> omega
    · split <;> omega
theorem cnt_same_fin : ∀ a b : Fin 128, a.val &&& b.val = a.val → cnt b.val ≤ cnt a.val → a.val = b.val := by decide +kernel
/-- The best one's hood holds the others'. -/
theorem best_holds {rs : List Int} (g : VG rs) {L v : Nat} (hL : L < 2 ^ rs.length) (hv : L.testBit v = true) (hs : ∀ a b, (hood rs L v).testBit a = true → (hood rs L v).testBit b = true → subN (hood rs L a) (hood rs L b) ∨ subN (hood rs L b) (hood rs L a)) :
    bestOf rs L v < rs.length ∧ near rs v (bestOf rs L v) ∧ ∀ w, (hood rs L v).testBit w = true → subN (hood rs L w) (hood rs L (bestOf rs L v)) := by
  have hp := g.pow.1
  have hH := hood_lt hL v (rs := rs)
  have hm := hood_self (rs := rs) hv
  have h0 : 0 < (els (hood rs L v)).length := List.length_pos_of_mem ((mem_els hH g.le).2 hm)
  have hbm : bestOf rs L v ∈ els (hood rs L v) := bestTo_mem h0 _ (Nat.le_refl _)
  have hb := (mem_els hH g.le).1 hbm
  refine ⟨testBit_lt hH hb, (hood_bit.1 hb).1, fun w hw => ?_⟩
  rcases hs w _ hw hb with h | h
  · exact h
  · obtain ⟨j, hj, rfl⟩ := (els_has hH g.le).1 hw
    have hmx := bestTo_max (rs := rs) (L := L) (l := els (hood rs L v)) (cnt (hood rs L v)) j hj
    have h1 := hood_lt hL (bestOf rs L v) (rs := rs)
    have h2 := hood_lt hL (eln (els (hood rs L v)) j) (rs := rs)
    have e := cnt_same_fin ⟨hood rs L (bestOf rs L v), by omega⟩ ⟨hood rs L (eln (els (hood rs L v)) j), by omega⟩ (subN_iff.1 h) hmx
    dsimp only at e
    rw [e]; exact subN.refl _

/-- What holds along the order: S the greedy set, L what is left, Q the packing. -/
structure GI (rs : List Int) (S L Q : Nat) : Prop where
  hS : S < 2 ^ rs.length
  hL : L < 2 ^ rs.length
  hQ : Q < 2 ^ rs.length
  card : cnt S = cnt Q
  dom : ∀ v, v < rs.length → L.testBit v = false → (around rs S).testBit v = true
  cov : ∀ q w u, Q.testBit q = true → near rs q w → w < rs.length → L.testBit u = true → near rs w u → (around rs S).testBit u = true
  pack : ∀ q q' w, Q.testBit q = true → Q.testBit q' = true → near rs q w → near rs q' w → w < rs.length → q = q'
  elim : ∀ w u v, w < rs.length → L.testBit w = false → L.testBit u = true → L.testBit v = true → near rs w u → near rs w v → near rs u v
  qL : ∀ q, Q.testBit q = true → L.testBit q = false
theorem GI.elim' {rs : List Int} (g : VG rs) {S L Q v : Nat} (h : GI rs S L Q) (hv : L.testBit v = true) (hs : ∀ a b, (hood rs L v).testBit a = true → (hood rs L v).testBit b = true → subN (hood rs L a) (hood rs L b) ∨ subN (hood rs L b) (hood rs L a)) :
    ∀ w u u', w < rs.length → (L - 2 ^ v).testBit w = false → (L - 2 ^ v).testBit u = true → (L - 2 ^ v).testBit u' = true → near rs w u → near rs w u' → near rs u u' := by
  have hp := g.pow.1
  have hL := h.hL
  intro w u u' hw hwL hu hu' h1 h2
  have hu := (minus_bit (by omega) hv).1 hu
  have hu' := (minus_bit (by omega) hv).1 hu'
  by_cases e : w = v
  · subst e
    have ha := hood_bit.2 ⟨h1, hu.1⟩
    have hb := hood_bit.2 ⟨h2, hu'.1⟩
    rcases hs _ _ ha hb with hn | hn
    · exact ((hood_bit.1 (hn u (hood_bit.2 ⟨.inl rfl, hu.1⟩))).1).symm g (testBit_lt hL hu'.1) (testBit_lt hL hu.1)
    · exact (hood_bit.1 (hn u' (hood_bit.2 ⟨.inl rfl, hu'.1⟩))).1
  · have hw2 : L.testBit w = false := by
      rw [Bool.eq_false_iff]
      intro hc
      rw [(minus_bit (by omega) hv).2 ⟨hc, e⟩] at hwL; cases hwL
    exact h.elim w u u' hw hw2 hu.1 hu'.1 h1 h2
theorem around_more {rs : List Int} {S T i : Nat} (hT : T < 128) (h : subN S T) (hi : (around rs S).testBit i = true) : (around rs T).testBit i = true := by
  obtain ⟨a, h1, h2⟩ := (around_near (h.lt hT)).1 hi
  exact (around_near hT).2 ⟨a, h a h1, h2⟩
theorem GI.run {rs : List Int} (g : VG rs) : ∀ (t : List Nat) (S L Q : Nat), GI rs S L Q → simOk rs L t → ∃ Q', GI rs (greedyF rs t S L) 0 Q'
  | [], S, L, Q, h, hk => by
    have e : L = 0 := hk
    subst e
    exact ⟨Q, h⟩
  | v :: t, S, L, Q, h, hk => by
    obtain ⟨hvN, hvL, hs, hk⟩ := hk
    have hp := g.pow.1
    have h7 := g.le
    have hL := h.hL
    have hS := h.hS
    have hQ := h.hQ
    have hpv : 2 ^ v < 2 ^ rs.length := Nat.pow_lt_pow_right (by decide) hvN
    have hL' : L - 2 ^ v < 2 ^ rs.length := Nat.lt_of_le_of_lt (Nat.sub_le _ _) hL
    have hout : ∀ u, (L - 2 ^ v).testBit u = false → L.testBit u = false ∨ u = v := fun u hu => by
      by_cases e : u = v
      · exact .inr e
      · refine .inl ?_
        rw [Bool.eq_false_iff]
        intro hc
        rw [(minus_bit (by omega) hvL).2 ⟨hc, e⟩] at hu; cases hu
    have hin : ∀ u, L.testBit u = false → (L - 2 ^ v).testBit u = false := fun u hu => by
      rw [Bool.eq_false_iff]
      intro hc
      rw [((minus_bit (by omega) hvL).1 hc).1] at hu; cases hu
    have hself : (L - 2 ^ v).testBit v = false := (minus_or (by omega) hvL).2
    cases hb : (around rs S).testBit v
    · rw [greedyF_new hb]
      obtain ⟨hbN, hbn, hbest⟩ := best_holds g hL hvL hs
      generalize bestOf rs L v = b at *
      have hpb : 2 ^ b < 2 ^ rs.length := Nat.pow_lt_pow_right (by decide) hbN
      have hS' : S ||| 2 ^ b < 2 ^ rs.length := Nat.or_lt_two_pow hS hpb
      have hQ' : Q ||| 2 ^ v < 2 ^ rs.length := Nat.or_lt_two_pow hQ hpv
      have hsub : subN S (S ||| 2 ^ b) := fun i hi => by rw [Nat.testBit_or, hi]; rfl
      have hbS : (S ||| 2 ^ b).testBit b = true := by rw [Nat.testBit_or, Bool.or_eq_true]; exact .inr (pow_bit.2 rfl)
      have hbnear : ∀ u, near rs b u → (around rs (S ||| 2 ^ b)).testBit u = true := fun u hu => (around_near (by omega)).2 ⟨b, hbS, hu⟩
      have hvQ : Q.testBit v = false := by
        rw [Bool.eq_false_iff]
        intro hc
        rw [h.qL v hc] at hvL; cases hvL
      have hbnS : S.testBit b = false := by
        rw [Bool.eq_false_iff]
        intro hc
        rw [(around_near (by omega)).2 ⟨b, hc, hbn.symm g hvN hbN⟩] at hb; cases hb
      have hq : ∀ q, (Q ||| 2 ^ v).testBit q = true → Q.testBit q = true ∨ q = v := fun q hq => by
        rw [Nat.testBit_or, Bool.or_eq_true, pow_bit] at hq
        exact hq.imp id Eq.symm
      have hfar : ∀ q w, Q.testBit q = true → near rs q w → near rs v w → w < rs.length → False := fun q w h1 h2 h3 h4 => by
        have := h.cov q w v h1 h2 h4 hvL (h3.symm g hvN h4)
        rw [this] at hb; cases hb
      refine GI.run g t _ _ (Q ||| 2 ^ v) ⟨hS', hL', hQ', ?_, fun u hu hul => ?_, fun q w u h1 h2 h3 h4 h5 => ?_, fun q q' w h1 h2 h3 h4 h5 => ?_, h.elim' g hvL hs, fun q h1 => ?_⟩ hk
      · have e1 := cnt_or_fin ⟨S, by omega⟩ ⟨b, by omega⟩ hbnS
        have e2 := cnt_or_fin ⟨Q, by omega⟩ ⟨v, by omega⟩ hvQ
        dsimp only at e1 e2
        rw [e1, e2, h.card]
      · rcases hout u hul with h1 | rfl
        · exact around_more (by omega) hsub (h.dom u hu h1)
        · exact hbnear _ (hbn.symm g hvN hbN)
      · have h4' := (minus_bit (by omega) hvL).1 h4
        rcases hq q h1 with h1 | rfl
        · exact around_more (by omega) hsub (h.cov q w u h1 h2 h3 h4'.1 h5)
        · cases hw : L.testBit w
          · have hn := h.elim w u q h3 hw h4'.1 hvL h5 (h2.symm g hvN h3)
            have hu := hood_bit.2 ⟨hn.symm g (testBit_lt hL h4'.1) hvN, h4'.1⟩
            exact hbnear u (hood_bit.1 (hbest u hu u (hood_bit.2 ⟨.inl rfl, h4'.1⟩))).1
          · exact hbnear u (hood_bit.1 (hbest w (hood_bit.2 ⟨h2, hw⟩) u (hood_bit.2 ⟨h5, h4'.1⟩))).1
      · rcases hq q h1 with k1 | k1
        · rcases hq q' h2 with k2 | k2
          · exact h.pack q q' w k1 k2 h3 h4 h5
          · rw [k2] at h4; exact (hfar q w k1 h3 h4 h5).elim
        · rcases hq q' h2 with k2 | k2
          · rw [k1] at h3; exact (hfar q' w k2 h4 h3 h5).elim
          · rw [k1, k2]
      · rcases hq q h1 with k1 | k1
        · exact hin q (h.qL q k1)
        · rw [k1]; exact hself
    · rw [greedyF_has hb]
      refine GI.run g t _ _ Q ⟨hS, hL', hQ, h.card, fun u hu hul => ?_, fun q w u h1 h2 h3 h4 h5 => h.cov q w u h1 h2 h3 ((minus_bit (by omega) hvL).1 h4).1 h5, h.pack, h.elim' g hvL hs, fun q h1 => hin q (h.qL q h1)⟩ hk
      rcases hout u hul with h1 | rfl
      · exact h.dom u hu h1
      · exact hb
theorem cnt_one_fin : ∀ x : Fin 128, (∀ a b : Fin 7, x.val.testBit a.val = true → x.val.testBit b.val = true → a = b) → cnt x.val ≤ 1 := by decide +kernel
theorem cnt_one {X : Nat} (hX : X < 128) (h : ∀ a b, X.testBit a = true → X.testBit b = true → a = b) : cnt X ≤ 1 :=
  cnt_one_fin ⟨X, hX⟩ fun a b ha hb => Fin.ext (h a.val b.val ha hb)

/-! ### The law -/
theorem packB_facts {rs : List Int} {X : Nat} (h : packB rs.length rs X = true) : ∀ v, v < rs.length → packAt rs X v ≤ 1 := by
  unfold packB at h
  rw [Bool.and_eq_true] at h
  have := of_decide_eq_true h.2
  rwa [Int.toNat_natCast] at this
theorem domB_facts {rs : List Int} {D : Nat} (h : domB rs.length rs D = true) : around rs D = 2 ^ rs.length - 1 := by
  unfold domB at h
  rw [Bool.and_eq_true] at h
  have := of_decide_eq_true h.2
  rwa [Int.toNat_natCast] at this
theorem domB_mk {rs : List Int} (hg : isGraphB rs.length rs = true) {D : Nat} (hD : D < 2 ^ rs.length) (h : around rs D = 2 ^ rs.length - 1) : domB rs.length rs D = true := by
  unfold domB
  rw [isSetB_mk hg hD, Int.toNat_natCast, decide_eq_true h]; rfl
theorem around_all {rs : List Int} (g : VG rs) {S : Nat} (hS : S < 2 ^ rs.length) (h : ∀ v, v < rs.length → (around rs S).testBit v = true) : around rs S = 2 ^ rs.length - 1 := by
  refine subN.antisymm (sub_all (around_lt g hS)) fun i hi => h i (all_bit.1 hi)
/-- The two best sets of a graph. -/
theorem best_sets {rs : List Int} (hg : isGraphB rs.length rs = true) : ∃ D X : Nat, D < 2 ^ rs.length ∧ X < 2 ^ rs.length ∧
    fewestV rs.length rs (fun S => domB rs.length rs S) = (D : Int) ∧ largestV rs.length rs (fun S => packB rs.length rs S) = (X : Int) ∧ domB rs.length rs D = true ∧ packB rs.length rs X = true ∧ cnt X ≤ cnt D ∧
    (∀ S : Nat, S < 2 ^ rs.length → domB rs.length rs S = true → cnt D ≤ cnt S) ∧ (∀ S : Nat, S < 2 ^ rs.length → packB rs.length rs S = true → cnt S ≤ cnt X) := by
  have g := (VG.of hg).2
  have hall := all_lt rs.length
  have h1 : domB rs.length rs ((2 ^ rs.length - 1 : Nat) : Int) = true := domB_mk hg hall (around_all g hall fun v hv => (around_near (by have := g.pow.1; omega)).2 ⟨v, all_bit.2 hv, .inl rfl⟩)
  obtain ⟨D, d1, d2, d3, d4⟩ := fewestTo_best (fun S => domB rs.length rs S) (2 ^ rs.length) ⟨_, hall, h1⟩
  have h2 : packB rs.length rs ((0 : Nat) : Int) = true := packB_ok (isSetB_mk hg (Nat.two_pow_pos _)) fun v hv => by
    unfold packAt
    rw [Nat.and_zero]
    exact Nat.le_of_lt (by decide)
  obtain ⟨x1, x2⟩ := largestTo_best (p := fun S : Nat => packB rs.length rs S) h2 (2 ^ rs.length)
  have x3 := largestTo_le (fun S : Nat => packB rs.length rs S) (2 ^ rs.length)
  generalize hX : largestTo (fun S : Nat => packB rs.length rs S) (2 ^ rs.length) = X at *
  obtain ⟨-, -, X', e, hXl⟩ := isSetB_true (n := rs.length) (rs := rs) (s := X) (by have := x1; unfold packB at this; rw [Bool.and_eq_true] at this; exact this.1)
  have e : X = X' := Int.ofNat.inj e
  subst e
  refine ⟨D, X, d1, hXl, ?_, ?_, d3, x1, dom_pack g d1 hXl (domB_facts d3) (packB_facts x1), d4, x2⟩
  · unfold fewestV; rw [if_pos hg, d2]
  · unfold largestV; rw [if_pos hg, hX]
theorem gap_law {rs : List Int} (hg : isGraphB rs.length rs = true) : 0 ≤ gapV rs.length rs := by
  have hp := (VG.of hg).2.pow.1
  obtain ⟨D, X, h1, h2, h3, h4, -, -, h5, -, -⟩ := best_sets hg
  rw [gapV_of hg, h3, h4, listOf_length (by omega), listOf_length (by omega)]
  omega
/-- The greedy set dominates, is as large as the largest packing, and there is no gap. -/
theorem greedy_law {n : Int} {rs x : List Int} (h : ordV n rs = some x) : ∃ T : Nat, T < 2 ^ rs.length ∧ greedyV n rs = T ∧ domB n rs T = true ∧ gapV n rs = 0 ∧ ((cnt T : Nat) : Int) = (listOf (largestV n rs fun S => packB rs.length rs S)).length := by
  cases hv : isGraphB n rs
  · rw [ordV_no hv] at h; cases h
  obtain ⟨rfl, g⟩ := VG.of hv
  have hp := g.pow.1
  have hall := all_lt rs.length
  have h' := h
  rw [ordV_of hv] at h
  obtain ⟨t, h1, h2⟩ := ordF_sim hv _ _ _ _ (Nat.le_refl _) hall h
  rw [List.nil_append] at h1
  have hz : ∀ i, (0 : Nat).testBit i = true → False := fun i hi => by rw [Nat.zero_testBit] at hi; cases hi
  have hin : ∀ v, v < rs.length → (2 ^ rs.length - 1).testBit v = false → False := fun v hv h => by rw [all_bit.2 hv] at h; cases h
  obtain ⟨Q, hQ⟩ := GI.run g t 0 (2 ^ rs.length - 1) 0 ⟨Nat.two_pow_pos _, hall, Nat.two_pow_pos _, rfl, fun v hv h => (hin v hv h).elim, fun q w u h => (hz q h).elim, fun q q' w h => (hz q h).elim, fun w u v hw h => (hin w hw h).elim, fun q h => (hz q h).elim⟩ h2
  have hT : greedyV rs.length rs = ((greedyF rs t 0 (2 ^ rs.length - 1) : Nat) : Int) := by
    unfold greedyV
    rw [h', h1]
    show ((greedyF rs (natsOf (t.map Int.ofNat)) 0 (2 ^ rs.length - 1) : Nat) : Int) = _
    rw [natsOf_map]
  generalize greedyF rs t 0 (2 ^ rs.length - 1) = T at *
  have hdT : domB rs.length rs T = true := domB_mk hv hQ.hS (around_all g hQ.hS fun v hv => hQ.dom v hv (Nat.zero_testBit v))
  have hQ7 := hQ.hQ
  have hT7 := hQ.hS
  have hpQ : packB rs.length rs Q = true := packB_ok (isSetB_mk hv hQ.hQ) fun w hw => by
    refine cnt_one (Nat.lt_of_le_of_lt Nat.and_le_right (by omega)) fun a b ha hb => ?_
    rw [Nat.testBit_and, Bool.and_eq_true, ball_bit] at ha hb
    have ha1 := testBit_lt hQ.hQ ha.2
    have hb1 := testBit_lt hQ.hQ hb.2
    exact hQ.pack a b w ha.2 hb.2 (ha.1.symm g hw ha1) (hb.1.symm g hw hb1) hw
  obtain ⟨D, X, d1, d2, d3, d4, d5, d6, d7, d8, d9⟩ := best_sets hv
  have e1 := d8 T hT7 hdT
  have e2 := d9 Q hQ7 hpQ
  have e3 := hQ.card
  refine ⟨T, hT7, hT, hdT, ?_, ?_⟩
  · rw [gapV_of hv, d3, d4, listOf_length (by omega), listOf_length (by omega)]; omega
  · rw [d4, listOf_length (by omega)]; omega

end Go.Proofs.Ytflejcffjngdfaa
