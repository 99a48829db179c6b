/-
  Orders by which vertices are taken away one by one: a simple order is an elimination, IsElimination of the program says so. For orders whose capacity is at least their length.
  Perfect graphs of at most six vertices: perfect exactly if no five vertices are a hole. No conditions beyond that.
-/
import Derived.Test.YtfkehmpckhmkbaaGreatPkLawPerfect29
import Derived.Test.YtfkehmpckhmkbaaGreatPkLawPerfect30
import Derived.Test.YtfkehmpckhmkbaaGreatPkLawPerfect31
import Derived.Test.YtfkehmpckhmkbaaGreatPkLawPerfect19
import Derived.Test.YtfkehmpckhmkbaaGreatPkLawPerfect26
import Derived.Test.YtfkehmpckhmkbaaGreatPkLawPerfect28
namespace Go.Proofs.YtfkehmpckhmkbaaGreat
open Go.RowKit

/-- One vertex after the other that passes, until none is left. -/
def chainP (p : Nat → Nat → Bool) (N : Nat) : Nat → List Nat → Prop
  | S, [] => S = 0
  | S, v :: t => v < N ∧ p S v = true ∧ chainP p N (S - 2 ^ v) t
theorem takeF_chain {p : Nat → Nat → Bool} {N : Nat} (hp : ∀ S v, p S v = true → S.testBit v = true) : ∀ (f S : Nat) (out l : List Int), S ≤ f → takeF p N f S out = some l → ∃ t : List Nat, l = out ++ t.map Int.ofNat ∧ chainP p N S t := by
  intro f
  induction f with
  | zero =>
    intro S out l hS h
    obtain rfl : S = 0 := by omega
    rw [takeF_zero] at h
    exact ⟨[], by simpa using (Option.some.inj h).symm, rfl⟩
  | succ f ih =>
    intro S out l hS h
    by_cases h0 : S = 0
    · subst h0
      rw [takeF_zero] at h
      exact ⟨[], by simpa using (Option.some.inj h).symm, rfl⟩
    · cases hl : leastP p N S with
      | none => rw [takeF_none hS (by omega) hl] at h; cases h
      | some v =>
        rw [takeF_some hS (by omega) hl] at h
        have h1 := hl
        unfold leastP firstB at h1
        have h2 := List.find?_some h1
        have h3 := List.mem_range.1 (List.mem_of_find?_eq_some h1)
        have h4 := Nat.ge_two_pow_of_testBit (hp _ _ h2)
        have h5 := Nat.two_pow_pos v
        obtain ⟨t, e, ht⟩ := ih (S - 2 ^ v) _ _ (by omega) h
        exact ⟨v :: t, by rw [e]; simp, h3, h2, ht⟩
theorem chain_facts {p : Nat → Nat → Bool} {N : Nat} (hp : ∀ S v, p S v = true → S.testBit v = true) : ∀ (t : List Nat) (S : Nat), S < 128 → chainP p N S t →
    (∀ x, x ∈ t ↔ S.testBit x = true) ∧ t.Nodup ∧ (∀ x ∈ t, x < N) ∧ ∀ i, i < t.length → ∃ Si, Si < 128 ∧ p Si (eln t i) = true ∧ ∀ x, Si.testBit x = true ↔ S.testBit x = true ∧ x ∉ t.take i
  | [], S, _, h => by
    have h : S = 0 := h
    subst h
    exact ⟨fun x => by simp, List.nodup_nil, fun x hx => by simp at hx, fun i hi => by simp at hi⟩
  | v :: t, S, hS, ⟨h1, h2, h3⟩ => by
    have hb := hp _ _ h2
    have hbit := sub_bit hS hb
    obtain ⟨a1, a2, a3, a4⟩ := chain_facts hp t (S - 2 ^ v) (Nat.lt_of_le_of_lt (Nat.sub_le _ _) hS) h3
    have hbit2 : ∀ x, (S - 2 ^ v).testBit x = true ↔ S.testBit x = true ∧ x ≠ v := fun x => by rw [hbit, Bool.and_eq_true, decide_eq_true_eq]
    refine ⟨fun x => ?_, List.nodup_cons.2 ⟨fun h => ((hbit2 v).1 ((a1 v).1 h)).2 rfl, a2⟩, fun x hx => ?_, fun i hi => ?_⟩
    · rw [List.mem_cons, a1, hbit2]
      constructor
      · rintro (rfl | h)
        · exact hb
        · exact h.1
      · intro h
        by_cases e : x = v
        · exact .inl e
        · exact .inr ⟨h, e⟩
    · rcases List.mem_cons.1 hx with rfl | hx
      · exact h1
      · exact a3 x hx
    · cases i with
      | zero => exact ⟨S, hS, h2, fun x => by simp⟩
      | succ i =>
        obtain ⟨Si, b1, b2, b3⟩ := a4 i (by simpa using hi)
        refine ⟨Si, b1, b2, fun x => ?_⟩
        rw [b3, hbit2, List.take_succ_cons, List.mem_cons]
        constructor
        · rintro ⟨⟨c1, c2⟩, c3⟩
          exact ⟨c1, fun h => h.elim c2 c3⟩
        · rintro ⟨c1, c2⟩
          exact ⟨⟨c1, fun h => c2 (.inl h)⟩, fun h => c2 (.inr h)⟩
theorem nodup_sub_len : ∀ (d l : List Nat), d.Nodup → (∀ x ∈ d, x ∈ l) → d.length ≤ l.length
  | [], _, _, _ => Nat.zero_le _
  | a :: d, l, hd, hs => by
    obtain ⟨h1, h2⟩ := List.nodup_cons.1 hd
    have hal := hs a (by simp)
    have := nodup_sub_len d (l.erase a) h2 fun y hy => (List.mem_erase_of_ne fun e => h1 (by rw [← e]; exact hy)).2 (hs y (List.mem_cons_of_mem _ hy))
    rw [List.length_erase_of_mem hal] at this
    have := List.length_pos_of_mem hal
    simp; omega
/-- Vertices in an order, each with the set of those that were left. -/
structure ElimO (p : Nat → Nat → Bool) (rs : List Int) (t : List Nat) : Prop where
  len : t.length = rs.length
  nodup : t.Nodup
  lt : ∀ x ∈ t, x < rs.length
  all : ∀ x, x < rs.length → x ∈ t
  step : ∀ i, i < t.length → ∃ Si, Si < 128 ∧ p Si (eln t i) = true ∧ ∀ x, Si.testBit x = true ↔ x < rs.length ∧ x ∉ t.take i
theorem chain_elim {p : Nat → Nat → Bool} {rs : List Int} (g : VG rs) (hp : ∀ S v, p S v = true → S.testBit v = true) {t : List Nat} (h : chainP p rs.length (2 ^ rs.length - 1) t) : ElimO p rs t := by
  have h128 := g.pow.1
  obtain ⟨a1, a2, a3, a4⟩ := chain_facts hp t _ (by omega) h
  have hall : ∀ x, (2 ^ rs.length - 1).testBit x = true ↔ x < rs.length := fun x => by rw [Nat.testBit_two_pow_sub_one, decide_eq_true_eq]
  refine ⟨Nat.le_antisymm (nodup_lt7 _ _ a2 a3) ?_, a2, a3, fun x hx => (a1 x).2 ((hall x).2 hx), fun i hi => ?_⟩
  · have := nodup_sub_len (List.range rs.length) t List.nodup_range fun x hx => (a1 x).2 ((hall x).2 (List.mem_range.1 hx))
    simpa using this
  · obtain ⟨Si, b1, b2, b3⟩ := a4 i hi
    exact ⟨Si, b1, b2, fun x => by rw [b3, hall]⟩
theorem ElimO.order {p : Nat → Nat → Bool} {rs : List Int} {t : List Nat} (h : ElimO p rs t) (hv : isGraphB rs.length rs = true) : orderB rs.length rs (t.map Int.ofNat) = true := by
  have hvb : vertsB rs.length rs (t.map Int.ofNat) = true := vertsB_true.2 ⟨hv, fun j hj => by
    rw [List.length_map] at hj
    have hl := h.lt _ (eln_mem hj)
    rw [gi_map t j hj]
    refine ⟨⟨by omega, by omega⟩, fun i hij e => ?_⟩
    rw [gi_map t i (by omega)] at e
    exact eln_ne h.nodup (by omega) hj (by omega) (Int.ofNat.inj e)⟩
  rw [orderB_of hvb, List.length_map, h.len]
  exact beq_self_eq_true _
theorem mem_take {t : List Nat} {i x : Nat} : x ∈ t.take i ↔ ∃ j, j < i ∧ j < t.length ∧ eln t j = x := by
  rw [List.mem_take_iff_getElem]
  constructor
  · rintro ⟨j, hj, rfl⟩
    refine ⟨j, by omega, by omega, ?_⟩
    simp [eln, show j < t.length by omega]
  · rintro ⟨j, h1, h2, rfl⟩
    exact ⟨j, by omega, by simp [eln, h2]⟩
/-- The later neighbours of a vertex, by the set that was left. -/
theorem ElimO.later {p : Nat → Nat → Bool} {rs : List Int} {t : List Nat} (h : ElimO p rs t) (hv : isGraphB rs.length rs = true) {i : Nat} (hi : i < t.length) {Si : Nat} (hS : ∀ x, Si.testBit x = true ↔ x < rs.length ∧ x ∉ t.take i) : laterN rs (t.map Int.ofNat) i = gn rs (eln t i) &&& Si := by
  have ho := (orderB_true (h.order hv)).1
  refine Nat.eq_of_testBit_eq fun x => ?_
  unfold laterN
  rw [gi_map t i hi, Int.toNat_natCast, Nat.testBit_and, Nat.testBit_and]
  congr 1
  rw [Bool.eq_iff_iff, behind_bit ho (by rw [List.length_map]; omega), hS, mem_take]
  refine and_congr_right fun _ => not_congr ?_
  constructor
  · rintro ⟨j, hj, e⟩
    rw [gi_map t j (by omega)] at e
    exact ⟨j, hj, by omega, Int.ofNat.inj e⟩
  · rintro ⟨j, hj, hjl, e⟩
    exact ⟨j, hj, by rw [gi_map t j hjl, e]⟩
theorem splB_bit (rs : List Int) : ∀ S v, splB rs S v = true → S.testBit v = true := fun S v h => by unfold splB at h; rw [Bool.and_eq_true] at h; exact h.1
/-- An elimination of the reference. -/
theorem elim_facts {n : Int} {rs l : List Int} (h : elimV n rs = some l) : n = rs.length ∧ isGraphB rs.length rs = true ∧ ∃ t : List Nat, l = t.map Int.ofNat ∧ ElimO (splB rs) rs t := by
  cases hv : isGraphB n rs
  · rw [elimV_no hv] at h; cases h
  · obtain ⟨rfl, g⟩ := VG.of hv
    rw [elimV_of hv] at h
    obtain ⟨t, e, ht⟩ := takeF_chain (splB_bit rs) _ _ _ _ (Nat.le_refl _) h
    exact ⟨rfl, hv, t, by simpa using e, chain_elim g (splB_bit rs) ht⟩
theorem ordF_take {rs : List Int} : ∀ (f S : Nat) (out : List Int), ordF rs f S out = takeF (fun S v => simpleB rs.length rs v S) rs.length f S out
  | 0, _, _ => rfl
  | f + 1, S, out => by
    show (if S = 0 then some out else match leastB rs S with | none => none | some v => ordF rs f (S - 2 ^ v) (out ++ [(v : Int)])) = (if S = 0 then some out else match leastP (fun S v => simpleB rs.length rs v S) rs.length S with | none => none | some v => takeF (fun S v => simpleB rs.length rs v S) rs.length f (S - 2 ^ v) (out ++ [(v : Int)]))
    have e : leastB rs S = leastP (fun S v => simpleB rs.length rs v S) rs.length S := rfl
    rw [e]
    split
    · rfl
    · cases leastP (fun S v => simpleB rs.length rs v S) rs.length S with
      | none => rfl
      | some v => exact ordF_take f _ _
theorem simple_bit (rs : List Int) : ∀ S v : Nat, simpleB rs.length rs v S = true → S.testBit v = true := fun _ _ h => (simple_left h).1
theorem simple_n {rs : List Int} {S v : Nat} (h : simpleB rs.length rs v S = true) : S < 2 ^ rs.length ∧ simpleN rs S v = true := by
  unfold simpleB at h
  rw [Bool.and_eq_true, Bool.and_eq_true, Bool.and_eq_true] at h
  obtain ⟨-, -, S', e, hS⟩ := isSetB_true h.1
  obtain rfl : S = S' := Int.ofNat.inj e
  have h3 := h.2.2
  rw [Bool.and_eq_true] at h3
  exact ⟨hS, by simpa using h3.2⟩
/-- A simple order is an elimination. -/
theorem simple_elim {n : Int} {rs l : List Int} (h : ordV n rs = some l) : orderB n rs l = true ∧ ∀ i, i < l.length → cliqueN rs (laterN rs l i) = true := by
  cases hv : isGraphB n rs
  · rw [ordV_no hv] at h; cases h
  · obtain ⟨rfl, g⟩ := VG.of hv
    rw [ordV_of hv, ordF_take] at h
    obtain ⟨t, e, ht⟩ := takeF_chain (simple_bit rs) _ _ _ _ (Nat.le_refl _) h
    have hE := chain_elim g (simple_bit rs) ht
    obtain rfl : l = t.map Int.ofNat := by simpa using e
    refine ⟨hE.order hv, fun i hi => ?_⟩
    rw [List.length_map] at hi
    obtain ⟨Si, b1, b2, b3⟩ := hE.step i hi
    rw [hE.later hv hi b3]
    obtain ⟨hS, hs⟩ := simple_n b2
    have h1 := (simple_iff g hS).1 hs
    have hlt : gn rs (eln t i) &&& Si < 2 ^ rs.length := Nat.lt_of_le_of_lt Nat.and_le_right hS
    refine (clique_iff g hlt).2 fun a b ha hb hne => ?_
    rw [Nat.testBit_and, Bool.and_eq_true] at ha hb
    rcases h1 a b ha.2 hb.2 (.inr ha.1) (.inr hb.1) with h | h
    · rcases h a ha.2 (.inl rfl) with e | e
      · exact absurd e.symm hne
      · rw [ad_symm g]; exact e
    · rcases h b hb.2 (.inl rfl) with e | e
      · exact absurd e hne
      · exact e



end Go.Proofs.YtfkehmpckhmkbaaGreat

namespace Go.Proofs.YtfkehmpckhmkbaaGreat

/-! ### Formulas -/
def clqF (C : Nat) : Fm := allF (mS C) fun a => allF (mS C) fun b => cond (Nat.blt a b) (adF a b) .tt
/-- Each further vertex belongs to one of cs that is no neighbour; those that belong to the same are none either. -/
def asgF (cs : List Nat) : List Nat → List (Nat × Nat) → Fm
  | [], _ => .tt
  | v :: vs, acc => exF cs fun c => .and (.not (adF v c)) (.and (andFl (acc.map fun p => cond (Nat.beq p.2 c) (.not (adF v p.1)) .tt)) (asgF cs vs ((v, c) :: acc)))
def inS (n C : Nat) : List Nat := (List.range n).filter fun v => Nat.testBit C v
def outS (n C : Nat) : List Nat := (List.range n).filter fun v => !Nat.testBit C v
def colF (n : Nat) : Fm := exF ((List.range (2 ^ n)).filter fun C => Nat.blt 0 C) fun C => .and (clqF C) (asgF (inS n C) (outS n C) [])
def c5F : Fm := exI 5 [] (patF (holeP 5))
set_option maxRecDepth 100000 in
theorem perf_taut : ((List.range 6).all fun n => tautB 15 (.or c5F (colF (n + 1)))) = true := by decide +kernel

theorem asgF_some {rs : List Int} (g : VG rs) {cs : List Nat} (hcs : ∀ c ∈ cs, c < 6) : ∀ (vs : List Nat) (acc : List (Nat × Nat)), vs.Nodup → (∀ v ∈ vs, v < 6) → (∀ p ∈ acc, p.1 < 6) → (asgF cs vs acc).eval (envG rs) = true →
    ∃ φ : Nat → Nat, (∀ v ∈ vs, φ v ∈ cs ∧ ad rs v (φ v) = false ∧ ∀ p ∈ acc, p.2 = φ v → ad rs v p.1 = false) ∧ ∀ u ∈ vs, ∀ v ∈ vs, u ≠ v → φ u = φ v → ad rs u v = false
  | [], _, _, _, _, _ => ⟨fun _ => 0, fun v hv => by simp at hv, fun u hu => by simp at hu⟩
  | v :: vs, acc, hn, hv6, ha6, h => by
    obtain ⟨h1, h2⟩ := List.nodup_cons.1 hn
    unfold asgF at h
    obtain ⟨c, hc, h⟩ := exF_true.1 h
    rw [and_true, and_true, not_true, andFl_true] at h
    obtain ⟨e1, e2, e3⟩ := h
    have hv := hv6 v (by simp)
    obtain ⟨φ, f1, f2⟩ := asgF_some g hcs vs ((v, c) :: acc) h2 (fun x hx => hv6 x (List.mem_cons_of_mem _ hx)) (fun p hp => by
      rcases List.mem_cons.1 hp with rfl | hp
      · exact hv
      · exact ha6 p hp) e3
    have hvc : ad rs v c = false := by
      cases q : ad rs v c
      · rfl
      · rw [← adF_eval g hv (hcs c hc)] at q; exact absurd q e1
    have hne : ∀ x ∈ vs, x ≠ v := fun x hx e => h1 (e ▸ hx)
    refine ⟨fun x => if x = v then c else φ x, fun x hx => ?_, fun x hx y hy hxy he => ?_⟩
    · rcases List.mem_cons.1 hx with rfl | hx
      · dsimp only
        rw [if_pos rfl]
        refine ⟨hc, hvc, fun p hp hpc => ?_⟩
        have h3 := e2 _ (List.mem_map.2 ⟨p, hp, rfl⟩)
        rw [hpc, Nat.beq_refl] at h3
        have h4 : (Fm.not (adF x p.1)).eval (envG rs) = true := h3
        rw [not_true] at h4
        cases q : ad rs x p.1
        · rfl
        · rw [← adF_eval g hv (ha6 p hp)] at q; exact absurd q h4
      · dsimp only
        rw [if_neg (hne x hx)]
        obtain ⟨a1, a2, a3⟩ := f1 x hx
        exact ⟨a1, a2, fun p hp => a3 p (List.mem_cons_of_mem _ hp)⟩
    · dsimp only at he
      by_cases ex : x = v
      · subst ex
        have hyv : y ≠ x := fun e => hxy e.symm
        have hy2 := (List.mem_cons.1 hy).resolve_left hyv
        rw [if_pos rfl, if_neg hyv] at he
        rw [ad_symm g]
        exact (f1 y hy2).2.2 (x, c) (by simp) he
      · have hx2 := (List.mem_cons.1 hx).resolve_left ex
        by_cases ey : y = v
        · subst ey
          rw [if_neg ex, if_pos rfl] at he
          exact (f1 x hx2).2.2 (y, c) (by simp) he.symm
        · have hy2 := (List.mem_cons.1 hy).resolve_left ey
          rw [if_neg ex, if_neg ey] at he
          exact f2 x hx2 y hy2 hxy he

/-! ### Colourings -/
theorem firstC_ex {rs x : List Int} {kc : Nat} (hx : properC rs x) (hb : ∀ t, t < x.length → ∃ c : Nat, c < kc ∧ gi x t = (c : Int)) : ∀ f k, k + f = x.length → (firstC rs kc f (x.take k)).isSome = true
  | 0, _, _ => rfl
  | f + 1, k, h => by
    obtain ⟨c, h1, h2⟩ := hb k (by omega)
    have hlen : (x.take k).length = k := by rw [List.length_take]; omega
    refine preB_some (fun c => by
      split
      · exact colRun_last rs kc f _
      · rfl) h1 ?_
    have hgi : ∀ t, t < k → gi (x.take k) t = gi x t := fun t ht => by simp [gi, ht]
    have hfree : ∀ t, t ≤ k → freeTo rs (x.take k) c t = true := by
      intro t
      induction t with
      | zero => intro _; rfl
      | succ t ih =>
        intro ht
        show (freeTo rs (x.take k) c t && !clash rs (x.take k) c t) = true
        rw [ih (by omega), Bool.true_and]
        unfold clash
        rw [hlen, hgi t (by omega)]
        cases hbt : (gn rs k).testBit t
        · rw [Bool.and_false]; rfl
        · have := hx k t (by omega) (by omega) hbt
          rw [h2] at this
          rw [show (gi x t == (c : Int)) = false from beq_eq_false_iff_ne.2 this]; rfl
    rw [hlen, if_pos (hfree k (Nat.le_refl _))]
    have e : x.take k ++ [(c : Int)] = x.take (k + 1) := by
      rw [List.take_add_one, ← h2]
      congr 1
      have : k < x.length := by omega
      simp [gi, this]
    show (firstC rs kc f (x.take k ++ [(c : Int)])).isSome = true
    rw [e]
    exact firstC_ex hx hb f (k + 1) (by omega)
theorem chrom_le {rs x : List Int} (hv : isGraphB rs.length rs = true) {K : Nat} (h1 : 1 ≤ K) (h7 : K ≤ 7) (hx : properC rs x) (hl : x.length = rs.length) (hb : ∀ t, t < rs.length → ∃ c : Nat, c < K ∧ gi x t = (c : Int)) : chromV rs.length rs ≤ K := by
  obtain ⟨k, -, e, k1, k7, -⟩ := chrom_facts hv
  rcases Nat.lt_or_ge K k with h | h
  · have h2 := chrom_less (n := rs.length) (rs := rs) (j := K - 1) e (by omega)
    rw [show K - 1 + 1 = K by omega, colWith_of hv (by simp; omega)] at h2
    have h3 := firstC_ex hx (kc := K) (fun t ht => hb t (by omega)) rs.length 0 (by omega)
    rw [List.take_zero] at h3
    rw [h3] at h2; cases h2
  · omega
theorem largest_best {p : Nat → Bool} (h0 : p 0 = true) : ∀ k, p (largestTo p k) = true ∧ ∀ S, S < k → p S = true → cnt S ≤ cnt (largestTo p k) := by
  intro k
  induction k with
  | zero => exact ⟨h0, fun S h => by omega⟩
  | succ k ih =>
    obtain ⟨h1, h2⟩ := ih
    have e : largestTo p (k + 1) = if cnt (largestTo p k) < cnt k ∧ p k = true then k else largestTo p k := rfl
    by_cases hc : cnt (largestTo p k) < cnt k ∧ p k = true
    · rw [e, if_pos hc]
      refine ⟨hc.2, fun S hS hp => ?_⟩
      rcases Nat.lt_succ_iff_lt_or_eq.1 hS with h | rfl
      · have := h2 S h hp; omega
      · exact Nat.le_refl _
    · rw [e, if_neg hc]
      refine ⟨h1, fun S hS hp => ?_⟩
      rcases Nat.lt_succ_iff_lt_or_eq.1 hS with h | rfl
      · exact h2 S h hp
      · by_cases h : cnt (largestTo p S) < cnt S
        · exact absurd ⟨h, hp⟩ hc
        · omega
theorem clq_ge {rs : List Int} (hv : isGraphB rs.length rs = true) {S : Nat} (hS : S < 2 ^ rs.length) (hc : cliqueN rs S = true) : ((cnt S : Nat) : Int) ≤ clqN rs.length rs := by
  rw [clqN_of hv]
  have h0 : cliqueB rs.length rs ((0 : Nat) : Int) = true := by rw [cliqueB_nat (isSetB_mk hv (Nat.two_pow_pos _))]; exact cliqueN_zero rs
  have := (largest_best (p := fun S : Nat => cliqueB rs.length rs S) h0 (2 ^ rs.length)).2 S hS (by rw [cliqueB_nat (isSetB_mk hv hS)]; exact hc)
  omega
theorem pick_list {P : Nat → Int → Prop} : ∀ n, (∀ k, k < n → ∃ z, P k z) → ∃ l : List Int, l.length = n ∧ ∀ k, k < n → P k (gi l k)
  | 0, _ => ⟨[], rfl, fun k h => by omega⟩
  | n + 1, h => by
    obtain ⟨l, h1, h2⟩ := pick_list n fun k hk => h k (by omega)
    obtain ⟨z, hz⟩ := h n (by omega)
    refine ⟨l ++ [z], by simp [h1], fun k hk => ?_⟩
    by_cases e : k < n
    · rw [gi_left (by omega)]; exact h2 k e
    · obtain rfl : k = l.length := by omega
      rw [gi_last, h1]; exact hz

/-- Five vertices are a hole. -/
def c5 (rs : List Int) : Prop := ∃ t : List Nat, t.length = 5 ∧ t.Nodup ∧ (∀ y ∈ t, y < rs.length) ∧ joinB rs.length rs (t.map Int.ofNat) (holeP 5) = true
/-- Without one there are as many colours as a clique has vertices. -/
theorem no_c5 {rs : List Int} (hv : isGraphB rs.length rs = true) (h6 : rs.length ≤ 6) (hno : ¬c5 rs) : chromV rs.length rs ≤ clqN rs.length rs := by
  have g := (VG.of hv).2
  have h1 := g.pos
  have hT := List.all_eq_true.1 perf_taut (rs.length - 1) (List.mem_range.2 (by omega))
  rw [show rs.length - 1 + 1 = rs.length by omega] at hT
  have hT := Fm.taut hT (envG rs) (envG_big rs)
  rw [or_true] at hT
  rcases hT with hT | hT
  · exact absurd (pat_list hv (hole_con (k := 5) (by omega)) hT) hno
  · unfold colF at hT
    obtain ⟨C, hC, hT⟩ := exF_true.1 hT
    rw [List.mem_filter, List.mem_range, Nat.blt_eq] at hC
    rw [and_true] at hT
    obtain ⟨hT1, hT2⟩ := hT
    have hlt6 : ∀ v, v < rs.length → v < 6 := fun v hv => by omega
    have hin : ∀ v, v ∈ inS rs.length C ↔ v < rs.length ∧ C.testBit v = true := fun v => by simp [inS]
    have hout : ∀ v, v ∈ outS rs.length C ↔ v < rs.length ∧ C.testBit v = false := fun v => by simp [outS]
    have hcl : cliqueN rs C = true := (clique_iff g hC.1).2 fun a b ha hb hne => by
      have key : ∀ a b, a < b → C.testBit a = true → C.testBit b = true → ad rs a b = true := fun a b hab ha hb => by
        have ha6 := hlt6 a (testBit_lt hC.1 ha)
        have hb6 := hlt6 b (testBit_lt hC.1 hb)
        have := allF_true.1 (allF_true.1 hT1 a (mem_mS.2 ⟨ha6, ha⟩)) b (mem_mS.2 ⟨hb6, hb⟩)
        rw [blt_yes hab] at this
        rw [← adF_eval g ha6 hb6]; exact this
      rcases Nat.lt_or_gt_of_ne hne with h | h
      · exact key a b h ha hb
      · rw [ad_symm g]; exact key b a h hb ha
    obtain ⟨φ, f1, f2⟩ := asgF_some g (fun c hc => hlt6 c ((hin c).1 hc).1) _ [] (List.nodup_range.filter _) (fun v hv => hlt6 v ((hout v).1 hv).1) (fun p hp => by simp at hp) hT2
    have hcs : (inS rs.length C).length = cnt C := by
      show _ = (els C).length
      rw [els_eq hC.1 g.le]; rfl
    -- the one that a vertex belongs to
    have hrep : ∀ v, v < rs.length → ∃ z : Int, ∃ i : Nat, z = i ∧ i < cnt C ∧ eln (inS rs.length C) i = if C.testBit v then v else φ v := fun v hv => by
      have hm : (if C.testBit v then v else φ v) ∈ inS rs.length C := by
        cases hb : C.testBit v
        · exact (f1 v ((hout v).2 ⟨hv, hb⟩)).1
        · exact (hin v).2 ⟨hv, hb⟩
      obtain ⟨i, hi, e⟩ := mem_eln hm
      exact ⟨i, i, rfl, by omega, e⟩
    obtain ⟨x, x1, x2⟩ := pick_list rs.length hrep
    have hpx : properC rs x := fun i j hi hj hbt he => by
      obtain ⟨a, ea, -, ra⟩ := x2 i (by omega)
      obtain ⟨b, eb, -, rb⟩ := x2 j (by omega)
      have hij : ad rs i j = true := hbt
      rw [ea, eb] at he
      obtain rfl : b = a := Int.ofNat.inj he
      rw [ra] at rb
      cases hbi : C.testBit i
      · cases hbj : C.testBit j
        · rw [hbi, hbj] at rb
          have := f2 i ((hout i).2 ⟨by omega, hbi⟩) j ((hout j).2 ⟨by omega, hbj⟩) (by omega) rb
          rw [hij] at this; cases this
        · rw [hbi, hbj] at rb
          have := (f1 i ((hout i).2 ⟨by omega, hbi⟩)).2.1
          have rb : φ i = j := rb
          rw [rb, hij] at this; cases this
      · cases hbj : C.testBit j
        · rw [hbi, hbj] at rb
          have := (f1 j ((hout j).2 ⟨by omega, hbj⟩)).2.1
          have rb : i = φ j := rb
          rw [← rb, ad_symm g, hij] at this; cases this
        · rw [hbi, hbj] at rb
          have rb : i = j := rb
          omega
    have hpos := cnt_pos hC.1 g.le hC.2
    have h2 := chrom_le hv (K := cnt C) hpos (cnt_le C) hpx x1 fun t ht => by
      obtain ⟨i, e, hi, -⟩ := x2 t ht
      exact ⟨i, hi, e⟩
    have h3 := clq_ge hv hC.1 hcl
    omega

end Go.Proofs.YtfkehmpckhmkbaaGreat
