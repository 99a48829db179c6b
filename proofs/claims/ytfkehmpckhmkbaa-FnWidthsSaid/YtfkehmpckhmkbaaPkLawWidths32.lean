/-
  Strongly chordal graphs of at most six vertices: there is a simple order exactly if there is neither a hole nor a sun. No conditions beyond that.
-/
import Derived.Test.YtfkehmpckhmkbaaPkLawWidths30
import Derived.Test.YtfkehmpckhmkbaaPkLawWidths31
import Derived.Test.YtfkehmpckhmkbaaPkLawWidths25
import Derived.Test.YtfkehmpckhmkbaaPkLawWidths04
namespace Go.Proofs.Ytfkehmpckhmkbaa
open Go.RowKit

theorem and_sub {a b : Nat} : a &&& b = a ↔ ∀ c, a.testBit c = true → b.testBit c = true := by
  constructor
  · intro h c hc
    rw [← h, Nat.testBit_and, Bool.and_eq_true] at hc
    exact hc.2
  · intro h
    refine Nat.eq_of_testBit_eq fun c => ?_
    rw [Nat.testBit_and]
    cases q : a.testBit c
    · rfl
    · rw [h c q]; rfl
theorem nestB_iff {a b : Nat} : nestB a b = true ↔ (∀ c, a.testBit c = true → b.testBit c = true) ∨ ∀ c, b.testBit c = true → a.testBit c = true := by
  unfold nestB
  rw [decide_eq_true_eq, and_sub, Nat.and_comm a b, and_sub]
theorem hood_bit {rs : List Int} {S u c : Nat} : (hood rs S u).testBit c = true ↔ nb rs u c ∧ S.testBit c = true := by
  unfold hood nb ad
  rw [Nat.testBit_and, Nat.testBit_or, Nat.testBit_two_pow, Bool.and_eq_true, Bool.or_eq_true, decide_eq_true_eq]
  exact and_congr_left fun _ => Or.comm
theorem mem_eln {l : List Nat} {v : Nat} (h : v ∈ l) : ∃ i, i < l.length ∧ eln l i = v := by
  obtain ⟨i, hi, rfl⟩ := List.getElem_of_mem h
  exact ⟨i, hi, by simp [eln, hi]⟩
theorem simple_iff {rs : List Int} (g : VG rs) {S v : Nat} (hS : S < 2 ^ rs.length) : simpleN rs S v = true ↔
    ∀ a b, S.testBit a = true → S.testBit b = true → nb rs v a → nb rs v b → (∀ c, S.testBit c = true → nb rs a c → nb rs b c) ∨ ∀ c, S.testBit c = true → nb rs b c → nb rs a c := by
  have hk : ∀ a b, nestB (hood rs S a) (hood rs S b) = true ↔ ((∀ c, S.testBit c = true → nb rs a c → nb rs b c) ∨ ∀ c, S.testBit c = true → nb rs b c → nb rs a c) := fun a b => by
    rw [nestB_iff]
    simp only [hood_bit]
    constructor
    · rintro (h | h)
      · exact .inl fun c hc hn => (h c ⟨hn, hc⟩).1
      · exact .inr fun c hc hn => (h c ⟨hn, hc⟩).1
    · rintro (h | h)
      · exact .inl fun c hc => ⟨h c hc.2 hc.1, hc.2⟩
      · exact .inr fun c hc => ⟨h c hc.2 hc.1, hc.2⟩
  have hh := hood_lt (rs := rs) hS v
  constructor
  · intro h a b ha hb hva hvb
    unfold simpleN at h
    rw [decide_eq_true_eq] at h
    obtain ⟨i, hi, ei⟩ := mem_eln ((mem_els hh g.le).2 (hood_bit.2 ⟨hva, ha⟩))
    obtain ⟨j, hj, ej⟩ := mem_eln ((mem_els hh g.le).2 (hood_bit.2 ⟨hvb, hb⟩))
    rcases Nat.lt_trichotomy i j with h' | h' | h'
    · have := h j hj i h'
      unfold nestAt at this
      rw [ei, ej, hk] at this
      exact this.symm
    · subst h'
      rw [← ei, ← ej]
      exact .inl fun _ _ h => h
    · have := h i hi j h'
      unfold nestAt at this
      rwa [ei, ej, hk] at this
  · intro h
    refine simpleN_ok fun i hi j hj => ?_
    unfold nestAt
    rw [hk]
    have h1 := hood_bit.1 (els_at hh g.le hi).2
    have h2 := hood_bit.1 (els_at hh g.le (k := j) (by omega)).2
    exact h _ _ h1.2 h2.2 h1.1 h2.1

/-! ### The formulas -/
def subF (S a b : Nat) : Fm := allF (mS S) fun c => impF (nbF a c) (nbF b c)
def simF (S v : Nat) : Fm := allF (mS S) fun a => allF (mS S) fun b => cond (Nat.blt a b) (impF (.and (nbF v a) (nbF v b)) (.or (subF S a b) (subF S b a))) .tt
def holF : Fm := .or (exI 4 [] (patF (holeP 4))) (.or (exI 5 [] (patF (holeP 5))) (exI 6 [] (patF (holeP 6))))
def sunF : Fm := exI 6 [] (patF sunP)
set_option maxRecDepth 100000 in
theorem strong_taut : tautB 15 (.or holF (.or sunF (allF ((List.range 63).map (· + 1)) fun S => exF (mS S) (simF S)))) = true := by decide +kernel

/-! ### What the formulas say -/
theorem subF_true {rs : List Int} (g : VG rs) (h6 : rs.length ≤ 6) {S a b : Nat} (hS : S < 2 ^ rs.length) (ha : a < 6) (hb : b < 6) : (subF S a b).eval (envG rs) = true ↔ ∀ c, S.testBit c = true → nb rs a c → nb rs b c := by
  unfold subF
  simp only [allF_true, impF_true, mem_mS]
  constructor
  · intro h c hc hn
    have hc6 : c < 6 := Nat.lt_of_lt_of_le (testBit_lt hS hc) h6
    exact (nbF_true g hb hc6).1 (h c ⟨hc6, hc⟩ ((nbF_true g ha hc6).2 hn))
  · intro h c hc hn
    exact (nbF_true g hb hc.1).2 (h c hc.2 ((nbF_true g ha hc.1).1 hn))
theorem simF_true {rs : List Int} (g : VG rs) (h6 : rs.length ≤ 6) {S v : Nat} (hS : S < 2 ^ rs.length) (hv : v < 6) (h : (simF S v).eval (envG rs) = true) : simpleN rs S v = true := by
  rw [simple_iff g hS]
  have key : ∀ a b, a < b → S.testBit a = true → S.testBit b = true → nb rs v a → nb rs v b → (∀ c, S.testBit c = true → nb rs a c → nb rs b c) ∨ ∀ c, S.testBit c = true → nb rs b c → nb rs a c := fun a b hab ha hb hva hvb => by
    have ha6 : a < 6 := Nat.lt_of_lt_of_le (testBit_lt hS ha) h6
    have hb6 : b < 6 := Nat.lt_of_lt_of_le (testBit_lt hS hb) h6
    unfold simF at h
    have h1 := allF_true.1 (allF_true.1 h a (mem_mS.2 ⟨ha6, ha⟩)) b (mem_mS.2 ⟨hb6, hb⟩)
    rw [blt_yes hab] at h1
    have h2 := impF_true.1 h1 (and_true.2 ⟨(nbF_true g hv ha6).2 hva, (nbF_true g hv hb6).2 hvb⟩)
    rw [or_true, subF_true g h6 hS ha6 hb6, subF_true g h6 hS hb6 ha6] at h2
    exact h2
  intro a b ha hb hva hvb
  rcases Nat.lt_trichotomy a b with h' | h' | h'
  · exact key a b h' ha hb hva hvb
  · subst h'; exact .inl fun _ _ h => h
  · exact (key b a h' hb ha hvb hva).symm

/-- A pattern that a formula has found is a list of vertices; each place has a neighbour. -/
theorem pat_list {rs : List Int} (hv : isGraphB rs.length rs = true) {pat : Nat → Nat → Bool} {k : Nat} (hc : ∀ i, i < k → ∃ j, j < k ∧ ((j < i ∧ pat j i = true) ∨ (i < j ∧ pat i j = true))) (h : (exI k [] (patF pat)).eval (envG rs) = true) :
    ∃ t : List Nat, t.length = k ∧ t.Nodup ∧ (∀ y ∈ t, y < rs.length) ∧ joinB rs.length rs (t.map Int.ofNat) pat = true := by
  have g := (VG.of hv).2
  obtain ⟨t, h1, h2, h3, h4⟩ := exI_some k [] List.nodup_nil h
  rw [List.nil_append] at h2 h4
  rw [patF_true g h3] at h4
  have hlt : ∀ i, i < t.length → eln t i < rs.length := fun i hi => by
    obtain ⟨j, hj, ⟨hji, hp⟩ | ⟨hij, hp⟩⟩ := hc i (by omega)
    · exact (ad_lt g ((h4 i hi j hji).trans hp)).1
    · exact (ad_lt g ((h4 j (by omega) i hij).trans hp)).2
  refine ⟨t, h1, h2, fun y hy => ?_, joinB_ok (vertsB_true.2 ⟨hv, fun j hj => ?_⟩) fun i hi j hj => ?_⟩
  · obtain ⟨i, hi, rfl⟩ := mem_eln hy
    exact hlt i hi
  · rw [List.length_map] at hj
    rw [gi_map t j hj]
    have := hlt j hj
    refine ⟨⟨by omega, by omega⟩, fun i hij e => ?_⟩
    rw [gi_map t i (by omega)] at e
    have := List.pairwise_iff_getElem.1 h2 i j (by omega) hj hij
    apply this
    have e2 := Int.ofNat.inj e
    simpa [eln, hj, show i < t.length by omega] using e2
  · rw [List.length_map] at hi
    unfold joinedAt
    rw [gi_map t j (by omega), gi_map t i hi, Int.toNat_natCast, Int.toNat_natCast]
    have := h4 i hi j hj
    rw [ad_symm g] at this
    unfold ad at this
    rw [this]
    simp
theorem hole_con {k : Nat} (hk : 4 ≤ k) : ∀ i, i < k → ∃ j, j < k ∧ ((j < i ∧ holeP k j i = true) ∨ (i < j ∧ holeP k i j = true)) := fun i hi => by
  by_cases h : i + 1 < k
  · exact ⟨i + 1, h, .inr ⟨by omega, by simp [holeP]⟩⟩
  · exact ⟨i - 1, by omega, .inl ⟨by omega, by simp [holeP]; omega⟩⟩
theorem sun_con : ∀ i, i < 6 → ∃ j, j < 6 ∧ ((j < i ∧ sunP j i = true) ∨ (i < j ∧ sunP i j = true)) := by decide
theorem holeV_of {rs : List Int} (hv : isGraphB rs.length rs = true) {t : List Nat} (h4 : 4 ≤ t.length) (hn : t.Nodup) (hlt : ∀ y ∈ t, y < rs.length) (h : joinB rs.length rs (t.map Int.ofNat) (holeP t.length) = true) : (holeV rs.length rs).isSome = true := by
  have g := (VG.of hv).2
  have h7 := g.le
  have hle := nodup_lt7 _ _ hn hlt
  have hB : holeB rs.length rs (t.map Int.ofNat) = true := by
    unfold holeB
    rw [List.length_map, decide_eq_true h4, h]; rfl
  have hA : (holeAt rs t.length).isSome = true := by
    have := dfs_some (nec_mayI rs t.length) (N := rs.length) (t.map Int.ofNat) [] (by simp) (by simpa using hB) (fun y hy => by
      obtain ⟨v, hv2, rfl⟩ := List.mem_map.1 hy
      exact ⟨v, hlt v hv2, rfl⟩)
    rwa [List.length_map] at this
  unfold holeV
  rw [if_pos hv]
  cases hf : firstB (fun j => decide (4 + j ≤ rs.length) && (holeAt rs (4 + j)).isSome) 4 with
  | none =>
    unfold firstB at hf
    rw [List.find?_eq_none] at hf
    have := hf (t.length - 4) (by rw [List.mem_range]; omega)
    rw [show 4 + (t.length - 4) = t.length by omega, decide_eq_true hle, hA] at this
    simp at this
  | some j =>
    unfold firstB at hf
    have := List.find?_some hf
    rw [Bool.and_eq_true] at this
    exact this.2
theorem sunV_of {rs : List Int} (hv : isGraphB rs.length rs = true) {t : List Nat} (h6 : t.length = 6) (hlt : ∀ y ∈ t, y < rs.length) (h : joinB rs.length rs (t.map Int.ofNat) sunP = true) : (sunV rs.length rs).isSome = true := by
  unfold sunV
  rw [if_pos hv]
  have hB : sunB rs.length rs (t.map Int.ofNat) = true := by
    unfold sunB
    rw [List.length_map, decide_eq_true h6, h]; rfl
  have := dfs_some (nec_sun rs.length rs) (N := rs.length) (t.map Int.ofNat) [] (by simpa using h6) (by simpa using hB) (fun y hy => by
      obtain ⟨v, hv2, rfl⟩ := List.mem_map.1 hy
      exact ⟨v, hlt v hv2, rfl⟩)
  rwa [List.length_map, h6] at this

/-- Without an obstacle each set has a simple vertex. -/
theorem simple_there {rs : List Int} (hv : isGraphB rs.length rs = true) (h6 : rs.length ≤ 6) (ho : obst2V rs.length rs = none) {S : Nat} (h0 : 0 < S) (hS : S < 2 ^ rs.length) : ∃ v, v < rs.length ∧ simpleB rs.length rs v S = true := by
  have g := (VG.of hv).2
  have hT := Fm.taut strong_taut (envG rs) (envG_big rs)
  have hh : holeV rs.length rs = none := by
    unfold obst2V at ho
    cases q : holeV rs.length rs with
    | none => rfl
    | some x => rw [q] at ho; cases ho
  have hs : sunV rs.length rs = none := by
    unfold obst2V at ho
    rw [hh] at ho
    exact ho
  rw [or_true, or_true] at hT
  rcases hT with hT | hT | hT
  · exfalso
    unfold holF at hT
    rw [or_true, or_true] at hT
    have key : ∀ k, 4 ≤ k → (exI k [] (patF (holeP k))).eval (envG rs) = true → False := fun k hk h => by
      obtain ⟨t, e1, e2, e3, e4⟩ := pat_list hv (hole_con hk) h
      subst e1
      have := holeV_of hv hk e2 e3 e4
      rw [hh] at this; cases this
    rcases hT with h | h | h
    · exact key 4 (by omega) h
    · exact key 5 (by omega) h
    · exact key 6 (by omega) h
  · exfalso
    obtain ⟨t, e1, e2, e3, e4⟩ := pat_list hv sun_con hT
    have := sunV_of hv e1 e3 e4
    rw [hs] at this; cases this
  · have hp : 2 ^ rs.length ≤ 64 := Nat.pow_le_pow_right (n := 2) (by decide) h6
    have h1 := allF_true.1 hT S (List.mem_map.2 ⟨S - 1, by rw [List.mem_range]; omega, by omega⟩)
    obtain ⟨v, hv2, h2⟩ := exF_true.1 h1
    rw [mem_mS] at hv2
    have hvl := testBit_lt hS hv2.2
    refine ⟨v, hvl, ?_⟩
    have h3 := simF_true g h6 hS hv2.1 h2
    unfold simpleB
    rw [isSetB_mk hv hS, Int.toNat_natCast, Int.toNat_natCast, h3, hasN_nat, hv2.2]
    simp; omega
/-- If each set has a simple vertex there is a simple order. -/
theorem ord_of {rs : List Int} (hv : isGraphB rs.length rs = true) (h : ∀ S : Nat, 0 < S → S < 2 ^ rs.length → ∃ v, v < rs.length ∧ simpleB rs.length rs v S = true) : (ordV rs.length rs).isSome = true := by
  have key : ∀ (f S : Nat) (out : List Int), S ≤ f → S < 2 ^ rs.length → (ordF rs f S out).isSome = true := by
    intro f
    induction f with
    | zero => intro S out _ _; rfl
    | succ f ih =>
      intro S out hf hS
      by_cases h0 : S = 0
      · subst h0; rw [ordF_zero]; rfl
      · cases hl : leastB rs S with
        | none =>
          obtain ⟨v, hv1, hv2⟩ := h S (by omega) hS
          unfold leastB firstB at hl
          rw [List.find?_eq_none] at hl
          exact absurd hv2 (hl v (List.mem_range.2 hv1))
        | some v =>
          rw [ordF_some hf (by omega) hl]
          have := (leastB_left hl).2.2
          exact ih _ _ (by omega) (by omega)
  rw [ordV_of hv]
  have := Nat.two_pow_pos rs.length
  exact key _ _ _ (Nat.le_refl _) (by omega)
/-- Vertices that are never simple keep the order from its end. -/
theorem ord_none {rs : List Int} (g : VG rs) (hv : isGraphB rs.length rs = true) {t : List Nat} (h0 : t ≠ []) (hlt : ∀ y ∈ t, y < rs.length) (h : ∀ S, S < 2 ^ rs.length → (∀ y ∈ t, S.testBit y = true) → ∀ y ∈ t, simpleN rs S y = false) : ordV rs.length rs = none := by
  obtain ⟨y0, hy0⟩ := List.exists_mem_of_ne_nil t h0
  have key : ∀ (f S : Nat) (out : List Int), S ≤ f → S < 2 ^ rs.length → (∀ y ∈ t, S.testBit y = true) → ordF rs f S out = none := by
    intro f
    induction f with
    | zero =>
      intro S out hf _ ht
      have := ht y0 hy0
      obtain rfl : S = 0 := by omega
      simp at this
    | succ f ih =>
      intro S out hf hS ht
      have hpos : 0 < S := by
        rcases Nat.eq_zero_or_pos S with rfl | h
        · have := ht y0 hy0; simp at this
        · exact h
      cases hl : leastB rs S with
      | none => exact ordF_none hf hpos hl
      | some v =>
        rw [ordF_some hf hpos hl]
        obtain ⟨e1, e2, e3, e4⟩ := leastB_left hl
        refine ih _ _ (by omega) (by omega) fun y hy => ?_
        have hvt : v ∉ t := fun hvt => by
          have h1 := h S hS ht v hvt
          unfold leastB firstB at hl
          have h2 := List.find?_some hl
          unfold simpleB at h2
          rw [Int.toNat_natCast, Int.toNat_natCast, h1] at h2
          simp at h2
        have hne : y ≠ v := fun e => hvt (e ▸ hy)
        rw [← nDiff_minus (by have := g.pow.1; omega) (pow_sub e2), testBit_nDiff, ht y hy, Nat.testBit_two_pow]
        simp; omega
  rw [ordV_of hv]
  have := Nat.two_pow_pos rs.length
  exact key _ _ _ (Nat.le_refl _) (by omega) fun y hy => by
    rw [Nat.testBit_two_pow_sub_one]
    exact decide_eq_true (hlt y hy)
theorem not_simple {rs : List Int} (g : VG rs) {S v p q x y : Nat} (hS : S < 2 ^ rs.length) (hp : S.testBit p = true) (hq : S.testBit q = true) (hx : S.testBit x = true) (hy : S.testBit y = true) (h1 : nb rs v p) (h2 : nb rs v q) (h3 : nb rs p x) (h4 : ¬nb rs q x) (h5 : nb rs q y) (h6 : ¬nb rs p y) : simpleN rs S v = false := by
  cases h : simpleN rs S v
  · rfl
  · rw [simple_iff g hS] at h
    rcases h p q hp hq h1 h2 with h | h
    · exact absurd (h x hx h3) h4
    · exact absurd (h y hy h5) h6

theorem not_simple3 {rs : List Int} (g : VG rs) {S v p q : Nat} (hS : S < 2 ^ rs.length) (hp : S.testBit p = true) (hq : S.testBit q = true) (h1 : ad rs v p = true) (h2 : ad rs v q = true) (hne : p ≠ q) (h3 : ad rs p q = false) : simpleN rs S v = false := by
  have h4 : ad rs q p = false := by rw [ad_symm g]; exact h3
  refine not_simple g hS hp hq hp hq (.inr h1) (.inr h2) (.inl rfl) ?_ (.inl rfl) ?_
  · rintro (h | h)
    · exact hne h.symm
    · rw [h4] at h; cases h
  · rintro (h | h)
    · exact hne h
    · rw [h3] at h; cases h
/-- A list of different vertices in natural numbers. -/
theorem nat_list {n : Int} {rs x : List Int} (h : vertsB n rs x = true) : ∃ t : List Nat, x = t.map Int.ofNat ∧ t.Nodup ∧ ∀ y ∈ t, y < rs.length := by
  have hv := (vertsB_true.1 h).2
  have hg : ∀ i (h1 : i < x.length), gi x i = x[i] := fun i h1 => by simp [gi, h1]
  have e : x = (x.map Int.toNat).map Int.ofNat := by
    refine List.ext_getElem (by simp) fun i h1 h2 => ?_
    have h3 := (hv i h1).1.1
    rw [hg i h1] at h3
    simp only [List.getElem_map]
    exact (Int.toNat_of_nonneg h3).symm
  refine ⟨x.map Int.toNat, e, ?_, fun y hy => ?_⟩
  · refine List.pairwise_iff_getElem.2 fun i j hi hj hij e2 => ?_
    rw [List.length_map] at hi hj
    have h1 := (hv i hi).1.1
    have h2 := (hv j hj).1.1
    have h3 := (hv j hj).2 i hij
    rw [hg i hi] at h1 h3
    rw [hg j hj] at h2 h3
    simp only [List.getElem_map] at e2
    omega
  · obtain ⟨a, ha, rfl⟩ := List.mem_map.1 hy
    obtain ⟨i, hi, rfl⟩ := List.getElem_of_mem ha
    have h1 := (hv i hi).1
    rw [hg i hi] at h1
    omega
theorem join_ad {rs : List Int} (g : VG rs) {n : Int} {t : List Nat} {pat : Nat → Nat → Bool} (h : joinB n rs (t.map Int.ofNat) pat = true) {i j : Nat} (hi : i < t.length) (hj : j < i) : ad rs (eln t i) (eln t j) = pat j i := by
  unfold joinB at h
  rw [Bool.and_eq_true, decide_eq_true_eq] at h
  have := h.2 i (by simpa using hi) j hj
  unfold joinedAt at this
  rw [gi_map t j (by omega), gi_map t i hi, Int.toNat_natCast, Int.toNat_natCast, beq_iff_eq] at this
  rw [ad_symm g]
  exact this
theorem eln_ne {t : List Nat} (hn : t.Nodup) {i j : Nat} (hi : i < t.length) (hj : j < t.length) (h : i ≠ j) : eln t i ≠ eln t j := fun e => by
  have hw := List.pairwise_iff_getElem.1 hn
  simp only [eln, List.getD_eq_getElem?_getD, List.getElem?_eq_getElem hi, List.getElem?_eq_getElem hj, Option.getD_some] at e
  rcases Nat.lt_or_gt_of_ne h with h | h
  · exact hw i j hi hj h e
  · exact hw j i hj hi h e.symm
theorem no_hole {rs : List Int} (hv : isGraphB rs.length rs = true) {x : List Int} (hx : holeB rs.length rs x = true) : ordV rs.length rs = none := by
  have g := (VG.of hv).2
  unfold holeB at hx
  rw [Bool.and_eq_true, decide_eq_true_eq] at hx
  obtain ⟨h4, hj⟩ := hx
  have hvx : vertsB rs.length rs x = true := by unfold joinB at hj; rw [Bool.and_eq_true] at hj; exact hj.1
  obtain ⟨t, rfl, hn, hlt⟩ := nat_list hvx
  rw [List.length_map] at h4 hj
  have hA := fun i j hi hj' => join_ad g hj (i := i) (j := j) hi hj'
  refine ord_none g hv (t := t) (by rintro rfl; simp at h4) hlt fun S hS hT y hy => ?_
  obtain ⟨i, hi, rfl⟩ := mem_eln hy
  have hS2 : ∀ i, i < t.length → S.testBit (eln t i) = true := fun i hi => hT _ (eln_mem hi)
  have hB : ∀ i j, i < j → j < t.length → ad rs (eln t i) (eln t j) = holeP t.length i j := fun i j h1 h2 => by rw [ad_symm g]; exact hA j i h2 h1
  by_cases h0 : i = 0
  · subst h0
    refine not_simple3 g hS (hS2 (t.length - 1) (by omega)) (hS2 1 (by omega)) ?_ ?_ (eln_ne hn (by omega) (by omega) (by omega)) ?_
    · rw [hB _ _ (by omega) (by omega)]; simp [holeP]
    · rw [hB _ _ (by omega) (by omega)]; simp [holeP]
    · rw [hA _ _ (by omega) (by omega)]; simp [holeP]; omega
  · by_cases h1 : i + 1 = t.length
    · refine not_simple3 g hS (hS2 (i - 1) (by omega)) (hS2 0 (by omega)) ?_ ?_ (eln_ne hn (by omega) (by omega) (by omega)) ?_
      · rw [hA _ _ (by omega) (by omega)]; simp [holeP]; omega
      · rw [hA _ _ (by omega) (by omega)]; simp [holeP]; omega
      · rw [hA _ _ (by omega) (by omega)]; simp [holeP]; omega
    · refine not_simple3 g hS (hS2 (i - 1) (by omega)) (hS2 (i + 1) (by omega)) ?_ ?_ (eln_ne hn (by omega) (by omega) (by omega)) ?_
      · rw [hA _ _ (by omega) (by omega)]; simp [holeP]; omega
      · rw [hB _ _ (by omega) (by omega)]; simp [holeP]
      · rw [hB _ _ (by omega) (by omega)]; simp [holeP]; omega
theorem no_sun {rs : List Int} (hv : isGraphB rs.length rs = true) {x : List Int} (hx : sunB rs.length rs x = true) : ordV rs.length rs = none := by
  have g := (VG.of hv).2
  unfold sunB at hx
  rw [Bool.and_eq_true, decide_eq_true_eq] at hx
  obtain ⟨h4, hj⟩ := hx
  have hvx : vertsB rs.length rs x = true := by unfold joinB at hj; rw [Bool.and_eq_true] at hj; exact hj.1
  obtain ⟨t, rfl, hn, hlt⟩ := nat_list hvx
  rw [List.length_map] at h4
  have hA := fun i j hi hj' => join_ad g hj (i := i) (j := j) hi hj'
  refine ord_none g hv (t := t) (by rintro rfl; simp at h4) hlt fun S hS hT y hy => ?_
  obtain ⟨i, hi, rfl⟩ := mem_eln hy
  have hS2 : ∀ i, i < 6 → S.testBit (eln t i) = true := fun i hi => hT _ (eln_mem (by omega))
  have hB : ∀ i j, i < j → j < 6 → ad rs (eln t i) (eln t j) = sunP i j := fun i j h1 h2 => by rw [ad_symm g]; exact hA j i (by omega) h1
  have hC : ∀ i j, i < j → j < 6 → ad rs (eln t j) (eln t i) = sunP i j := fun i j h1 h2 => hA j i (by omega) h1
  have hne : ∀ i j, i < 6 → j < 6 → i ≠ j → eln t i ≠ eln t j := fun i j hi hj h => eln_ne hn (by omega) (by omega) h
  have no : ∀ i j, i < j → j < 6 → sunP i j = false → ¬nb rs (eln t i) (eln t j) ∧ ¬nb rs (eln t j) (eln t i) := fun i j h1 h2 h3 => by
    refine ⟨?_, ?_⟩
    · rintro (h | h)
      · exact hne i j (by omega) h2 (by omega) h
      · rw [hB i j h1 h2, h3] at h; cases h
    · rintro (h | h)
      · exact hne j i (by omega) (by omega) (by omega) h
      · rw [hC i j h1 h2, h3] at h; cases h
  have yes : ∀ i j, i < j → j < 6 → sunP i j = true → nb rs (eln t i) (eln t j) ∧ nb rs (eln t j) (eln t i) := fun i j h1 h2 h3 => ⟨.inr (by rw [hB i j h1 h2, h3]), .inr (by rw [hC i j h1 h2, h3])⟩
  have hi6 : i = 0 ∨ i = 1 ∨ i = 2 ∨ i = 3 ∨ i = 4 ∨ i = 5 := by omega
  rcases hi6 with rfl | rfl | rfl | rfl | rfl | rfl
  · exact not_simple g hS (hS2 3 (by omega)) (hS2 5 (by omega)) (hS2 3 (by omega)) (hS2 5 (by omega)) (yes 0 3 (by omega) (by omega) (by decide)).1 (yes 0 5 (by omega) (by omega) (by decide)).1 (.inl rfl) (no 3 5 (by omega) (by omega) (by decide)).2 (.inl rfl) (no 3 5 (by omega) (by omega) (by decide)).1
  · exact not_simple g hS (hS2 3 (by omega)) (hS2 4 (by omega)) (hS2 3 (by omega)) (hS2 4 (by omega)) (yes 1 3 (by omega) (by omega) (by decide)).1 (yes 1 4 (by omega) (by omega) (by decide)).1 (.inl rfl) (no 3 4 (by omega) (by omega) (by decide)).2 (.inl rfl) (no 3 4 (by omega) (by omega) (by decide)).1
  · exact not_simple g hS (hS2 4 (by omega)) (hS2 5 (by omega)) (hS2 4 (by omega)) (hS2 5 (by omega)) (yes 2 4 (by omega) (by omega) (by decide)).1 (yes 2 5 (by omega) (by omega) (by decide)).1 (.inl rfl) (no 4 5 (by omega) (by omega) (by decide)).2 (.inl rfl) (no 4 5 (by omega) (by omega) (by decide)).1
  · exact not_simple g hS (hS2 0 (by omega)) (hS2 1 (by omega)) (hS2 5 (by omega)) (hS2 4 (by omega)) (yes 0 3 (by omega) (by omega) (by decide)).2 (yes 1 3 (by omega) (by omega) (by decide)).2 (yes 0 5 (by omega) (by omega) (by decide)).1 (no 1 5 (by omega) (by omega) (by decide)).1 (yes 1 4 (by omega) (by omega) (by decide)).1 (no 0 4 (by omega) (by omega) (by decide)).1
  · exact not_simple g hS (hS2 1 (by omega)) (hS2 2 (by omega)) (hS2 3 (by omega)) (hS2 5 (by omega)) (yes 1 4 (by omega) (by omega) (by decide)).2 (yes 2 4 (by omega) (by omega) (by decide)).2 (yes 1 3 (by omega) (by omega) (by decide)).1 (no 2 3 (by omega) (by omega) (by decide)).1 (yes 2 5 (by omega) (by omega) (by decide)).1 (no 1 5 (by omega) (by omega) (by decide)).1
  · exact not_simple g hS (hS2 0 (by omega)) (hS2 2 (by omega)) (hS2 3 (by omega)) (hS2 4 (by omega)) (yes 0 5 (by omega) (by omega) (by decide)).2 (yes 2 5 (by omega) (by omega) (by decide)).2 (yes 0 3 (by omega) (by omega) (by decide)).1 (no 2 3 (by omega) (by omega) (by decide)).1 (yes 2 4 (by omega) (by omega) (by decide)).1 (no 0 4 (by omega) (by omega) (by decide)).1

theorem holeV_true {n : Int} {rs x : List Int} (h : holeV n rs = some x) : holeB rs.length rs x = true := by
  unfold holeV at h
  split at h
  · split at h
    · exact (dfs_from _ _ _ _ _ _ h).1
    · cases h
  · cases h
theorem sunV_true {n : Int} {rs x : List Int} (h : sunV n rs = some x) : sunB n rs x = true := by
  unfold sunV at h
  split at h
  · exact (dfs_from _ _ _ _ _ _ h).1
  · cases h
/-- A simple order or an obstacle, never both. -/
theorem strong_law {rs : List Int} (hv : isGraphB rs.length rs = true) (h6 : rs.length ≤ 6) : (ordV rs.length rs).isSome = !(obst2V rs.length rs).isSome := by
  cases ho : obst2V rs.length rs with
  | none => rw [ord_of hv fun S h0 hS => simple_there hv h6 ho h0 hS]; rfl
  | some x =>
    have : ordV rs.length rs = none := by
      unfold obst2V at ho
      cases hh : holeV rs.length rs with
      | some y => exact no_hole hv (holeV_true hh)
      | none =>
        rw [hh] at ho
        exact no_sun hv (sunV_true ho)
    rw [this]; rfl

end Go.Proofs.Ytfkehmpckhmkbaa
