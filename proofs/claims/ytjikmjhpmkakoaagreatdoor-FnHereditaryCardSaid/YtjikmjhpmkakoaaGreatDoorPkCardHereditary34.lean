/-
  Obstacles of graphs of at most six vertices, and the graphs that can be pruned to the end, that keep distances. No conditions beyond that.
-/
import Derived.Test.YtjikmjhpmkakoaaGreatDoorPkCardHereditary33
namespace Go.Proofs.YtjikmjhpmkakoaaGreatDoor
open Go.RowKit

/-- Different numbers below k are at most k. -/
theorem nodup_leH : ∀ (k : Nat) (l : List Nat), l.Nodup → (∀ a, a ∈ l → a < k) → l.length ≤ k
  | 0, l, _, h => by
    cases l with
    | nil => exact Nat.le_refl _
    | cons a l => exact absurd (h a (by simp)) (by omega)
  | k + 1, l, hn, h => by
    by_cases hk : k ∈ l
    · have h1 := nodup_leH k (l.erase k) (hn.erase k) fun a ha => by
        have h2 := h a (List.mem_of_mem_erase ha)
        have h3 : a ≠ k := by rintro rfl; exact hn.not_mem_erase ha
        omega
      rw [List.length_erase_of_mem hk] at h1
      omega
    · have h1 := nodup_leH k l hn fun a ha => by
        have h2 := h a ha
        have h3 : a ≠ k := by rintro rfl; exact hk ha
        omega
      omega

/-! ### Obstacles -/
def obP (rs : List Int) (S : Nat) : Prop := (obF S).eval (envG rs) = true
/-- A path of four vertices, and one that joins its ends. -/
def O4 (rs : List Int) (S a b c d e : Nat) : Prop :=
  (S.testBit a = true ∧ S.testBit b = true ∧ S.testBit c = true ∧ S.testBit d = true ∧ S.testBit e = true) ∧ [a, b, c, d, e].Nodup ∧ (ad rs a b = true ∧ ad rs b c = true ∧ ad rs c d = true) ∧ (ad rs a c = false ∧ ad rs b d = false ∧ ad rs a d = false) ∧ ad rs a e = true ∧ ad rs d e = true
/-- A path of five vertices, and one that joins its ends. -/
def O5 (rs : List Int) (S a b c d f e : Nat) : Prop :=
  (S.testBit a = true ∧ S.testBit b = true ∧ S.testBit c = true ∧ S.testBit d = true ∧ S.testBit f = true ∧ S.testBit e = true) ∧ [a, b, c, d, f, e].Nodup ∧ (ad rs a b = true ∧ ad rs b c = true ∧ ad rs c d = true ∧ ad rs d f = true) ∧ (ad rs a c = false ∧ ad rs a d = false ∧ ad rs a f = false ∧ ad rs b d = false ∧ ad rs b f = false ∧ ad rs c f = false) ∧ ad rs a e = true ∧ ad rs f e = true
theorem lt6 {rs : List Int} (h6 : rs.length ≤ 6) {S v : Nat} (hS : S < 2 ^ rs.length) (h : S.testBit v = true) : v < 6 := Nat.lt_of_lt_of_le (testBit_lt hS h) h6
theorem obP_iff {rs : List Int} (g : VG rs) (h6 : rs.length ≤ 6) {S : Nat} (hS : S < 2 ^ rs.length) : obP rs S ↔ (∃ a b c d e, O4 rs S a b c d e) ∨ ∃ a b c d f e, O5 rs S a b c d f e := by
  have hm : ∀ v, v ∈ mS S ↔ S.testBit v = true := fun v => ⟨fun h => (mem_mS.1 h).2, fun h => mem_mS.2 ⟨lt6 h6 hS h, h⟩⟩
  unfold obP obF
  rw [or_true]
  constructor
  · rintro (h | h)
    · left
      obtain ⟨t, h1, h2, h3, h4⟩ := exL_some 5 [] List.nodup_nil h
      match t, h1 with
      | [a, b, c, d, e], _ =>
        simp only [List.nil_append] at h2 h4
        have hs : ∀ y ∈ [a, b, c, d, e], S.testBit y = true := fun y hy => (hm y).1 (h3 y hy)
        have ha := hs a (by simp)
        have hb := hs b (by simp)
        have hc := hs c (by simp)
        have hd := hs d (by simp)
        have he := hs e (by simp)
        unfold ob4 at h4
        rw [and_true, and_true] at h4
        obtain ⟨p1, p2, p3⟩ := h4
        have q := (patF_true g (l := [a, b, c, d]) (fun y hy => lt6 h6 hS (hs y (by simp at hy ⊢; omega)))).1 p1
        have q2 : ad rs a e = true := by rw [← adF_eval g (lt6 h6 hS ha) (lt6 h6 hS he)]; exact p2
        have q3 : ad rs d e = true := by rw [← adF_eval g (lt6 h6 hS hd) (lt6 h6 hS he)]; exact p3
        refine ⟨a, b, c, d, e, ⟨ha, hb, hc, hd, he⟩, h2, ⟨?_, ?_, ?_⟩, ⟨?_, ?_, ?_⟩, q2, q3⟩
        · rw [ad_symm g]; exact q 1 (by simp) 0 (by omega)
        · rw [ad_symm g]; exact q 2 (by simp) 1 (by omega)
        · rw [ad_symm g]; exact q 3 (by simp) 2 (by omega)
        · rw [ad_symm g]; exact q 2 (by simp) 0 (by omega)
        · rw [ad_symm g]; exact q 3 (by simp) 1 (by omega)
        · rw [ad_symm g]; exact q 3 (by simp) 0 (by omega)
    · right
      obtain ⟨t, h1, h2, h3, h4⟩ := exL_some 6 [] List.nodup_nil h
      match t, h1 with
      | [a, b, c, d, f, e], _ =>
        simp only [List.nil_append] at h2 h4
        have hs : ∀ y ∈ [a, b, c, d, f, e], S.testBit y = true := fun y hy => (hm y).1 (h3 y hy)
        have ha := hs a (by simp)
        have hb := hs b (by simp)
        have hc := hs c (by simp)
        have hd := hs d (by simp)
        have hf := hs f (by simp)
        have he := hs e (by simp)
        unfold ob5 at h4
        rw [and_true, and_true] at h4
        obtain ⟨p1, p2, p3⟩ := h4
        have q := (patF_true g (l := [a, b, c, d, f]) (fun y hy => lt6 h6 hS (hs y (by simp at hy ⊢; omega)))).1 p1
        have q2 : ad rs a e = true := by rw [← adF_eval g (lt6 h6 hS ha) (lt6 h6 hS he)]; exact p2
        have q3 : ad rs f e = true := by rw [← adF_eval g (lt6 h6 hS hf) (lt6 h6 hS he)]; exact p3
        refine ⟨a, b, c, d, f, e, ⟨ha, hb, hc, hd, hf, he⟩, h2, ⟨?_, ?_, ?_, ?_⟩, ⟨?_, ?_, ?_, ?_, ?_, ?_⟩, q2, q3⟩
        · rw [ad_symm g]; exact q 1 (by simp) 0 (by omega)
        · rw [ad_symm g]; exact q 2 (by simp) 1 (by omega)
        · rw [ad_symm g]; exact q 3 (by simp) 2 (by omega)
        · rw [ad_symm g]; exact q 4 (by simp) 3 (by omega)
        · rw [ad_symm g]; exact q 2 (by simp) 0 (by omega)
        · rw [ad_symm g]; exact q 3 (by simp) 0 (by omega)
        · rw [ad_symm g]; exact q 4 (by simp) 0 (by omega)
        · rw [ad_symm g]; exact q 3 (by simp) 1 (by omega)
        · rw [ad_symm g]; exact q 4 (by simp) 1 (by omega)
        · rw [ad_symm g]; exact q 4 (by simp) 2 (by omega)
  · rintro (⟨a, b, c, d, e, ⟨ha, hb, hc, hd, he⟩, hn, ⟨e1, e2, e3⟩, ⟨n1, n2, n3⟩, e4, e5⟩ | ⟨a, b, c, d, f, e, ⟨ha, hb, hc, hd, hf, he⟩, hn, ⟨e1, e2, e3, e6⟩, ⟨n1, n2, n3, n4, n5, n6⟩, e4, e5⟩)
    · left
      refine exL_mk [a, b, c, d, e] [] hn (fun y hy => ?_) ?_
      · simp at hy
        rcases hy with rfl | rfl | rfl | rfl | rfl <;> rw [hm] <;> assumption
      · rw [List.nil_append]
        unfold ob4
        rw [and_true, and_true]
        refine ⟨(patF_true g (l := [a, b, c, d]) (fun y hy => ?_)).2 fun i hi j hj => ?_, ?_, ?_⟩
        · simp at hy
          rcases hy with rfl | rfl | rfl | rfl <;> exact lt6 h6 hS (by assumption)
        · simp at hi
          rw [ad_symm g]
          rcases (by omega : (i = 1 ∧ j = 0) ∨ (i = 2 ∧ j = 0) ∨ (i = 2 ∧ j = 1) ∨ (i = 3 ∧ j = 0) ∨ (i = 3 ∧ j = 1) ∨ (i = 3 ∧ j = 2)) with ⟨rfl, rfl⟩ | ⟨rfl, rfl⟩ | ⟨rfl, rfl⟩ | ⟨rfl, rfl⟩ | ⟨rfl, rfl⟩ | ⟨rfl, rfl⟩
          · exact e1
          · exact n1
          · exact e2
          · exact n3
          · exact n2
          · exact e3
        · show (adF a e).eval _ = true
          rw [adF_eval g (lt6 h6 hS ha) (lt6 h6 hS he)]; exact e4
        · show (adF d e).eval _ = true
          rw [adF_eval g (lt6 h6 hS hd) (lt6 h6 hS he)]; exact e5
    · right
      refine exL_mk [a, b, c, d, f, e] [] hn (fun y hy => ?_) ?_
      · simp at hy
        rcases hy with rfl | rfl | rfl | rfl | rfl | rfl <;> rw [hm] <;> assumption
      · rw [List.nil_append]
        unfold ob5
        rw [and_true, and_true]
        refine ⟨(patF_true g (l := [a, b, c, d, f]) (fun y hy => ?_)).2 fun i hi j hj => ?_, ?_, ?_⟩
        · simp at hy
          rcases hy with rfl | rfl | rfl | rfl | rfl <;> exact lt6 h6 hS (by assumption)
        · simp at hi
          rw [ad_symm g]
          rcases (by omega : (i = 1 ∧ j = 0) ∨ (i = 2 ∧ j = 0) ∨ (i = 2 ∧ j = 1) ∨ (i = 3 ∧ j = 0) ∨ (i = 3 ∧ j = 1) ∨ (i = 3 ∧ j = 2) ∨ (i = 4 ∧ j = 0) ∨ (i = 4 ∧ j = 1) ∨ (i = 4 ∧ j = 2) ∨ (i = 4 ∧ j = 3)) with ⟨rfl, rfl⟩ | ⟨rfl, rfl⟩ | ⟨rfl, rfl⟩ | ⟨rfl, rfl⟩ | ⟨rfl, rfl⟩ | ⟨rfl, rfl⟩ | ⟨rfl, rfl⟩ | ⟨rfl, rfl⟩ | ⟨rfl, rfl⟩ | ⟨rfl, rfl⟩
          · exact e1
          · exact n1
          · exact e2
          · exact n2
          · exact n4
          · exact e3
          · exact n3
          · exact n5
          · exact n6
          · exact e6
        · show (adF a e).eval _ = true
          rw [adF_eval g (lt6 h6 hS ha) (lt6 h6 hS he)]; exact e4
        · show (adF f e).eval _ = true
          rw [adF_eval g (lt6 h6 hS hf) (lt6 h6 hS he)]; exact e5
theorem obP_mono {rs : List Int} (g : VG rs) (h6 : rs.length ≤ 6) {S T : Nat} (hT : T < 2 ^ rs.length) (hs : subN S T) (h : obP rs S) : obP rs T := by
  rw [obP_iff g h6 (hs.lt hT)] at h
  rw [obP_iff g h6 hT]
  rcases h with ⟨a, b, c, d, e, ⟨h1, h2, h3, h4, h5⟩, h⟩ | ⟨a, b, c, d, f, e, ⟨h1, h2, h3, h4, h5, h7⟩, h⟩
  · exact .inl ⟨a, b, c, d, e, ⟨hs _ h1, hs _ h2, hs _ h3, hs _ h4, hs _ h5⟩, h⟩
  · exact .inr ⟨a, b, c, d, f, e, ⟨hs _ h1, hs _ h2, hs _ h3, hs _ h4, hs _ h5, hs _ h7⟩, h⟩
/-- The same obstacles where the same vertices of the set are joined. -/
theorem obP_congr {rs rt : List Int} (g : VG rs) (gt : VG rt) (hl : rs.length = rt.length) (h6 : rs.length ≤ 6) {S : Nat} (hS : S < 2 ^ rs.length) (hc : ∀ a b, S.testBit a = true → S.testBit b = true → ad rs a b = ad rt a b) (h : obP rs S) : obP rt S := by
  rw [obP_iff g h6 hS] at h
  rw [obP_iff gt (by omega) (by rw [← hl]; exact hS)]
  rcases h with ⟨a, b, c, d, e, ⟨ha, hb, hc', hd, he⟩, hn, ⟨e1, e2, e3⟩, ⟨n1, n2, n3⟩, e4, e5⟩ | ⟨a, b, c, d, f, e, ⟨ha, hb, hc', hd, hf, he⟩, hn, ⟨e1, e2, e3, e6⟩, ⟨n1, n2, n3, n4, n5, n6⟩, e4, e5⟩
  · exact .inl ⟨a, b, c, d, e, ⟨ha, hb, hc', hd, he⟩, hn, ⟨by rw [← hc _ _ ha hb]; exact e1, by rw [← hc _ _ hb hc']; exact e2, by rw [← hc _ _ hc' hd]; exact e3⟩, ⟨by rw [← hc _ _ ha hc']; exact n1, by rw [← hc _ _ hb hd]; exact n2, by rw [← hc _ _ ha hd]; exact n3⟩, by rw [← hc _ _ ha he]; exact e4, by rw [← hc _ _ hd he]; exact e5⟩
  · exact .inr ⟨a, b, c, d, f, e, ⟨ha, hb, hc', hd, hf, he⟩, hn, ⟨by rw [← hc _ _ ha hb]; exact e1, by rw [← hc _ _ hb hc']; exact e2, by rw [← hc _ _ hc' hd]; exact e3, by rw [← hc _ _ hd hf]; exact e6⟩,
      ⟨by rw [← hc _ _ ha hc']; exact n1, by rw [← hc _ _ ha hd]; exact n2, by rw [← hc _ _ ha hf]; exact n3, by rw [← hc _ _ hb hd]; exact n4, by rw [← hc _ _ hb hf]; exact n5, by rw [← hc _ _ hc' hf]; exact n6⟩, by rw [← hc _ _ ha he]; exact e4, by rw [← hc _ _ hf he]; exact e5⟩

/-! ### What the tables tell -/
theorem prunF_true {rs : List Int} (g : VG rs) (h6 : rs.length ≤ 6) {S v : Nat} (hS : S < 2 ^ rs.length) (hv : v < 6) : (prunF S v).eval (envG rs) = true ↔ prunP rs S v := by
  have hm : ∀ v, v ∈ mS S ↔ S.testBit v = true := fun v => ⟨fun h => (mem_mS.1 h).2, fun h => mem_mS.2 ⟨lt6 h6 hS h, h⟩⟩
  have hb : ∀ a b, (!Nat.beq a b) = true ↔ a ≠ b := fun a b => by
    rw [Bool.not_eq_true', ← Bool.not_eq_true, Nat.beq_eq]
  unfold prunF prunP
  rw [or_true]
  refine or_congr ?_ ?_
  · rw [exF_true]
    constructor
    · rintro ⟨w, hw, h⟩
      rw [List.mem_filter, hm, hb] at hw
      rw [allF_true] at h
      refine ⟨w, hw.1, hw.2, fun c hc h1 h2 => ?_⟩
      have := h c (by rw [List.mem_filter, hm, Bool.and_eq_true, hb, hb]; exact ⟨hc, h1, h2⟩)
      rw [eqF_true, adF_eval g hv (lt6 h6 hS hc), adF_eval g (lt6 h6 hS hw.1) (lt6 h6 hS hc)] at this
      exact this
    · rintro ⟨w, h1, h2, h⟩
      refine ⟨w, by rw [List.mem_filter, hm, hb]; exact ⟨h1, h2⟩, ?_⟩
      rw [allF_true]
      intro c hc
      rw [List.mem_filter, hm, Bool.and_eq_true, hb, hb] at hc
      rw [eqF_true, adF_eval g hv (lt6 h6 hS hc.1), adF_eval g (lt6 h6 hS h1) (lt6 h6 hS hc.1)]
      exact h c hc.1 hc.2.1 hc.2.2
  · constructor
    · intro h a b ha hb' h1 h2
      have h3 := allF_true.1 (allF_true.1 h a ((hm a).2 ha)) b ((hm b).2 hb')
      refine Classical.byContradiction fun hne => ?_
      have e : Nat.beq a b = false := beq_no hne
      rw [e] at h3
      have h4 : (Fm.not (.and (adF v a) (adF v b))).eval (envG rs) = true := h3
      rw [not_true, and_true, adF_eval g hv (lt6 h6 hS ha), adF_eval g hv (lt6 h6 hS hb')] at h4
      exact h4 ⟨h1, h2⟩
    · intro h
      refine allF_true.2 fun a ha => allF_true.2 fun b hb' => ?_
      rw [hm] at ha hb'
      by_cases e : a = b
      · subst e
        rw [Nat.beq_refl]; rfl
      · rw [beq_no e]
        show (Fm.not (.and (adF v a) (adF v b))).eval (envG rs) = true
        rw [not_true, and_true, adF_eval g hv (lt6 h6 hS ha), adF_eval g hv (lt6 h6 hS hb')]
        exact fun h2 => e (h a b ha hb' h2.1 h2.2)
theorem S63 {rs : List Int} (h6 : rs.length ≤ 6) {S : Nat} (hS : S < 2 ^ rs.length) (h0 : S ≠ 0) : S ∈ (List.range 63).map (· + 1) := by
  have : 2 ^ rs.length ≤ 2 ^ 6 := Nat.pow_le_pow_right (by decide) h6
  exact List.mem_map.2 ⟨S - 1, List.mem_range.2 (by omega), by omega⟩
theorem some_prune {rs : List Int} (g : VG rs) (h6 : rs.length ≤ 6) {S : Nat} (hS : S < 2 ^ rs.length) (h0 : S ≠ 0) : (∃ v, S.testBit v = true ∧ prunP rs S v) ∨ obP rs S := by
  have h := allF_true.1 (Fm.taut prun_taut (envG rs) (envG_big rs)) S (S63 h6 hS h0)
  rw [or_true, exF_true] at h
  rcases h with ⟨v, hv, h⟩ | h
  · have hv2 := (mem_mS.1 hv).2
    exact .inl ⟨v, hv2, (prunF_true g h6 hS (lt6 h6 hS hv2)).1 h⟩
  · exact .inr h
theorem ob_back {rs : List Int} (g : VG rs) (h6 : rs.length ≤ 6) {S v : Nat} (hS : S < 2 ^ rs.length) (hv : S.testBit v = true) (hp : prunP rs S v) (ho : obP rs S) : obP rs (S - 2 ^ v) := by
  have h0 : S ≠ 0 := fun e => by subst e; simp at hv
  have hv6 := lt6 h6 hS hv
  have h := allF_true.1 (allF_true.1 (Fm.taut back_taut (envG rs) (envG_big rs)) S (S63 h6 hS h0)) v (mem_mS.2 ⟨hv6, hv⟩)
  exact impF_true.1 h (and_true.2 ⟨(prunF_true g h6 hS hv6).2 hp, ho⟩)
theorem obP_zero (rs : List Int) : ¬obP rs 0 := by
  intro h
  have : (obF 0).eval (envG rs) = false := rfl
  unfold obP at h
  rw [this] at h; cases h

/-! ### Pruning to the end -/
theorem run_some {rs : List Int} (g : VG rs) (h6 : rs.length ≤ 6) : ∀ (f S : Nat) (ps qs : List Prn), S < 2 ^ rs.length → cnt S ≤ f → pruneRun rs f S ps = some qs → ¬obP rs S
  | 0, S, ps, qs, hS, hc, _ => by
    have h0 : S = 0 := Classical.byContradiction fun h => by
      have := cnt_pos hS g.le (Nat.pos_of_ne_zero h)
      have e : (els S).length = cnt S := rfl
      omega
    subst h0; exact obP_zero rs
  | f + 1, S, ps, qs, hS, hc, h => by
    by_cases h0 : S = 0
    · subst h0; exact obP_zero rs
    · cases hn : nextV rs S with
      | none => rw [pruneRun_none h0 hn] at h; cases h
      | some v =>
        have h1 := (firstB_some hn).2
        simp only [Bool.and_eq_true] at h1
        obtain ⟨hv, hs⟩ := h1
        cases hp : pruneV rs S v with
        | none => rw [hp] at hs; cases hs
        | some p =>
          rw [pruneRun_some h0 hn hp] at h
          obtain ⟨m1, m2⟩ := minus_facts g.le hS hv
          have ih := run_some g h6 f _ _ _ m1 (by omega) h
          exact fun ho => ih (ob_back g h6 hS hv ((pruneV_iff g hS hv).1 hs) ho)
theorem run_no {rs : List Int} (g : VG rs) (h6 : rs.length ≤ 6) : ∀ (f S : Nat) (ps : List Prn), S < 2 ^ rs.length → pruneRun rs f S ps = none → obP rs S
  | 0, S, ps, hS, h => by cases h
  | f + 1, S, ps, hS, h => by
    by_cases h0 : S = 0
    · subst h0; rw [pruneRun_zero] at h; cases h
    · cases hn : nextV rs S with
      | none =>
        rcases some_prune g h6 hS h0 with ⟨v, hv, hp⟩ | ho
        · have h1 := firstB_no hn v (testBit_lt hS hv)
          have h2 := (pruneV_iff g hS hv).2 hp
          rw [hv, h2] at h1; cases h1
        · exact ho
      | some v =>
        have h1 := (firstB_some hn).2
        simp only [Bool.and_eq_true] at h1
        obtain ⟨hv, hs⟩ := h1
        cases hp : pruneV rs S v with
        | none => rw [hp] at hs; cases hs
        | some p =>
          rw [pruneRun_some h0 hn hp] at h
          obtain ⟨m1, m2⟩ := minus_facts g.le hS hv
          refine obP_mono g h6 hS (fun i hi => ?_) (run_no g h6 f _ _ m1 h)
          have h128 := g.pow.1
          rw [← nDiff_minus (by omega) (pow_sub hv)] at hi
          exact (nDiff_bit.1 hi).1
theorem prunes_iff {rs : List Int} (hv : isGraphB rs.length rs = true) (h6 : rs.length ≤ 6) : (prunesV rs.length rs).isSome = true ↔ ¬obP rs (2 ^ rs.length - 1) := by
  have g := (VG.of hv).2
  rw [prunesV_of hv]
  cases h : pruneRun rs rs.length (2 ^ rs.length - 1) [] with
  | none => exact ⟨fun h2 => (by cases h2), fun h2 => absurd (run_no g h6 _ _ _ (all_lt _) h) h2⟩
  | some qs => exact ⟨fun _ => run_some g h6 _ _ _ _ (all_lt _) (cnt_leN (all_lt _) g.le) h, fun _ => rfl⟩

end Go.Proofs.YtjikmjhpmkakoaaGreatDoor
