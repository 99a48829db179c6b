/-
  Graphs of at most six vertices as assignments of formulas: edges, all vertices, lists of different vertices, patterns. No conditions.
  Cliques by their pairs. No conditions.
  What FnArcs' law needs of the values. No conditions.
-/
import Derived.Test.YtfkehmpckhmkbaaDoorPkCardArcs35
import Derived.Test.YtfkehmpckhmkbaaDoorPkCardArcs05
import Derived.Test.YtfkehmpckhmkbaaDoorPkCardArcs15
import Derived.Test.YtfkehmpckhmkbaaDoorPkCardArcs06
import Derived.Test.YtfkehmpckhmkbaaDoorPkCardArcs33
import Derived.Test.YtfkehmpckhmkbaaDoorPkCardArcs34
namespace Go.Proofs.YtfkehmpckhmkbaaDoor
open Go.RowKit

def pr6 : List (Nat × Nat) := [(0, 1), (0, 2), (1, 2), (0, 3), (1, 3), (2, 3), (0, 4), (1, 4), (2, 4), (3, 4), (0, 5), (1, 5), (2, 5), (3, 5), (4, 5)]
def ad (rs : List Int) (a b : Nat) : Bool := (gn rs a).testBit b
def envG (rs : List Int) (i : Nat) : Bool := match pr6[i]? with
  | some p => ad rs p.1 p.2
  | none => false
theorem envG_big (rs : List Int) (i : Nat) (h : 15 ≤ i) : envG rs i = false := by
  unfold envG; rw [List.getElem?_eq_none (by simpa [pr6] using h)]
def adF (a b : Nat) : Fm := cond (Nat.blt a b) (.v (b * (b - 1) / 2 + a)) (cond (Nat.blt b a) (.v (a * (a - 1) / 2 + b)) .ff)
theorem pr6_at : ∀ b : Fin 6, ∀ a : Fin 6, a.val < b.val → pr6[b.val * (b.val - 1) / 2 + a.val]? = some (a.val, b.val) := by decide
theorem gn_big {rs : List Int} {v : Nat} (h : rs.length ≤ v) : gn rs v = 0 := by unfold gn gi; rw [List.getD_eq_getElem?_getD, List.getElem?_eq_none h]; rfl
theorem ad_lt {rs : List Int} (g : VG rs) {a b : Nat} (h : ad rs a b = true) : a < rs.length ∧ b < rs.length := by
  have ha : a < rs.length := by
    rcases Nat.lt_or_ge a rs.length with h' | h'
    · exact h'
    · unfold ad at h; rw [gn_big h'] at h; simp at h
  exact ⟨ha, testBit_lt (g.lt a ha) h⟩
theorem ad_symm {rs : List Int} (g : VG rs) (a b : Nat) : ad rs a b = ad rs b a := by
  cases h : ad rs a b <;> cases h2 : ad rs b a
  · rfl
  · have := ad_lt g h2
    unfold ad at h h2
    rw [g.sym b this.1 a this.2, h] at h2
    cases h2
  · have := ad_lt g h
    unfold ad at h h2
    rw [g.sym a this.1 b this.2, h2] at h
    cases h
  · rfl
theorem ad_irr {rs : List Int} (g : VG rs) (a : Nat) : ad rs a a = false := by
  cases h : ad rs a a
  · rfl
  · have := ad_lt g h
    unfold ad at h
    rw [g.irr a this.1] at h
    cases h
theorem blt_yes {a b : Nat} (h : a < b) : Nat.blt a b = true := by rw [Nat.blt_eq]; exact h
theorem blt_no {a b : Nat} (h : ¬a < b) : Nat.blt a b = false := by
  cases q : Nat.blt a b
  · rfl
  · rw [Nat.blt_eq] at q; exact absurd q h
theorem adF_eval {rs : List Int} (g : VG rs) {a b : Nat} (ha : a < 6) (hb : b < 6) : (adF a b).eval (envG rs) = ad rs a b := by
  unfold adF
  rcases Nat.lt_trichotomy a b with h | h | h
  · rw [blt_yes h]
    show (match pr6[b * (b - 1) / 2 + a]? with | some p => ad rs p.1 p.2 | none => false) = _
    rw [pr6_at ⟨b, hb⟩ ⟨a, ha⟩ h]
  · subst h
    rw [blt_no (by omega), ad_irr g]
    rfl
  · rw [blt_no (by omega), blt_yes h]
    show (match pr6[a * (a - 1) / 2 + b]? with | some p => ad rs p.1 p.2 | none => false) = _
    rw [pr6_at ⟨a, ha⟩ ⟨b, hb⟩ h, ad_symm g]

def ve : List Nat := [0, 1, 2, 3, 4, 5]
theorem mem_ve {v : Nat} : v ∈ ve ↔ v < 6 := by
  constructor
  · intro h; simp [ve] at h; omega
  · intro h
    have : v = 0 ∨ v = 1 ∨ v = 2 ∨ v = 3 ∨ v = 4 ∨ v = 5 := by omega
    simpa [ve] using this
def allF (l : List Nat) (p : Nat → Fm) : Fm := andFl (l.map p)
def exF (l : List Nat) (p : Nat → Fm) : Fm := orFl (l.map p)
theorem allF_true {e : Nat → Bool} {l : List Nat} {p : Nat → Fm} : (allF l p).eval e = true ↔ ∀ v ∈ l, (p v).eval e = true := by simp [allF, andFl_true]
theorem exF_true {e : Nat → Bool} {l : List Nat} {p : Nat → Fm} : (exF l p).eval e = true ↔ ∃ v ∈ l, (p v).eval e = true := by
  simp only [exF, orFl_true, List.mem_map]
  constructor
  · rintro ⟨a, ⟨v, hv, rfl⟩, h⟩
    exact ⟨v, hv, h⟩
  · rintro ⟨v, hv, h⟩
    exact ⟨_, ⟨v, hv, rfl⟩, h⟩
/-- The members of a set, below 6. -/
def mS (S : Nat) : List Nat := ve.filter fun v => Nat.testBit S v
theorem mem_mS {S v : Nat} : v ∈ mS S ↔ v < 6 ∧ S.testBit v = true := by simp [mS, mem_ve]
def litF (b : Bool) (a : Fm) : Fm := cond b a (.not a)
theorem litF_true {e : Nat → Bool} {b : Bool} {a : Fm} : (litF b a).eval e = true ↔ a.eval e = b := by cases b <;> simp [litF, Fm.eval]
/-- The vertices of a list are neighbours exactly by the pattern of their places. -/
def patF (pat : Nat → Nat → Bool) (l : List Nat) : Fm := allF (List.range l.length) fun i => allF (List.range i) fun j => litF (pat j i) (adF (eln l i) (eln l j))
theorem patF_true {rs : List Int} (g : VG rs) {pat : Nat → Nat → Bool} {l : List Nat} (hl : ∀ y ∈ l, y < 6) : (patF pat l).eval (envG rs) = true ↔ ∀ i, i < l.length → ∀ j, j < i → ad rs (eln l i) (eln l j) = pat j i := by
  unfold patF
  simp only [allF_true, litF_true, List.mem_range]
  constructor
  · intro h i hi j hj
    rw [← adF_eval g (hl _ (eln_mem hi)) (hl _ (eln_mem (by omega)))]
    exact h i hi j hj
  · intro h i hi j hj
    rw [adF_eval g (hl _ (eln_mem hi)) (hl _ (eln_mem (by omega)))]
    exact h i hi j hj
/-- Some k further different vertices behind l. -/
def exI : Nat → List Nat → (List Nat → Fm) → Fm
  | 0, l, p => p l
  | k + 1, l, p => exF (ve.filter fun v => !l.elem v) fun v => exI k (l ++ [v]) p
theorem exI_some {e : Nat → Bool} {p : List Nat → Fm} : ∀ (k : Nat) (l : List Nat), l.Nodup → (exI k l p).eval e = true → ∃ t, t.length = k ∧ (l ++ t).Nodup ∧ (∀ y ∈ t, y < 6) ∧ (p (l ++ t)).eval e = true
  | 0, l, hn, h => ⟨[], rfl, by rwa [List.append_nil], by simp, by rwa [List.append_nil]⟩
  | k + 1, l, hn, h => by
    rw [exI, exF_true] at h
    obtain ⟨v, hv, h⟩ := h
    simp [mem_ve] at hv
    have hn2 : (l ++ [v]).Nodup := by
      rw [List.nodup_append]
      exact ⟨hn, by simp, fun a ha b hb e => by simp at hb; subst hb; subst e; exact hv.2 ha⟩
    obtain ⟨t, h1, h2, h3, h4⟩ := exI_some k (l ++ [v]) hn2 h
    rw [List.append_assoc] at h2 h4
    refine ⟨v :: t, by simp [h1], h2, fun y hy => ?_, h4⟩
    rcases List.mem_cons.1 hy with rfl | hy
    · exact hv.1
    · exact h3 y hy
theorem exI_mk {e : Nat → Bool} {p : List Nat → Fm} : ∀ (t l : List Nat), (l ++ t).Nodup → (∀ y ∈ t, y < 6) → (p (l ++ t)).eval e = true → (exI t.length l p).eval e = true
  | [], l, hn, h6, h => by rwa [List.append_nil] at h
  | v :: t, l, hn, h6, h => by
    rw [List.length_cons, exI, exF_true]
    refine ⟨v, ?_, exI_mk t (l ++ [v]) (by rwa [List.append_assoc]) (fun y hy => h6 y (List.mem_cons_of_mem _ hy)) (by rwa [List.append_assoc])⟩
    have : v ∉ l := fun hv => by
      rw [List.nodup_append] at hn
      exact hn.2.2 v hv v (by simp) rfl
    simp [mem_ve, h6 v (by simp), this]
def nbF (a b : Nat) : Fm := cond (Nat.beq a b) .tt (adF a b)
/-- Equal or neighbours. -/
def nb (rs : List Int) (a b : Nat) : Prop := a = b ∨ ad rs a b = true
theorem nbF_true {rs : List Int} (g : VG rs) {a b : Nat} (ha : a < 6) (hb : b < 6) : (nbF a b).eval (envG rs) = true ↔ nb rs a b := by
  unfold nbF nb
  by_cases h : a = b
  · subst h
    rw [Nat.beq_refl]
    simp [Fm.eval]
  · rw [beq_no h]
    show (adF a b).eval _ = true ↔ _
    rw [adF_eval g ha hb]
    simp [h]

end Go.Proofs.YtfkehmpckhmkbaaDoor

namespace Go.Proofs.YtfkehmpckhmkbaaDoor

theorem sub_bit {S v : Nat} (hS : S < 128) (hv : S.testBit v = true) (b : Nat) : (S - 2 ^ v).testBit b = (S.testBit b && decide (b ≠ v)) := by
  rw [← nDiff_minus hS (pow_sub hv), testBit_nDiff, Nat.testBit_two_pow]
  congr 1
  by_cases h : v = b
  · subst h; simp
  · rw [decide_eq_false h, decide_eq_true (show b ≠ v from fun e => h e.symm)]; rfl
theorem clique_iff {rs : List Int} (g : VG rs) {S : Nat} (hS : S < 2 ^ rs.length) : cliqueN rs S = true ↔ ∀ a b, S.testBit a = true → S.testBit b = true → a ≠ b → ad rs a b = true := by
  have hp := g.pow.1
  constructor
  · intro h a b ha hb hne
    unfold cliqueN at h
    rw [decide_eq_true_eq] at h
    have h1 := h a (testBit_lt hS ha)
    unfold cliqueBad at h1
    rw [ha, Bool.true_and, decide_eq_false_iff_not, Classical.not_not] at h1
    have h2 : (gn rs a &&& S).testBit b = (S - 2 ^ a).testBit b := by rw [h1]
    rw [sub_bit (by omega) ha, hb, Nat.testBit_and, hb, Bool.and_true, Bool.true_and, decide_eq_true (show b ≠ a from fun e => hne e.symm)] at h2
    exact h2
  · intro h
    refine cliqueN_ok fun v _ => ?_
    unfold cliqueBad
    cases hv : S.testBit v
    · rfl
    · rw [Bool.true_and, decide_eq_false_iff_not, Classical.not_not]
      refine Nat.eq_of_testBit_eq fun b => ?_
      rw [sub_bit (by omega) hv, Nat.testBit_and]
      cases hb : S.testBit b
      · rw [Bool.and_false, Bool.false_and]
      · rw [Bool.and_true, Bool.true_and]
        by_cases e : b = v
        · subst e
          have := ad_irr g b
          unfold ad at this
          rw [this, decide_eq_false (show ¬b ≠ b from fun h => h rfl)]
        · rw [decide_eq_true (show b ≠ v from e)]
          exact h v b hv hb (fun e2 => e e2.symm)

end Go.Proofs.YtfkehmpckhmkbaaDoor

namespace Go.Proofs.YtfkehmpckhmkbaaDoor
open Go.RowKit

theorem free_some {c : Int} {f l : List Int} {k : Nat} (h : freePt c f l = some k) : isArcsB c f l = true ∧ (k : Int) ≤ c - 1 ∧ arcsAtV c f l k = 0 := by
  unfold freePt at h
  split at h
  · rename_i hv
    unfold firstB at h
    rw [List.find?_range_eq_some] at h
    refine ⟨hv, ?_, by simpa using h.1⟩
    have := h.2.1
    rw [List.mem_range] at this
    omega
  · cases h
theorem arcG_VG {c : Int} {f l : List Int} (hv : isArcsB c f l = true) : VG (arcG c f l) := by
  obtain ⟨-, -, h1, h7, -⟩ := isArcsB_true hv
  exact rowsOf_VG h1 h7 (fun i _ => gE_irr _ i) (fun i _ j _ => gE_sym _ i j)
theorem arcG_len (c : Int) (f l : List Int) : (arcG c f l).length = f.length := rowsOf_len _ _
theorem at_clique {c : Int} {f l : List Int} {x : Int} (hv : isArcsB c f l = true) (h0 : 0 ≤ x) (h1 : x ≤ c - 1) : cliqueB (arcG c f l).length (arcG c f l) (arcsAtV c f l x) = true := by
  have g := arcG_VG hv
  have hS := arcsUpto_lt c f l x f.length
  have hS2 : arcsUpto c f l x f.length < 2 ^ (arcG c f l).length := by rw [arcG_len]; exact hS
  unfold arcsAtV
  rw [if_pos ⟨hv, h0, h1⟩, cliqueB_nat (isSetB_mk g.graph hS2), clique_iff g hS2]
  intro a b ha hb hne
  rw [arcsUpto_bit, Bool.and_eq_true, decide_eq_true_eq] at ha hb
  have h2 : eb (arcG c f l) a b = gE (arcP c f l) a b := eb_rowsOf ha.1 hb.1
  show eb (arcG c f l) a b = true
  rw [h2]
  unfold gE
  rw [at_meet hv ha.2 hb.2, at_meet hv hb.2 ha.2]
  rcases Nat.lt_or_gt_of_ne hne with h | h
  · simp [h]
  · simp [h]
theorem cut_ok {c : Int} {f l : List Int} {k : Nat} (h : freePt c f l = some k) :
    cutOk c f l k = true ∧ ivlOk (cutLV c f l k) (cutRV c f l k) ∧ (cutLV c f l k).length = f.length ∧ gOf (cutLV c f l k).length (ivlMeet (cutLV c f l k) (cutRV c f l k)) = arcG c f l := by
  obtain ⟨hv, h1, h2⟩ := free_some h
  obtain ⟨a1, a2, a3, a4, -⟩ := isArcsB_true hv
  have hok : cutOk c f l k = true := cutOk_yes hv (by rw [Bool.and_eq_true, decide_eq_true_eq, decide_eq_true_eq]; omega) h2
  unfold cutLV cutRV
  rw [hok, if_pos rfl, if_pos rfl, cutLs_len]
  refine ⟨rfl, ⟨by rw [cutLs_len]; omega, by rw [cutLs_len]; omega, by rw [cutLs_len, cutRs_len], fun i hi => ?_⟩, rfl, cut_graph hv (by omega) h1 h2⟩
  rw [cutLs_len] at hi
  obtain ⟨e1, e2, e3, e4⟩ := cut_ends hv (by omega) h1 h2 hi
  rw [cutLs_at hi, cutRs_at hi]
  omega
/-- What the law asks of the values. -/
theorem arcs_facts (c : Int) (f l : List Int) : (∀ k : Nat, freePt c f l = some k → cutOk c f l k = true ∧ ivlOk (cutLV c f l k) (cutRV c f l k) ∧ (cutLV c f l k).length = (arcGV c f l).length ∧ gOf (cutLV c f l k).length (ivlMeet (cutLV c f l k) (cutRV c f l k)) = arcGV c f l ∧ ∀ s, coversB c f l s = false) ∧
    (isArcsB c f l = true → 3 ≤ c ∧ c ≤ 30 ∧ ∀ k : Nat, (k : Int) < c → cliqueB (arcGV c f l).length (arcGV c f l) (arcsAtV c f l k) = true) := by
  refine ⟨fun k h => ?_, fun hv => ?_⟩
  · obtain ⟨hv, h1, h2⟩ := free_some h
    obtain ⟨e1, e2, e3, e4⟩ := cut_ok h
    have hg : arcGV c f l = arcG c f l := if_pos hv
    rw [hg]
    exact ⟨e1, e2, by rw [e3, arcG_len], e4, fun s => free_covers (by omega) h2⟩
  · obtain ⟨a1, a2, -⟩ := isArcsB_true hv
    have hg : arcGV c f l = arcG c f l := if_pos hv
    rw [hg]
    exact ⟨a1, a2, fun k hk => at_clique hv (by omega) (by omega)⟩
theorem arcs_rows (c : Int) (f l : List Int) : (arcGV c f l).length ≤ 7 := by
  unfold arcGV
  split
  · rename_i hv
    obtain ⟨-, -, -, h, -⟩ := isArcsB_true hv
    rw [arcG_len]; exact h
  · simp

end Go.Proofs.YtfkehmpckhmkbaaDoor
