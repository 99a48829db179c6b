/-
  Boolean formulas and their truth tables as numbers: a formula whose table is full holds under every assignment. No conditions.
  Graphs of at most six vertices as assignments of formulas: edges, all vertices, lists of different vertices, patterns. No conditions.
  FindHole on both sides. For at most 2^20 rows.
  The test that always holds, as what is asked of a beginning and of a whole list. No conditions.
  Suns: the pattern, IsSun of the reference. For at most 2^20 rows and list elements.
  FindSun of the program, and what both sides find. For at most 2^20 rows.
  The walk of l8Has of the reference. For at most 2^20 list elements.
  FindSun of the reference. For at most 2^20 rows.
  StrongObstacle on both sides. For at most 2^20 rows.
  The walk of IsSimple of the reference, and what both sides say. For at most 2^20 rows.
  SimpleOrder of the reference. For at most 2^20 rows.
  A search of lists by depth finds what there is; different numbers below k are at most k. No program.
-/
import Derived.Test.YtfkehmpckhmkbaaGreatPkLawPerfect01
import Derived.Test.YtfkehmpckhmkbaaGreatPkLawPerfect03
import Derived.Test.YtfkehmpckhmkbaaGreatPkLawPerfect14
import Derived.Test.YtfkehmpckhmkbaaGreatPkLawPerfect11
import Derived.Test.YtfkehmpckhmkbaaGreatPkLawPerfect06
import Derived.Deep.RegionHeld3
import Derived.Deep.CutRange
import Derived.Test.YtfkehmpckhmkbaaGreatPkLawPerfect05
import Derived.StillTailTactics
import Derived.Test.YtfkehmpckhmkbaaGreatPkLawPerfect04
namespace Go.Proofs.YtfkehmpckhmkbaaGreat

inductive Fm where
  | v (i : Nat)
  | tt
  | ff
  | and (a b : Fm)
  | or (a b : Fm)
  | not (a : Fm)

def Fm.eval (e : Nat → Bool) : Fm → Bool
  | .v i => e i
  | .tt => true
  | .ff => false
  | .and a b => a.eval e && b.eval e
  | .or a b => a.eval e || b.eval e
  | .not a => !a.eval e

/-- The table of variable i among N. -/
def tabV : Nat → Nat → Nat
  | 0, _ => 0
  | N + 1, i => cond (Nat.beq i N) (Nat.shiftLeft (2 ^ 2 ^ N - 1) (2 ^ N)) (Nat.lor (tabV N i) (Nat.shiftLeft (tabV N i) (2 ^ N)))
def Fm.tab (N : Nat) : Fm → Nat
  | .v i => tabV N i
  | .tt => 2 ^ 2 ^ N - 1
  | .ff => 0
  | .and a b => Nat.land (a.tab N) (b.tab N)
  | .or a b => Nat.lor (a.tab N) (b.tab N)
  | .not a => Nat.xor (2 ^ 2 ^ N - 1) (a.tab N)

theorem beq_no {i N : Nat} (h : i ≠ N) : Nat.beq i N = false := by
  cases q : Nat.beq i N
  · rfl
  · exact absurd (Nat.eq_of_beq_eq_true q) h
theorem tabV_lt : ∀ N i, tabV N i < 2 ^ 2 ^ N
  | 0, i => by simp [tabV]
  | N + 1, i => by
    have e : 2 ^ 2 ^ (N + 1) = 2 ^ 2 ^ N * 2 ^ 2 ^ N := by rw [← Nat.pow_add, Nat.pow_succ]; congr 1; omega
    have hp := Nat.two_pow_pos (2 ^ N)
    by_cases h : i = N
    · subst h
      show cond (Nat.beq i i) _ _ < _
      rw [Nat.beq_refl]
      show (2 ^ 2 ^ i - 1) <<< 2 ^ i < _
      rw [Nat.shiftLeft_eq, e]
      exact Nat.mul_lt_mul_of_pos_right (by omega) hp
    · show cond (Nat.beq i N) _ _ < _
      rw [beq_no h]
      have h1 := tabV_lt N i
      refine Nat.or_lt_two_pow ?_ ?_
      · rw [e]; exact Nat.lt_of_lt_of_le h1 (Nat.le_mul_of_pos_right _ hp)
      · show tabV N i <<< 2 ^ N < _
        rw [Nat.shiftLeft_eq, e]
        exact Nat.mul_lt_mul_of_pos_right h1 hp
theorem tabV_bit : ∀ (N i x : Nat), x < 2 ^ N → (tabV N i).testBit x = (decide (i < N) && x.testBit i)
  | 0, i, x, _ => by simp [tabV]
  | N + 1, i, x, hx => by
    have hp : 2 ^ (N + 1) = 2 ^ N + 2 ^ N := by rw [Nat.pow_succ]; omega
    by_cases h : i = N
    · subst h
      show (cond (Nat.beq i i) _ _ : Nat).testBit x = _
      rw [Nat.beq_refl]
      show ((2 ^ 2 ^ i - 1) <<< 2 ^ i).testBit x = _
      rw [Nat.testBit_shiftLeft, Nat.testBit_two_pow_sub_one, decide_eq_true (show i < i + 1 by omega), Bool.true_and]
      by_cases hxi : 2 ^ i ≤ x
      · obtain ⟨y, rfl⟩ : ∃ y, x = 2 ^ i + y := ⟨x - 2 ^ i, by omega⟩
        rw [Nat.testBit_two_pow_add_eq, Nat.testBit_lt_two_pow (show y < 2 ^ i by omega)]
        simp; omega
      · rw [Nat.testBit_lt_two_pow (show x < 2 ^ i by omega)]
        simp; omega
    · show (cond (Nat.beq i N) _ _ : Nat).testBit x = _
      rw [beq_no h]
      show (tabV N i ||| tabV N i <<< 2 ^ N).testBit x = _
      rw [Nat.testBit_or, Nat.testBit_shiftLeft]
      by_cases hxi : 2 ^ N ≤ x
      · obtain ⟨y, rfl⟩ : ∃ y, x = 2 ^ N + y := ⟨x - 2 ^ N, by omega⟩
        rw [Nat.testBit_lt_two_pow (show tabV N i < 2 ^ (2 ^ N + y) from Nat.lt_of_lt_of_le (tabV_lt N i) (Nat.pow_le_pow_right (by decide) (by omega))), Bool.false_or, decide_eq_true (show 2 ^ N + y ≥ 2 ^ N by omega), Bool.true_and, show 2 ^ N + y - 2 ^ N = y by omega, tabV_bit N i y (by omega)]
        by_cases hi : i < N
        · rw [Nat.testBit_two_pow_add_gt hi, decide_eq_true hi, decide_eq_true (show i < N + 1 by omega)]
        · rw [decide_eq_false hi, decide_eq_false (show ¬i < N + 1 by omega)]
          rfl
      · rw [decide_eq_false (show ¬x ≥ 2 ^ N by omega), Bool.false_and, Bool.or_false, tabV_bit N i x (by omega)]
        by_cases hi : i < N
        · rw [decide_eq_true hi, decide_eq_true (show i < N + 1 by omega)]
        · rw [decide_eq_false hi, decide_eq_false (show ¬i < N + 1 by omega)]

theorem Fm.tab_bit (N : Nat) {x : Nat} (hx : x < 2 ^ N) : ∀ f : Fm, (f.tab N).testBit x = f.eval fun i => decide (i < N) && x.testBit i
  | .v i => tabV_bit N i x hx
  | .tt => by show (2 ^ 2 ^ N - 1).testBit x = true; rw [Nat.testBit_two_pow_sub_one, decide_eq_true hx]
  | .ff => by show (0 : Nat).testBit x = false; simp
  | .and a b => by show (a.tab N &&& b.tab N).testBit x = _; rw [Nat.testBit_and, Fm.tab_bit N hx a, Fm.tab_bit N hx b]; rfl
  | .or a b => by show (a.tab N ||| b.tab N).testBit x = _; rw [Nat.testBit_or, Fm.tab_bit N hx a, Fm.tab_bit N hx b]; rfl
  | .not a => by show ((2 ^ 2 ^ N - 1) ^^^ a.tab N).testBit x = _; rw [Nat.testBit_xor, Fm.tab_bit N hx a, Nat.testBit_two_pow_sub_one, decide_eq_true hx]; exact Bool.true_xor _

/-- The table is full. -/
def tautB (N : Nat) (f : Fm) : Bool := Nat.beq (f.tab N) (2 ^ 2 ^ N - 1)
theorem Fm.taut {N : Nat} {f : Fm} (h : tautB N f = true) (e : Nat → Bool) (he : ∀ i, N ≤ i → e i = false) : f.eval e = true := by
  obtain ⟨x, hx, hb⟩ : ∃ x, x < 2 ^ N ∧ ∀ i, x.testBit i = (decide (i < N) && e i) := by
    clear h he
    induction N with
    | zero => exact ⟨0, by decide, fun i => by simp⟩
    | succ N ih =>
      obtain ⟨x, hx, hb⟩ := ih
      have hp : 2 ^ (N + 1) = 2 ^ N + 2 ^ N := by rw [Nat.pow_succ]; omega
      cases hN : e N
      · refine ⟨x, by omega, fun i => ?_⟩
        rw [hb]
        by_cases h1 : i < N
        · rw [decide_eq_true h1, decide_eq_true (show i < N + 1 by omega)]
        · by_cases h2 : i = N
          · subst h2; rw [hN]; simp
          · rw [decide_eq_false h1, decide_eq_false (show ¬i < N + 1 by omega)]
      · refine ⟨2 ^ N + x, by omega, fun i => ?_⟩
        by_cases h1 : i < N
        · rw [Nat.testBit_two_pow_add_gt h1, hb, decide_eq_true h1, decide_eq_true (show i < N + 1 by omega)]
        · by_cases h2 : i = N
          · subst h2; rw [Nat.testBit_two_pow_add_eq, hb, hN]; simp
          · rw [Nat.testBit_lt_two_pow (show 2 ^ N + x < 2 ^ i from Nat.lt_of_lt_of_le (by omega) (Nat.pow_le_pow_right (by decide) (show N + 1 ≤ i by omega))), decide_eq_false (show ¬i < N + 1 by omega)]
            rfl
  have e1 : (fun i => decide (i < N) && x.testBit i) = e := funext fun i => by
    rw [hb]
    by_cases h1 : i < N
    · rw [decide_eq_true h1, Bool.true_and, Bool.true_and]
    · rw [decide_eq_false h1, Bool.false_and, he i (by omega)]
  have := Fm.tab_bit N hx f
  unfold tautB at h
  rw [e1, Nat.eq_of_beq_eq_true h, Nat.testBit_two_pow_sub_one, decide_eq_true hx] at this
  exact this.symm

def orFl : List Fm → Fm
  | [] => .ff
  | a :: l => .or a (orFl l)
def andFl : List Fm → Fm
  | [] => .tt
  | a :: l => .and a (andFl l)
def impF (a b : Fm) : Fm := .or (.not a) b
theorem orFl_true {e : Nat → Bool} : ∀ {l : List Fm}, (orFl l).eval e = true ↔ ∃ a ∈ l, a.eval e = true
  | [] => by simp [orFl, Fm.eval]
  | a :: l => by simp [orFl, Fm.eval, orFl_true (l := l)]
theorem andFl_true {e : Nat → Bool} : ∀ {l : List Fm}, (andFl l).eval e = true ↔ ∀ a ∈ l, a.eval e = true
  | [] => by simp [andFl, Fm.eval]
  | a :: l => by simp [andFl, Fm.eval, andFl_true (l := l)]
theorem impF_true {e : Nat → Bool} {a b : Fm} : (impF a b).eval e = true ↔ (a.eval e = true → b.eval e = true) := by
  simp only [impF, Fm.eval]
  cases a.eval e <;> simp
theorem not_true {e : Nat → Bool} {a : Fm} : (Fm.not a).eval e = true ↔ ¬a.eval e = true := by simp [Fm.eval]
theorem and_true {e : Nat → Bool} {a b : Fm} : (Fm.and a b).eval e = true ↔ a.eval e = true ∧ b.eval e = true := by simp [Fm.eval]
theorem or_true {e : Nat → Bool} {a b : Fm} : (Fm.or a b).eval e = true ↔ a.eval e = true ∨ b.eval e = true := by simp [Fm.eval]

end Go.Proofs.YtfkehmpckhmkbaaGreat

namespace Go.Proofs.YtfkehmpckhmkbaaGreat
open Go.RowKit

def pr6 : List (Nat × Nat) := [(0, 1), (0, 2), (1, 2), (0, 3), (1, 3), (2, 3), (0, 4), (1, 4), (2, 4), (3, 4), (0, 5), (1, 5), (2, 5), (3, 5), (4, 5)]
def ad (rs : List Int) (a b : Nat) : Bool := (gn rs a).testBit b
def envG (rs : List Int) (i : Nat) : Bool := match pr6[i]? with
  | some p => ad rs p.1 p.2
  | none => false
theorem envG_big (rs : List Int) (i : Nat) (h : 15 ≤ i) : envG rs i = false := by
  unfold envG; rw [List.getElem?_eq_none (by simpa [pr6] using h)]
def adF (a b : Nat) : Fm := cond (Nat.blt a b) (.v (b * (b - 1) / 2 + a)) (cond (Nat.blt b a) (.v (a * (a - 1) / 2 + b)) .ff)
theorem pr6_at : ∀ b : Fin 6, ∀ a : Fin 6, a.val < b.val → pr6[b.val * (b.val - 1) / 2 + a.val]? = some (a.val, b.val) := by decide
theorem gn_big {rs : List Int} {v : Nat} (h : rs.length ≤ v) : gn rs v = 0 := by unfold gn gi; rw [List.getD_eq_getElem?_getD, List.getElem?_eq_none h]; rfl
theorem ad_lt {rs : List Int} (g : VG rs) {a b : Nat} (h : ad rs a b = true) : a < rs.length ∧ b < rs.length := by
  have ha : a < rs.length := by
    rcases Nat.lt_or_ge a rs.length with h' | h'
    · exact h'
    · unfold ad at h; rw [gn_big h'] at h; simp at h
  exact ⟨ha, testBit_lt (g.lt a ha) h⟩
theorem ad_symm {rs : List Int} (g : VG rs) (a b : Nat) : ad rs a b = ad rs b a := by
  cases h : ad rs a b <;> cases h2 : ad rs b a
  · rfl
  · have := ad_lt g h2
    unfold ad at h h2
    rw [g.sym b this.1 a this.2, h] at h2
    cases h2
  · have := ad_lt g h
    unfold ad at h h2
    rw [g.sym a this.1 b this.2, h2] at h
    cases h
  · rfl
theorem ad_irr {rs : List Int} (g : VG rs) (a : Nat) : ad rs a a = false := by
  cases h : ad rs a a
  · rfl
  · have := ad_lt g h
    unfold ad at h
    rw [g.irr a this.1] at h
    cases h
theorem blt_yes {a b : Nat} (h : a < b) : Nat.blt a b = true := by rw [Nat.blt_eq]; exact h
theorem blt_no {a b : Nat} (h : ¬a < b) : Nat.blt a b = false := by
  cases q : Nat.blt a b
  · rfl
  · rw [Nat.blt_eq] at q; exact absurd q h
theorem adF_eval {rs : List Int} (g : VG rs) {a b : Nat} (ha : a < 6) (hb : b < 6) : (adF a b).eval (envG rs) = ad rs a b := by
  unfold adF
  rcases Nat.lt_trichotomy a b with h | h | h
  · rw [blt_yes h]
    show (match pr6[b * (b - 1) / 2 + a]? with | some p => ad rs p.1 p.2 | none => false) = _
    rw [pr6_at ⟨b, hb⟩ ⟨a, ha⟩ h]
  · subst h
    rw [blt_no (by omega), ad_irr g]
    rfl
  · rw [blt_no (by omega), blt_yes h]
    show (match pr6[a * (a - 1) / 2 + b]? with | some p => ad rs p.1 p.2 | none => false) = _
    rw [pr6_at ⟨a, ha⟩ ⟨b, hb⟩ h, ad_symm g]

def ve : List Nat := [0, 1, 2, 3, 4, 5]
theorem mem_ve {v : Nat} : v ∈ ve ↔ v < 6 := by
  constructor
  · intro h; simp [ve] at h; omega
  · intro h
    have : v = 0 ∨ v = 1 ∨ v = 2 ∨ v = 3 ∨ v = 4 ∨ v = 5 := by omega
    simpa [ve] using this
def allF (l : List Nat) (p : Nat → Fm) : Fm := andFl (l.map p)
def exF (l : List Nat) (p : Nat → Fm) : Fm := orFl (l.map p)
theorem allF_true {e : Nat → Bool} {l : List Nat} {p : Nat → Fm} : (allF l p).eval e = true ↔ ∀ v ∈ l, (p v).eval e = true := by simp [allF, andFl_true]
theorem exF_true {e : Nat → Bool} {l : List Nat} {p : Nat → Fm} : (exF l p).eval e = true ↔ ∃ v ∈ l, (p v).eval e = true := by
  simp only [exF, orFl_true, List.mem_map]
  constructor
  · rintro ⟨a, ⟨v, hv, rfl⟩, h⟩
    exact ⟨v, hv, h⟩
  · rintro ⟨v, hv, h⟩
    exact ⟨_, ⟨v, hv, rfl⟩, h⟩
/-- The members of a set, below 6. -/
def mS (S : Nat) : List Nat := ve.filter fun v => Nat.testBit S v
theorem mem_mS {S v : Nat} : v ∈ mS S ↔ v < 6 ∧ S.testBit v = true := by simp [mS, mem_ve]
def litF (b : Bool) (a : Fm) : Fm := cond b a (.not a)
theorem litF_true {e : Nat → Bool} {b : Bool} {a : Fm} : (litF b a).eval e = true ↔ a.eval e = b := by cases b <;> simp [litF, Fm.eval]
/-- The vertices of a list are neighbours exactly by the pattern of their places. -/
def patF (pat : Nat → Nat → Bool) (l : List Nat) : Fm := allF (List.range l.length) fun i => allF (List.range i) fun j => litF (pat j i) (adF (eln l i) (eln l j))
theorem patF_true {rs : List Int} (g : VG rs) {pat : Nat → Nat → Bool} {l : List Nat} (hl : ∀ y ∈ l, y < 6) : (patF pat l).eval (envG rs) = true ↔ ∀ i, i < l.length → ∀ j, j < i → ad rs (eln l i) (eln l j) = pat j i := by
  unfold patF
  simp only [allF_true, litF_true, List.mem_range]
  constructor
  · intro h i hi j hj
    rw [← adF_eval g (hl _ (eln_mem hi)) (hl _ (eln_mem (by omega)))]
    exact h i hi j hj
  · intro h i hi j hj
    rw [adF_eval g (hl _ (eln_mem hi)) (hl _ (eln_mem (by omega)))]
    exact h i hi j hj
/-- Some k further different vertices behind l. -/
def exI : Nat → List Nat → (List Nat → Fm) → Fm
  | 0, l, p => p l
  | k + 1, l, p => exF (ve.filter fun v => !l.elem v) fun v => exI k (l ++ [v]) p
theorem exI_some {e : Nat → Bool} {p : List Nat → Fm} : ∀ (k : Nat) (l : List Nat), l.Nodup → (exI k l p).eval e = true → ∃ t, t.length = k ∧ (l ++ t).Nodup ∧ (∀ y ∈ t, y < 6) ∧ (p (l ++ t)).eval e = true
  | 0, l, hn, h => ⟨[], rfl, by rwa [List.append_nil], by simp, by rwa [List.append_nil]⟩
  | k + 1, l, hn, h => by
    rw [exI, exF_true] at h
    obtain ⟨v, hv, h⟩ := h
    simp [mem_ve] at hv
    have hn2 : (l ++ [v]).Nodup := by
      rw [List.nodup_append]
      exact ⟨hn, by simp, fun a ha b hb e => by simp at hb; subst hb; subst e; exact hv.2 ha⟩
    obtain ⟨t, h1, h2, h3, h4⟩ := exI_some k (l ++ [v]) hn2 h
    rw [List.append_assoc] at h2 h4
    refine ⟨v :: t, by simp [h1], h2, fun y hy => ?_, h4⟩
    rcases List.mem_cons.1 hy with rfl | hy
    · exact hv.1
    · exact h3 y hy
theorem exI_mk {e : Nat → Bool} {p : List Nat → Fm} : ∀ (t l : List Nat), (l ++ t).Nodup → (∀ y ∈ t, y < 6) → (p (l ++ t)).eval e = true → (exI t.length l p).eval e = true
  | [], l, hn, h6, h => by rwa [List.append_nil] at h
  | v :: t, l, hn, h6, h => by
    rw [List.length_cons, exI, exF_true]
    refine ⟨v, ?_, exI_mk t (l ++ [v]) (by rwa [List.append_assoc]) (fun y hy => h6 y (List.mem_cons_of_mem _ hy)) (by rwa [List.append_assoc])⟩
    have : v ∉ l := fun hv => by
      rw [List.nodup_append] at hn
      exact hn.2.2 v hv v (by simp) rfl
    simp [mem_ve, h6 v (by simp), this]
def nbF (a b : Nat) : Fm := cond (Nat.beq a b) .tt (adF a b)
/-- Equal or neighbours. -/
def nb (rs : List Int) (a b : Nat) : Prop := a = b ∨ ad rs a b = true
theorem nbF_true {rs : List Int} (g : VG rs) {a b : Nat} (ha : a < 6) (hb : b < 6) : (nbF a b).eval (envG rs) = true ↔ nb rs a b := by
  unfold nbF nb
  by_cases h : a = b
  · subst h
    rw [Nat.beq_refl]
    simp [Fm.eval]
  · rw [beq_no h]
    show (adF a b).eval _ = true ↔ _
    rw [adF_eval g ha hb]
    simp [h]

end Go.Proofs.YtfkehmpckhmkbaaGreat

namespace Go.Proofs.YtfkehmpckhmkbaaGreat
open Go.RowKit

/-- What FindHole says. -/
def holeV (n : Int) (rs : List Int) : Option (List Int) := if isGraphB n rs = true then (match firstB (fun j => decide (4 + j ≤ rs.length) && (holeAt rs (4 + j)).isSome) 4 with | some j => holeAt rs (4 + j) | none => none) else none
theorem holeV_no {n : Int} {rs : List Int} (h : isGraphB n rs = false) : holeV n rs = none := by unfold holeV; rw [h]; rfl
theorem holeV_hit {rs : List Int} {k : Nat} {x : List Int} (hv : isGraphB rs.length rs = true) (hk : 4 + k ≤ rs.length) (h : ∀ j, j < k → (holeAt rs (4 + j)).isSome = false) (hp : holeAt rs (4 + k) = some x) : holeV rs.length rs = some x := by
  have := (VG.of hv).2.le
  unfold holeV
  rw [if_pos hv, firstB_hit (k := k) (by omega) (fun j hj => by rw [h j hj, Bool.and_false]) (by rw [hp, decide_eq_true hk]; rfl)]
  exact hp
theorem holeV_none {rs : List Int} {k : Nat} (hv : isGraphB rs.length rs = true) (hk : ¬4 + k ≤ rs.length) (h : ∀ j, j < k → (holeAt rs (4 + j)).isSome = false) : holeV rs.length rs = none := by
  unfold holeV
  rw [if_pos hv, firstB_none]
  intro j hj
  by_cases e : j < k
  · rw [h j e, Bool.and_false]
  · rw [decide_eq_false (by omega)]; rfl
theorem holeV_len (n : Int) (rs : List Int) : ((holeV n rs).getD []).length ≤ 1048576 := by
  unfold holeV; split
  · split
    · rename_i j h
      have hj : j < 4 := by
        unfold firstB at h
        have := List.mem_of_find?_eq_some h
        simpa using this
      exact Nat.le_trans (dfs_len (n := 4 + j) (by simp)) (by omega)
    · simp
  · simp


/-- The number in the variable that p points to. -/
def ptrH (p : Value) (w : World) : Nat := match p with | .pointer (some a) => (match w.cell? a with | some v => (intOf v).toNat | none => 0) | _ => 0
theorem ptrH_blk {w : World} {b x : Nat} {T : TypeId} (h : Blk w b #[.int .i64 x] T) : ptrH (.pointer (some ⟨b, 0, none⟩)) w = x := by
  have := h.cell 0
  simp at this
  simp [ptrH, this, intOf]


end Go.Proofs.YtfkehmpckhmkbaaGreat

namespace Go.Proofs.YtfkehmpckhmkbaaGreat
open Go.RowKit


end Go.Proofs.YtfkehmpckhmkbaaGreat

namespace Go.Proofs.YtfkehmpckhmkbaaGreat
open Go.RowKit

/-! ### IsSun -/
def sunP (j i : Nat) : Bool := decide (i < 3) || (decide (j < 3) && (decide (i = 3 ∧ j ≠ 2) || decide (i = 4 ∧ j ≠ 0) || decide (i = 5 ∧ j ≠ 1)))
def sunB (n : Int) (rs l : List Int) : Bool := decide (l.length = 6) && joinB n rs l sunP


/-- How the reference says the pattern. -/
theorem sunP_spec {j i : Nat} (hj : j < i) (hi : i < 6) :
    sunP j i = (decide (i < 3) || (decide (j < 3) && (((j : Int) == (i : Int) - 3) || ((j : Int) == ((i : Int) - 2) % 3)))) := by
  have : ∀ i : Fin 6, ∀ j : Fin 6, j.val < i.val → sunP j i = (decide (i.val < 3) || (decide (j.val < 3) && (((j.val : Int) == (i.val : Int) - 3) || ((j.val : Int) == ((i.val : Int) - 2) % 3)))) := by decide
  exact this ⟨i, hi⟩ ⟨j, by omega⟩ hj


end Go.Proofs.YtfkehmpckhmkbaaGreat

namespace Go.Proofs.YtfkehmpckhmkbaaGreat
open Go.RowKit

/-! ### Beginnings of lists -/
theorem vertsB_head {n : Int} {rs a b : List Int} (h : vertsB n rs (a ++ b) = true) : vertsB n rs a = true := by
  rw [vertsB_true] at h ⊢
  refine ⟨h.1, fun j hj => ?_⟩
  obtain ⟨h1, h2⟩ := h.2 j (by simp; omega)
  rw [gi_left hj] at h1
  refine ⟨h1, fun i hi => ?_⟩
  have := h2 i hi
  rwa [gi_left hj, gi_left (by omega)] at this
theorem vertsB_new {n : Int} {rs l t : List Int} {v : Nat} (h : vertsB n rs (l ++ [(v : Int)] ++ t) = true) : inB l (v : Int) = false := by
  rw [← Bool.not_eq_true, inB_true]
  rintro ⟨j, hj, e⟩
  rw [vertsB_true] at h
  have := (h.2 l.length (by simp)).2 j hj
  rw [gi_mid, List.append_assoc, gi_left hj] at this
  exact this e
theorem joinedAt_head {rs a b : List Int} {pat : Nat → Nat → Bool} {i j : Nat} (hi : i < a.length) (hj : j < a.length) : joinedAt rs (a ++ b) pat i j = joinedAt rs a pat i j := by
  unfold joinedAt; rw [gi_left hi, gi_left hj]
theorem joinB_true {n : Int} {rs l : List Int} {pat : Nat → Nat → Bool} : joinB n rs l pat = true ↔ vertsB n rs l = true ∧ ∀ i, i < l.length → ∀ j, j < i → joinedAt rs l pat i j = true := by
  unfold joinB; rw [Bool.and_eq_true, decide_eq_true_eq]
theorem joinB_head {n : Int} {rs a b : List Int} {pat : Nat → Nat → Bool} (h : joinB n rs (a ++ b) pat = true) : joinB n rs a pat = true := by
  rw [joinB_true] at h ⊢
  refine ⟨vertsB_head h.1, fun i hi j hj => ?_⟩
  rw [← joinedAt_head (b := b) hi (by omega)]
  exact h.2 i (by simp; omega) j hj

/-! ### Suns -/
/-- What the reference asks of a beginning: the first is joined to the second and the third. -/
def sunMay (rs x : List Int) : Bool := !((decide (x.length < 4) && decide (1 < x.length)) && !(gn rs (gi x 0).toNat).testBit (gi x (x.length - 1)).toNat)
theorem sunB_join {n : Int} {rs l : List Int} (h : sunB n rs l = true) : joinB n rs l sunP = true := by unfold sunB at h; rw [Bool.and_eq_true] at h; exact h.2
theorem nec_sun (n : Int) (rs : List Int) : Nec (fun l => joinB n rs l sunP) (fun l => sunB n rs l) 6 := fun _ _ _ _ h =>
  have hj := sunB_join h
  ⟨vertsB_new (joinB_true.1 hj).1, joinB_head hj⟩
theorem nec_sunMay (n : Int) (rs : List Int) : Nec (fun l => sunMay rs l) (fun l => sunB n rs l) 6 := fun l v _ _ h => by
  have hj := sunB_join h
  refine ⟨vertsB_new (joinB_true.1 hj).1, ?_⟩
  have hx : (l ++ [(v : Int)]).length = l.length + 1 := by simp
  show sunMay rs (l ++ [(v : Int)]) = true
  unfold sunMay
  rw [hx, show l.length + 1 - 1 = l.length from rfl]
  by_cases h1 : l.length + 1 < 4 ∧ 1 < l.length + 1
  · have e := (joinB_true.1 (joinB_head hj)).2 l.length (by simp) 0 (by omega)
    unfold joinedAt at e
    have hs : sunP 0 l.length = true := by unfold sunP; rw [decide_eq_true (by omega)]; rfl
    rw [hs, beq_iff_eq] at e
    rw [e]; simp
  · have : (decide (l.length + 1 < 4) && decide (1 < l.length + 1)) = false := by
      rw [← Bool.not_eq_true, Bool.and_eq_true, decide_eq_true_eq, decide_eq_true_eq]; exact h1
    rw [this]; rfl
/-- What FindSun says. -/
def sunV (n : Int) (rs : List Int) : Option (List Int) := if isGraphB n rs = true then dfs (fun l => joinB n rs l sunP) (fun l => sunB n rs l) rs.length 6 [] else none
theorem sunV_no {n : Int} {rs : List Int} (h : isGraphB n rs = false) : sunV n rs = none := by unfold sunV; rw [h]; rfl
theorem sunV_impl {rs : List Int} (h : isGraphB rs.length rs = true) : (flRun (S := Unit) (fun _ _ => ((), true)) (fun l => joinB rs.length rs l sunP) rs.length 6 () []).2 = sunV rs.length rs := by
  unfold sunV; rw [if_pos h, dfs_always (n := 6) (q := fun l => sunB rs.length rs l) rs.length (fun l v h1 _ h3 => by
    show sunB _ _ _ = true
    unfold sunB; rw [decide_eq_true h1]; exact h3) 6 [] rfl (fun h => by cases h)]
  rfl
theorem sunV_spec {rs : List Int} (h : isGraphB rs.length rs = true) : sunV rs.length rs = dfs (fun l => sunMay rs l) (fun l => sunB rs.length rs l) rs.length 6 [] := by
  unfold sunV; rw [if_pos h]; exact dfs_prune rs.length (nec_sun _ rs) (nec_sunMay _ rs) 6 [] rfl
theorem sunV_len (n : Int) (rs : List Int) : ((sunV n rs).getD []).length ≤ 1048576 := by
  unfold sunV; split
  · exact Nat.le_trans (dfs_len (n := 6) rfl) (by omega)
  · simp


end Go.Proofs.YtfkehmpckhmkbaaGreat

namespace Go.Proofs.YtfkehmpckhmkbaaGreat
open Go.RowKit

theorem inB_hit {xs : List Int} {v : Int} {k : Nat} (hk : k < xs.length) (h : (gi xs k == v) = true) : inB xs v = true := inB_true.2 ⟨k, hk, by simpa using h⟩
theorem inB_miss {xs : List Int} {v : Int} (h : ∀ j, j < xs.length → (gi xs j == v) = false) : inB xs v = false := by
  rw [← Bool.not_eq_true, inB_true]
  rintro ⟨j, hj, e⟩
  have := h j hj
  rw [e] at this; simp at this


end Go.Proofs.YtfkehmpckhmkbaaGreat

namespace Go.Proofs.YtfkehmpckhmkbaaGreat
open Go.RowKit



end Go.Proofs.YtfkehmpckhmkbaaGreat

namespace Go.Proofs.YtfkehmpckhmkbaaGreat
open Go.RowKit

def obst2V (n : Int) (rs : List Int) : Option (List Int) := match holeV n rs with | some x => some x | none => sunV n rs
theorem obst2V_len (n : Int) (rs : List Int) : ((obst2V n rs).getD []).length ≤ 1048576 := by
  unfold obst2V; split
  · rename_i x h; have := holeV_len n rs; rw [h] at this; exact this
  · exact sunV_len n rs



end Go.Proofs.YtfkehmpckhmkbaaGreat

namespace Go.Proofs.YtfkehmpckhmkbaaGreat
open Go.RowKit

theorem wpList_later_drew {W : World} {P : Program} {ops : Array Oper} {Q : Exit → Act → World → Prop} {rest : List Oper} {a : Act} (m : Later W) (h : ∀ m' : Later W, wpList P ops Q rest a m'.w) : wpList P ops Q rest a m.w.drew :=
  h ⟨m.w.drew, m.below.drew⟩

/-- The closed hood of u in a set. -/
def hood (rs : List Int) (S u : Nat) : Nat := (gn rs u ||| 2 ^ u) &&& S
def nestB (a b : Nat) : Bool := decide (a &&& b = a ∨ a &&& b = b)
def nestAt (rs : List Int) (S : Nat) (L : List Nat) (i j : Nat) : Bool := nestB (hood rs S (eln L i)) (hood rs S (eln L j))
def simpleN (rs : List Int) (S v : Nat) : Bool := decide (∀ i, i < cnt (hood rs S v) → ∀ j, j < i → nestAt rs S (els (hood rs S v)) i j = true)
def simpleB (n : Int) (rs : List Int) (v s : Int) : Bool := isSetB n rs s && ((decide (0 ≤ v) && decide (v ≤ n - 1)) && (hasN s v.toNat && simpleN rs s.toNat v.toNat))
theorem simpleB_no {n : Int} {rs : List Int} {v s : Int} (h : isSetB n rs s = false) : simpleB n rs v s = false := by unfold simpleB; rw [h]; rfl
theorem simpleB_out {n : Int} {rs : List Int} {v s : Int} (h : (decide (0 ≤ v) && decide (v ≤ n - 1)) = false) : simpleB n rs v s = false := by unfold simpleB; rw [h]; simp
theorem simpleB_not {n : Int} {rs : List Int} {S v : Nat} (h : hasN (S : Int) v = false) : simpleB n rs v S = false := by unfold simpleB; rw [Int.toNat_natCast, Int.toNat_natCast, h]; simp
theorem simpleB_yes {n : Int} {rs : List Int} {S v : Nat} (h : isSetB n rs S = true) (h1 : (decide (0 ≤ (v : Int)) && decide ((v : Int) ≤ n - 1)) = true) (h2 : hasN (S : Int) v = true) : simpleB n rs v S = simpleN rs S v := by
  unfold simpleB; rw [Int.toNat_natCast, Int.toNat_natCast, h, h1, h2]; rfl
theorem simpleN_bad {rs : List Int} {S v i j : Nat} (hi : i < cnt (hood rs S v)) (hj : j < i) (h : nestAt rs S (els (hood rs S v)) i j = false) : simpleN rs S v = false := by
  unfold simpleN; rw [decide_eq_false_iff_not]; intro a; rw [a i hi j hj] at h; cases h
theorem simpleN_ok {rs : List Int} {S v : Nat} (h : ∀ i, i < cnt (hood rs S v) → ∀ j, j < i → nestAt rs S (els (hood rs S v)) i j = true) : simpleN rs S v = true := by unfold simpleN; rw [decide_eq_true h]

theorem hood_lt {rs : List Int} {S : Nat} (hS : S < 2 ^ rs.length) (u : Nat) : hood rs S u < 2 ^ rs.length := Nat.lt_of_le_of_lt Nat.and_le_right hS
/-- What the walks want of vertex u. -/
theorem hood_facts {rs : List Int} (g : VG rs) {S u : Nat} (hS : S < 2 ^ rs.length) (hu : u < rs.length) :
    pwN u = ((2 ^ u : Nat) : Int) ∧ bits .or .i64 (gn rs u : Int) ((2 ^ u : Nat) : Int) = ((gn rs u ||| 2 ^ u : Nat) : Int) ∧ bits .and .i64 ((gn rs u ||| 2 ^ u : Nat) : Int) (S : Int) = ((hood rs S u : Nat) : Int) := by
  have h1 := g.lt u hu
  have h2 := g.pow.1
  have h3 : 2 ^ u < 2 ^ rs.length := Nat.pow_lt_pow_right (by decide) hu
  have h4 : gn rs u ||| 2 ^ u < 2 ^ rs.length := Nat.or_lt_two_pow h1 h3
  have h6 := g.le
  exact ⟨pwN_small _ (by omega), bits_or_nat _ _ (by omega) (by omega), bits_and_nat _ _ (by omega) (by omega)⟩


end Go.Proofs.YtfkehmpckhmkbaaGreat

namespace Go.Proofs.YtfkehmpckhmkbaaGreat
open Go.RowKit

/-- The least simple vertex of what is left. -/
def leastB (rs : List Int) (S : Nat) : Option Nat := firstB (fun v => simpleB rs.length rs v S) rs.length
/-- The simple vertices, taken away one by one. -/
def ordF (rs : List Int) : Nat → Nat → List Int → Option (List Int)
  | 0, _, out => some out
  | f + 1, S, out => if S = 0 then some out else match leastB rs S with | none => none | some v => ordF rs f (S - 2 ^ v) (out ++ [(v : Int)])
def ordV (n : Int) (rs : List Int) : Option (List Int) := if isGraphB n rs = true then ordF rs (2 ^ rs.length - 1) (2 ^ rs.length - 1) [] else none
theorem ordV_no {n : Int} {rs : List Int} (h : isGraphB n rs = false) : ordV n rs = none := by unfold ordV; rw [h]; rfl
theorem ordV_of {n : Int} {rs : List Int} (h : isGraphB n rs = true) : ordV n rs = ordF rs (2 ^ rs.length - 1) (2 ^ rs.length - 1) [] := by unfold ordV; rw [if_pos h]
theorem ordF_zero {rs : List Int} (f : Nat) (out : List Int) : ordF rs f 0 out = some out := by cases f <;> rfl
theorem ordF_none {rs : List Int} {f S : Nat} {out : List Int} (hS : S ≤ f) (h0 : 0 < S) (h : leastB rs S = none) : ordF rs f S out = none := by
  obtain ⟨f, rfl⟩ : ∃ f', f = f' + 1 := ⟨f - 1, by omega⟩
  show (if S = 0 then some out else _) = none
  rw [if_neg (by omega), h]
theorem ordF_some {rs : List Int} {f S v : Nat} {out : List Int} (hS : S ≤ f) (h0 : 0 < S) (h : leastB rs S = some v) : ordF rs f S out = ordF rs (f - 1) (S - 2 ^ v) (out ++ [(v : Int)]) := by
  obtain ⟨f, rfl⟩ : ∃ f', f = f' + 1 := ⟨f - 1, by omega⟩
  show (if S = 0 then some out else _) = _
  rw [if_neg (by omega), h]; rfl
theorem ordF_len {rs : List Int} : ∀ (f S : Nat) (out : List Int), ((ordF rs f S out).getD []).length ≤ out.length + f := by
  intro f
  induction f with
  | zero => intro S out; simp [ordF]
  | succ f ih =>
    intro S out
    show ((if S = 0 then some out else (match leastB rs S with | none => none | some v => ordF rs f (S - 2 ^ v) (out ++ [(v : Int)]))).getD []).length ≤ _
    split
    · simp
    · split
      · simp
      · rename_i v _
        have := ih (S - 2 ^ v) (out ++ [(v : Int)])
        simp at this; omega
theorem ordV_len (n : Int) (rs : List Int) : ((ordV n rs).getD []).length ≤ 1048576 := by
  unfold ordV; split
  · rename_i h
    have := ordF_len (rs := rs) (2 ^ rs.length - 1) (2 ^ rs.length - 1) []
    have := (VG.of h).2.pow.1
    simp at *; omega
  · simp
/-- A simple vertex is left. -/
theorem simple_left {rs : List Int} {S v : Nat} (h : simpleB rs.length rs v S = true) : S.testBit v = true ∧ 2 ^ v ≤ S := by
  unfold simpleB at h
  rw [Int.toNat_natCast, Int.toNat_natCast, hasN_nat] at h
  simp only [Bool.and_eq_true] at h
  exact ⟨h.2.2.1, Nat.ge_two_pow_of_testBit h.2.2.1⟩
theorem leastB_left {rs : List Int} {S v : Nat} (h : leastB rs S = some v) : v < rs.length ∧ S.testBit v = true ∧ 2 ^ v ≤ S ∧ 0 < 2 ^ v := by
  unfold leastB firstB at h
  have h1 := List.find?_some h
  have h2 := List.mem_of_find?_eq_some h
  exact ⟨by simpa using h2, (simple_left h1).1, (simple_left h1).2, Nat.two_pow_pos _⟩
/-- The least so far, from the top down to j. -/
def DownTo (p : Nat → Bool) (n j : Nat) (b : Int) : Prop := (b = -1 ∧ ∀ v, j ≤ v → v < n → p v = false) ∨ ∃ k : Nat, b = k ∧ j ≤ k ∧ k < n ∧ p k = true ∧ ∀ v, j ≤ v → v < k → p v = false
theorem DownTo.no {p : Nat → Bool} {n j : Nat} {b : Int} (h : DownTo p n (j + 1) b) (hp : p j = false) : DownTo p n j b := by
  have e : ∀ v, j ≤ v → v = j ∨ j + 1 ≤ v := fun v h => by omega
  rcases h with ⟨h1, h2⟩ | ⟨k, h1, h2, h3, h4, h5⟩
  · exact .inl ⟨h1, fun v a b => (e v a).elim (fun q => q ▸ hp) fun q => h2 v q b⟩
  · exact .inr ⟨k, h1, by omega, h3, h4, fun v a b => (e v a).elim (fun q => q ▸ hp) fun q => h5 v q b⟩
theorem DownTo.yes {p : Nat → Bool} {n j : Nat} (hj : j < n) (hp : p j = true) : DownTo p n j j := .inr ⟨j, rfl, Nat.le_refl _, hj, hp, fun v a b => by omega⟩
theorem DownTo.start (p : Nat → Bool) (n : Nat) : DownTo p n n (-1) := .inl ⟨rfl, fun v a b => by omega⟩
theorem DownTo.least {rs : List Int} {S : Nat} {b : Int} (h : DownTo (fun v => simpleB rs.length rs v S) rs.length 0 b) : (b = -1 ∧ leastB rs S = none) ∨ ∃ k : Nat, b = k ∧ leastB rs S = some k := by
  rcases h with ⟨h1, h2⟩ | ⟨k, h1, h2, h3, h4, h5⟩
  · exact .inl ⟨h1, firstB_none fun j hj => h2 j (by omega) hj⟩
  · exact .inr ⟨k, h1, firstB_hit h3 (fun j hj => h5 j (by omega) hj) h4⟩
theorem DownTo.lo {p : Nat → Bool} {n j : Nat} {b : Int} (h : DownTo p n j b) : -1 ≤ b ∧ b < n + 1 := by
  rcases h with ⟨h1, -⟩ | ⟨k, h1, -, h3, -⟩ <;> omega


end Go.Proofs.YtfkehmpckhmkbaaGreat

namespace Go.Proofs.YtfkehmpckhmkbaaGreat
open Go.RowKit

/-! ### A search finds what there is -/
theorem preF_none {may q : List Int → Bool} {N f : Nat} {l : List Int} : ∀ j, (preF (flStep (flRun (S := Unit) (fun _ l => ((), q l)) may N f) may l) ((), none) j).1.2 = none →
    preF (flStep (flRun (S := Unit) (fun _ l => ((), q l)) may N f) may l) ((), none) j = (((), none), true) ∧ ∀ v, v < j → (flSub (flRun (S := Unit) (fun _ l => ((), q l)) may N f) may l v ((), none)).2 = none
  | 0, _ => ⟨rfl, fun v h => by omega⟩
  | j + 1, h => by
    by_cases hs : (preF (flStep (flRun (S := Unit) (fun _ l => ((), q l)) may N f) may l) ((), none) j).2 = true
    · rw [preF, if_pos hs] at h
      have h0 : (preF (flStep (flRun (S := Unit) (fun _ l => ((), q l)) may N f) may l) ((), none) j).1.2 = none := by
        cases j with
        | zero => rfl
        | succ j =>
          rw [preF] at hs ⊢
          split
          · rename_i h2
            rw [if_pos h2] at hs
            unfold flStep at hs ⊢
            simpa using hs
          · rename_i h2
            rw [if_neg h2] at hs
            exact absurd hs h2
      obtain ⟨e, hv⟩ := preF_none j h0
      rw [e] at h
      have h3 : (flSub (flRun (S := Unit) (fun _ l => ((), q l)) may N f) may l j ((), none)).2 = none := h
      refine ⟨?_, fun v hvj => ?_⟩
      · rw [preF_go e]
        unfold flStep
        rw [unit_eq h3]; rfl
      · rcases Nat.lt_succ_iff_lt_or_eq.1 hvj with h4 | rfl
        · exact hv v h4
        · exact h3
    · rw [preF, if_neg hs] at h
      obtain ⟨e, -⟩ := preF_none j h
      rw [e] at hs
      exact absurd rfl hs
theorem dfs_some {may q : List Int → Bool} {N n : Nat} (h : Nec may q n) : ∀ (t : List Int) (l : List Int), (l ++ t).length = n → q (l ++ t) = true → (∀ y ∈ t, ∃ v : Nat, v < N ∧ y = (v : Int)) → (dfs may q N t.length l).isSome = true
  | [], l, _, hq, _ => by
    rw [List.append_nil] at hq
    show (if q l = true then some l else none).isSome = true
    rw [if_pos hq]; rfl
  | y :: t, l, hl, hq, hy => by
    obtain ⟨v, hv, rfl⟩ := hy y (by simp)
    have e : l ++ (v : Int) :: t = (l ++ [(v : Int)]) ++ t := by simp
    rw [e] at hl hq
    obtain ⟨h1, h2⟩ := h l v t hl hq
    have ih := dfs_some h t (l ++ [(v : Int)]) hl hq fun y h => hy y (List.mem_cons_of_mem _ h)
    cases hd : dfs may q N (t.length + 1) l with
    | some x => rfl
    | none =>
      exfalso
      have := (preF_none N hd).2 v hv
      unfold flSub at this
      rw [if_pos ⟨h1, h2⟩] at this
      have e2 : dfs may q N t.length (l ++ [(v : Int)]) = none := this
      rw [e2] at ih; cases ih

theorem nodup_lt7 : ∀ (k : Nat) (l : List Nat), l.Nodup → (∀ a, a ∈ l → a < k) → l.length ≤ k
  | 0, l, _, h => by
    cases l with
    | nil => exact Nat.le_refl _
    | cons a l => exact absurd (h a (by simp)) (by omega)
  | k + 1, l, hn, h => by
    by_cases hk : k ∈ l
    · have h1 := nodup_lt7 k (l.erase k) (hn.erase k) fun a ha => by
        have h2 := h a (List.mem_of_mem_erase ha)
        have h3 : a ≠ k := by rintro rfl; exact hn.not_mem_erase ha
        omega
      rw [List.length_erase_of_mem hk] at h1
      omega
    · have h1 := nodup_lt7 k l hn fun a ha => by
        have h2 := h a ha
        have h3 : a ≠ k := by rintro rfl; exact hk ha
        omega
      omega

end Go.Proofs.YtfkehmpckhmkbaaGreat
