/-
  Boolean formulas and their truth tables as numbers: a formula whose table is full holds under every assignment. No conditions.
  Graphs of at most six vertices as assignments of formulas: edges, all vertices, lists of different vertices, patterns. No conditions.
  Graphs of at most six vertices that can be pruned to the end: exactly those without an obstacle. No conditions beyond that.
-/
import Derived.Test.YtjikmjhpmkakoaaGreatDoorPkCardHereditary01
import Derived.Test.YtjikmjhpmkakoaaGreatDoorPkCardHereditary03
import Derived.Test.YtjikmjhpmkakoaaGreatDoorPkCardHereditary26
namespace Go.Proofs.YtjikmjhpmkakoaaGreatDoor

inductive Fm where
  | v (i : Nat)
  | tt
  | ff
  | and (a b : Fm)
  | or (a b : Fm)
  | not (a : Fm)

def Fm.eval (e : Nat → Bool) : Fm → Bool
  | .v i => e i
  | .tt => true
  | .ff => false
  | .and a b => a.eval e && b.eval e
  | .or a b => a.eval e || b.eval e
  | .not a => !a.eval e

/-- The table of variable i among N. -/
def tabV : Nat → Nat → Nat
  | 0, _ => 0
  | N + 1, i => cond (Nat.beq i N) (Nat.shiftLeft (2 ^ 2 ^ N - 1) (2 ^ N)) (Nat.lor (tabV N i) (Nat.shiftLeft (tabV N i) (2 ^ N)))
def Fm.tab (N : Nat) : Fm → Nat
  | .v i => tabV N i
  | .tt => 2 ^ 2 ^ N - 1
  | .ff => 0
  | .and a b => Nat.land (a.tab N) (b.tab N)
  | .or a b => Nat.lor (a.tab N) (b.tab N)
  | .not a => Nat.xor (2 ^ 2 ^ N - 1) (a.tab N)

theorem beq_no {i N : Nat} (h : i ≠ N) : Nat.beq i N = false := by
  cases q : Nat.beq i N
  · rfl
  · exact absurd (Nat.eq_of_beq_eq_true q) h
theorem tabV_lt : ∀ N i, tabV N i < 2 ^ 2 ^ N
  | 0, i => by simp [tabV]
  | N + 1, i => by
    have e : 2 ^ 2 ^ (N + 1) = 2 ^ 2 ^ N * 2 ^ 2 ^ N := by rw [← Nat.pow_add, Nat.pow_succ]; congr 1; omega
    have hp := Nat.two_pow_pos (2 ^ N)
    by_cases h : i = N
    · subst h
      show cond (Nat.beq i i) _ _ < _
      rw [Nat.beq_refl]
      show (2 ^ 2 ^ i - 1) <<< 2 ^ i < _
      rw [Nat.shiftLeft_eq, e]
      exact Nat.mul_lt_mul_of_pos_right (by omega) hp
    · show cond (Nat.beq i N) _ _ < _
      rw [beq_no h]
      have h1 := tabV_lt N i
      refine Nat.or_lt_two_pow ?_ ?_
      · rw [e]; exact Nat.lt_of_lt_of_le h1 (Nat.le_mul_of_pos_right _ hp)
      · show tabV N i <<< 2 ^ N < _
        rw [Nat.shiftLeft_eq, e]
        exact Nat.mul_lt_mul_of_pos_right h1 hp
theorem tabV_bit : ∀ (N i x : Nat), x < 2 ^ N → (tabV N i).testBit x = (decide (i < N) && x.testBit i)
  | 0, i, x, _ => by simp [tabV]
  | N + 1, i, x, hx => by
    have hp : 2 ^ (N + 1) = 2 ^ N + 2 ^ N := by rw [Nat.pow_succ]; omega
    by_cases h : i = N
    · subst h
      show (cond (Nat.beq i i) _ _ : Nat).testBit x = _
      rw [Nat.beq_refl]
      show ((2 ^ 2 ^ i - 1) <<< 2 ^ i).testBit x = _
      rw [Nat.testBit_shiftLeft, Nat.testBit_two_pow_sub_one, decide_eq_true (show i < i + 1 by omega), Bool.true_and]
      by_cases hxi : 2 ^ i ≤ x
      · obtain ⟨y, rfl⟩ : ∃ y, x = 2 ^ i + y := ⟨x - 2 ^ i, by omega⟩
        rw [Nat.testBit_two_pow_add_eq, Nat.testBit_lt_two_pow (show y < 2 ^ i by omega)]
        simp; omega
      · rw [Nat.testBit_lt_two_pow (show x < 2 ^ i by omega)]
        simp; omega
    · show (cond (Nat.beq i N) _ _ : Nat).testBit x = _
      rw [beq_no h]
      show (tabV N i ||| tabV N i <<< 2 ^ N).testBit x = _
      rw [Nat.testBit_or, Nat.testBit_shiftLeft]
      by_cases hxi : 2 ^ N ≤ x
      · obtain ⟨y, rfl⟩ : ∃ y, x = 2 ^ N + y := ⟨x - 2 ^ N, by omega⟩
        rw [Nat.testBit_lt_two_pow (show tabV N i < 2 ^ (2 ^ N + y) from Nat.lt_of_lt_of_le (tabV_lt N i) (Nat.pow_le_pow_right (by decide) (by omega))), Bool.false_or, decide_eq_true (show 2 ^ N + y ≥ 2 ^ N by omega), Bool.true_and, show 2 ^ N + y - 2 ^ N = y by omega, tabV_bit N i y (by omega)]
        by_cases hi : i < N
        · rw [Nat.testBit_two_pow_add_gt hi, decide_eq_true hi, decide_eq_true (show i < N + 1 by omega)]
        · rw [decide_eq_false hi, decide_eq_false (show ¬i < N + 1 by omega)]
          rfl
      · rw [decide_eq_false (show ¬x ≥ 2 ^ N by omega), Bool.false_and, Bool.or_false, tabV_bit N i x (by omega)]
        by_cases hi : i < N
        · rw [decide_eq_true hi, decide_eq_true (show i < N + 1 by omega)]
        · rw [decide_eq_false hi, decide_eq_false (show ¬i < N + 1 by omega)]

theorem Fm.tab_bit (N : Nat) {x : Nat} (hx : x < 2 ^ N) : ∀ f : Fm, (f.tab N).testBit x = f.eval fun i => decide (i < N) && x.testBit i
  | .v i => tabV_bit N i x hx
  | .tt => by show (2 ^ 2 ^ N - 1).testBit x = true; rw [Nat.testBit_two_pow_sub_one, decide_eq_true hx]
  | .ff => by show (0 : Nat).testBit x = false; simp
  | .and a b => by show (a.tab N &&& b.tab N).testBit x = _; rw [Nat.testBit_and, Fm.tab_bit N hx a, Fm.tab_bit N hx b]; rfl
  | .or a b => by show (a.tab N ||| b.tab N).testBit x = _; rw [Nat.testBit_or, Fm.tab_bit N hx a, Fm.tab_bit N hx b]; rfl
  | .not a => by show ((2 ^ 2 ^ N - 1) ^^^ a.tab N).testBit x = _; rw [Nat.testBit_xor, Fm.tab_bit N hx a, Nat.testBit_two_pow_sub_one, decide_eq_true hx]; exact Bool.true_xor _

/-- The table is full. -/
def tautB (N : Nat) (f : Fm) : Bool := Nat.beq (f.tab N) (2 ^ 2 ^ N - 1)
theorem Fm.taut {N : Nat} {f : Fm} (h : tautB N f = true) (e : Nat → Bool) (he : ∀ i, N ≤ i → e i = false) : f.eval e = true := by
  obtain ⟨x, hx, hb⟩ : ∃ x, x < 2 ^ N ∧ ∀ i, x.testBit i = (decide (i < N) && e i) := by
    clear h he
    induction N with
    | zero => exact ⟨0, by decide, fun i => by simp⟩
    | succ N ih =>
      obtain ⟨x, hx, hb⟩ := ih
      have hp : 2 ^ (N + 1) = 2 ^ N + 2 ^ N := by rw [Nat.pow_succ]; omega
      cases hN : e N
      · refine ⟨x, by omega, fun i => ?_⟩
        rw [hb]
        by_cases h1 : i < N
        · rw [decide_eq_true h1, decide_eq_true (show i < N + 1 by omega)]
        · by_cases h2 : i = N
          · subst h2; rw [hN]; simp
          · rw [decide_eq_false h1, decide_eq_false (show ¬i < N + 1 by omega)]
      · refine ⟨2 ^ N + x, by omega, fun i => ?_⟩
        by_cases h1 : i < N
        · rw [Nat.testBit_two_pow_add_gt h1, hb, decide_eq_true h1, decide_eq_true (show i < N + 1 by omega)]
        · by_cases h2 : i = N
          · subst h2; rw [Nat.testBit_two_pow_add_eq, hb, hN]; simp
          · rw [Nat.testBit_lt_two_pow (show 2 ^ N + x < 2 ^ i from Nat.lt_of_lt_of_le (by omega) (Nat.pow_le_pow_right (by decide) (show N + 1 ≤ i by omega))), decide_eq_false (show ¬i < N + 1 by omega)]
            rfl
  have e1 : (fun i => decide (i < N) && x.testBit i) = e := funext fun i => by
    rw [hb]
    by_cases h1 : i < N
    · rw [decide_eq_true h1, Bool.true_and, Bool.true_and]
    · rw [decide_eq_false h1, Bool.false_and, he i (by omega)]
  have := Fm.tab_bit N hx f
  unfold tautB at h
  rw [e1, Nat.eq_of_beq_eq_true h, Nat.testBit_two_pow_sub_one, decide_eq_true hx] at this
  exact this.symm

def orFl : List Fm → Fm
  | [] => .ff
  | a :: l => .or a (orFl l)
def andFl : List Fm → Fm
  | [] => .tt
  | a :: l => .and a (andFl l)
def impF (a b : Fm) : Fm := .or (.not a) b
theorem orFl_true {e : Nat → Bool} : ∀ {l : List Fm}, (orFl l).eval e = true ↔ ∃ a ∈ l, a.eval e = true
  | [] => by simp [orFl, Fm.eval]
  | a :: l => by simp [orFl, Fm.eval, orFl_true (l := l)]
theorem andFl_true {e : Nat → Bool} : ∀ {l : List Fm}, (andFl l).eval e = true ↔ ∀ a ∈ l, a.eval e = true
  | [] => by simp [andFl, Fm.eval]
  | a :: l => by simp [andFl, Fm.eval, andFl_true (l := l)]
theorem impF_true {e : Nat → Bool} {a b : Fm} : (impF a b).eval e = true ↔ (a.eval e = true → b.eval e = true) := by
  simp only [impF, Fm.eval]
  cases a.eval e <;> simp
theorem not_true {e : Nat → Bool} {a : Fm} : (Fm.not a).eval e = true ↔ ¬a.eval e = true := by simp [Fm.eval]
theorem and_true {e : Nat → Bool} {a b : Fm} : (Fm.and a b).eval e = true ↔ a.eval e = true ∧ b.eval e = true := by simp [Fm.eval]
theorem or_true {e : Nat → Bool} {a b : Fm} : (Fm.or a b).eval e = true ↔ a.eval e = true ∨ b.eval e = true := by simp [Fm.eval]

end Go.Proofs.YtjikmjhpmkakoaaGreatDoor

namespace Go.Proofs.YtjikmjhpmkakoaaGreatDoor
open Go.RowKit

def pr6 : List (Nat × Nat) := [(0, 1), (0, 2), (1, 2), (0, 3), (1, 3), (2, 3), (0, 4), (1, 4), (2, 4), (3, 4), (0, 5), (1, 5), (2, 5), (3, 5), (4, 5)]
def ad (rs : List Int) (a b : Nat) : Bool := (gn rs a).testBit b
def envG (rs : List Int) (i : Nat) : Bool := match pr6[i]? with
  | some p => ad rs p.1 p.2
  | none => false
theorem envG_big (rs : List Int) (i : Nat) (h : 15 ≤ i) : envG rs i = false := by
  unfold envG; rw [List.getElem?_eq_none (by simpa [pr6] using h)]
def adF (a b : Nat) : Fm := cond (Nat.blt a b) (.v (b * (b - 1) / 2 + a)) (cond (Nat.blt b a) (.v (a * (a - 1) / 2 + b)) .ff)
theorem pr6_at : ∀ b : Fin 6, ∀ a : Fin 6, a.val < b.val → pr6[b.val * (b.val - 1) / 2 + a.val]? = some (a.val, b.val) := by decide
theorem gn_big {rs : List Int} {v : Nat} (h : rs.length ≤ v) : gn rs v = 0 := by unfold gn gi; rw [List.getD_eq_getElem?_getD, List.getElem?_eq_none h]; rfl
theorem ad_lt {rs : List Int} (g : VG rs) {a b : Nat} (h : ad rs a b = true) : a < rs.length ∧ b < rs.length := by
  have ha : a < rs.length := by
    rcases Nat.lt_or_ge a rs.length with h' | h'
    · exact h'
    · unfold ad at h; rw [gn_big h'] at h; simp at h
  exact ⟨ha, testBit_lt (g.lt a ha) h⟩
theorem ad_symm {rs : List Int} (g : VG rs) (a b : Nat) : ad rs a b = ad rs b a := by
  cases h : ad rs a b <;> cases h2 : ad rs b a
  · rfl
  · have := ad_lt g h2
    unfold ad at h h2
    rw [g.sym b this.1 a this.2, h] at h2
    cases h2
  · have := ad_lt g h
    unfold ad at h h2
    rw [g.sym a this.1 b this.2, h2] at h
    cases h
  · rfl
theorem ad_irr {rs : List Int} (g : VG rs) (a : Nat) : ad rs a a = false := by
  cases h : ad rs a a
  · rfl
  · have := ad_lt g h
    unfold ad at h
    rw [g.irr a this.1] at h
    cases h
theorem blt_yes {a b : Nat} (h : a < b) : Nat.blt a b = true := by rw [Nat.blt_eq]; exact h
theorem blt_no {a b : Nat} (h : ¬a < b) : Nat.blt a b = false := by
  cases q : Nat.blt a b
  · rfl
  · rw [Nat.blt_eq] at q; exact absurd q h
theorem adF_eval {rs : List Int} (g : VG rs) {a b : Nat} (ha : a < 6) (hb : b < 6) : (adF a b).eval (envG rs) = ad rs a b := by
  unfold adF
  rcases Nat.lt_trichotomy a b with h | h | h
  · rw [blt_yes h]
    show (match pr6[b * (b - 1) / 2 + a]? with | some p => ad rs p.1 p.2 | none => false) = _
    rw [pr6_at ⟨b, hb⟩ ⟨a, ha⟩ h]
  · subst h
    rw [blt_no (by omega), ad_irr g]
    rfl
  · rw [blt_no (by omega), blt_yes h]
    show (match pr6[a * (a - 1) / 2 + b]? with | some p => ad rs p.1 p.2 | none => false) = _
    rw [pr6_at ⟨a, ha⟩ ⟨b, hb⟩ h, ad_symm g]

def ve : List Nat := [0, 1, 2, 3, 4, 5]
theorem mem_ve {v : Nat} : v ∈ ve ↔ v < 6 := by
  constructor
  · intro h; simp [ve] at h; omega
  · intro h
    have : v = 0 ∨ v = 1 ∨ v = 2 ∨ v = 3 ∨ v = 4 ∨ v = 5 := by omega
    simpa [ve] using this
def allF (l : List Nat) (p : Nat → Fm) : Fm := andFl (l.map p)
def exF (l : List Nat) (p : Nat → Fm) : Fm := orFl (l.map p)
theorem allF_true {e : Nat → Bool} {l : List Nat} {p : Nat → Fm} : (allF l p).eval e = true ↔ ∀ v ∈ l, (p v).eval e = true := by simp [allF, andFl_true]
theorem exF_true {e : Nat → Bool} {l : List Nat} {p : Nat → Fm} : (exF l p).eval e = true ↔ ∃ v ∈ l, (p v).eval e = true := by
  simp only [exF, orFl_true, List.mem_map]
  constructor
  · rintro ⟨a, ⟨v, hv, rfl⟩, h⟩
    exact ⟨v, hv, h⟩
  · rintro ⟨v, hv, h⟩
    exact ⟨_, ⟨v, hv, rfl⟩, h⟩
/-- The members of a set, below 6. -/
def mS (S : Nat) : List Nat := ve.filter fun v => Nat.testBit S v
theorem mem_mS {S v : Nat} : v ∈ mS S ↔ v < 6 ∧ S.testBit v = true := by simp [mS, mem_ve]
def litF (b : Bool) (a : Fm) : Fm := cond b a (.not a)
theorem litF_true {e : Nat → Bool} {b : Bool} {a : Fm} : (litF b a).eval e = true ↔ a.eval e = b := by cases b <;> simp [litF, Fm.eval]
/-- The vertices of a list are neighbours exactly by the pattern of their places. -/
def patF (pat : Nat → Nat → Bool) (l : List Nat) : Fm := allF (List.range l.length) fun i => allF (List.range i) fun j => litF (pat j i) (adF (eln l i) (eln l j))
theorem patF_true {rs : List Int} (g : VG rs) {pat : Nat → Nat → Bool} {l : List Nat} (hl : ∀ y ∈ l, y < 6) : (patF pat l).eval (envG rs) = true ↔ ∀ i, i < l.length → ∀ j, j < i → ad rs (eln l i) (eln l j) = pat j i := by
  unfold patF
  simp only [allF_true, litF_true, List.mem_range]
  constructor
  · intro h i hi j hj
    rw [← adF_eval g (hl _ (eln_mem hi)) (hl _ (eln_mem (by omega)))]
    exact h i hi j hj
  · intro h i hi j hj
    rw [adF_eval g (hl _ (eln_mem hi)) (hl _ (eln_mem (by omega)))]
    exact h i hi j hj
/-- Some k further different vertices behind l. -/
def exI : Nat → List Nat → (List Nat → Fm) → Fm
  | 0, l, p => p l
  | k + 1, l, p => exF (ve.filter fun v => !l.elem v) fun v => exI k (l ++ [v]) p
theorem exI_some {e : Nat → Bool} {p : List Nat → Fm} : ∀ (k : Nat) (l : List Nat), l.Nodup → (exI k l p).eval e = true → ∃ t, t.length = k ∧ (l ++ t).Nodup ∧ (∀ y ∈ t, y < 6) ∧ (p (l ++ t)).eval e = true
  | 0, l, hn, h => ⟨[], rfl, by rwa [List.append_nil], by simp, by rwa [List.append_nil]⟩
  | k + 1, l, hn, h => by
    rw [exI, exF_true] at h
    obtain ⟨v, hv, h⟩ := h
    simp [mem_ve] at hv
    have hn2 : (l ++ [v]).Nodup := by
      rw [List.nodup_append]
      exact ⟨hn, by simp, fun a ha b hb e => by simp at hb; subst hb; subst e; exact hv.2 ha⟩
    obtain ⟨t, h1, h2, h3, h4⟩ := exI_some k (l ++ [v]) hn2 h
    rw [List.append_assoc] at h2 h4
    refine ⟨v :: t, by simp [h1], h2, fun y hy => ?_, h4⟩
    rcases List.mem_cons.1 hy with rfl | hy
    · exact hv.1
    · exact h3 y hy
theorem exI_mk {e : Nat → Bool} {p : List Nat → Fm} : ∀ (t l : List Nat), (l ++ t).Nodup → (∀ y ∈ t, y < 6) → (p (l ++ t)).eval e = true → (exI t.length l p).eval e = true
  | [], l, hn, h6, h => by rwa [List.append_nil] at h
  | v :: t, l, hn, h6, h => by
    rw [List.length_cons, exI, exF_true]
    refine ⟨v, ?_, exI_mk t (l ++ [v]) (by rwa [List.append_assoc]) (fun y hy => h6 y (List.mem_cons_of_mem _ hy)) (by rwa [List.append_assoc])⟩
    have : v ∉ l := fun hv => by
      rw [List.nodup_append] at hn
      exact hn.2.2 v hv v (by simp) rfl
    simp [mem_ve, h6 v (by simp), this]
def nbF (a b : Nat) : Fm := cond (Nat.beq a b) .tt (adF a b)
/-- Equal or neighbours. -/
def nb (rs : List Int) (a b : Nat) : Prop := a = b ∨ ad rs a b = true
theorem nbF_true {rs : List Int} (g : VG rs) {a b : Nat} (ha : a < 6) (hb : b < 6) : (nbF a b).eval (envG rs) = true ↔ nb rs a b := by
  unfold nbF nb
  by_cases h : a = b
  · subst h
    rw [Nat.beq_refl]
    simp [Fm.eval]
  · rw [beq_no h]
    show (adF a b).eval _ = true ↔ _
    rw [adF_eval g ha hb]
    simp [h]

end Go.Proofs.YtjikmjhpmkakoaaGreatDoor

namespace Go.Proofs.YtjikmjhpmkakoaaGreatDoor
open Go.RowKit

/-- v can be taken away from S: it has a twin there, or at most one neighbour. -/
def prunP (rs : List Int) (S v : Nat) : Prop :=
  (∃ w, S.testBit w = true ∧ w ≠ v ∧ ∀ c, S.testBit c = true → c ≠ v → c ≠ w → ad rs v c = ad rs w c) ∨ ∀ a b, S.testBit a = true → S.testBit b = true → ad rs v a = true → ad rs v b = true → a = b
theorem cnt1_fin : ∀ x : Fin 128, cnt x.val = 1 → ∀ a b : Fin 7, x.val.testBit a.val = true → x.val.testBit b.val = true → a = b := by decide +kernel
theorem cnt1_of {X a b : Nat} (hX : X < 128) (h : cnt X = 1) (ha : X.testBit a = true) (hb : X.testBit b = true) : a = b := by
  have h1 := testBit_lt (N := 7) hX ha
  have h2 := testBit_lt (N := 7) hX hb
  exact congrArg Fin.val (cnt1_fin ⟨X, hX⟩ h ⟨a, h1⟩ ⟨b, h2⟩ ha hb)
theorem cnt1_fin2 : ∀ x : Fin 128, (∀ a b : Fin 7, x.val.testBit a.val = true → x.val.testBit b.val = true → a = b) → x.val = 0 ∨ cnt x.val = 1 := by decide +kernel
theorem cnt1_mk {X : Nat} (hX : X < 128) (h : ∀ a b, X.testBit a = true → X.testBit b = true → a = b) : X = 0 ∨ cnt X = 1 :=
  cnt1_fin2 ⟨X, hX⟩ fun a b ha hb => Fin.ext (h a.val b.val ha hb)
theorem tw2_iff {rs : List Int} (g : VG rs) {S v w : Nat} (hS : S < 2 ^ rs.length) (hv : S.testBit v = true) (hw : S.testBit w = true) (hne : w ≠ v) (he : ad rs v w = false) :
    tw2 rs S v w = true ↔ ∀ c, S.testBit c = true → c ≠ v → c ≠ w → ad rs v c = ad rs w c := by
  rw [← tw2_spec g hS hv hw hne he, decide_eq_true_eq, rows_but g hS hv hw]; rfl
theorem tw3_iff {rs : List Int} (g : VG rs) {S v w : Nat} (hS : S < 2 ^ rs.length) (hv : S.testBit v = true) (hw : S.testBit w = true) (he : ad rs v w = true) :
    tw3 rs S v w = true ↔ ∀ c, S.testBit c = true → c ≠ v → c ≠ w → ad rs v c = ad rs w c := by
  rw [← tw3_spec g hS hv hw he, decide_eq_true_eq, rows_but g hS hv hw]; rfl
theorem tw2_parts {rs : List Int} {S v w : Nat} (h : tw2 rs S v w = true) : w ≠ v ∧ S.testBit w = true ∧ ad rs v w = false := by
  unfold tw2 at h
  simp only [Bool.and_eq_true, decide_eq_true_eq, Bool.not_eq_true'] at h
  exact ⟨h.1.1.1, h.1.1.2, h.1.2⟩
theorem tw3_parts {rs : List Int} {S v w : Nat} (h : tw3 rs S v w = true) : S.testBit w = true ∧ ad rs v w = true := by
  unfold tw3 at h
  simp only [Bool.and_eq_true, decide_eq_true_eq] at h
  exact ⟨h.1.1, h.1.2⟩
theorem firstB_some {p : Nat → Bool} {n k : Nat} (h : firstB p n = some k) : k < n ∧ p k = true := by
  unfold firstB at h
  rw [List.find?_range_eq_some] at h
  exact ⟨by simpa using h.2.1, h.1⟩
theorem firstB_no {p : Nat → Bool} {n : Nat} (h : firstB p n = none) : ∀ k, k < n → p k = false := fun k hk => by
  unfold firstB at h
  rw [List.find?_eq_none] at h
  have := h k (by simpa using hk)
  simpa using this
theorem and_bit {a b i : Nat} : (a &&& b).testBit i = true ↔ a.testBit i = true ∧ b.testBit i = true := by rw [Nat.testBit_and, Bool.and_eq_true]
theorem pruneV_iff {rs : List Int} (g : VG rs) {S v : Nat} (hS : S < 2 ^ rs.length) (hv : S.testBit v = true) : (pruneV rs S v).isSome = true ↔ prunP rs S v := by
  have hvl := testBit_lt hS hv
  have hT7 : gn rs v &&& S < 128 := Nat.lt_of_le_of_lt Nat.and_le_left (g.lt128 hvl)
  by_cases h0 : gn rs v &&& S = 0
  · rw [pruneV_0 h0]
    refine ⟨fun _ => .inr fun a b ha _ hva _ => ?_, fun _ => rfl⟩
    have : (gn rs v &&& S).testBit a = true := and_bit.2 ⟨hva, ha⟩
    rw [h0] at this; simp at this
  · by_cases h1 : cnt (gn rs v &&& S) = 1
    · rw [pruneV_1 h0 h1]
      exact ⟨fun _ => .inr fun a b ha hb hva hvb => cnt1_of hT7 h1 (and_bit.2 ⟨hva, ha⟩) (and_bit.2 ⟨hvb, hb⟩), fun _ => rfl⟩
    · cases h2 : firstB (tw2 rs S v) rs.length with
      | some w =>
        rw [pruneV_2 h0 h1 h2]
        obtain ⟨-, ht⟩ := firstB_some h2
        obtain ⟨p1, p2, p3⟩ := tw2_parts ht
        exact ⟨fun _ => .inl ⟨w, p2, p1, (tw2_iff g hS hv p2 p1 p3).1 ht⟩, fun _ => rfl⟩
      | none =>
        cases h3 : firstB (tw3 rs S v) rs.length with
        | some w =>
          rw [pruneV_3 h0 h1 h2 h3]
          obtain ⟨-, ht⟩ := firstB_some h3
          obtain ⟨p2, p3⟩ := tw3_parts ht
          exact ⟨fun _ => .inl ⟨w, p2, fun e => (by rw [e, ad_irr g] at p3; cases p3), (tw3_iff g hS hv p2 p3).1 ht⟩, fun _ => rfl⟩
        | none =>
          rw [pruneV_no h0 h1 h2 h3]
          refine ⟨fun h => (by cases h), fun h => ?_⟩
          rcases h with ⟨w, p2, p1, p4⟩ | h
          · have hwl := testBit_lt hS p2
            cases he : ad rs v w
            · have := firstB_no h2 w hwl
              rw [(tw2_iff g hS hv p2 p1 he).2 p4] at this; cases this
            · have := firstB_no h3 w hwl
              rw [(tw3_iff g hS hv p2 he).2 p4] at this; cases this
          · rcases cnt1_mk hT7 fun a b ha hb => h a b (and_bit.1 ha).2 (and_bit.1 hb).2 (and_bit.1 ha).1 (and_bit.1 hb).1 with h | h
            · exact absurd h h0
            · exact absurd h h1

/-! ### The formulas -/
/-- Some k further different members of B behind l. -/
def exL (B : List Nat) : Nat → List Nat → (List Nat → Fm) → Fm
  | 0, l, p => p l
  | k + 1, l, p => exF (B.filter fun v => !l.elem v) fun v => exL B k (l ++ [v]) p
theorem exL_some {e : Nat → Bool} {B : List Nat} {p : List Nat → Fm} : ∀ (k : Nat) (l : List Nat), l.Nodup → (exL B k l p).eval e = true → ∃ t, t.length = k ∧ (l ++ t).Nodup ∧ (∀ y ∈ t, y ∈ B) ∧ (p (l ++ t)).eval e = true
  | 0, l, hn, h => ⟨[], rfl, by rwa [List.append_nil], by simp, by rwa [List.append_nil]⟩
  | k + 1, l, hn, h => by
    rw [exL, exF_true] at h
    obtain ⟨v, hv, h⟩ := h
    simp at hv
    have hn2 : (l ++ [v]).Nodup := by
      rw [List.nodup_append]
      exact ⟨hn, by simp, fun a ha b hb e => by simp at hb; subst hb; subst e; exact hv.2 ha⟩
    obtain ⟨t, h1, h2, h3, h4⟩ := exL_some k (l ++ [v]) hn2 h
    rw [List.append_assoc] at h2 h4
    refine ⟨v :: t, by simp [h1], h2, fun y hy => ?_, h4⟩
    rcases List.mem_cons.1 hy with rfl | hy
    · exact hv.1
    · exact h3 y hy
theorem exL_mk {e : Nat → Bool} {B : List Nat} {p : List Nat → Fm} : ∀ (t l : List Nat), (l ++ t).Nodup → (∀ y ∈ t, y ∈ B) → (p (l ++ t)).eval e = true → (exL B t.length l p).eval e = true
  | [], l, hn, h6, h => by rwa [List.append_nil] at h
  | v :: t, l, hn, h6, h => by
    rw [List.length_cons, exL, exF_true]
    refine ⟨v, ?_, exL_mk t (l ++ [v]) (by rwa [List.append_assoc]) (fun y hy => h6 y (List.mem_cons_of_mem _ hy)) (by rwa [List.append_assoc])⟩
    have : v ∉ l := fun hv => by
      rw [List.nodup_append] at hn
      exact hn.2.2 v hv v (by simp) rfl
    simp [h6 v (by simp), this]
def eqF (a b : Fm) : Fm := .or (.and a b) (.and (.not a) (.not b))
theorem eqF_true {e : Nat → Bool} {a b : Fm} : (eqF a b).eval e = true ↔ a.eval e = b.eval e := by
  simp only [eqF, Fm.eval]
  cases a.eval e <;> cases b.eval e <;> simp
def prunF (S v : Nat) : Fm :=
  .or (exF ((mS S).filter fun w => !Nat.beq w v) fun w => allF ((mS S).filter fun c => !Nat.beq c v && !Nat.beq c w) fun c => eqF (adF v c) (adF w c))
    (allF (mS S) fun a => allF (mS S) fun b => cond (Nat.beq a b) .tt (.not (.and (adF v a) (adF v b))))
def pathQ (j i : Nat) : Bool := Nat.beq i (j + 1)
/-- A path of four vertices and one that joins its ends; a path of five and one that joins its ends. -/
def ob4 (l : List Nat) : Fm := .and (patF pathQ (l.take 4)) (.and (adF (eln l 0) (eln l 4)) (adF (eln l 3) (eln l 4)))
def ob5 (l : List Nat) : Fm := .and (patF pathQ (l.take 5)) (.and (adF (eln l 0) (eln l 5)) (adF (eln l 4) (eln l 5)))
def obF (S : Nat) : Fm := .or (exL (mS S) 5 [] ob4) (exL (mS S) 6 [] ob5)
set_option maxRecDepth 100000 in
theorem prun_taut : tautB 15 (allF ((List.range 63).map (· + 1)) fun S => .or (exF (mS S) (prunF S)) (obF S)) = true := by decide +kernel
set_option maxRecDepth 100000 in
theorem back_taut : tautB 15 (allF ((List.range 63).map (· + 1)) fun S => allF (mS S) fun v => impF (.and (prunF S v) (obF S)) (obF (S - 2 ^ v))) = true := by decide +kernel

end Go.Proofs.YtjikmjhpmkakoaaGreatDoor
