/-
  Boolean formulas and their truth tables as numbers: a formula whose table is full holds under every assignment. No conditions.
-/
import Derived.Test.YtfkehmpckhmkbaaDoorPkCardArcs02
namespace Go.Proofs.YtfkehmpckhmkbaaDoor

inductive Fm where
  | v (i : Nat)
  | tt
  | ff
  | and (a b : Fm)
  | or (a b : Fm)
  | not (a : Fm)

def Fm.eval (e : Nat → Bool) : Fm → Bool
  | .v i => e i
  | .tt => true
  | .ff => false
  | .and a b => a.eval e && b.eval e
  | .or a b => a.eval e || b.eval e
  | .not a => !a.eval e

/-- The table of variable i among N. -/
def tabV : Nat → Nat → Nat
  | 0, _ => 0
  | N + 1, i => cond (Nat.beq i N) (Nat.shiftLeft (2 ^ 2 ^ N - 1) (2 ^ N)) (Nat.lor (tabV N i) (Nat.shiftLeft (tabV N i) (2 ^ N)))
def Fm.tab (N : Nat) : Fm → Nat
  | .v i => tabV N i
  | .tt => 2 ^ 2 ^ N - 1
  | .ff => 0
  | .and a b => Nat.land (a.tab N) (b.tab N)
  | .or a b => Nat.lor (a.tab N) (b.tab N)
  | .not a => Nat.xor (2 ^ 2 ^ N - 1) (a.tab N)

theorem beq_no {i N : Nat} (h : i ≠ N) : Nat.beq i N = false := by
  cases q : Nat.beq i N
  · rfl
  · exact absurd (Nat.eq_of_beq_eq_true q) h
theorem tabV_lt : ∀ N i, tabV N i < 2 ^ 2 ^ N
  | 0, i => by simp [tabV]
  | N + 1, i => by
    have e : 2 ^ 2 ^ (N + 1) = 2 ^ 2 ^ N * 2 ^ 2 ^ N := by rw [← Nat.pow_add, Nat.pow_succ]; congr 1; omega
    have hp := Nat.two_pow_pos (2 ^ N)
    by_cases h : i = N
    · subst h
      show cond (Nat.beq i i) _ _ < _
      rw [Nat.beq_refl]
      show (2 ^ 2 ^ i - 1) <<< 2 ^ i < _
      rw [Nat.shiftLeft_eq, e]
      exact Nat.mul_lt_mul_of_pos_right (by omega) hp
    · show cond (Nat.beq i N) _ _ < _
      rw [beq_no h]
      have h1 := tabV_lt N i
      refine Nat.or_lt_two_pow ?_ ?_
      · rw [e]; exact Nat.lt_of_lt_of_le h1 (Nat.le_mul_of_pos_right _ hp)
      · show tabV N i <<< 2 ^ N < _
        rw [Nat.shiftLeft_eq, e]
        exact Nat.mul_lt_mul_of_pos_right h1 hp
theorem tabV_bit : ∀ (N i x : Nat), x < 2 ^ N → (tabV N i).testBit x = (decide (i < N) && x.testBit i)
  | 0, i, x, _ => by simp [tabV]
  | N + 1, i, x, hx => by
    have hp : 2 ^ (N + 1) = 2 ^ N + 2 ^ N := by rw [Nat.pow_succ]; omega
    by_cases h : i = N
    · subst h
      show (cond (Nat.beq i i) _ _ : Nat).testBit x = _
      rw [Nat.beq_refl]
      show ((2 ^ 2 ^ i - 1) <<< 2 ^ i).testBit x = _
      rw [Nat.testBit_shiftLeft, Nat.testBit_two_pow_sub_one, decide_eq_true (show i < i + 1 by omega), Bool.true_and]
      by_cases hxi : 2 ^ i ≤ x
      · obtain ⟨y, rfl⟩ : ∃ y, x = 2 ^ i + y := ⟨x - 2 ^ i, by omega⟩
        rw [Nat.testBit_two_pow_add_eq, Nat.testBit_lt_two_pow (show y < 2 ^ i by omega)]
        simp; omega
      · rw [Nat.testBit_lt_two_pow (show x < 2 ^ i by omega)]
        simp; omega
    · show (cond (Nat.beq i N) _ _ : Nat).testBit x = _
      rw [beq_no h]
      show (tabV N i ||| tabV N i <<< 2 ^ N).testBit x = _
      rw [Nat.testBit_or, Nat.testBit_shiftLeft]
      by_cases hxi : 2 ^ N ≤ x
      · obtain ⟨y, rfl⟩ : ∃ y, x = 2 ^ N + y := ⟨x - 2 ^ N, by omega⟩
        rw [Nat.testBit_lt_two_pow (show tabV N i < 2 ^ (2 ^ N + y) from Nat.lt_of_lt_of_le (tabV_lt N i) (Nat.pow_le_pow_right (by decide) (by omega))), Bool.false_or, decide_eq_true (show 2 ^ N + y ≥ 2 ^ N by omega), Bool.true_and, show 2 ^ N + y - 2 ^ N = y by omega, tabV_bit N i y (by omega)]
        by_cases hi : i < N
        · rw [Nat.testBit_two_pow_add_gt hi, decide_eq_true hi, decide_eq_true (show i < N + 1 by omega)]
        · rw [decide_eq_false hi, decide_eq_false (show ¬i < N + 1 by omega)]
          rfl
      · rw [decide_eq_false (show ¬x ≥ 2 ^ N by omega), Bool.false_and, Bool.or_false, tabV_bit N i x (by omega)]
        by_cases hi : i < N
        · rw [decide_eq_true hi, decide_eq_true (show i < N + 1 by omega)]
        · rw [decide_eq_false hi, decide_eq_false (show ¬i < N + 1 by omega)]

theorem Fm.tab_bit (N : Nat) {x : Nat} (hx : x < 2 ^ N) : ∀ f : Fm, (f.tab N).testBit x = f.eval fun i => decide (i < N) && x.testBit i
  | .v i => tabV_bit N i x hx
  | .tt => by show (2 ^ 2 ^ N - 1).testBit x = true; rw [Nat.testBit_two_pow_sub_one, decide_eq_true hx]
  | .ff => by show (0 : Nat).testBit x = false; simp
  | .and a b => by show (a.tab N &&& b.tab N).testBit x = _; rw [Nat.testBit_and, Fm.tab_bit N hx a, Fm.tab_bit N hx b]; rfl
  | .or a b => by show (a.tab N ||| b.tab N).testBit x = _; rw [Nat.testBit_or, Fm.tab_bit N hx a, Fm.tab_bit N hx b]; rfl
  | .not a => by show ((2 ^ 2 ^ N - 1) ^^^ a.tab N).testBit x = _; rw [Nat.testBit_xor, Fm.tab_bit N hx a, Nat.testBit_two_pow_sub_one, decide_eq_true hx]; exact Bool.true_xor _

/-- The table is full. -/
def tautB (N : Nat) (f : Fm) : Bool := Nat.beq (f.tab N) (2 ^ 2 ^ N - 1)
theorem Fm.taut {N : Nat} {f : Fm} (h : tautB N f = true) (e : Nat → Bool) (he : ∀ i, N ≤ i → e i = false) : f.eval e = true := by
  obtain ⟨x, hx, hb⟩ : ∃ x, x < 2 ^ N ∧ ∀ i, x.testBit i = (decide (i < N) && e i) := by
    clear h he
    induction N with
    | zero => exact ⟨0, by decide, fun i => by simp⟩
    | succ N ih =>
      obtain ⟨x, hx, hb⟩ := ih
      have hp : 2 ^ (N + 1) = 2 ^ N + 2 ^ N := by rw [Nat.pow_succ]; omega
      cases hN : e N
      · refine ⟨x, by omega, fun i => ?_⟩
        rw [hb]
        by_cases h1 : i < N
        · rw [decide_eq_true h1, decide_eq_true (show i < N + 1 by omega)]
        · by_cases h2 : i = N
          · subst h2; rw [hN]; simp
          · rw [decide_eq_false h1, decide_eq_false (show ¬i < N + 1 by omega)]
      · refine ⟨2 ^ N + x, by omega, fun i => ?_⟩
        by_cases h1 : i < N
        · rw [Nat.testBit_two_pow_add_gt h1, hb, decide_eq_true h1, decide_eq_true (show i < N + 1 by omega)]
        · by_cases h2 : i = N
          · subst h2; rw [Nat.testBit_two_pow_add_eq, hb, hN]; simp
          · rw [Nat.testBit_lt_two_pow (show 2 ^ N + x < 2 ^ i from Nat.lt_of_lt_of_le (by omega) (Nat.pow_le_pow_right (by decide) (show N + 1 ≤ i by omega))), decide_eq_false (show ¬i < N + 1 by omega)]
            rfl
  have e1 : (fun i => decide (i < N) && x.testBit i) = e := funext fun i => by
    rw [hb]
    by_cases h1 : i < N
    · rw [decide_eq_true h1, Bool.true_and, Bool.true_and]
    · rw [decide_eq_false h1, Bool.false_and, he i (by omega)]
  have := Fm.tab_bit N hx f
  unfold tautB at h
  rw [e1, Nat.eq_of_beq_eq_true h, Nat.testBit_two_pow_sub_one, decide_eq_true hx] at this
  exact this.symm

def orFl : List Fm → Fm
  | [] => .ff
  | a :: l => .or a (orFl l)
def andFl : List Fm → Fm
  | [] => .tt
  | a :: l => .and a (andFl l)
def impF (a b : Fm) : Fm := .or (.not a) b
theorem orFl_true {e : Nat → Bool} : ∀ {l : List Fm}, (orFl l).eval e = true ↔ ∃ a ∈ l, a.eval e = true
  | [] => by simp [orFl, Fm.eval]
  | a :: l => by simp [orFl, Fm.eval, orFl_true (l := l)]
theorem andFl_true {e : Nat → Bool} : ∀ {l : List Fm}, (andFl l).eval e = true ↔ ∀ a ∈ l, a.eval e = true
  | [] => by simp [andFl, Fm.eval]
  | a :: l => by simp [andFl, Fm.eval, andFl_true (l := l)]
theorem impF_true {e : Nat → Bool} {a b : Fm} : (impF a b).eval e = true ↔ (a.eval e = true → b.eval e = true) := by
  simp only [impF, Fm.eval]
  cases a.eval e <;> simp
theorem not_true {e : Nat → Bool} {a : Fm} : (Fm.not a).eval e = true ↔ ¬a.eval e = true := by simp [Fm.eval]
theorem and_true {e : Nat → Bool} {a b : Fm} : (Fm.and a b).eval e = true ↔ a.eval e = true ∧ b.eval e = true := by simp [Fm.eval]
theorem or_true {e : Nat → Bool} {a b : Fm} : (Fm.or a b).eval e = true ↔ a.eval e = true ∨ b.eval e = true := by simp [Fm.eval]

end Go.Proofs.YtfkehmpckhmkbaaDoor
