/-
  Boolean formulas and their truth tables as numbers: a formula whose table is full holds under every assignment. No conditions.
  Graphs of at most six vertices as assignments of formulas: edges, all vertices, lists of different vertices, patterns. No conditions.
  EdgesOf on both sides, for every graph of at most 2^20 rows.
  l13Next and l13Find of the reference: the arcs that an arc forces at once; the place of an arc. For at most 2^20 rows.
  The walks of IsDominating and IsPacking on both sides. For at most 2^20 rows.
-/
import Derived.Test.YtjikmjhpmkakoaaGreatDoorPkCardCographs01
import Derived.Test.YtjikmjhpmkakoaaGreatDoorPkCardCographs03
import Derived.Test.YtjikmjhpmkakoaaGreatDoorPkCardCographs11
import Derived.Test.YtjikmjhpmkakoaaGreatDoorPkCardCographs06
import Derived.Deep.CutRange
namespace Go.Proofs.YtjikmjhpmkakoaaGreatDoor

inductive Fm where
  | v (i : Nat)
  | tt
  | ff
  | and (a b : Fm)
  | or (a b : Fm)
  | not (a : Fm)

def Fm.eval (e : Nat → Bool) : Fm → Bool
  | .v i => e i
  | .tt => true
  | .ff => false
  | .and a b => a.eval e && b.eval e
  | .or a b => a.eval e || b.eval e
  | .not a => !a.eval e

/-- The table of variable i among N. -/
def tabV : Nat → Nat → Nat
  | 0, _ => 0
  | N + 1, i => cond (Nat.beq i N) (Nat.shiftLeft (2 ^ 2 ^ N - 1) (2 ^ N)) (Nat.lor (tabV N i) (Nat.shiftLeft (tabV N i) (2 ^ N)))
def Fm.tab (N : Nat) : Fm → Nat
  | .v i => tabV N i
  | .tt => 2 ^ 2 ^ N - 1
  | .ff => 0
  | .and a b => Nat.land (a.tab N) (b.tab N)
  | .or a b => Nat.lor (a.tab N) (b.tab N)
  | .not a => Nat.xor (2 ^ 2 ^ N - 1) (a.tab N)

theorem beq_no {i N : Nat} (h : i ≠ N) : Nat.beq i N = false := by
  cases q : Nat.beq i N
  · rfl
  · exact absurd (Nat.eq_of_beq_eq_true q) h
theorem tabV_lt : ∀ N i, tabV N i < 2 ^ 2 ^ N
  | 0, i => by simp [tabV]
  | N + 1, i => by
    have e : 2 ^ 2 ^ (N + 1) = 2 ^ 2 ^ N * 2 ^ 2 ^ N := by rw [← Nat.pow_add, Nat.pow_succ]; congr 1; omega
    have hp := Nat.two_pow_pos (2 ^ N)
    by_cases h : i = N
    · subst h
      show cond (Nat.beq i i) _ _ < _
      rw [Nat.beq_refl]
      show (2 ^ 2 ^ i - 1) <<< 2 ^ i < _
      rw [Nat.shiftLeft_eq, e]
      exact Nat.mul_lt_mul_of_pos_right (by omega) hp
    · show cond (Nat.beq i N) _ _ < _
      rw [beq_no h]
      have h1 := tabV_lt N i
      refine Nat.or_lt_two_pow ?_ ?_
      · rw [e]; exact Nat.lt_of_lt_of_le h1 (Nat.le_mul_of_pos_right _ hp)
      · show tabV N i <<< 2 ^ N < _
        rw [Nat.shiftLeft_eq, e]
        exact Nat.mul_lt_mul_of_pos_right h1 hp
theorem tabV_bit : ∀ (N i x : Nat), x < 2 ^ N → (tabV N i).testBit x = (decide (i < N) && x.testBit i)
  | 0, i, x, _ => by simp [tabV]
  | N + 1, i, x, hx => by
    have hp : 2 ^ (N + 1) = 2 ^ N + 2 ^ N := by rw [Nat.pow_succ]; omega
    by_cases h : i = N
    · subst h
      show (cond (Nat.beq i i) _ _ : Nat).testBit x = _
      rw [Nat.beq_refl]
      show ((2 ^ 2 ^ i - 1) <<< 2 ^ i).testBit x = _
      rw [Nat.testBit_shiftLeft, Nat.testBit_two_pow_sub_one, decide_eq_true (show i < i + 1 by omega), Bool.true_and]
      by_cases hxi : 2 ^ i ≤ x
      · obtain ⟨y, rfl⟩ : ∃ y, x = 2 ^ i + y := ⟨x - 2 ^ i, by omega⟩
        rw [Nat.testBit_two_pow_add_eq, Nat.testBit_lt_two_pow (show y < 2 ^ i by omega)]
        simp; omega
      · rw [Nat.testBit_lt_two_pow (show x < 2 ^ i by omega)]
        simp; omega
    · show (cond (Nat.beq i N) _ _ : Nat).testBit x = _
      rw [beq_no h]
      show (tabV N i ||| tabV N i <<< 2 ^ N).testBit x = _
      rw [Nat.testBit_or, Nat.testBit_shiftLeft]
      by_cases hxi : 2 ^ N ≤ x
      · obtain ⟨y, rfl⟩ : ∃ y, x = 2 ^ N + y := ⟨x - 2 ^ N, by omega⟩
        rw [Nat.testBit_lt_two_pow (show tabV N i < 2 ^ (2 ^ N + y) from Nat.lt_of_lt_of_le (tabV_lt N i) (Nat.pow_le_pow_right (by decide) (by omega))), Bool.false_or, decide_eq_true (show 2 ^ N + y ≥ 2 ^ N by omega), Bool.true_and, show 2 ^ N + y - 2 ^ N = y by omega, tabV_bit N i y (by omega)]
        by_cases hi : i < N
        · rw [Nat.testBit_two_pow_add_gt hi, decide_eq_true hi, decide_eq_true (show i < N + 1 by omega)]
        · rw [decide_eq_false hi, decide_eq_false (show ¬i < N + 1 by omega)]
          rfl
      · rw [decide_eq_false (show ¬x ≥ 2 ^ N by omega), Bool.false_and, Bool.or_false, tabV_bit N i x (by omega)]
        by_cases hi : i < N
        · rw [decide_eq_true hi, decide_eq_true (show i < N + 1 by omega)]
        · rw [decide_eq_false hi, decide_eq_false (show ¬i < N + 1 by omega)]

theorem Fm.tab_bit (N : Nat) {x : Nat} (hx : x < 2 ^ N) : ∀ f : Fm, (f.tab N).testBit x = f.eval fun i => decide (i < N) && x.testBit i
  | .v i => tabV_bit N i x hx
  | .tt => by show (2 ^ 2 ^ N - 1).testBit x = true; rw [Nat.testBit_two_pow_sub_one, decide_eq_true hx]
  | .ff => by show (0 : Nat).testBit x = false; simp
  | .and a b => by show (a.tab N &&& b.tab N).testBit x = _; rw [Nat.testBit_and, Fm.tab_bit N hx a, Fm.tab_bit N hx b]; rfl
  | .or a b => by show (a.tab N ||| b.tab N).testBit x = _; rw [Nat.testBit_or, Fm.tab_bit N hx a, Fm.tab_bit N hx b]; rfl
  | .not a => by show ((2 ^ 2 ^ N - 1) ^^^ a.tab N).testBit x = _; rw [Nat.testBit_xor, Fm.tab_bit N hx a, Nat.testBit_two_pow_sub_one, decide_eq_true hx]; exact Bool.true_xor _

/-- The table is full. -/
def tautB (N : Nat) (f : Fm) : Bool := Nat.beq (f.tab N) (2 ^ 2 ^ N - 1)
theorem Fm.taut {N : Nat} {f : Fm} (h : tautB N f = true) (e : Nat → Bool) (he : ∀ i, N ≤ i → e i = false) : f.eval e = true := by
  obtain ⟨x, hx, hb⟩ : ∃ x, x < 2 ^ N ∧ ∀ i, x.testBit i = (decide (i < N) && e i) := by
    clear h he
    induction N with
    | zero => exact ⟨0, by decide, fun i => by simp⟩
    | succ N ih =>
      obtain ⟨x, hx, hb⟩ := ih
      have hp : 2 ^ (N + 1) = 2 ^ N + 2 ^ N := by rw [Nat.pow_succ]; omega
      cases hN : e N
      · refine ⟨x, by omega, fun i => ?_⟩
        rw [hb]
        by_cases h1 : i < N
        · rw [decide_eq_true h1, decide_eq_true (show i < N + 1 by omega)]
        · by_cases h2 : i = N
          · subst h2; rw [hN]; simp
          · rw [decide_eq_false h1, decide_eq_false (show ¬i < N + 1 by omega)]
      · refine ⟨2 ^ N + x, by omega, fun i => ?_⟩
        by_cases h1 : i < N
        · rw [Nat.testBit_two_pow_add_gt h1, hb, decide_eq_true h1, decide_eq_true (show i < N + 1 by omega)]
        · by_cases h2 : i = N
          · subst h2; rw [Nat.testBit_two_pow_add_eq, hb, hN]; simp
          · rw [Nat.testBit_lt_two_pow (show 2 ^ N + x < 2 ^ i from Nat.lt_of_lt_of_le (by omega) (Nat.pow_le_pow_right (by decide) (show N + 1 ≤ i by omega))), decide_eq_false (show ¬i < N + 1 by omega)]
            rfl
  have e1 : (fun i => decide (i < N) && x.testBit i) = e := funext fun i => by
    rw [hb]
    by_cases h1 : i < N
    · rw [decide_eq_true h1, Bool.true_and, Bool.true_and]
    · rw [decide_eq_false h1, Bool.false_and, he i (by omega)]
  have := Fm.tab_bit N hx f
  unfold tautB at h
  rw [e1, Nat.eq_of_beq_eq_true h, Nat.testBit_two_pow_sub_one, decide_eq_true hx] at this
  exact this.symm

def orFl : List Fm → Fm
  | [] => .ff
  | a :: l => .or a (orFl l)
def andFl : List Fm → Fm
  | [] => .tt
  | a :: l => .and a (andFl l)
def impF (a b : Fm) : Fm := .or (.not a) b
theorem orFl_true {e : Nat → Bool} : ∀ {l : List Fm}, (orFl l).eval e = true ↔ ∃ a ∈ l, a.eval e = true
  | [] => by simp [orFl, Fm.eval]
  | a :: l => by simp [orFl, Fm.eval, orFl_true (l := l)]
theorem andFl_true {e : Nat → Bool} : ∀ {l : List Fm}, (andFl l).eval e = true ↔ ∀ a ∈ l, a.eval e = true
  | [] => by simp [andFl, Fm.eval]
  | a :: l => by simp [andFl, Fm.eval, andFl_true (l := l)]
theorem impF_true {e : Nat → Bool} {a b : Fm} : (impF a b).eval e = true ↔ (a.eval e = true → b.eval e = true) := by
  simp only [impF, Fm.eval]
  cases a.eval e <;> simp
theorem not_true {e : Nat → Bool} {a : Fm} : (Fm.not a).eval e = true ↔ ¬a.eval e = true := by simp [Fm.eval]
theorem and_true {e : Nat → Bool} {a b : Fm} : (Fm.and a b).eval e = true ↔ a.eval e = true ∧ b.eval e = true := by simp [Fm.eval]
theorem or_true {e : Nat → Bool} {a b : Fm} : (Fm.or a b).eval e = true ↔ a.eval e = true ∨ b.eval e = true := by simp [Fm.eval]

end Go.Proofs.YtjikmjhpmkakoaaGreatDoor

namespace Go.Proofs.YtjikmjhpmkakoaaGreatDoor
open Go.RowKit

def pr6 : List (Nat × Nat) := [(0, 1), (0, 2), (1, 2), (0, 3), (1, 3), (2, 3), (0, 4), (1, 4), (2, 4), (3, 4), (0, 5), (1, 5), (2, 5), (3, 5), (4, 5)]
def ad (rs : List Int) (a b : Nat) : Bool := (gn rs a).testBit b
def envG (rs : List Int) (i : Nat) : Bool := match pr6[i]? with
  | some p => ad rs p.1 p.2
  | none => false
theorem envG_big (rs : List Int) (i : Nat) (h : 15 ≤ i) : envG rs i = false := by
  unfold envG; rw [List.getElem?_eq_none (by simpa [pr6] using h)]
def adF (a b : Nat) : Fm := cond (Nat.blt a b) (.v (b * (b - 1) / 2 + a)) (cond (Nat.blt b a) (.v (a * (a - 1) / 2 + b)) .ff)
theorem pr6_at : ∀ b : Fin 6, ∀ a : Fin 6, a.val < b.val → pr6[b.val * (b.val - 1) / 2 + a.val]? = some (a.val, b.val) := by decide
theorem gn_big {rs : List Int} {v : Nat} (h : rs.length ≤ v) : gn rs v = 0 := by unfold gn gi; rw [List.getD_eq_getElem?_getD, List.getElem?_eq_none h]; rfl
theorem ad_lt {rs : List Int} (g : VG rs) {a b : Nat} (h : ad rs a b = true) : a < rs.length ∧ b < rs.length := by
  have ha : a < rs.length := by
    rcases Nat.lt_or_ge a rs.length with h' | h'
    · exact h'
    · unfold ad at h; rw [gn_big h'] at h; simp at h
  exact ⟨ha, testBit_lt (g.lt a ha) h⟩
theorem ad_symm {rs : List Int} (g : VG rs) (a b : Nat) : ad rs a b = ad rs b a := by
  cases h : ad rs a b <;> cases h2 : ad rs b a
  · rfl
  · have := ad_lt g h2
    unfold ad at h h2
    rw [g.sym b this.1 a this.2, h] at h2
    cases h2
  · have := ad_lt g h
    unfold ad at h h2
    rw [g.sym a this.1 b this.2, h2] at h
    cases h
  · rfl
theorem ad_irr {rs : List Int} (g : VG rs) (a : Nat) : ad rs a a = false := by
  cases h : ad rs a a
  · rfl
  · have := ad_lt g h
    unfold ad at h
    rw [g.irr a this.1] at h
    cases h
theorem blt_yes {a b : Nat} (h : a < b) : Nat.blt a b = true := by rw [Nat.blt_eq]; exact h
theorem blt_no {a b : Nat} (h : ¬a < b) : Nat.blt a b = false := by
  cases q : Nat.blt a b
  · rfl
  · rw [Nat.blt_eq] at q; exact absurd q h
theorem adF_eval {rs : List Int} (g : VG rs) {a b : Nat} (ha : a < 6) (hb : b < 6) : (adF a b).eval (envG rs) = ad rs a b := by
  unfold adF
  rcases Nat.lt_trichotomy a b with h | h | h
  · rw [blt_yes h]
    show (match pr6[b * (b - 1) / 2 + a]? with | some p => ad rs p.1 p.2 | none => false) = _
    rw [pr6_at ⟨b, hb⟩ ⟨a, ha⟩ h]
  · subst h
    rw [blt_no (by omega), ad_irr g]
    rfl
  · rw [blt_no (by omega), blt_yes h]
    show (match pr6[a * (a - 1) / 2 + b]? with | some p => ad rs p.1 p.2 | none => false) = _
    rw [pr6_at ⟨a, ha⟩ ⟨b, hb⟩ h, ad_symm g]

def ve : List Nat := [0, 1, 2, 3, 4, 5]
theorem mem_ve {v : Nat} : v ∈ ve ↔ v < 6 := by
  constructor
  · intro h; simp [ve] at h; omega
  · intro h
    have : v = 0 ∨ v = 1 ∨ v = 2 ∨ v = 3 ∨ v = 4 ∨ v = 5 := by omega
    simpa [ve] using this
def allF (l : List Nat) (p : Nat → Fm) : Fm := andFl (l.map p)
def exF (l : List Nat) (p : Nat → Fm) : Fm := orFl (l.map p)
theorem allF_true {e : Nat → Bool} {l : List Nat} {p : Nat → Fm} : (allF l p).eval e = true ↔ ∀ v ∈ l, (p v).eval e = true := by simp [allF, andFl_true]
theorem exF_true {e : Nat → Bool} {l : List Nat} {p : Nat → Fm} : (exF l p).eval e = true ↔ ∃ v ∈ l, (p v).eval e = true := by
  simp only [exF, orFl_true, List.mem_map]
  constructor
  · rintro ⟨a, ⟨v, hv, rfl⟩, h⟩
    exact ⟨v, hv, h⟩
  · rintro ⟨v, hv, h⟩
    exact ⟨_, ⟨v, hv, rfl⟩, h⟩
/-- The members of a set, below 6. -/
def mS (S : Nat) : List Nat := ve.filter fun v => Nat.testBit S v
theorem mem_mS {S v : Nat} : v ∈ mS S ↔ v < 6 ∧ S.testBit v = true := by simp [mS, mem_ve]
def litF (b : Bool) (a : Fm) : Fm := cond b a (.not a)
theorem litF_true {e : Nat → Bool} {b : Bool} {a : Fm} : (litF b a).eval e = true ↔ a.eval e = b := by cases b <;> simp [litF, Fm.eval]
/-- The vertices of a list are neighbours exactly by the pattern of their places. -/
def patF (pat : Nat → Nat → Bool) (l : List Nat) : Fm := allF (List.range l.length) fun i => allF (List.range i) fun j => litF (pat j i) (adF (eln l i) (eln l j))
theorem patF_true {rs : List Int} (g : VG rs) {pat : Nat → Nat → Bool} {l : List Nat} (hl : ∀ y ∈ l, y < 6) : (patF pat l).eval (envG rs) = true ↔ ∀ i, i < l.length → ∀ j, j < i → ad rs (eln l i) (eln l j) = pat j i := by
  unfold patF
  simp only [allF_true, litF_true, List.mem_range]
  constructor
  · intro h i hi j hj
    rw [← adF_eval g (hl _ (eln_mem hi)) (hl _ (eln_mem (by omega)))]
    exact h i hi j hj
  · intro h i hi j hj
    rw [adF_eval g (hl _ (eln_mem hi)) (hl _ (eln_mem (by omega)))]
    exact h i hi j hj
/-- Equal or neighbours. -/
def nb (rs : List Int) (a b : Nat) : Prop := a = b ∨ ad rs a b = true
end Go.Proofs.YtjikmjhpmkakoaaGreatDoor

namespace Go.Proofs.YtjikmjhpmkakoaaGreatDoor
open Go.RowKit

def edgesV (n : Int) (rs : List Int) : List (Nat × Nat) := if isGraphB n rs = true then edgesTo rs rs.length else []
theorem edgesV_no {n : Int} {rs : List Int} (h : isGraphB n rs = false) : edgesV n rs = [] := by unfold edgesV; rw [if_neg (by rw [h]; decide)]
theorem edgesV_of {n : Int} {rs : List Int} (h : isGraphB n rs = true) : edgesV n rs = edgesTo rs rs.length := by unfold edgesV; rw [if_pos h]

/-- A list of pairs has been made, each in a block of its own. -/
def RetEs (w : World) (es : List (Nat × Nat)) (e : Ending) (w' : World) : Prop :=
  ∃ ao cap xs, e = .returned (.slice ao xs.length cap) ∧ Below w.heap.size w w' ∧ OwnV w' w.heap.size (.slice ao xs.length cap) xs ∧ ValsOf w' xs es

set_option maxRecDepth 100000 in
set_option maxHeartbeats 2000000 in
theorem implEdges_all (n : Int) (rs : List Int) (ro : Option Addr) (rc : Nat) (w : World) (hr : IntsAt w ro rs) (hrl : rs.length ≤ 1048576) :
    Calls Tryz.prog 151 #[.agg #[.int .i64 n, .slice ro rs.length rc]] w (RetEs w (edgesV n rs)) := by
  cases hv : isGraphB n rs
  · have HE := Lib.hid (edgesV_no hv)
    go_enter Tryz.func151, Tryz.ntmps151
    go_wp2_with fail
    generalize hW : w.alloc _ = W1
    have hsz : W1.heap.size = w.heap.size + 1 := by rw [← hW]; simp
    obtain ⟨hB, -, k0⟩ := alloc1 hW
    replace hr := hr.below hB
    have hb0 := k0.lt
    have hc0 := k0.cell 0
    have hc1 := k0.cell 1
    simp at hc0 hc1
    clear hW k0
    have HhB := Lib.hid hB
    clear hB
    generalize hW2 : W1.alloc _ = W2
    obtain ⟨hB2, -, -⟩ := alloc1 hW2
    have hO : OwnV W2 W1.heap.size (.slice (some ⟨W1.heap.size, 0, none⟩) 0 0) [] := by rw [← hW2]; exact OwnV.empty W1
    obtain ⟨m, rfl⟩ : ∃ m2 : Later W1, m2.w = W2 := ⟨⟨W2, hB2⟩, rfl⟩
    have hadr : Value.slice (some ⟨W1.heap.size, 0, none⟩) 0 0 = .slice (some ⟨w.heap.size + 1, 0, none⟩) 0 0 := by rw [hsz]
    rw [hadr] at hO
    clear hsz hadr
    clear hB2 hW2
    have hG := implIsGraph_any n rs ro rc m.w (hr.later m) hrl
    rw [hv] at hG
    have HhO := Lib.hid hO
    clear hO
    go_wp2_with fail
    refine hG.mono ?_
    rintro e w' ⟨rfl, hB3⟩
    have hO := HhO.out.below hB3
    obtain ⟨m, rfl⟩ : ∃ m2 : Later W1, m2.w = w' := ⟨m.on hB3, rfl⟩
    clear hB3 HhO hG
    have HhO := Lib.hid hO
    clear hO
    go_wp2_with fail
    go_ret
    exact ⟨_, _, [], rfl, below_later HhB.out m, HhO.out.mono (Nat.le_of_lt hb0), by rw [HE.out]; exact ValsOf.nil _⟩
  · obtain ⟨rfl, -⟩ := VG.of hv
    rw [edgesV_of hv]
    exact implEdgesOf_any rs ro rc hv w hr


end Go.Proofs.YtjikmjhpmkakoaaGreatDoor

namespace Go.Proofs.YtjikmjhpmkakoaaGreatDoor
open Go.RowKit

/-- The arc from v to w is forced at once by that from a to b. -/
def nxB (rs : List Int) (a b v w : Nat) : Bool := (gn rs v).testBit w && ((decide (v = a) && !decide (w = b) && !(gn rs w).testBit b) || (decide (w = b) && !decide (v = a) && !(gn rs v).testBit a))
def nxIn (rs : List Int) (a b k : Nat) : Nat → List (Nat × Nat)
  | 0 => []
  | c + 1 => nxIn rs a b k c ++ (if nxB rs a b k c = true then [(k, c)] else [])
def nxTo (rs : List Int) (a b : Nat) : Nat → List (Nat × Nat)
  | 0 => []
  | k + 1 => nxTo rs a b k ++ nxIn rs a b k rs.length
def nxV (rs : List Int) (a b : Nat) : List (Nat × Nat) := nxTo rs a b rs.length
theorem mem_nxIn {rs : List Int} {a b k : Nat} {p : Nat × Nat} : ∀ c, p ∈ nxIn rs a b k c ↔ p.1 = k ∧ p.2 < c ∧ nxB rs a b p.1 p.2 = true
  | 0 => by simp [nxIn]
  | c + 1 => by
    obtain ⟨x, y⟩ := p
    have ih := mem_nxIn (rs := rs) (a := a) (b := b) (k := k) (p := (x, y)) c
    show (x, y) ∈ nxIn rs a b k c ++ _ ↔ _
    rw [List.mem_append, ih]
    dsimp only
    constructor
    · rintro (⟨h1, h2, h3⟩ | h)
      · exact ⟨h1, by omega, h3⟩
      · by_cases hc : nxB rs a b k c = true
        · rw [if_pos hc] at h
          simp only [List.mem_singleton, Prod.mk.injEq] at h
          obtain ⟨rfl, rfl⟩ := h
          exact ⟨rfl, by omega, hc⟩
        · rw [if_neg hc] at h; cases h
    · rintro ⟨rfl, h2, h3⟩
      by_cases e : y = c
      · subst e; right; rw [if_pos h3]; exact List.mem_singleton.2 rfl
      · exact .inl ⟨rfl, by omega, h3⟩
theorem mem_nxTo {rs : List Int} {a b : Nat} {p : Nat × Nat} : ∀ k, p ∈ nxTo rs a b k ↔ p.1 < k ∧ p.2 < rs.length ∧ nxB rs a b p.1 p.2 = true
  | 0 => by simp [nxTo]
  | k + 1 => by
    have ih := mem_nxTo (rs := rs) (a := a) (b := b) (p := p) k
    show p ∈ nxTo rs a b k ++ nxIn rs a b k rs.length ↔ _
    rw [List.mem_append, ih, mem_nxIn]
    constructor
    · rintro (⟨h1, h2, h3⟩ | ⟨h1, h2, h3⟩)
      · exact ⟨by omega, h2, h3⟩
      · exact ⟨by omega, h2, h3⟩
    · rintro ⟨h1, h2, h3⟩
      by_cases e : p.1 = k
      · exact .inr ⟨e, h2, h3⟩
      · exact .inl ⟨by omega, h2, h3⟩
theorem mem_nxV {rs : List Int} {a b : Nat} {p : Nat × Nat} : p ∈ nxV rs a b ↔ p.1 < rs.length ∧ p.2 < rs.length ∧ nxB rs a b p.1 p.2 = true := mem_nxTo _
/-- Each of the slices lies in a block from B on. -/
def FreshV (B : Nat) (xs : List Value) : Prop := ∀ u ∈ xs, ∃ g n c, B ≤ g ∧ u = Value.slice (some ⟨g, 0, none⟩) n c
theorem FreshV.nil (B : Nat) : FreshV B [] := fun u h => by cases h
theorem FreshV.push {B g n c : Nat} {xs : List Value} (h : FreshV B xs) (hg : B ≤ g) : FreshV B (xs ++ [.slice (some ⟨g, 0, none⟩) n c]) := fun u hu => by
  rcases List.mem_append.1 hu with hu | hu
  · exact h u hu
  · rw [List.mem_singleton] at hu; exact ⟨g, n, c, hg, hu⟩


theorem ValsOf.at2 {w : World} {xs : List Value} {es : List (Nat × Nat)} (h : ValsOf w xs es) {k : Nat} {e : Nat × Nat} (he : es[k]? = some e) : ∃ g, xs[k]? = some (.slice (some ⟨g, 0, none⟩) 2 2) ∧ g < w.heap.size ∧ w.cell? ⟨g, 0, none⟩ = some (.int .i64 e.1) ∧ w.cell? ⟨g, 1, none⟩ = some (.int .i64 e.2) := by
  obtain ⟨g, h1, h2⟩ := h.2 k e he
  have k0 : Blk w g #[.int .i64 e.1, .int .i64 e.2] 3 := h2
  have c0 := k0.cell 0
  have c1 := k0.cell 1
  simp at c0 c1
  exact ⟨g, h1, k0.lt, c0, c1⟩

/-- The place of a pair. -/
def fdV (es : List (Nat × Nat)) (p : Nat × Nat) : Int := idxV (firstB (fun j => decide (es[j]? = some p)) es.length)
theorem fdV_neg {es : List (Nat × Nat)} {p : Nat × Nat} : fdV es p < 0 ↔ p ∉ es := by
  unfold fdV
  rcases hf : firstB (fun j => decide (es[j]? = some p)) es.length with _ | i
  · unfold firstB at hf
    rw [List.find?_eq_none] at hf
    refine ⟨fun _ hm => ?_, fun _ => by show (-1 : Int) < 0; decide⟩
    obtain ⟨i, hi, e⟩ := List.mem_iff_getElem.1 hm
    have := hf i (by simpa using hi)
    rw [List.getElem?_eq_getElem hi, e] at this
    simp at this
  · unfold firstB at hf
    rw [List.find?_range_eq_some] at hf
    obtain ⟨h1, -, -⟩ := hf
    have hm := List.mem_of_getElem? (of_decide_eq_true h1)
    exact ⟨fun h => absurd h (by show ¬((i : Int) < 0); omega), fun h => absurd hm h⟩


end Go.Proofs.YtjikmjhpmkakoaaGreatDoor

namespace Go.Proofs.YtjikmjhpmkakoaaGreatDoor
open Go.RowKit

end Go.Proofs.YtjikmjhpmkakoaaGreatDoor
