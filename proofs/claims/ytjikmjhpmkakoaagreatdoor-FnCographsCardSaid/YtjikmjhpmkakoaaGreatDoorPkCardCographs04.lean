/-
  Plain laws of the parts of a set of vertices: how they are grown, and what is closed under growing. The graph is right.
  Lists of integers that a call makes out of '[]int{}' and appends to beside other lists of its own: the empty list owns nothing, so it may count as made later.
  The walks of the laws' helpers on Graph: szGraph, toGraph, eqGraph. The rows are at most 2^20 where copies are made.
  The walks of the laws' helpers that write into results and read them again: markIntS, heldIntS. For lists of at most 2^20 elements.
-/
import Derived.Test.YtjikmjhpmkakoaaGreatDoorPkCardCographs03
import Derived.Test.YtjikmjhpmkakoaaGreatDoorPkCardCographs01
namespace Go.Proofs.YtjikmjhpmkakoaaGreatDoor
open Go.RowKit

/-! ### Sets as numbers -/
def subN (A B : Nat) : Prop := ∀ i, A.testBit i = true → B.testBit i = true
theorem subN_iff {A B : Nat} : subN A B ↔ A &&& B = A := by
  constructor
  · intro h
    apply Nat.eq_of_testBit_eq
    intro i
    have := h i
    rw [Nat.testBit_and]
    cases ha : A.testBit i
    · rfl
    · rw [this ha]; rfl
  · intro h i hi
    rw [← h, Nat.testBit_and] at hi
    simp at hi
    exact hi.2
theorem subN.refl (A : Nat) : subN A A := fun _ h => h
theorem subN.trans {A B C : Nat} (h : subN A B) (k : subN B C) : subN A C := fun i hi => k i (h i hi)
theorem subN.antisymm {A B : Nat} (h : subN A B) (k : subN B A) : A = B := by
  apply Nat.eq_of_testBit_eq
  intro i
  rw [Bool.eq_iff_iff]
  exact ⟨h i, k i⟩
theorem subN.le {A B : Nat} (h : subN A B) : A ≤ B := by rw [← subN_iff.1 h]; exact Nat.and_le_right
theorem cnt_lt_fin : ∀ a b : Fin 128, a.val &&& b.val = a.val → a.val ≠ b.val → cnt a.val < cnt b.val := by decide +kernel
theorem cnt_lt {A B : Nat} (hB : B < 128) (h : subN A B) (hne : A ≠ B) : cnt A < cnt B :=
  cnt_lt_fin ⟨A, by have := h.le; omega⟩ ⟨B, hB⟩ (subN_iff.1 h) hne
theorem cnt_mono {A B : Nat} (hB : B < 128) (h : subN A B) : cnt A ≤ cnt B := by
  by_cases e : A = B
  · rw [e]; exact Nat.le_refl _
  · exact Nat.le_of_lt (cnt_lt hB h e)
theorem cnt_leN {S N : Nat} (h : S < 2 ^ N) (hN : N ≤ 7) : cnt S ≤ N := by
  unfold cnt; rw [els_eq h hN]; unfold elsTo; exact Nat.le_trans (List.length_filter_le _ _) (by simp)
theorem pow_bit {v i : Nat} : (2 ^ v).testBit i = true ↔ v = i := by simp [Nat.testBit_two_pow]
theorem pow_sub {S v : Nat} (h : S.testBit v = true) : subN (2 ^ v) S := fun i hi => by rw [pow_bit] at hi; rw [← hi]; exact h
theorem cnt_pow_fin : ∀ v : Fin 7, cnt (2 ^ v.val) = 1 := by decide +kernel
theorem cnt_pow {v : Nat} (h : v < 7) : cnt (2 ^ v) = 1 := cnt_pow_fin ⟨v, h⟩
theorem bit7 {S v : Nat} (hS : S < 128) (h : S.testBit v = true) : v < 7 := testBit_lt (N := 7) hS h
theorem nDiff_sub (A B : Nat) : subN (nDiff A B) A := fun i hi => by rw [testBit_nDiff] at hi; simp at hi; exact hi.1
theorem nDiff_bit {A B i : Nat} : (nDiff A B).testBit i = true ↔ A.testBit i = true ∧ B.testBit i = false := by rw [testBit_nDiff]; simp
theorem nDiff_add_fin : ∀ a b : Fin 128, a.val &&& b.val = a.val → nDiff b.val a.val = b.val - a.val := by decide +kernel
theorem nDiff_minus {A B : Nat} (hB : B < 128) (h : subN A B) : nDiff B A = B - A := nDiff_add_fin ⟨A, by have := h.le; omega⟩ ⟨B, hB⟩ (subN_iff.1 h)
/-- The least member. -/
def low (S : Nat) : Nat := eln (els S) 0
theorem low_fin : ∀ s : Fin 128, s.val ≠ 0 → s.val.testBit (low s.val) = true ∧ low s.val < 7 ∧ 0 < (els s.val).length := by decide +kernel
theorem low_facts {S : Nat} (hS : S < 128) (h0 : S ≠ 0) : S.testBit (low S) = true ∧ low S < 7 ∧ 0 < (els S).length := low_fin ⟨S, hS⟩ h0

/-! ### Growing within a set -/
theorem around_bit {rs : List Int} {X i : Nat} (hX : X < 128) : (around rs X).testBit i = true ↔ X.testBit i = true ∨ ∃ a, X.testBit a = true ∧ (gn rs a).testBit i = true := by
  unfold around nbrs
  rw [Nat.testBit_or, testBit_orRows, Bool.or_eq_true, List.any_eq_true]
  constructor
  · rintro (h | ⟨a, h1, h2⟩)
    · exact .inl h
    · exact .inr ⟨a, (mem_els hX (Nat.le_refl 7)).1 h1, h2⟩
  · rintro (h | ⟨a, h1, h2⟩)
    · exact .inl h
    · exact .inr ⟨a, (mem_els hX (Nat.le_refl 7)).2 h1, h2⟩
def step (rs : List Int) (S X : Nat) : Nat := around rs X &&& S
def stepN (rs : List Int) (S X : Nat) : Nat → Nat
  | 0 => X
  | n + 1 => step rs S (stepN rs S X n)
theorem step_bit {rs : List Int} {S X i : Nat} (hX : X < 128) : (step rs S X).testBit i = true ↔ S.testBit i = true ∧ (X.testBit i = true ∨ ∃ a, X.testBit a = true ∧ (gn rs a).testBit i = true) := by
  unfold step
  rw [Nat.testBit_and, Bool.and_eq_true, around_bit hX]
  exact And.comm
theorem sub_step {rs : List Int} {S X : Nat} (hX : X < 128) (h : subN X S) : subN X (step rs S X) := fun i hi => (step_bit hX).2 ⟨h i hi, .inl hi⟩
theorem step_sub {rs : List Int} {S X : Nat} : subN (step rs S X) S := fun i hi => by unfold step at hi; rw [Nat.testBit_and] at hi; simp at hi; exact hi.2
theorem stepN_sub {rs : List Int} {S X : Nat} (h : subN X S) : ∀ n, subN (stepN rs S X n) S
  | 0 => h
  | _ + 1 => step_sub
theorem subN.lt {A B : Nat} (h : subN A B) {n : Nat} (hB : B < n) : A < n := Nat.lt_of_le_of_lt h.le hB
theorem stepN_lt {rs : List Int} {S X : Nat} (h : subN X S) (hS : S < 128) (n : Nat) : stepN rs S X n < 128 := (stepN_sub h n).lt hS
/-- As long as it grows it has one more each time. -/
theorem stepN_cnt {rs : List Int} {S X : Nat} (hS : S < 128) (h : subN X S) (h0 : 1 ≤ cnt X) : ∀ n, step rs S (stepN rs S X n) = stepN rs S X n ∨ n + 1 ≤ cnt (stepN rs S X n)
  | 0 => .inr h0
  | n + 1 => by
    show step rs S (step rs S (stepN rs S X n)) = step rs S (stepN rs S X n) ∨ n + 1 + 1 ≤ cnt (step rs S (stepN rs S X n))
    rcases stepN_cnt hS h h0 n with h1 | h1
    · left; rw [h1, h1]
    · by_cases h2 : step rs S (stepN rs S X n) = stepN rs S X n
      · left; rw [h2, h2]
      · right
        have h3 := sub_step (rs := rs) (stepN_lt h hS n) (stepN_sub (rs := rs) h n)
        have := cnt_lt (step_sub.lt hS) h3 (fun e => h2 e.symm)
        omega
theorem stepN_stay {rs : List Int} {S X k : Nat} (h : step rs S (stepN rs S X k) = stepN rs S X k) : ∀ j, k ≤ j → stepN rs S X j = stepN rs S X k
  | 0, hj => by obtain rfl : k = 0 := by omega
                rfl
  | j + 1, hj => by
    rcases Nat.lt_or_ge j k with h1 | h1
    · obtain rfl : k = j + 1 := by omega
      rfl
    · show step rs S (stepN rs S X j) = _
      rw [stepN_stay h j h1, h]
/-- What has grown as often as the graph has vertices. -/
def grow (rs : List Int) (X S : Nat) : Nat := stepN rs S X rs.length
theorem grow_fix {rs : List Int} (g : VG rs) {S X : Nat} (hS : S < 2 ^ rs.length) (h : subN X S) (h0 : 1 ≤ cnt X) : step rs S (grow rs X S) = grow rs X S := by
  have h7 : S < 128 := by have := g.pow.1; omega
  rcases stepN_cnt (rs := rs) h7 h h0 rs.length with h1 | h1
  · exact h1
  · have h2 := cnt_mono h7 (stepN_sub (rs := rs) h rs.length)
    have h3 := cnt_leN hS g.le
    omega
theorem grow_of_fix {rs : List Int} (g : VG rs) {S X k : Nat} (hS : S < 2 ^ rs.length) (h : subN X S) (h0 : 1 ≤ cnt X) (hk : step rs S (stepN rs S X k) = stepN rs S X k) : stepN rs S X k = grow rs X S := by
  rcases Nat.le_total k rs.length with h1 | h1
  · exact (stepN_stay hk _ h1).symm
  · exact stepN_stay (grow_fix g hS h h0) k h1
theorem grow_sub {rs : List Int} {S X : Nat} (h : subN X S) : subN (grow rs X S) S := stepN_sub h _
theorem sub_stepN {rs : List Int} {S X : Nat} (hS : S < 128) (h : subN X S) : ∀ n, subN X (stepN rs S X n)
  | 0 => subN.refl _
  | n + 1 => (sub_stepN hS h n).trans (sub_step (stepN_lt h hS n) (stepN_sub h n))

/-! ### What is closed -/
def shut (rs : List Int) (S C : Nat) : Prop := subN C S ∧ ∀ a b, C.testBit a = true → S.testBit b = true → (gn rs a).testBit b = true → C.testBit b = true
theorem shut_self (rs : List Int) (S : Nat) : shut rs S S := ⟨subN.refl _, fun _ _ _ h _ => h⟩
theorem shut_step {rs : List Int} {S C X : Nat} (hC : C < 128) (h : shut rs S C) (hX : subN X C) : subN (step rs S X) C := fun i hi => by
  rcases (step_bit (hX.lt hC)).1 hi with ⟨h1, h2 | ⟨a, h3, h4⟩⟩
  · exact hX i h2
  · exact h.2 a i (hX a h3) h1 h4
theorem shut_stepN {rs : List Int} {S C X : Nat} (hC : C < 128) (h : shut rs S C) (hX : subN X C) : ∀ n, subN (stepN rs S X n) C
  | 0 => hX
  | n + 1 => shut_step hC h (shut_stepN hC h hX n)
theorem shut_fix {rs : List Int} {S C : Nat} (hC : C < 128) (h : subN C S) (hf : step rs S C = C) : shut rs S C :=
  ⟨h, fun a b h1 h2 h3 => by rw [← hf]; exact (step_bit hC).2 ⟨h2, .inr ⟨a, h1, h3⟩⟩⟩
theorem shut_grow {rs : List Int} (g : VG rs) {S X : Nat} (hS : S < 2 ^ rs.length) (h : subN X S) (h0 : 1 ≤ cnt X) : shut rs S (grow rs X S) :=
  shut_fix ((grow_sub h).lt (by have := g.pow.1; omega)) (grow_sub h) (grow_fix g hS h h0)
theorem step_local {rs : List Int} {S C X : Nat} (hC : C < 128) (h : shut rs S C) (hX : subN X C) : step rs S X = step rs C X := by
  apply subN.antisymm
  · intro i hi
    have h1 := shut_step hC h hX i hi
    exact (step_bit (hX.lt hC)).2 ⟨h1, ((step_bit (hX.lt hC)).1 hi).2⟩
  · intro i hi
    have h1 := (step_bit (hX.lt hC)).1 hi
    exact (step_bit (hX.lt hC)).2 ⟨h.1 i h1.1, h1.2⟩
theorem stepN_local {rs : List Int} {S C X : Nat} (hC : C < 128) (h : shut rs S C) (hX : subN X C) : ∀ n, stepN rs S X n = stepN rs C X n
  | 0 => rfl
  | n + 1 => by
    show step rs S (stepN rs S X n) = step rs C (stepN rs C X n)
    rw [← stepN_local hC h hX n, step_local hC h (shut_stepN hC h hX n)]
theorem grow_local {rs : List Int} {S C X : Nat} (hC : C < 128) (h : shut rs S C) (hX : subN X C) : grow rs X S = grow rs X C := stepN_local hC h hX _
theorem shut_diff {rs : List Int} (g : VG rs) {S C D : Nat} (hS : S < 2 ^ rs.length) (h : shut rs S C) (k : shut rs S D) : shut rs S (nDiff C D) :=
  ⟨(nDiff_sub _ _).trans h.1, fun a b h1 h2 h3 => by
    obtain ⟨h4, h5⟩ := nDiff_bit.1 h1
    refine nDiff_bit.2 ⟨h.2 a b h4 h2 h3, ?_⟩
    cases h6 : D.testBit b
    · rfl
    · have ha : S.testBit a = true := h.1 a h4
      have h7 := k.2 b a h6 ha (by rw [g.sym b (testBit_lt hS h2) a (testBit_lt hS ha)]; exact h3)
      rw [h7] at h5; cases h5⟩
/-- One part: from whichever of its vertices it is grown. -/
theorem grow_same {rs : List Int} (g : VG rs) {S u v : Nat} (hS : S < 2 ^ rs.length) (hu : S.testBit u = true) (hv : (grow rs (2 ^ u) S).testBit v = true) : grow rs (2 ^ v) S = grow rs (2 ^ u) S := by
  have h7 : S < 128 := by have := g.pow.1; omega
  have hvS : S.testBit v = true := grow_sub (pow_sub hu) v hv
  have cu : 1 ≤ cnt (2 ^ u) := by rw [cnt_pow (bit7 h7 hu)]; exact Nat.le_refl _
  have cv : 1 ≤ cnt (2 ^ v) := by rw [cnt_pow (bit7 h7 hvS)]; exact Nat.le_refl _
  have su := shut_grow g hS (pow_sub hu) cu
  have sv := shut_grow g hS (pow_sub hvS) cv
  apply subN.antisymm
  · exact shut_stepN (su.1.lt h7) su (pow_sub hv) _
  · have hvv : (grow rs (2 ^ v) S).testBit v = true := sub_stepN h7 (pow_sub hvS) _ v (pow_bit.2 rfl)
    have huv : (grow rs (2 ^ v) S).testBit u = true := by
      cases h : (grow rs (2 ^ v) S).testBit u
      · exfalso
        have hd := shut_diff g hS (shut_self rs S) sv
        have := shut_stepN (hd.1.lt h7) hd (pow_sub (nDiff_bit.2 ⟨hu, h⟩)) rs.length v hv
        rw [(nDiff_bit.1 this).2] at hvv
        cases hvv
      · rfl
    exact shut_stepN (sv.1.lt h7) sv (pow_sub huv) _

/-! ### The parts, the one with the least vertex first -/
def partsF (rs : List Int) (S : Nat) : Nat → Nat → List Nat
  | 0, _ => []
  | f + 1, left => if left = 0 then [] else grow rs (2 ^ low left) S :: partsF rs S f (nDiff left (grow rs (2 ^ low left) S))
def partsOf (rs : List Int) (S : Nat) : List Nat := partsF rs S 7 S
theorem partsF_len (rs : List Int) (S : Nat) : ∀ f left, (partsF rs S f left).length ≤ f
  | 0, _ => by simp [partsF]
  | f + 1, left => by
    unfold partsF
    split
    · simp
    · have := partsF_len rs S f (nDiff left (grow rs (2 ^ low left) S)); simp; omega
theorem partsOf_len (rs : List Int) (S : Nat) : (partsOf rs S).length ≤ 7 := partsF_len rs S 7 S
theorem partsF_nil (rs : List Int) (S f : Nat) : partsF rs S f 0 = [] := by cases f <;> simp [partsF]
/-- What is done and what is left, between two rounds. -/
structure PartsAt (rs : List Int) (S : Nat) (done : List Nat) (left : Nat) : Prop where
  all : ∃ f, cnt left ≤ f ∧ partsOf rs S = done ++ partsF rs S f left
  shut : shut rs S left
  bits : ∀ v, S.testBit v = true ↔ left.testBit v = true ∨ ∃ P, P ∈ done ∧ P.testBit v = true
  each : ∀ P, P ∈ done → ∃ u, S.testBit u = true ∧ P = grow rs (2 ^ u) S
theorem PartsAt.start (rs : List Int) (S : Nat) : PartsAt rs S [] S :=
  ⟨⟨7, cnt_le S, rfl⟩, shut_self rs S, fun v => by simp, fun P h => by simp at h⟩
theorem PartsAt.len {rs : List Int} {S left : Nat} {done : List Nat} (h : PartsAt rs S done left) : done.length ≤ 7 := by
  obtain ⟨f, -, h1⟩ := h.all
  have := partsOf_len rs S
  rw [h1] at this
  simp at this; omega
/-- One round, when something is left. -/
theorem PartsAt.next {rs : List Int} (g : VG rs) {S left : Nat} {done : List Nat} (hS : S < 2 ^ rs.length) (h : PartsAt rs S done left) (h0 : left ≠ 0) :
    PartsAt rs S (done ++ [grow rs (2 ^ low left) S]) (nDiff left (grow rs (2 ^ low left) S)) ∧ subN (grow rs (2 ^ low left) S) left ∧ cnt (nDiff left (grow rs (2 ^ low left) S)) < cnt left ∧ grow rs (2 ^ low left) left = grow rs (2 ^ low left) S := by
  have h7 : S < 128 := by have := g.pow.1; omega
  have hl7 : left < 128 := h.shut.1.lt h7
  obtain ⟨l1, l2, -⟩ := low_facts hl7 h0
  have hS1 : S.testBit (low left) = true := h.shut.1 _ l1
  have hc : 1 ≤ cnt (2 ^ low left) := by rw [cnt_pow l2]; exact Nat.le_refl _
  have hsub : subN (grow rs (2 ^ low left) S) left := shut_stepN hl7 h.shut (pow_sub l1) _
  have hsh := shut_grow g hS (pow_sub hS1) hc
  have hlow : (grow rs (2 ^ low left) S).testBit (low left) = true := sub_stepN h7 (pow_sub hS1) _ _ (pow_bit.2 rfl)
  have hlt : cnt (nDiff left (grow rs (2 ^ low left) S)) < cnt left := cnt_lt hl7 (nDiff_sub _ _) (fun e => by
    rw [← e] at l1
    have := (nDiff_bit.1 l1).2
    rw [e] at this
    rw [hlow] at this; cases this)
  refine ⟨⟨?_, shut_diff g hS h.shut hsh, fun v => ?_, fun P hP => ?_⟩, hsub, hlt, (grow_local hl7 h.shut (pow_sub l1)).symm⟩
  · obtain ⟨f, h1, h2⟩ := h.all
    obtain ⟨f, rfl⟩ : ∃ f', f = f' + 1 := ⟨f - 1, by omega⟩
    refine ⟨f, by omega, ?_⟩
    rw [h2]
    show done ++ (if left = 0 then [] else _ :: _) = _
    rw [if_neg h0]; simp
  · rw [h.bits v]
    constructor
    · rintro (h1 | ⟨P, h1, h2⟩)
      · cases h3 : (grow rs (2 ^ low left) S).testBit v
        · exact .inl (nDiff_bit.2 ⟨h1, h3⟩)
        · exact .inr ⟨_, by simp, h3⟩
      · exact .inr ⟨P, by simp [h1], h2⟩
    · rintro (h1 | ⟨P, h1, h2⟩)
      · exact .inl (nDiff_bit.1 h1).1
      · simp only [List.mem_append, List.mem_singleton] at h1
        rcases h1 with h1 | rfl
        · exact .inr ⟨P, h1, h2⟩
        · exact .inl (hsub v h2)
  · simp only [List.mem_append, List.mem_singleton] at hP
    rcases hP with h1 | rfl
    · exact h.each P h1
    · exact ⟨_, hS1, rfl⟩
theorem PartsAt.done {rs : List Int} {S : Nat} {done : List Nat} (h : PartsAt rs S done 0) : done = partsOf rs S := by
  obtain ⟨f, -, h1⟩ := h.all
  rw [h1, partsF_nil]; simp
/-- Each vertex lies in a part, each part is grown from one of the set. -/
theorem partsAt_end {rs : List Int} (g : VG rs) {S : Nat} (hS : S < 2 ^ rs.length) : PartsAt rs S (partsOf rs S) 0 := by
  have key : ∀ n left done, cnt left ≤ n → PartsAt rs S done left → ∃ d, PartsAt rs S d 0 := by
    intro n
    induction n with
    | zero =>
      intro left done hn h
      by_cases h0 : left = 0
      · subst h0; exact ⟨_, h⟩
      · have := h.next g hS h0; omega
    | succ n ih =>
      intro left done hn h
      by_cases h0 : left = 0
      · subst h0; exact ⟨_, h⟩
      · obtain ⟨h1, -, h2, -⟩ := h.next g hS h0
        exact ih _ _ (by omega) h1
  obtain ⟨d, h⟩ := key _ _ _ (Nat.le_refl _) (PartsAt.start rs S)
  rw [← h.done]; exact h

/-! ### Distances -/
theorem all_bit {N i : Nat} : (2 ^ N - 1).testBit i = true ↔ i < N := by simp
theorem sub_all {S N : Nat} (h : S < 2 ^ N) : subN S (2 ^ N - 1) := fun _ hi => all_bit.2 (testBit_lt h hi)
theorem all_lt (N : Nat) : 2 ^ N - 1 < 2 ^ N := by have := Nat.two_pow_pos N; omega
end Go.Proofs.YtjikmjhpmkakoaaGreatDoor

namespace Go.Proofs.YtjikmjhpmkakoaaGreatDoor
open Go.RowKit

/-- The call's own list from block 'base' on, or an empty one without room. -/
def OwnE (w : World) (base : Nat) (ao : Option Addr) (cap : Nat) (xs : List Int) : Prop := OwnL w base (.slice ao xs.length cap) xs ∨ (xs = [] ∧ cap = 0 ∧ ao ≠ none)
theorem OwnE.below {w w' : World} {base cap : Nat} {ao : Option Addr} {xs : List Int} (h : OwnE w base ao cap xs) (hb : Below w.heap.size w w') : OwnE w' base ao cap xs :=
  h.imp (fun h => h.below hb) id
theorem OwnE.later {W : World} {base cap : Nat} {ao : Option Addr} {xs : List Int} (h : OwnE W base ao cap xs) (m : Later W) : OwnE m.w base ao cap xs := h.below m.below
theorem OwnE.ints {w : World} {base cap : Nat} {ao : Option Addr} {xs : List Int} (h : OwnE w base ao cap xs) : IntsAt w ao xs := by
  rcases h with h | ⟨rfl, -, -⟩
  · exact h.ints
  · exact fun h0 => absurd h0 (by simp)
theorem OwnE.empty (w : World) (base : Nat) (a : Addr) : OwnE w base (some a) 0 [] := .inr ⟨rfl, rfl, by simp⟩
theorem OwnE.own {w : World} {base cap : Nat} {ao : Option Addr} {xs : List Int} (h : OwnL w base (.slice ao xs.length cap) xs) : OwnE w base ao cap xs := .inl h

/-- 'out = append(out, y)'. -/
theorem wpList_append_e {ops : Array Oper} {rest : List Oper} {o : Oper} {a : Act} {Q : Exit → Act → World → Prop} {w : World} (hgd : o.guard = none) (s x : Operand)
    (ho : o.op = .call { callee := .builtin .append, args := #[s, x], argTypes := #[24, 24] })
    (base cap : Nat) (ao : Option Addr) (xs : List Int) (y : Int) (hs : a.eval s = .slice ao xs.length cap) (hown : OwnE w base ao cap xs) (hx : a.eval x = .slice (some ⟨w.heap.size, 0, none⟩) 1 1) (hbase : base ≤ w.heap.size) (hlen : xs.length ≤ 1048576)
    (h : ∀ ao' cap' w', OwnE w' base ao' cap' (xs ++ [y]) → Below base w w' → wpList Tryz.prog ops Q rest (a.put o.dst (.slice ao' (xs.length + 1) cap')) w') :
    wpList Tryz.prog ops Q (o :: rest) a (w.alloc (.cells #[.int .i64 y] 3)) := by
  have he : (xs ++ [y]).length = xs.length + 1 := by simp
  rcases hown with hown | ⟨rfl, rfl, hne⟩
  · exact wpList_append_int hgd s x ho base _ xs y hs hown hx hbase hlen fun ao' cap' w' h1 h2 => h ao' cap' w' (.inl (by rw [he]; exact h1)) h2
  · obtain ⟨i0, hi, hz0, hz1, hz2⟩ := info_parts info_int
    refine wpList_append_grows (w.alloc (.cells #[.int .i64 y] 3)) hgd s x 24 ho 3 i0 (.int .i64 0) 1 8 Tryz.underlying24 hi hz0 hz1 hz2 rfl (by decide) ao 0 0 [] hs (fun _ => ⟨rfl, rfl⟩) rfl (by simp)
      ⟨w.heap.size, 0, none⟩ 1 1 [.int .i64 y] hx rfl ?_ ?_ (by omega) (by unfold maxLen; omega) (by omega) ?_
    · intro j u hj
      match j, hj with
      | 0, hj => simp at hj; subst hj; simp [Addr.add]
    · intro u hu; simp at hu; subst hu; rfl
    · intro v' w' h1 h2
      have hb : Below base w (w.alloc (.cells #[.int .i64 y] 3)) := (Below.refl _ _).alloc hbase _
      have h3 : OwnL w' base v' [y] := by
        have : OwnL w' (w.heap.size + 1) v' [y] := by unfold OwnL; simpa using h1
        exact this.mono (by omega)
      obtain ⟨ao', cap', rfl⟩ := h3.form
      exact h ao' cap' w' (.inl h3) (hb.grown h2 (by simp; omega) (fun k hk => by cases hk))

/-- The same at an operation, whatever lies at the world at hand: the element stands in a block of its own. -/
theorem wp_append_e {o : Oper} {a : Act} {K : Act → World → Prop} {Q : Exit → Act → World → Prop} {w : World} (s x : Operand)
    (ho : o.op = .call { callee := .builtin .append, args := #[s, x], argTypes := #[24, 24] })
    (base cap : Nat) (ao : Option Addr) (xs : List Int) (y : Int) (B : Nat) (hs : a.eval s = .slice ao xs.length cap) (hown : OwnE w base ao cap xs) (hx : a.eval x = .slice (some ⟨B, 0, none⟩) 1 1)
    (hc : w.cell? ⟨B, 0, none⟩ = some (.int .i64 y)) (hbase : base ≤ w.heap.size) (hlen : xs.length ≤ 1048576)
    (h : ∀ ao' cap' w', OwnE w' base ao' cap' (xs ++ [y]) → Below base w w' → K (a.put o.dst (.slice ao' (xs.length + 1) cap')) w') : o.wp Tryz.prog a w K Q := by
  have he : (xs ++ [y]).length = xs.length + 1 := by simp
  have hnews : ∀ j u, [Value.int .i64 y][j]? = some u → w.cell? ((⟨B, 0, none⟩ : Addr).add j) = some u := by
    intro j u hj
    match j, hj with
    | 0, hj => simp at hj; subst hj; simpa [Addr.add] using hc
  have h1 : ∀ u ∈ [Value.int .i64 y], u.oneCell' = true := by intro u hu; simp at hu; subst hu; rfl
  obtain ⟨i0, hi, hz0, hz1, hz2⟩ := info_parts info_int
  rcases hown with hown | ⟨rfl, rfl, hne⟩
  · refine wp_append_own w s x 24 ho base 3 i0 (.int .i64 0) 1 8 Tryz.underlying24 hi hz0 hz1 hz2 rfl (by decide) (.slice ao xs.length cap) xs.length (xs.map (Value.int .i64)) hs hown
      ⟨B, 0, none⟩ 1 1 [.int .i64 y] hx rfl hnews h1 (by unfold maxLen; omega) (by omega) hbase ?_
    intro v' w' h1 h2 _
    have h3 : OwnL w' base v' (xs ++ [y]) := by unfold OwnL; simpa using h1
    obtain ⟨ao', cap', rfl⟩ := h3.form
    rw [he] at h3 ⊢
    refine h ao' cap' w' (.inl (by rw [he]; exact h3)) ?_
    exact (Below.refl base w).grown h2 hbase (fun k hk => (hown.lt k hk).1)
  · obtain ⟨b, rfl⟩ := Option.ne_none_iff_exists'.1 hne
    obtain ⟨v', w', hrun, r1, r2⟩ := run_append_arg_grows (P := Tryz.prog) w 24 o.type 3 i0 (.int .i64 0) 1 8 Tryz.underlying24 hi hz0 hz1 hz2 rfl (by decide) b 0 0 [] rfl (by simp) ⟨B, 0, none⟩ 1 1 [.int .i64 y] rfl hnews (by omega) (by unfold maxLen; omega) (by omega)
    have h3 : OwnL w' base v' [y] := by
      have : OwnL w' w.heap.size v' [y] := by unfold OwnL; simpa using r1
      exact this.mono hbase
    obtain ⟨ao', cap', rfl⟩ := h3.form
    have hs' : a.eval s = .slice (some b) 0 0 := hs
    unfold Oper.wp
    simp only [execOp, ho, resolve, invoke, builtin, Sem.run_bind, Sem.run_pure, Result.andThen_ok, List.map_toArray, List.map_cons, List.map_nil, hs', hx, hrun]
    exact h ao' cap' w' (.inl h3) ((Below.refl base w).grown r2 hbase (fun k hk => by cases hk))
/-- At a step of a region that draws its order. -/
theorem step_append_e {ops : Array Oper} {o : Oper} {a : Act} {K : Act → World → Prop} {Q : Exit → Act → World → Prop} {E : Prop} {w : World} (hgd : o.guard = none) (s x : Operand)
    (ho : o.op = .call { callee := .builtin .append, args := #[s, x], argTypes := #[24, 24] })
    (base cap : Nat) (ao : Option Addr) (xs : List Int) (y : Int) (B : Nat) (hs : a.eval s = .slice ao xs.length cap) (hown : OwnE w base ao cap xs) (hx : a.eval x = .slice (some ⟨B, 0, none⟩) 1 1)
    (hc : w.cell? ⟨B, 0, none⟩ = some (.int .i64 y)) (hbase : base ≤ w.heap.size) (hlen : xs.length ≤ 1048576)
    (h : ∀ ao' cap' w', OwnE w' base ao' cap' (xs ++ [y]) → Below base w w' → K (a.put o.dst (.slice ao' (xs.length + 1) cap')) w') :
    if Region.wanted o (yielded ops a.tmps) = true then Oper.wp Tryz.prog o a w K Q else E := by
  have hw : Region.wanted o (yielded ops a.tmps) = true := by simp [Region.wanted, hgd]
  rw [if_pos hw]
  exact wp_append_e s x ho base cap ao xs y B hs hown hx hc hbase hlen h

theorem cell_new {w : World} {b : Nat} {v : Value} {t : TypeId} (hb : b = w.heap.size) : (w.alloc (.cells #[v] t)).cell? ⟨b, 0, none⟩ = some v := by subst hb; exact cell_of_one (heap_alloc_new _ _)
/-- 'append([]int{}, l...)': a copy of l. -/
theorem wp_append_copy {o : Oper} {a : Act} {K : Act → World → Prop} {Q : Exit → Act → World → Prop} {w : World} (s x : Operand)
    (ho : o.op = .call { callee := .builtin .append, args := #[s, x], argTypes := #[24, 24] })
    (base B : Nat) (la : Addr) (l : List Int) (lc : Nat) (hs : a.eval s = .slice (some ⟨B, 0, none⟩) 0 0) (hx : a.eval x = .slice (some la) l.length lc) (hi : IntsAt w (some la) l) (hbase : base ≤ w.heap.size) (hlen : l.length ≤ 1048576)
    (h : ∀ ao' cap' w', ao' ≠ none → OwnE w' base ao' cap' l → Below w.heap.size w w' → K (a.put o.dst (.slice ao' l.length cap')) w') : o.wp Tryz.prog a w K Q := by
  obtain ⟨i0, hi', hz0, hz1, hz2⟩ := info_parts info_int
  by_cases h0 : l.length = 0
  · obtain rfl : l = [] := List.eq_nil_of_length_eq_zero h0
    have hrun := run_append_room_cells (P := Tryz.prog) w 24 o.type 3 i0 Tryz.underlying24 hi' B 0 0 0 la 0 lc [] (by simp) (by simp) (by simp) (Nat.le_refl _) (by simp) (by simp)
    unfold Oper.wp
    simp only [execOp, ho, resolve, invoke, builtin, Sem.run_bind, Sem.run_pure, Result.andThen_ok, List.map_toArray, List.map_cons, List.map_nil, hs, hx]
    simp only [List.length_nil]
    rw [hrun]
    exact h _ _ _ (by simp) (OwnE.empty _ _ _) (Below.refl _ _)
  · obtain ⟨b, off, he, hlt, hc⟩ := hi (by omega)
    simp only [Option.some.injEq] at he
    subst he
    have hnews : ∀ j u, (l.map (Value.int .i64))[j]? = some u → w.cell? ((⟨b, off, none⟩ : Addr).add j) = some u := by
      intro j u hj
      rw [List.getElem?_map, Option.map_eq_some_iff] at hj
      obtain ⟨z, hz, rfl⟩ := hj
      obtain ⟨hjl, rfl⟩ := List.getElem?_eq_some_iff.1 hz
      have := hc j hjl
      rw [show gi l j = l[j] by simp [gi, hjl]] at this
      have e2 : (⟨b, off, none⟩ : Addr).add j = ⟨b, off + j, none⟩ := by unfold Addr.add; split <;> simp_all
      rw [← this, e2]
    obtain ⟨v', w', hrun, r1, r2⟩ := run_append_arg_grows (P := Tryz.prog) w 24 o.type 3 i0 (.int .i64 0) 1 8 Tryz.underlying24 hi' hz0 hz1 hz2 rfl (by decide) ⟨B, 0, none⟩ 0 0 [] rfl (by simp) ⟨b, off, none⟩ l.length lc (l.map (Value.int .i64)) (by simp) hnews (by omega) (by unfold maxLen; omega) (by omega)
    have h3 : OwnL w' w.heap.size v' l := by unfold OwnL; simpa using r1
    obtain ⟨ao', cap', rfl⟩ := h3.form
    have hne : ao' ≠ none := by obtain ⟨_, _, e, _, _⟩ := h3.ints (by omega); rw [e]; simp
    unfold Oper.wp
    simp only [execOp, ho, resolve, invoke, builtin, Sem.run_bind, Sem.run_pure, Result.andThen_ok, List.map_toArray, List.map_cons, List.map_nil, hs, hx, hrun]
    exact h ao' cap' w' hne (.inl (h3.mono hbase)) ((Below.refl _ w).grown r2 (Nat.le_refl _) (fun k hk => by cases hk))
/-- The same at a step of a region that draws its order. -/
theorem step_append_copy {ops : Array Oper} {o : Oper} {a : Act} {K : Act → World → Prop} {Q : Exit → Act → World → Prop} {E : Prop} {w : World} (hgd : o.guard = none) (s x : Operand)
    (ho : o.op = .call { callee := .builtin .append, args := #[s, x], argTypes := #[24, 24] })
    (base B : Nat) (la : Addr) (l : List Int) (lc : Nat) (hs : a.eval s = .slice (some ⟨B, 0, none⟩) 0 0) (hx : a.eval x = .slice (some la) l.length lc) (hi : IntsAt w (some la) l) (hbase : base ≤ w.heap.size) (hlen : l.length ≤ 1048576)
    (h : ∀ ao' cap' w', ao' ≠ none → OwnE w' base ao' cap' l → Below w.heap.size w w' → K (a.put o.dst (.slice ao' l.length cap')) w') :
    if Region.wanted o (yielded ops a.tmps) = true then Oper.wp Tryz.prog o a w K Q else E := by
  have hw : Region.wanted o (yielded ops a.tmps) = true := by simp [Region.wanted, hgd]
  rw [if_pos hw]
  exact wp_append_copy s x ho base B la l lc hs hx hi hbase hlen h

end Go.Proofs.YtjikmjhpmkakoaaGreatDoor

namespace Go.Proofs.YtjikmjhpmkakoaaGreatDoor
open Go.RowKit

end Go.Proofs.YtjikmjhpmkakoaaGreatDoor

namespace Go.Proofs.YtjikmjhpmkakoaaGreatDoor
open Go.RowKit

theorem wpList_append_cp {ops : Array Oper} {rest : List Oper} {o : Oper} {a : Act} {Q : Exit → Act → World → Prop} {w : World} (hgd : o.guard = none) (s x : Operand)
    (ho : o.op = .call { callee := .builtin .append, args := #[s, x], argTypes := #[24, 24] })
    (base B : Nat) (la : Addr) (l : List Int) (lc : Nat) (hs : a.eval s = .slice (some ⟨B, 0, none⟩) 0 0) (hx : a.eval x = .slice (some la) l.length lc) (hi : IntsAt w (some la) l) (hbase : base ≤ w.heap.size) (hlen : l.length ≤ 1048576)
    (h : ∀ ao' cap' w', ao' ≠ none → OwnE w' base ao' cap' l → Below w.heap.size w w' → wpList Tryz.prog ops Q rest (a.put o.dst (.slice ao' l.length cap')) w') : wpList Tryz.prog ops Q (o :: rest) a w :=
  wpList_plain hgd fun _ hK => wp_append_copy s x ho base B la l lc hs hx hi hbase hlen fun ao' cap' w' h1 h2 h3 => hK _ _ (h ao' cap' w' h1 h2 h3)
theorem OwnE.room' {w : World} {base cap : Nat} {ao : Option Addr} {xs : List Int} (h : OwnE w base ao cap xs) : xs.length ≤ cap := by
  rcases h with ⟨hl, ⟨h1, h2⟩ | ⟨g, cp, cur, hv, hg, hb, hn, hm, hsz, ht⟩⟩ | ⟨rfl, -, -⟩
  · omega
  · simp only [Value.slice.injEq] at hv
    omega
  · simp
theorem OwnE.mono' {w : World} {base base' cap : Nat} {ao : Option Addr} {xs : List Int} (h : OwnE w base ao cap xs) (hb : base' ≤ base) : OwnE w base' ao cap xs := h.imp (fun h => h.mono hb) id

/-- A row of integers: block g begins with xs, nothing frozen. -/
def RowAt (w : World) (g cap : Nat) (xs : List Int) : Prop := ∃ cur, Blk w g cur 3 ∧ xs.length ≤ cap ∧ cap ≤ maxLen ∧ cur.size = cap * 1 ∧ cur.toList.take (xs.length * 1) = xs.map (Value.int .i64)
theorem RowAt.cell {w : World} {g cap : Nat} {xs : List Int} (h : RowAt w g cap xs) (k : Nat) (hk : k < xs.length) : w.cell? ⟨g, k, none⟩ = some (.int .i64 (gi xs k)) := by
  obtain ⟨cur, hb, hn, hm, hs, ht⟩ := h
  rw [hb.cell]
  have e : (cur.toList.take (xs.length * 1))[k]? = (xs.map (Value.int .i64))[k]? := by rw [ht]
  rw [List.getElem?_take, if_pos (by omega), Array.getElem?_toList] at e
  rw [e]; simp [gi, hk]
theorem RowAt.frozen {w : World} {g cap : Nat} {xs : List Int} (h : RowAt w g cap xs) (k : Nat) : w.frozen? ⟨g, k, none⟩ = false := by obtain ⟨cur, hb, _⟩ := h; exact hb.frozen k
theorem RowAt.lt {w : World} {g cap : Nat} {xs : List Int} (h : RowAt w g cap xs) : g < w.heap.size := by obtain ⟨cur, hb, _⟩ := h; exact hb.lt
theorem RowAt.store {w : World} {g cap : Nat} {xs : List Int} (h : RowAt w g cap xs) (k : Nat) (x : Int) : RowAt (w.setCell ⟨g, k, none⟩ (.int .i64 x)) g cap (xs.set k x) := by
  obtain ⟨cur, hb, hn, hm, hs, ht⟩ := h
  refine ⟨_, hb.store k _, by simpa using hn, hm, by simpa using hs, ?_⟩
  rw [Array.toList_setIfInBounds, List.length_set, List.take_set, ht, List.map_set]
theorem RowAt.of {w : World} {b : Nat} {xs : List Int} (h : OwnInts w b xs) (hn : xs.length ≤ 1048576) : RowAt w b xs.length xs :=
  ⟨_, h, Nat.le_refl _, by unfold maxLen; omega, by rw [intRow_size, Nat.mul_one], by simp only [intRow, Nat.mul_one]; exact List.take_of_length_le (by simp)⟩
theorem OwnE.row {w : World} {base cap : Nat} {ao : Option Addr} {xs : List Int} (h : OwnE w base ao cap xs) (h0 : 0 < xs.length) : ∃ g, ao = some ⟨g, 0, none⟩ ∧ base ≤ g ∧ RowAt w g cap xs := by
  rcases h with ⟨hl, ⟨h1, h2⟩ | ⟨g, cp, cur, hv, hg, hb, hn, hm, hsz, ht⟩⟩ | ⟨rfl, -, -⟩
  · omega
  · simp only [Value.slice.injEq] at hv
    obtain ⟨rfl, -, rfl⟩ := hv
    exact ⟨g, rfl, hg, cur, hb, hn, hm, hsz, ht⟩
  · simp at h0
theorem RowAt.own {w : World} {base g cap : Nat} {xs : List Int} (h : RowAt w g cap xs) (hb : base ≤ g) : OwnE w base (some ⟨g, 0, none⟩) cap xs := by
  obtain ⟨cur, h1, h2, h3, h4, h5⟩ := h
  exact .inl ⟨by simp, .inr ⟨g, cap, cur, rfl, hb, h1, h2, h3, h4, h5⟩⟩

/-- The slice address ao reads as the integers xs, out of a block below B. -/
def IntsU (B : Nat) (w : World) (ao : Option Addr) (xs : List Int) : Prop :=
  0 < xs.length → ∃ b off, ao = some ⟨b, off, none⟩ ∧ b < B ∧ b < w.heap.size ∧ ∀ k, k < xs.length → w.cell? ⟨b, off + k, none⟩ = some (.int .i64 (gi xs k))
theorem IntsAt.upto {w : World} {ao : Option Addr} {xs : List Int} (h : IntsAt w ao xs) : IntsU w.heap.size w ao xs := fun h0 => by
  obtain ⟨b, off, h1, h2, h3⟩ := h h0
  exact ⟨b, off, h1, h2, h2, h3⟩
theorem IntsU.ints {B : Nat} {w : World} {ao : Option Addr} {xs : List Int} (h : IntsU B w ao xs) : IntsAt w ao xs := fun h0 => by
  obtain ⟨b, off, h1, _, h2, h3⟩ := h h0
  exact ⟨b, off, h1, h2, h3⟩
theorem IntsU.mono {B B' : Nat} {w : World} {ao : Option Addr} {xs : List Int} (h : IntsU B w ao xs) (hB : B ≤ B') : IntsU B' w ao xs := fun h0 => by
  obtain ⟨b, off, h1, h2, h3⟩ := h h0
  exact ⟨b, off, h1, by omega, h3⟩
theorem IntsU.below {B B' : Nat} {w w' : World} {ao : Option Addr} {xs : List Int} (h : IntsU B w ao xs) (hb : Below B' w w') (hB : B ≤ B') : IntsU B w' ao xs := fun h0 => by
  obtain ⟨b, off, h1, h2, h3, h4⟩ := h h0
  exact ⟨b, off, h1, h2, Nat.lt_of_lt_of_le h3 hb.size, fun k hk => by rw [hb.cell (p := ⟨b, off + k, none⟩) (Nat.lt_of_lt_of_le h2 hB)]; exact h4 k hk⟩
theorem IntsU.later {B : Nat} {W : World} {ao : Option Addr} {xs : List Int} (h : IntsU B W ao xs) (m : Later W) : IntsU B m.w ao xs := fun h0 => by
  obtain ⟨b, off, h1, h2, h3, h4⟩ := h h0
  exact ⟨b, off, h1, h2, Nat.lt_of_lt_of_le h3 m.size, fun k hk => by rw [m.below.cell (p := ⟨b, off + k, none⟩) h3]; exact h4 k hk⟩
theorem IntsU.only {B : Nat} {X : Nat → Prop} {w w' : World} {ao : Option Addr} {xs : List Int} (h : IntsU B w ao xs) (hb : Only X w.heap.size w w') (hX : ∀ b, b < B → ¬X b) : IntsU B w' ao xs := fun h0 => by
  obtain ⟨b, off, h1, h2, h3, h4⟩ := h h0
  exact ⟨b, off, h1, h2, Nat.lt_of_lt_of_le h3 hb.size, fun k hk => by rw [hb.cell (p := ⟨b, off + k, none⟩) h3 (hX b h2)]; exact h4 k hk⟩

end Go.Proofs.YtjikmjhpmkakoaaGreatDoor
