/-
  Plain laws of the parts of a set of vertices: how they are grown, and what is closed under growing. The graph is right.
-/
import Derived.Test.YtjikmjhpmkakoaaGreatDoorPkCardHereditary03
namespace Go.Proofs.YtjikmjhpmkakoaaGreatDoor
open Go.RowKit

/-! ### Sets as numbers -/
def subN (A B : Nat) : Prop := ∀ i, A.testBit i = true → B.testBit i = true
theorem subN_iff {A B : Nat} : subN A B ↔ A &&& B = A := by
  constructor
  · intro h
    apply Nat.eq_of_testBit_eq
    intro i
    have := h i
    rw [Nat.testBit_and]
    cases ha : A.testBit i
    · rfl
    · rw [this ha]; rfl
  · intro h i hi
    rw [← h, Nat.testBit_and] at hi
    simp at hi
    exact hi.2
theorem subN.refl (A : Nat) : subN A A := fun _ h => h
theorem subN.trans {A B C : Nat} (h : subN A B) (k : subN B C) : subN A C := fun i hi => k i (h i hi)
theorem subN.antisymm {A B : Nat} (h : subN A B) (k : subN B A) : A = B := by
  apply Nat.eq_of_testBit_eq
  intro i
  rw [Bool.eq_iff_iff]
  exact ⟨h i, k i⟩
theorem subN.le {A B : Nat} (h : subN A B) : A ≤ B := by rw [← subN_iff.1 h]; exact Nat.and_le_right
theorem cnt_lt_fin : ∀ a b : Fin 128, a.val &&& b.val = a.val → a.val ≠ b.val → cnt a.val < cnt b.val := by decide +kernel
theorem cnt_lt {A B : Nat} (hB : B < 128) (h : subN A B) (hne : A ≠ B) : cnt A < cnt B :=
  cnt_lt_fin ⟨A, by have := h.le; omega⟩ ⟨B, hB⟩ (subN_iff.1 h) hne
theorem cnt_mono {A B : Nat} (hB : B < 128) (h : subN A B) : cnt A ≤ cnt B := by
  by_cases e : A = B
  · rw [e]; exact Nat.le_refl _
  · exact Nat.le_of_lt (cnt_lt hB h e)
theorem cnt_leN {S N : Nat} (h : S < 2 ^ N) (hN : N ≤ 7) : cnt S ≤ N := by
  unfold cnt; rw [els_eq h hN]; unfold elsTo; exact Nat.le_trans (List.length_filter_le _ _) (by simp)
theorem pow_bit {v i : Nat} : (2 ^ v).testBit i = true ↔ v = i := by simp [Nat.testBit_two_pow]
theorem pow_sub {S v : Nat} (h : S.testBit v = true) : subN (2 ^ v) S := fun i hi => by rw [pow_bit] at hi; rw [← hi]; exact h
theorem cnt_pow_fin : ∀ v : Fin 7, cnt (2 ^ v.val) = 1 := by decide +kernel
theorem cnt_pow {v : Nat} (h : v < 7) : cnt (2 ^ v) = 1 := cnt_pow_fin ⟨v, h⟩
theorem bit7 {S v : Nat} (hS : S < 128) (h : S.testBit v = true) : v < 7 := testBit_lt (N := 7) hS h
theorem nDiff_sub (A B : Nat) : subN (nDiff A B) A := fun i hi => by rw [testBit_nDiff] at hi; simp at hi; exact hi.1
theorem nDiff_bit {A B i : Nat} : (nDiff A B).testBit i = true ↔ A.testBit i = true ∧ B.testBit i = false := by rw [testBit_nDiff]; simp
theorem nDiff_add_fin : ∀ a b : Fin 128, a.val &&& b.val = a.val → nDiff b.val a.val = b.val - a.val := by decide +kernel
theorem nDiff_minus {A B : Nat} (hB : B < 128) (h : subN A B) : nDiff B A = B - A := nDiff_add_fin ⟨A, by have := h.le; omega⟩ ⟨B, hB⟩ (subN_iff.1 h)
/-- The least member. -/
def low (S : Nat) : Nat := eln (els S) 0
theorem low_fin : ∀ s : Fin 128, s.val ≠ 0 → s.val.testBit (low s.val) = true ∧ low s.val < 7 ∧ 0 < (els s.val).length := by decide +kernel
theorem low_facts {S : Nat} (hS : S < 128) (h0 : S ≠ 0) : S.testBit (low S) = true ∧ low S < 7 ∧ 0 < (els S).length := low_fin ⟨S, hS⟩ h0

/-! ### Growing within a set -/
theorem around_bit {rs : List Int} {X i : Nat} (hX : X < 128) : (around rs X).testBit i = true ↔ X.testBit i = true ∨ ∃ a, X.testBit a = true ∧ (gn rs a).testBit i = true := by
  unfold around nbrs
  rw [Nat.testBit_or, testBit_orRows, Bool.or_eq_true, List.any_eq_true]
  constructor
  · rintro (h | ⟨a, h1, h2⟩)
    · exact .inl h
    · exact .inr ⟨a, (mem_els hX (Nat.le_refl 7)).1 h1, h2⟩
  · rintro (h | ⟨a, h1, h2⟩)
    · exact .inl h
    · exact .inr ⟨a, (mem_els hX (Nat.le_refl 7)).2 h1, h2⟩
def step (rs : List Int) (S X : Nat) : Nat := around rs X &&& S
def stepN (rs : List Int) (S X : Nat) : Nat → Nat
  | 0 => X
  | n + 1 => step rs S (stepN rs S X n)
theorem step_bit {rs : List Int} {S X i : Nat} (hX : X < 128) : (step rs S X).testBit i = true ↔ S.testBit i = true ∧ (X.testBit i = true ∨ ∃ a, X.testBit a = true ∧ (gn rs a).testBit i = true) := by
  unfold step
  rw [Nat.testBit_and, Bool.and_eq_true, around_bit hX]
  exact And.comm
theorem sub_step {rs : List Int} {S X : Nat} (hX : X < 128) (h : subN X S) : subN X (step rs S X) := fun i hi => (step_bit hX).2 ⟨h i hi, .inl hi⟩
theorem step_sub {rs : List Int} {S X : Nat} : subN (step rs S X) S := fun i hi => by unfold step at hi; rw [Nat.testBit_and] at hi; simp at hi; exact hi.2
theorem stepN_sub {rs : List Int} {S X : Nat} (h : subN X S) : ∀ n, subN (stepN rs S X n) S
  | 0 => h
  | _ + 1 => step_sub
theorem subN.lt {A B : Nat} (h : subN A B) {n : Nat} (hB : B < n) : A < n := Nat.lt_of_le_of_lt h.le hB
theorem stepN_lt {rs : List Int} {S X : Nat} (h : subN X S) (hS : S < 128) (n : Nat) : stepN rs S X n < 128 := (stepN_sub h n).lt hS
/-- As long as it grows it has one more each time. -/
theorem stepN_cnt {rs : List Int} {S X : Nat} (hS : S < 128) (h : subN X S) (h0 : 1 ≤ cnt X) : ∀ n, step rs S (stepN rs S X n) = stepN rs S X n ∨ n + 1 ≤ cnt (stepN rs S X n)
  | 0 => .inr h0
  | n + 1 => by
    show step rs S (step rs S (stepN rs S X n)) = step rs S (stepN rs S X n) ∨ n + 1 + 1 ≤ cnt (step rs S (stepN rs S X n))
    rcases stepN_cnt hS h h0 n with h1 | h1
    · left; rw [h1, h1]
    · by_cases h2 : step rs S (stepN rs S X n) = stepN rs S X n
      · left; rw [h2, h2]
      · right
        have h3 := sub_step (rs := rs) (stepN_lt h hS n) (stepN_sub (rs := rs) h n)
        have := cnt_lt (step_sub.lt hS) h3 (fun e => h2 e.symm)
        omega
theorem stepN_stay {rs : List Int} {S X k : Nat} (h : step rs S (stepN rs S X k) = stepN rs S X k) : ∀ j, k ≤ j → stepN rs S X j = stepN rs S X k
  | 0, hj => by obtain rfl : k = 0 := by omega
                rfl
  | j + 1, hj => by
    rcases Nat.lt_or_ge j k with h1 | h1
    · obtain rfl : k = j + 1 := by omega
      rfl
    · show step rs S (stepN rs S X j) = _
      rw [stepN_stay h j h1, h]
/-- What has grown as often as the graph has vertices. -/
def grow (rs : List Int) (X S : Nat) : Nat := stepN rs S X rs.length
theorem grow_fix {rs : List Int} (g : VG rs) {S X : Nat} (hS : S < 2 ^ rs.length) (h : subN X S) (h0 : 1 ≤ cnt X) : step rs S (grow rs X S) = grow rs X S := by
  have h7 : S < 128 := by have := g.pow.1; omega
  rcases stepN_cnt (rs := rs) h7 h h0 rs.length with h1 | h1
  · exact h1
  · have h2 := cnt_mono h7 (stepN_sub (rs := rs) h rs.length)
    have h3 := cnt_leN hS g.le
    omega
theorem grow_of_fix {rs : List Int} (g : VG rs) {S X k : Nat} (hS : S < 2 ^ rs.length) (h : subN X S) (h0 : 1 ≤ cnt X) (hk : step rs S (stepN rs S X k) = stepN rs S X k) : stepN rs S X k = grow rs X S := by
  rcases Nat.le_total k rs.length with h1 | h1
  · exact (stepN_stay hk _ h1).symm
  · exact stepN_stay (grow_fix g hS h h0) k h1
theorem grow_sub {rs : List Int} {S X : Nat} (h : subN X S) : subN (grow rs X S) S := stepN_sub h _
theorem sub_stepN {rs : List Int} {S X : Nat} (hS : S < 128) (h : subN X S) : ∀ n, subN X (stepN rs S X n)
  | 0 => subN.refl _
  | n + 1 => (sub_stepN hS h n).trans (sub_step (stepN_lt h hS n) (stepN_sub h n))

/-! ### What is closed -/
def shut (rs : List Int) (S C : Nat) : Prop := subN C S ∧ ∀ a b, C.testBit a = true → S.testBit b = true → (gn rs a).testBit b = true → C.testBit b = true
theorem shut_self (rs : List Int) (S : Nat) : shut rs S S := ⟨subN.refl _, fun _ _ _ h _ => h⟩
theorem shut_step {rs : List Int} {S C X : Nat} (hC : C < 128) (h : shut rs S C) (hX : subN X C) : subN (step rs S X) C := fun i hi => by
  rcases (step_bit (hX.lt hC)).1 hi with ⟨h1, h2 | ⟨a, h3, h4⟩⟩
  · exact hX i h2
  · exact h.2 a i (hX a h3) h1 h4
theorem shut_stepN {rs : List Int} {S C X : Nat} (hC : C < 128) (h : shut rs S C) (hX : subN X C) : ∀ n, subN (stepN rs S X n) C
  | 0 => hX
  | n + 1 => shut_step hC h (shut_stepN hC h hX n)
theorem shut_fix {rs : List Int} {S C : Nat} (hC : C < 128) (h : subN C S) (hf : step rs S C = C) : shut rs S C :=
  ⟨h, fun a b h1 h2 h3 => by rw [← hf]; exact (step_bit hC).2 ⟨h2, .inr ⟨a, h1, h3⟩⟩⟩
theorem shut_grow {rs : List Int} (g : VG rs) {S X : Nat} (hS : S < 2 ^ rs.length) (h : subN X S) (h0 : 1 ≤ cnt X) : shut rs S (grow rs X S) :=
  shut_fix ((grow_sub h).lt (by have := g.pow.1; omega)) (grow_sub h) (grow_fix g hS h h0)
theorem step_local {rs : List Int} {S C X : Nat} (hC : C < 128) (h : shut rs S C) (hX : subN X C) : step rs S X = step rs C X := by
  apply subN.antisymm
  · intro i hi
    have h1 := shut_step hC h hX i hi
    exact (step_bit (hX.lt hC)).2 ⟨h1, ((step_bit (hX.lt hC)).1 hi).2⟩
  · intro i hi
    have h1 := (step_bit (hX.lt hC)).1 hi
    exact (step_bit (hX.lt hC)).2 ⟨h.1 i h1.1, h1.2⟩
theorem stepN_local {rs : List Int} {S C X : Nat} (hC : C < 128) (h : shut rs S C) (hX : subN X C) : ∀ n, stepN rs S X n = stepN rs C X n
  | 0 => rfl
  | n + 1 => by
    show step rs S (stepN rs S X n) = step rs C (stepN rs C X n)
    rw [← stepN_local hC h hX n, step_local hC h (shut_stepN hC h hX n)]
theorem grow_local {rs : List Int} {S C X : Nat} (hC : C < 128) (h : shut rs S C) (hX : subN X C) : grow rs X S = grow rs X C := stepN_local hC h hX _
theorem shut_diff {rs : List Int} (g : VG rs) {S C D : Nat} (hS : S < 2 ^ rs.length) (h : shut rs S C) (k : shut rs S D) : shut rs S (nDiff C D) :=
  ⟨(nDiff_sub _ _).trans h.1, fun a b h1 h2 h3 => by
    obtain ⟨h4, h5⟩ := nDiff_bit.1 h1
    refine nDiff_bit.2 ⟨h.2 a b h4 h2 h3, ?_⟩
    cases h6 : D.testBit b
    · rfl
    · have ha : S.testBit a = true := h.1 a h4
      have h7 := k.2 b a h6 ha (by rw [g.sym b (testBit_lt hS h2) a (testBit_lt hS ha)]; exact h3)
      rw [h7] at h5; cases h5⟩
/-- One part: from whichever of its vertices it is grown. -/
theorem grow_same {rs : List Int} (g : VG rs) {S u v : Nat} (hS : S < 2 ^ rs.length) (hu : S.testBit u = true) (hv : (grow rs (2 ^ u) S).testBit v = true) : grow rs (2 ^ v) S = grow rs (2 ^ u) S := by
  have h7 : S < 128 := by have := g.pow.1; omega
  have hvS : S.testBit v = true := grow_sub (pow_sub hu) v hv
  have cu : 1 ≤ cnt (2 ^ u) := by rw [cnt_pow (bit7 h7 hu)]; exact Nat.le_refl _
  have cv : 1 ≤ cnt (2 ^ v) := by rw [cnt_pow (bit7 h7 hvS)]; exact Nat.le_refl _
  have su := shut_grow g hS (pow_sub hu) cu
  have sv := shut_grow g hS (pow_sub hvS) cv
  apply subN.antisymm
  · exact shut_stepN (su.1.lt h7) su (pow_sub hv) _
  · have hvv : (grow rs (2 ^ v) S).testBit v = true := sub_stepN h7 (pow_sub hvS) _ v (pow_bit.2 rfl)
    have huv : (grow rs (2 ^ v) S).testBit u = true := by
      cases h : (grow rs (2 ^ v) S).testBit u
      · exfalso
        have hd := shut_diff g hS (shut_self rs S) sv
        have := shut_stepN (hd.1.lt h7) hd (pow_sub (nDiff_bit.2 ⟨hu, h⟩)) rs.length v hv
        rw [(nDiff_bit.1 this).2] at hvv
        cases hvv
      · rfl
    exact shut_stepN (sv.1.lt h7) sv (pow_sub huv) _

/-! ### The parts, the one with the least vertex first -/
def partsF (rs : List Int) (S : Nat) : Nat → Nat → List Nat
  | 0, _ => []
  | f + 1, left => if left = 0 then [] else grow rs (2 ^ low left) S :: partsF rs S f (nDiff left (grow rs (2 ^ low left) S))
def partsOf (rs : List Int) (S : Nat) : List Nat := partsF rs S 7 S
theorem partsF_len (rs : List Int) (S : Nat) : ∀ f left, (partsF rs S f left).length ≤ f
  | 0, _ => by simp [partsF]
  | f + 1, left => by
    unfold partsF
    split
    · simp
    · have := partsF_len rs S f (nDiff left (grow rs (2 ^ low left) S)); simp; omega
theorem partsOf_len (rs : List Int) (S : Nat) : (partsOf rs S).length ≤ 7 := partsF_len rs S 7 S
theorem partsF_nil (rs : List Int) (S f : Nat) : partsF rs S f 0 = [] := by cases f <;> simp [partsF]
/-- What is done and what is left, between two rounds. -/
structure PartsAt (rs : List Int) (S : Nat) (done : List Nat) (left : Nat) : Prop where
  all : ∃ f, cnt left ≤ f ∧ partsOf rs S = done ++ partsF rs S f left
  shut : shut rs S left
  bits : ∀ v, S.testBit v = true ↔ left.testBit v = true ∨ ∃ P, P ∈ done ∧ P.testBit v = true
  each : ∀ P, P ∈ done → ∃ u, S.testBit u = true ∧ P = grow rs (2 ^ u) S
theorem PartsAt.start (rs : List Int) (S : Nat) : PartsAt rs S [] S :=
  ⟨⟨7, cnt_le S, rfl⟩, shut_self rs S, fun v => by simp, fun P h => by simp at h⟩
theorem PartsAt.len {rs : List Int} {S left : Nat} {done : List Nat} (h : PartsAt rs S done left) : done.length ≤ 7 := by
  obtain ⟨f, -, h1⟩ := h.all
  have := partsOf_len rs S
  rw [h1] at this
  simp at this; omega
/-- One round, when something is left. -/
theorem PartsAt.next {rs : List Int} (g : VG rs) {S left : Nat} {done : List Nat} (hS : S < 2 ^ rs.length) (h : PartsAt rs S done left) (h0 : left ≠ 0) :
    PartsAt rs S (done ++ [grow rs (2 ^ low left) S]) (nDiff left (grow rs (2 ^ low left) S)) ∧ subN (grow rs (2 ^ low left) S) left ∧ cnt (nDiff left (grow rs (2 ^ low left) S)) < cnt left ∧ grow rs (2 ^ low left) left = grow rs (2 ^ low left) S := by
  have h7 : S < 128 := by have := g.pow.1; omega
  have hl7 : left < 128 := h.shut.1.lt h7
  obtain ⟨l1, l2, -⟩ := low_facts hl7 h0
  have hS1 : S.testBit (low left) = true := h.shut.1 _ l1
  have hc : 1 ≤ cnt (2 ^ low left) := by rw [cnt_pow l2]; exact Nat.le_refl _
  have hsub : subN (grow rs (2 ^ low left) S) left := shut_stepN hl7 h.shut (pow_sub l1) _
  have hsh := shut_grow g hS (pow_sub hS1) hc
  have hlow : (grow rs (2 ^ low left) S).testBit (low left) = true := sub_stepN h7 (pow_sub hS1) _ _ (pow_bit.2 rfl)
  have hlt : cnt (nDiff left (grow rs (2 ^ low left) S)) < cnt left := cnt_lt hl7 (nDiff_sub _ _) (fun e => by
    rw [← e] at l1
    have := (nDiff_bit.1 l1).2
    rw [e] at this
    rw [hlow] at this; cases this)
  refine ⟨⟨?_, shut_diff g hS h.shut hsh, fun v => ?_, fun P hP => ?_⟩, hsub, hlt, (grow_local hl7 h.shut (pow_sub l1)).symm⟩
  · obtain ⟨f, h1, h2⟩ := h.all
    obtain ⟨f, rfl⟩ : ∃ f', f = f' + 1 := ⟨f - 1, by omega⟩
    refine ⟨f, by omega, ?_⟩
    rw [h2]
    show done ++ (if left = 0 then [] else _ :: _) = _
    rw [if_neg h0]; simp
  · rw [h.bits v]
    constructor
    · rintro (h1 | ⟨P, h1, h2⟩)
      · cases h3 : (grow rs (2 ^ low left) S).testBit v
        · exact .inl (nDiff_bit.2 ⟨h1, h3⟩)
        · exact .inr ⟨_, by simp, h3⟩
      · exact .inr ⟨P, by simp [h1], h2⟩
    · rintro (h1 | ⟨P, h1, h2⟩)
      · exact .inl (nDiff_bit.1 h1).1
      · simp only [List.mem_append, List.mem_singleton] at h1
        rcases h1 with h1 | rfl
        · exact .inr ⟨P, h1, h2⟩
        · exact .inl (hsub v h2)
  · simp only [List.mem_append, List.mem_singleton] at hP
    rcases hP with h1 | rfl
    · exact h.each P h1
    · exact ⟨_, hS1, rfl⟩
theorem PartsAt.done {rs : List Int} {S : Nat} {done : List Nat} (h : PartsAt rs S done 0) : done = partsOf rs S := by
  obtain ⟨f, -, h1⟩ := h.all
  rw [h1, partsF_nil]; simp
/-- Each vertex lies in a part, each part is grown from one of the set. -/
theorem partsAt_end {rs : List Int} (g : VG rs) {S : Nat} (hS : S < 2 ^ rs.length) : PartsAt rs S (partsOf rs S) 0 := by
  have key : ∀ n left done, cnt left ≤ n → PartsAt rs S done left → ∃ d, PartsAt rs S d 0 := by
    intro n
    induction n with
    | zero =>
      intro left done hn h
      by_cases h0 : left = 0
      · subst h0; exact ⟨_, h⟩
      · have := h.next g hS h0; omega
    | succ n ih =>
      intro left done hn h
      by_cases h0 : left = 0
      · subst h0; exact ⟨_, h⟩
      · obtain ⟨h1, -, h2, -⟩ := h.next g hS h0
        exact ih _ _ (by omega) h1
  obtain ⟨d, h⟩ := key _ _ _ (Nat.le_refl _) (PartsAt.start rs S)
  rw [← h.done]; exact h

/-! ### Distances -/
/-- What is reached in n steps. -/
def reach (rs : List Int) (v : Nat) (n : Nat) : Nat := stepN rs (2 ^ rs.length - 1) (2 ^ v) n
theorem all_bit {N i : Nat} : (2 ^ N - 1).testBit i = true ↔ i < N := by simp
theorem sub_all {S N : Nat} (h : S < 2 ^ N) : subN S (2 ^ N - 1) := fun _ hi => all_bit.2 (testBit_lt h hi)
theorem all_lt (N : Nat) : 2 ^ N - 1 < 2 ^ N := by have := Nat.two_pow_pos N; omega
theorem reach_lt {rs : List Int} {v : Nat} (hv : v < rs.length) (n : Nat) : reach rs v n < 2 ^ rs.length := (stepN_sub (rs := rs) (pow_sub (all_bit.2 hv)) n).lt (all_lt _)
theorem reach_succ {rs : List Int} (g : VG rs) {v : Nat} (hv : v < rs.length) (n : Nat) : reach rs v (n + 1) = around rs (reach rs v n) := by
  show around rs (reach rs v n) &&& (2 ^ rs.length - 1) = _
  exact subN_iff.1 (sub_all (around_lt g (reach_lt hv n)))
def distV (rs : List Int) (v w : Nat) : Int :=
  match firstB (fun n => (reach rs v n).testBit w) rs.length with
  | some n => n
  | none => -1
theorem distV_hit {rs : List Int} {v w n : Nat} (hn : n < rs.length) (h : ∀ j, j < n → (reach rs v j).testBit w = false) (hw : (reach rs v n).testBit w = true) : distV rs v w = n := by
  unfold distV; rw [firstB_hit hn h hw]
theorem distV_none {rs : List Int} {v w : Nat} (h : ∀ j, j < rs.length → (reach rs v j).testBit w = false) : distV rs v w = -1 := by
  unfold distV; rw [firstB_none h]
/-- Growing has come to its end without reaching w. -/
theorem distV_stuck {rs : List Int} (g : VG rs) {v w k : Nat} (hv : v < rs.length) (h : ∀ j, j ≤ k → (reach rs v j).testBit w = false) (hf : around rs (reach rs v k) = reach rs v k) : distV rs v w = -1 := by
  refine distV_none fun j _ => ?_
  rcases Nat.le_total j k with h1 | h1
  · exact h j h1
  · have h2 : step rs (2 ^ rs.length - 1) (stepN rs (2 ^ rs.length - 1) (2 ^ v) k) = stepN rs (2 ^ rs.length - 1) (2 ^ v) k := (reach_succ g hv k).trans hf
    have h3 : reach rs v j = reach rs v k := stepN_stay h2 j h1
    rw [h3]; exact h k (Nat.le_refl _)
/-- As long as it grows it has one more each time. -/
theorem reach_cnt {rs : List Int} (g : VG rs) {v k : Nat} (hv : v < rs.length) (h : k + 1 ≤ cnt (reach rs v k)) (hne : around rs (reach rs v k) ≠ reach rs v k) : k + 1 + 1 ≤ cnt (reach rs v (k + 1)) := by
  have h1 := reach_succ g hv k
  have h7 : 2 ^ rs.length - 1 < 128 := by have := g.pow; omega
  have h2 : subN (reach rs v k) (reach rs v (k + 1)) := sub_step (stepN_lt (pow_sub (all_bit.2 hv)) h7 k) (stepN_sub (pow_sub (all_bit.2 hv)) k)
  have := cnt_lt (by have := reach_lt hv (k + 1) (rs := rs); omega) h2 (fun e => hne (by rw [← h1, ← e]))
  omega
theorem reach_le {rs : List Int} (g : VG rs) {v k : Nat} (hv : v < rs.length) (h : k + 1 ≤ cnt (reach rs v k)) : k < rs.length := by
  have := cnt_leN (reach_lt hv k (rs := rs)) g.le
  omega

end Go.Proofs.YtjikmjhpmkakoaaGreatDoor
