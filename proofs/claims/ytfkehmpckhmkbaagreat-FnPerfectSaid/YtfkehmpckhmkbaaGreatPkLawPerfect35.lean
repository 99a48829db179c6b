/-
  IsCover and CoverOf on both sides: the sets of vertices that have an end of each edge. For at most 2^20 rows.
  Plain laws of matchings and covers: a largest matching out of a list of edges; it is never larger than a cover, and as large as the least one where the edges join two sides (König). No program.
-/
import Derived.Test.YtfkehmpckhmkbaaGreatPkLawPerfect22
import Derived.Test.YtfkehmpckhmkbaaGreatPkLawPerfect27
import Derived.Test.YtfkehmpckhmkbaaGreatPkLawPerfect30
namespace Go.Proofs.YtfkehmpckhmkbaaGreat
open Go.RowKit

def covB (n : Int) (rs : List Int) (s : Int) : Bool := isSetB n rs s && indepN rs (2 ^ rs.length - 1 - s.toNat)
theorem covB_no {n : Int} {rs : List Int} {s : Int} (h : isSetB n rs s = false) : covB n rs s = false := by unfold covB; rw [h]; rfl
theorem covB_nat {rs : List Int} {S : Nat} (h : isSetB rs.length rs S = true) : covB rs.length rs S = indepB rs.length rs ((2 ^ rs.length - 1 - S : Nat) : Int) := by
  have hg : isGraphB rs.length rs = true := by unfold isSetB at h; rw [Bool.and_eq_true] at h; exact h.1
  have := all_lt rs.length
  unfold covB
  rw [h, Bool.true_and, indepB_nat (isSetB_mk hg (by omega)), Int.toNat_natCast]





end Go.Proofs.YtfkehmpckhmkbaaGreat

namespace Go.Proofs.YtfkehmpckhmkbaaGreat
open Go.RowKit

/-- e and f have no end in common. -/
def apart (e f : Nat × Nat) : Prop := e.1 ≠ f.1 ∧ e.1 ≠ f.2 ∧ e.2 ≠ f.1 ∧ e.2 ≠ f.2
def hitE (used : Nat) (e : Nat × Nat) : Bool := used.testBit e.1 || used.testBit e.2
def useE (used : Nat) (e : Nat × Nat) : Nat := used ||| 2 ^ e.1 ||| 2 ^ e.2
/-- The matching that the program finds among the edges from one on. -/
def bestM : List (Nat × Nat) → Nat → List (Nat × Nat)
  | [], _ => []
  | e :: t, used => if hitE used e = true then bestM t used else if (bestM t used).length ≤ (bestM t (useE used e)).length + 1 then e :: bestM t (useE used e) else bestM t used
theorem bestM_hit {e : Nat × Nat} {t : List (Nat × Nat)} {used : Nat} (h : hitE used e = true) : bestM (e :: t) used = bestM t used := by rw [bestM, if_pos h]
theorem bestM_take {e : Nat × Nat} {t : List (Nat × Nat)} {used : Nat} (h : hitE used e = false) (hl : (bestM t used).length ≤ (bestM t (useE used e)).length + 1) : bestM (e :: t) used = e :: bestM t (useE used e) := by
  rw [bestM, if_neg (by rw [h]; decide), if_pos hl]
theorem bestM_leave {e : Nat × Nat} {t : List (Nat × Nat)} {used : Nat} (h : hitE used e = false) (hl : ¬(bestM t used).length ≤ (bestM t (useE used e)).length + 1) : bestM (e :: t) used = bestM t used := by
  rw [bestM, if_neg (by rw [h]; decide), if_neg hl]
theorem bestM_sub : ∀ (es : List (Nat × Nat)) (used : Nat), (bestM es used).Sublist es
  | [], _ => List.Sublist.refl _
  | e :: t, used => by
    rw [bestM]
    split
    · exact (bestM_sub t used).cons e
    · split
      · exact (bestM_sub t _).cons_cons e
      · exact (bestM_sub t used).cons e
theorem hit_use {used : Nat} {e f : Nat × Nat} (h : hitE (useE used e) f = false) : hitE used f = false ∧ apart e f := by
  unfold hitE useE at h
  rw [Bool.or_eq_false_iff, Nat.testBit_or, Nat.testBit_or, Nat.testBit_or, Nat.testBit_or] at h
  simp only [Bool.or_eq_false_iff, Nat.testBit_two_pow, decide_eq_false_iff_not] at h
  obtain ⟨⟨⟨h1, h2⟩, h3⟩, ⟨h4, h5⟩, h6⟩ := h
  exact ⟨by unfold hitE; rw [h1, h4]; rfl, h2, h5, h3, h6⟩
theorem use_hit {used : Nat} {e f : Nat × Nat} (h : hitE used f = false) (ha : apart e f) : hitE (useE used e) f = false := by
  unfold hitE at h
  rw [Bool.or_eq_false_iff] at h
  obtain ⟨h1, h2, h3, h4⟩ := ha
  unfold hitE useE
  rw [Bool.or_eq_false_iff, Nat.testBit_or, Nat.testBit_or, Nat.testBit_or, Nat.testBit_or]
  simp only [Bool.or_eq_false_iff, Nat.testBit_two_pow, decide_eq_false_iff_not]
  exact ⟨⟨⟨h.1, h1⟩, h3⟩, ⟨h.2, h2⟩, h4⟩
theorem bestM_ok : ∀ (es : List (Nat × Nat)) (used : Nat), (bestM es used).Pairwise apart ∧ ∀ e ∈ bestM es used, hitE used e = false
  | [], _ => ⟨List.Pairwise.nil, fun _ h => by simp [bestM] at h⟩
  | e :: t, used => by
    rw [bestM]
    split
    · exact bestM_ok t used
    · rename_i h
      split
      · obtain ⟨h1, h2⟩ := bestM_ok t (useE used e)
        refine ⟨List.pairwise_cons.2 ⟨fun f hf => (hit_use (h2 f hf)).2, h1⟩, fun f hf => ?_⟩
        rcases List.mem_cons.1 hf with rfl | hf
        · simpa using h
        · exact (hit_use (h2 f hf)).1
      · exact bestM_ok t used
theorem bestM_max : ∀ (es : List (Nat × Nat)) (used : Nat) (M : List (Nat × Nat)), M.Sublist es → M.Pairwise apart → (∀ e ∈ M, hitE used e = false) → M.length ≤ (bestM es used).length
  | [], _, M, h, _, _ => by rw [List.eq_nil_of_sublist_nil h]; exact Nat.zero_le _
  | e :: t, used, M, h, hp, hu => by
    have hle : (bestM t used).length ≤ (bestM (e :: t) used).length := by
      rw [bestM]
      split
      · exact Nat.le_refl _
      · split
        · rename_i h2; simpa using h2
        · exact Nat.le_refl _
    cases h with
    | cons _ h => exact Nat.le_trans (bestM_max t used M h hp hu) hle
    | cons_cons _ h =>
      rename_i M'
      obtain ⟨h1, h2⟩ := List.pairwise_cons.1 hp
      have h3 := bestM_max t (useE used e) M' h h2 fun f hf => use_hit (hu f (List.mem_cons_of_mem _ hf)) (h1 f hf)
      have h4 := hu e (by simp)
      rw [bestM, if_neg (by rw [h4]; decide)]
      split
      · simpa using h3
      · rename_i h5; simp only [List.length_cons]; omega

/-! ### Covers -/
def coversE (es : List (Nat × Nat)) (C : Nat) : Prop := ∀ e ∈ es, C.testBit e.1 = true ∨ C.testBit e.2 = true
theorem cnt_less_fin : ∀ C : Fin 128, ∀ v : Fin 7, C.val.testBit v.val = true → cnt (nDiff C.val (2 ^ v.val)) + 1 = cnt C.val := by decide +kernel
theorem cnt_more_fin : ∀ C : Fin 128, ∀ v : Fin 7, cnt (C.val ||| 2 ^ v.val) ≤ cnt C.val + 1 := by decide +kernel
theorem cnt_bits_fin : ∀ C : Fin 128, cnt C.val = (C.val.testBit 0).toNat + (C.val.testBit 1).toNat + (C.val.testBit 2).toNat + (C.val.testBit 3).toNat + (C.val.testBit 4).toNat + (C.val.testBit 5).toNat + (C.val.testBit 6).toNat := by decide +kernel
theorem cnt_bits {C : Nat} (h : C < 128) : cnt C = (C.testBit 0).toNat + (C.testBit 1).toNat + (C.testBit 2).toNat + (C.testBit 3).toNat + (C.testBit 4).toNat + (C.testBit 5).toNat + (C.testBit 6).toNat := cnt_bits_fin ⟨C, h⟩

/-- No matching is larger than a cover. -/
theorem match_le : ∀ (M : List (Nat × Nat)) (C : Nat), C < 128 → M.Pairwise apart → coversE M C → M.length ≤ cnt C
  | [], C, _, _, _ => Nat.zero_le _
  | e :: M, C, hC, hp, hc => by
    obtain ⟨h1, h2⟩ := List.pairwise_cons.1 hp
    have key : ∀ v, C.testBit v = true → (∀ f ∈ M, v ≠ f.1 ∧ v ≠ f.2) → (e :: M).length ≤ cnt C := fun v hv hf => by
      have h7 := bit7 hC hv
      have h3 := cnt_less_fin ⟨C, hC⟩ ⟨v, h7⟩ hv
      dsimp only at h3
      have h4 := match_le M (nDiff C (2 ^ v)) (nDiff_lt (n := 7) hC) h2 fun f hfm => by
        obtain ⟨n1, n2⟩ := hf f hfm
        have hz : ∀ i, v ≠ i → (2 ^ v).testBit i = false := fun i hi => by simpa [Nat.testBit_two_pow] using hi
        rcases hc f (List.mem_cons_of_mem _ hfm) with h | h
        · exact .inl (nDiff_bit.2 ⟨h, hz _ n1⟩)
        · exact .inr (nDiff_bit.2 ⟨h, hz _ n2⟩)
      simp only [List.length_cons]; omega
    rcases hc e (by simp) with h | h
    · exact key _ h fun f hf => ⟨(h1 f hf).1, (h1 f hf).2.1⟩
    · exact key _ h fun f hf => ⟨(h1 f hf).2.2.1, (h1 f hf).2.2.2⟩

/-- One end of each edge: a cover with at most as many vertices as there are edges. -/
theorem cover_ends : ∀ es : List (Nat × Nat), (∀ e ∈ es, e.1 < 7) → ∃ C, C < 128 ∧ coversE es C ∧ cnt C ≤ es.length
  | [], _ => ⟨0, by omega, fun e h => by simp at h, Nat.le_refl _⟩
  | e :: t, h => by
    obtain ⟨C, h1, h2, h3⟩ := cover_ends t fun f hf => h f (List.mem_cons_of_mem _ hf)
    have he := h e (by simp)
    refine ⟨C ||| 2 ^ e.1, Nat.or_lt_two_pow (n := 7) h1 (Nat.pow_lt_pow_right (by decide) he), fun f hf => ?_, ?_⟩
    · rcases List.mem_cons.1 hf with rfl | hf
      · exact .inl (by rw [Nat.testBit_or, Nat.testBit_two_pow]; simp)
      · rcases h2 f hf with h | h
        · exact .inl (by rw [Nat.testBit_or, h]; rfl)
        · exact .inr (by rw [Nat.testBit_or, h]; rfl)
    · have := cnt_more_fin ⟨C, h1⟩ ⟨e.1, he⟩
      dsimp only at this
      simp only [List.length_cons]; omega

theorem not_pairwise : ∀ es : List (Nat × Nat), ¬es.Pairwise apart → ∃ l1 e l2 f l3, es = l1 ++ e :: (l2 ++ f :: l3) ∧ ¬apart e f
  | [], h => absurd List.Pairwise.nil h
  | e :: t, h => by
    by_cases hp : t.Pairwise apart
    · have : ∃ f ∈ t, ¬apart e f := by
        refine Classical.byContradiction fun hn => h (List.pairwise_cons.2 ⟨fun f hf => ?_, hp⟩)
        exact Classical.byContradiction fun h2 => hn ⟨f, hf, h2⟩
      obtain ⟨f, hf, h2⟩ := this
      obtain ⟨l2, l3, rfl⟩ := List.append_of_mem hf
      exact ⟨[], e, l2, f, l3, rfl, h2⟩
    · obtain ⟨l1, a, l2, b, l3, rfl, h2⟩ := not_pairwise t hp
      exact ⟨e :: l1, a, l2, b, l3, rfl, h2⟩

/-- The two halves of what two covers differ in. -/
theorem halves {A B x : Nat} (Z : Nat) (hA : A < 128) (hB : B < 128) (hx : x < 7) : ∃ T1 T2, T1 < 128 ∧ T2 < 128 ∧ cnt T1 + cnt T2 ≤ cnt A + cnt B + 1 ∧
    (∀ i, T1.testBit i = (A.testBit i && B.testBit i || ((A.testBit i ^^ B.testBit i) || decide (x = i)) && Z.testBit i)) ∧
    (∀ i, T2.testBit i = (A.testBit i && B.testBit i || ((A.testBit i ^^ B.testBit i) || decide (x = i)) && !Z.testBit i)) := by
  have hxp : 2 ^ x < 128 := Nat.pow_lt_pow_right (a := 2) (n := 7) (by decide) hx
  have hX : (A ^^^ B) ||| 2 ^ x < 128 := Nat.or_lt_two_pow (n := 7) (Nat.xor_lt_two_pow hA hB) hxp
  have hS : A &&& B < 128 := Nat.lt_of_le_of_lt Nat.and_le_left hA
  have h1 : (A &&& B) ||| (((A ^^^ B) ||| 2 ^ x) &&& Z) < 128 := Nat.or_lt_two_pow (n := 7) hS (Nat.lt_of_le_of_lt Nat.and_le_left hX)
  have h2 : (A &&& B) ||| nDiff ((A ^^^ B) ||| 2 ^ x) Z < 128 := Nat.or_lt_two_pow (n := 7) hS (nDiff_lt (n := 7) hX)
  have b1 : ∀ i, ((A &&& B) ||| (((A ^^^ B) ||| 2 ^ x) &&& Z)).testBit i = (A.testBit i && B.testBit i || ((A.testBit i ^^ B.testBit i) || decide (x = i)) && Z.testBit i) := fun i => by
    rw [Nat.testBit_or, Nat.testBit_and, Nat.testBit_and, Nat.testBit_or, Nat.testBit_xor, Nat.testBit_two_pow]
  have b2 : ∀ i, ((A &&& B) ||| nDiff ((A ^^^ B) ||| 2 ^ x) Z).testBit i = (A.testBit i && B.testBit i || ((A.testBit i ^^ B.testBit i) || decide (x = i)) && !Z.testBit i) := fun i => by
    rw [Nat.testBit_or, Nat.testBit_and, testBit_nDiff, Nat.testBit_or, Nat.testBit_xor, Nat.testBit_two_pow]
  refine ⟨_, _, h1, h2, ?_, b1, b2⟩
  generalize (A &&& B) ||| (((A ^^^ B) ||| 2 ^ x) &&& Z) = T1 at *
  generalize (A &&& B) ||| nDiff ((A ^^^ B) ||| 2 ^ x) Z = T2 at *
  have hb : ∀ i, (T1.testBit i).toNat + (T2.testBit i).toNat ≤ (A.testBit i).toNat + (B.testBit i).toNat + (decide (x = i)).toNat := fun i => by
    rw [b1, b2]
    cases A.testBit i <;> cases B.testBit i <;> cases Z.testBit i <;> cases decide (x = i) <;> decide
  have hs : (decide (x = 0)).toNat + (decide (x = 1)).toNat + (decide (x = 2)).toNat + (decide (x = 3)).toNat + (decide (x = 4)).toNat + (decide (x = 5)).toNat + (decide (x = 6)).toNat = 1 := by
    have : x = 0 ∨ x = 1 ∨ x = 2 ∨ x = 3 ∨ x = 4 ∨ x = 5 ∨ x = 6 := by omega
    rcases this with rfl | rfl | rfl | rfl | rfl | rfl | rfl <;> rfl
  rw [cnt_bits h1, cnt_bits h2, cnt_bits hA, cnt_bits hB]
  have a0 := hb 0
  have a1 := hb 1
  have a2 := hb 2
  have a3 := hb 3
  have a4 := hb 4
  have a5 := hb 5
  have a6 := hb 6
  omega

/-- König: where all edges join the two sides, there is a matching as large as the least cover. -/
theorem konig (Z : Nat) : ∀ (k : Nat) (es : List (Nat × Nat)), es.length ≤ k → (∀ e ∈ es, e.1 < 7 ∧ e.2 < 7 ∧ Z.testBit e.1 ≠ Z.testBit e.2) → ∀ t, (∀ C, C < 128 → coversE es C → t ≤ cnt C) → ∃ M : List (Nat × Nat), M.Sublist es ∧ M.Pairwise apart ∧ t ≤ M.length := by
  intro k
  induction k with
  | zero =>
    intro es hl _ t ht
    obtain rfl : es = [] := List.length_eq_zero_iff.1 (by omega)
    exact ⟨[], List.Sublist.refl _, List.Pairwise.nil, ht 0 (by omega) fun e h => by simp at h⟩
  | succ k ih =>
    intro es hl hes t ht
    by_cases hdel : ∃ l1 e l2, es = l1 ++ e :: l2 ∧ ∀ C, C < 128 → coversE (l1 ++ l2) C → t ≤ cnt C
    · obtain ⟨l1, e, l2, rfl, h⟩ := hdel
      have hsub : (l1 ++ l2).Sublist (l1 ++ e :: l2) := (List.sublist_cons_self e l2).append_left l1
      obtain ⟨M, m1, m2, m3⟩ := ih (l1 ++ l2) (by simp at hl ⊢; omega) (fun f hf => hes f (hsub.subset hf)) t h
      exact ⟨M, m1.trans hsub, m2, m3⟩
    by_cases hp : es.Pairwise apart
    · obtain ⟨C, c1, c2, c3⟩ := cover_ends es fun e he => (hes e he).1
      exact ⟨es, List.Sublist.refl _, hp, Nat.le_trans (ht C c1 c2) c3⟩
    exfalso
    have hmin : ∀ l1 e l2, es = l1 ++ e :: l2 → ∃ C, C < 128 ∧ coversE (l1 ++ l2) C ∧ cnt C < t ∧ C.testBit e.1 = false ∧ C.testBit e.2 = false := fun l1 e l2 he => by
      have : ∃ C, C < 128 ∧ coversE (l1 ++ l2) C ∧ cnt C < t := by
        refine Classical.byContradiction fun hn => hdel ⟨l1, e, l2, he, fun C h1 h2 => ?_⟩
        exact Classical.byContradiction fun h3 => hn ⟨C, h1, h2, by omega⟩
      obtain ⟨C, h1, h2, h3⟩ := this
      have hnot : ¬(C.testBit e.1 = true ∨ C.testBit e.2 = true) := fun h => by
        have := ht C h1 fun f hf => by
          rw [he, List.mem_append, List.mem_cons] at hf
          rcases hf with hf | rfl | hf
          · exact h2 f (by simp [hf])
          · exact h
          · exact h2 f (by simp [hf])
        omega
      exact ⟨C, h1, h2, h3, by cases q : C.testBit e.1 <;> simp_all, by cases q : C.testBit e.2 <;> simp_all⟩
    obtain ⟨l1, e, l2, f, l3, he, hef⟩ := not_pairwise es hp
    obtain ⟨A, a1, a2, a3, a4, a5⟩ := hmin l1 e (l2 ++ f :: l3) he
    obtain ⟨B, b1, b2, b3, b4, b5⟩ := hmin (l1 ++ e :: l2) f l3 (by rw [he]; simp)
    have hx : ∃ x, (x = e.1 ∨ x = e.2) ∧ (x = f.1 ∨ x = f.2) := by
      unfold apart at hef
      by_cases q1 : e.1 = f.1
      · exact ⟨e.1, .inl rfl, .inl q1⟩
      by_cases q2 : e.1 = f.2
      · exact ⟨e.1, .inl rfl, .inr q2⟩
      by_cases q3 : e.2 = f.1
      · exact ⟨e.2, .inr rfl, .inl q3⟩
      by_cases q4 : e.2 = f.2
      · exact ⟨e.2, .inr rfl, .inr q4⟩
      exact absurd ⟨q1, q2, q3, q4⟩ hef
    obtain ⟨x, hxe, hxf⟩ := hx
    have heM : e ∈ es := by rw [he]; simp
    have hfM : f ∈ es := by rw [he]; simp
    have hx7 : x < 7 := by rcases hxe with rfl | rfl; exact (hes e heM).1; exact (hes e heM).2.1
    obtain ⟨T1, T2, t1, t2, t3, t4, t5⟩ := halves (x := x) Z a1 b1 hx7
    have key : ∀ d ∈ es, (A.testBit d.1 && B.testBit d.1) = true ∨ (A.testBit d.2 && B.testBit d.2) = true ∨ (((A.testBit d.1 ^^ B.testBit d.1) || decide (x = d.1)) = true ∧ ((A.testBit d.2 ^^ B.testBit d.2) || decide (x = d.2)) = true) := fun d hd => by
      rw [he] at hd
      simp only [List.mem_append, List.mem_cons] at hd
      have hother : (A.testBit d.1 = true ∨ A.testBit d.2 = true) → (B.testBit d.1 = true ∨ B.testBit d.2 = true) → (A.testBit d.1 && B.testBit d.1) = true ∨ (A.testBit d.2 && B.testBit d.2) = true ∨ (((A.testBit d.1 ^^ B.testBit d.1) || decide (x = d.1)) = true ∧ ((A.testBit d.2 ^^ B.testBit d.2) || decide (x = d.2)) = true) := by
        cases A.testBit d.1 <;> cases A.testBit d.2 <;> cases B.testBit d.1 <;> cases B.testBit d.2 <;> simp
      rcases hd with hd | rfl | hd | rfl | hd
      · exact hother (a2 d (by simp [hd])) (b2 d (by simp [hd]))
      · have hB := b2 d (by simp)
        have hBx : B.testBit x = false := by rcases hxf with rfl | rfl; exact b4; exact b5
        rw [a4, a5]
        rcases hxe with rfl | rfl
        · rw [hBx] at hB ⊢
          have hB : B.testBit d.2 = true := by simpa using hB
          rw [hB]; simp
        · rw [hBx] at hB ⊢
          have hB : B.testBit d.1 = true := by simpa using hB
          rw [hB]; simp
      · exact hother (a2 d (by simp [hd])) (b2 d (by simp [hd]))
      · have hA := a2 d (by simp)
        have hAx : A.testBit x = false := by rcases hxe with rfl | rfl; exact a4; exact a5
        rw [b4, b5]
        rcases hxf with rfl | rfl
        · rw [hAx] at hA ⊢
          have hA : A.testBit d.2 = true := by simpa using hA
          rw [hA]; simp
        · rw [hAx] at hA ⊢
          have hA : A.testBit d.1 = true := by simpa using hA
          rw [hA]; simp
      · exact hother (a2 d (by simp [hd])) (b2 d (by simp [hd]))
    have c1 : coversE es T1 := fun d hd => by
      have hz := (hes d hd).2.2
      rw [t4, t4]
      rcases key d hd with h | h | ⟨h1, h2⟩
      · exact .inl (by rw [h]; rfl)
      · exact .inr (by rw [h]; rfl)
      · rw [h1, h2]
        cases q1 : Z.testBit d.1 <;> cases q2 : Z.testBit d.2 <;> simp_all
    have c2 : coversE es T2 := fun d hd => by
      have hz := (hes d hd).2.2
      rw [t5, t5]
      rcases key d hd with h | h | ⟨h1, h2⟩
      · exact .inl (by rw [h]; rfl)
      · exact .inr (by rw [h]; rfl)
      · rw [h1, h2]
        cases q1 : Z.testBit d.1 <;> cases q2 : Z.testBit d.2 <;> simp_all
    have := ht T1 t1 c1
    have := ht T2 t2 c2
    omega

end Go.Proofs.YtfkehmpckhmkbaaGreat
