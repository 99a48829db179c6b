/-
  Plain laws of a graph's matchings and covers: the edges as pairs; the least cover; the largest matching is a matching of the graph. No program.
-/
import Derived.Test.YtgklgheaojoimaaMatch
import Derived.Test.YtgklgheaojoimaaBandB
namespace Go.Proofs.Ytgklgheaojoimaa
open Go.RowKit

theorem edge_mem {rs : List Int} {e : Nat × Nat} : e ∈ edgesTo rs rs.length ↔ e.1 < e.2 ∧ e.2 < rs.length ∧ (gn rs e.1).testBit e.2 = true := by
  rw [mem_edgesTo]
  constructor
  · rintro ⟨h1, h2, h3, h4⟩; exact ⟨h2, by omega, h4⟩
  · rintro ⟨h1, h2, h3⟩; exact ⟨by omega, h1, by omega, h3⟩
theorem indep_iff {rs : List Int} {S : Nat} (hS : S < 128) : indepN rs S = true ↔ ∀ a b, S.testBit a = true → S.testBit b = true → (gn rs a).testBit b = false := by
  unfold indepN
  rw [decide_eq_true_eq, and_zero]
  constructor
  · intro h a b ha hb
    cases e : (gn rs a).testBit b
    · rfl
    · have := h b ((nbrs_bit hS).2 ⟨a, ha, e⟩)
      rw [hb] at this; cases this
  · intro h i hi
    obtain ⟨a, h1, h2⟩ := (nbrs_bit hS).1 hi
    cases e : S.testBit i
    · rfl
    · rw [h a i h1 e] at h2; cases h2
theorem rest_bit {C N i : Nat} (hC : C < 2 ^ N) (hN : N ≤ 7) : (2 ^ N - 1 - C).testBit i = true ↔ i < N ∧ C.testBit i = false := by
  have : 2 ^ N ≤ 2 ^ 7 := Nat.pow_le_pow_right (by decide) hN
  rw [← nDiff_minus (by omega) (sub_all hC), nDiff_bit, all_bit]
/-- The covers of a graph are those of its edges. -/
theorem cov_iff {rs : List Int} {C : Nat} (hv : isGraphB rs.length rs = true) (hC : C < 2 ^ rs.length) : covB rs.length rs C = true ↔ coversE (edgesTo rs rs.length) C := by
  have g := (VG.of hv).2
  have h128 := g.pow.1
  have hall := all_lt rs.length
  rw [covB_nat (isSetB_mk hv hC), indepB_nat (isSetB_mk hv (by omega)), indep_iff (by omega)]
  constructor
  · intro h e he
    obtain ⟨h1, h2, h3⟩ := edge_mem.1 he
    cases q1 : C.testBit e.1
    · cases q2 : C.testBit e.2
      · have := h e.1 e.2 ((rest_bit hC g.le).2 ⟨by omega, q1⟩) ((rest_bit hC g.le).2 ⟨h2, q2⟩)
        rw [h3] at this; cases this
      · exact .inr rfl
    · exact .inl rfl
  · intro h a b ha hb
    obtain ⟨a1, a2⟩ := (rest_bit hC g.le).1 ha
    obtain ⟨b1, b2⟩ := (rest_bit hC g.le).1 hb
    cases e : (gn rs a).testBit b
    · rfl
    · exfalso
      rcases Nat.lt_trichotomy a b with q | rfl | q
      · rcases h (a, b) (edge_mem.2 ⟨q, b1, e⟩) with h | h
        · rw [a2] at h; cases h
        · rw [b2] at h; cases h
      · rw [g.irr a a1] at e; cases e
      · rw [g.sym a a1 b b1] at e
        rcases h (b, a) (edge_mem.2 ⟨q, a1, e⟩) with h | h
        · rw [b2] at h; cases h
        · rw [a2] at h; cases h

theorem fewestTo_min {p : Nat → Bool} : ∀ k, (∃ S, S < k ∧ p S = true) → ∃ D : Nat, D < k ∧ fewestTo p k = (D : Int) ∧ p D = true ∧ ∀ T, T < k → p T = true → cnt D ≤ cnt T
  | 0, ⟨S, h, _⟩ => by omega
  | k + 1, ⟨S, h, hS⟩ => by
    by_cases he : ∃ S, S < k ∧ p S = true
    · obtain ⟨D, d1, d2, d3, d4⟩ := fewestTo_min k he
      cases hp : p k
      · refine ⟨D, by omega, by rw [fewestTo_skip hp]; exact d2, d3, fun T hT ht => ?_⟩
        rcases Nat.lt_succ_iff_lt_or_eq.1 hT with h | rfl
        · exact d4 T h ht
        · rw [hp] at ht; cases ht
      · by_cases hc : cnt k < cnt D
        · refine ⟨k, by omega, fewestTo_new hp (.inr (by rw [d2, Int.toNat_natCast]; exact hc)), hp, fun T hT ht => ?_⟩
          rcases Nat.lt_succ_iff_lt_or_eq.1 hT with h | rfl
          · have := d4 T h ht; omega
          · exact Nat.le_refl _
        · refine ⟨D, by omega, by rw [fewestTo_keep d2 hc]; exact d2, d3, fun T hT ht => ?_⟩
          rcases Nat.lt_succ_iff_lt_or_eq.1 hT with h | rfl
          · exact d4 T h ht
          · omega
    · obtain rfl : S = k := by
        by_cases e : S < k
        · exact absurd ⟨S, e, hS⟩ he
        · omega
      have h0 : fewestTo p S = -1 := by
        have : ∀ j, (∀ T, T < j → p T = false) → fewestTo p j = -1 := by
          intro j
          induction j with
          | zero => intro _; rfl
          | succ j ih => intro hj; rw [fewestTo_skip (hj j (by omega)), ih fun T hT => hj T (by omega)]
        refine this S fun T hT => ?_
        cases e : p T
        · rfl
        · exact absurd ⟨T, hT, e⟩ he
      refine ⟨S, by omega, fewestTo_new hS (.inl (by rw [h0]; decide)), hS, fun T hT ht => ?_⟩
      rcases Nat.lt_succ_iff_lt_or_eq.1 hT with h | rfl
      · exact absurd ⟨T, h, ht⟩ he
      · exact Nat.le_refl _

theorem edge_small {rs : List Int} (g : VG rs) {e : Nat × Nat} (h : e ∈ edgesTo rs rs.length) : e.1 < 7 ∧ e.2 < 7 := by
  obtain ⟨h1, h2, -⟩ := edge_mem.1 h
  have := g.le
  exact ⟨by omega, by omega⟩
/-- The largest matching and the least cover. -/
theorem match_law {rs : List Int} (hv : isGraphB rs.length rs = true) : ∃ C : Nat, C < 2 ^ rs.length ∧ fewestV rs.length rs (fun S => covB rs.length rs S) = (C : Int) ∧ covB rs.length rs C = true ∧
    (bestM (edgesTo rs rs.length) 0).length ≤ cnt C ∧ (∀ Z : Nat, Z < 2 ^ rs.length → indepN rs Z = true → indepN rs (nDiff (2 ^ rs.length - 1) Z) = true → (bestM (edgesTo rs rs.length) 0).length = cnt C) := by
  have g := (VG.of hv).2
  have h128 := g.pow.1
  have hall := all_lt rs.length
  have hallc : covB rs.length rs ((2 ^ rs.length - 1 : Nat) : Int) = true := (cov_iff hv hall).2 fun e he => by
    obtain ⟨h1, h2, -⟩ := edge_mem.1 he
    exact .inr (all_bit.2 h2)
  obtain ⟨C, c1, c2, c3, c4⟩ := fewestTo_min (p := fun S : Nat => covB rs.length rs S) (2 ^ rs.length) ⟨_, hall, hallc⟩
  have hce := (cov_iff hv c1).1 c3
  have hsub := bestM_sub (edgesTo rs rs.length) 0
  have hle := match_le (bestM (edgesTo rs rs.length) 0) C (by omega) (bestM_ok _ _).1 fun e he => hce e (hsub.subset he)
  refine ⟨C, c1, by unfold fewestV; rw [if_pos hv]; exact c2, c3, hle, fun Z hZ z1 z2 => Nat.le_antisymm hle ?_⟩
  have hn := nDiff_lt (b := Z) (n := rs.length) hall
  have i1 := (indep_iff (by omega)).1 z1
  have i2 := (indep_iff (by omega)).1 z2
  obtain ⟨M, m1, m2, m3⟩ := konig Z _ (edgesTo rs rs.length) (Nat.le_refl _) (fun e he => by
    obtain ⟨q1, q2⟩ := edge_small g he
    obtain ⟨h1, h2, h3⟩ := edge_mem.1 he
    refine ⟨q1, q2, fun hz => ?_⟩
    cases e1 : Z.testBit e.1
    · have e2 := hz.symm.trans e1
      have := i2 e.1 e.2 (nDiff_bit.2 ⟨all_bit.2 (by omega), e1⟩) (nDiff_bit.2 ⟨all_bit.2 h2, e2⟩)
      rw [h3] at this; cases this
    · have := i1 e.1 e.2 e1 (hz.symm.trans e1)
      rw [h3] at this; cases this) (cnt C) fun D hD hc => by
    have hD' : D &&& (2 ^ rs.length - 1) < 2 ^ rs.length := Nat.lt_of_le_of_lt Nat.and_le_right hall
    have h1 := c4 _ hD' ((cov_iff hv hD').2 fun e he => by
      obtain ⟨h1, h2, -⟩ := edge_mem.1 he
      have q : ∀ i, i < rs.length → D.testBit i = true → (D &&& (2 ^ rs.length - 1)).testBit i = true := fun i hi h => by
        rw [Nat.testBit_and, h, all_bit.2 hi]; rfl
      rcases hc e he with h | h
      · exact .inl (q _ (by omega) h)
      · exact .inr (q _ h2 h))
    exact Nat.le_trans h1 (cnt_mono (by omega) fun i hi => by rw [Nat.testBit_and, Bool.and_eq_true] at hi; exact hi.1)
  exact Nat.le_trans m3 (bestM_max _ _ M m1 m2 fun e _ => by unfold hitE; rw [Nat.zero_testBit, Nat.zero_testBit]; rfl)

/-! ### Lists of lists as matchings -/
def rowL (ls : List (List Int)) (k : Nat) : List Int := ls.getD k []
def lsOf (es : List (Nat × Nat)) : List (List Int) := es.map fun e => [(e.1 : Int), (e.2 : Int)]
theorem lsOf_len (es : List (Nat × Nat)) : (lsOf es).length = es.length := by simp [lsOf]
theorem lsOf_at {es : List (Nat × Nat)} {k : Nat} (h : k < es.length) : rowL (lsOf es) k = [(es[k].1 : Int), (es[k].2 : Int)] := by simp [rowL, lsOf, h]
/-- Are v and w neighbours? -/
def edgB (n : Int) (rs : List Int) (v w : Int) : Bool := isGraphB n rs && (decide (0 ≤ v) && (decide (0 ≤ w) && (decide (v < n) && (decide (w < n) && (gn rs v.toNat).testBit w.toNat))))
theorem edgB_true {n : Int} {rs : List Int} {v w : Int} (h : edgB n rs v w = true) : n = rs.length ∧ VG rs ∧ ∃ a b : Nat, v = a ∧ w = b ∧ a < rs.length ∧ b < rs.length ∧ (gn rs a).testBit b = true := by
  unfold edgB at h
  simp only [Bool.and_eq_true, decide_eq_true_eq] at h
  obtain ⟨hg, h1, h2, h3, h4, h5⟩ := h
  obtain ⟨rfl, g⟩ := VG.of hg
  exact ⟨rfl, g, v.toNat, w.toNat, by omega, by omega, by omega, by omega, h5⟩
theorem edgB_mk {rs : List Int} {a b : Nat} (hv : isGraphB rs.length rs = true) (ha : a < rs.length) (hb : b < rs.length) (h : (gn rs a).testBit b = true) : edgB rs.length rs a b = true := by
  unfold edgB
  rw [hv, Int.toNat_natCast, Int.toNat_natCast, h, decide_eq_true (by omega), decide_eq_true (by omega), decide_eq_true (by omega), decide_eq_true (by omega)]
  rfl
/-- The ends of the first k pairs. -/
def mUsed (ls : List (List Int)) : Nat → Nat
  | 0 => 0
  | k + 1 => mUsed ls k ||| 2 ^ (gi (rowL ls k) 0).toNat ||| 2 ^ (gi (rowL ls k) 1).toNat
def mOk (n : Int) (rs : List Int) (ls : List (List Int)) (k : Nat) : Bool :=
  decide ((rowL ls k).length = 2) && (edgB n rs (gi (rowL ls k) 0) (gi (rowL ls k) 1) && (!(mUsed ls k).testBit (gi (rowL ls k) 0).toNat && !(mUsed ls k).testBit (gi (rowL ls k) 1).toNat))
def matchB (n : Int) (rs : List Int) (ls : List (List Int)) : Bool := isGraphB n rs && decide (∀ k, k < ls.length → mOk n rs ls k = true)
theorem matchB_bad {n : Int} {rs : List Int} {ls : List (List Int)} {k : Nat} (hk : k < ls.length) (h : mOk n rs ls k = false) : matchB n rs ls = false := by
  unfold matchB; rw [decide_eq_false, Bool.and_false]; intro a; rw [a k hk] at h; cases h
theorem matchB_end {n : Int} {rs : List Int} {ls : List (List Int)} (h : ∀ k, k < ls.length → mOk n rs ls k = true) : matchB n rs ls = isGraphB n rs := by unfold matchB; rw [decide_eq_true h, Bool.and_true]
theorem mUsed_lt {n : Int} {rs : List Int} {ls : List (List Int)} : ∀ k, (∀ j, j < k → mOk n rs ls j = true) → mUsed ls k < 128
  | 0, _ => by show (0 : Nat) < 128; omega
  | k + 1, h => by
    have ih := mUsed_lt k fun j hj => h j (by omega)
    have hk := h k (by omega)
    unfold mOk at hk
    rw [Bool.and_eq_true, Bool.and_eq_true] at hk
    obtain ⟨-, g, a, b, h1, h2, h3, h4, -⟩ := edgB_true hk.2.1
    have := g.le
    unfold mUsed
    rw [h1, h2, Int.toNat_natCast, Int.toNat_natCast]
    exact Nat.or_lt_two_pow (n := 7) (Nat.or_lt_two_pow (n := 7) ih (Nat.pow_lt_pow_right (by decide) (by omega))) (Nat.pow_lt_pow_right (by decide) (by omega))
theorem mUsed_bit {es : List (Nat × Nat)} {i : Nat} : ∀ k, k ≤ es.length → (mUsed (lsOf es) k).testBit i = true → ∃ j, ∃ h : j < es.length, j < k ∧ (es[j].1 = i ∨ es[j].2 = i)
  | 0, _, h => by rw [mUsed, Nat.zero_testBit] at h; cases h
  | k + 1, hk, h => by
    rw [mUsed, lsOf_at (by omega), Nat.testBit_or, Nat.testBit_or, Bool.or_eq_true, Bool.or_eq_true] at h
    simp only [gi, List.getD_cons_zero, List.getD_cons_succ, Int.toNat_natCast, Nat.testBit_two_pow, decide_eq_true_eq] at h
    rcases h with (h | h) | h
    · obtain ⟨j, h1, h2, h3⟩ := mUsed_bit k (by omega) h
      exact ⟨j, h1, by omega, h3⟩
    · exact ⟨k, by omega, by omega, .inl h⟩
    · exact ⟨k, by omega, by omega, .inr h⟩
theorem matchB_ok {rs : List Int} (hv : isGraphB rs.length rs = true) {M : List (Nat × Nat)} (hp : M.Pairwise apart) (hs : ∀ e ∈ M, e ∈ edgesTo rs rs.length) : matchB rs.length rs (lsOf M) = true := by
  have g := (VG.of hv).2
  rw [matchB_end, hv]
  intro k hk
  rw [lsOf_len] at hk
  obtain ⟨h1, h2, h3⟩ := edge_mem.1 (hs M[k] (List.getElem_mem hk))
  have hapart := List.pairwise_iff_getElem.1 hp
  have hno : ∀ i, i = M[k].1 ∨ i = M[k].2 → (mUsed (lsOf M) k).testBit i = false := fun i hi => by
    cases e : (mUsed (lsOf M) k).testBit i
    · rfl
    · exfalso
      obtain ⟨j, j1, j2, j3⟩ := mUsed_bit k (by omega) e
      obtain ⟨p1, p2, p3, p4⟩ := hapart j k j1 hk j2
      rcases hi with rfl | rfl <;> rcases j3 with h | h <;> simp_all
  unfold mOk
  rw [lsOf_at hk]
  have e0 : gi [(M[k].1 : Int), (M[k].2 : Int)] 0 = (M[k].1 : Int) := rfl
  have e1 : gi [(M[k].1 : Int), (M[k].2 : Int)] 1 = (M[k].2 : Int) := rfl
  rw [e0, e1, Int.toNat_natCast, Int.toNat_natCast, hno _ (.inl rfl), hno _ (.inr rfl)]
  rw [edgB_mk hv (by omega) h2 h3]
  rfl

end Go.Proofs.Ytgklgheaojoimaa
