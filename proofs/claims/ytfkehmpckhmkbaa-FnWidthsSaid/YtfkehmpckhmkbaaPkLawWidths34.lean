/-
  Plain laws of the widths: treewidth, pathwidth, bandwidth and the largest clique. No conditions.
  Plain laws of the widths: what the largest clique says of them, in chordal, interval and proper graphs. No conditions.
-/
import Derived.Test.YtfkehmpckhmkbaaPkLawWidths27
import Derived.Test.YtfkehmpckhmkbaaPkLawWidths29
import Derived.Test.YtfkehmpckhmkbaaPkLawWidths33
namespace Go.Proofs.Ytfkehmpckhmkbaa
open Go.RowKit

theorem unionS_bit (x : Nat) : ∀ (t : List Nat) (S : Nat), (unionS S t).testBit x = (S.testBit x || decide (x ∈ t))
  | [], S => by simp [unionS]
  | v :: t, S => by
    show (unionS (S ||| 2 ^ v) t).testBit x = _
    rw [unionS_bit x t, Nat.testBit_or, Nat.testBit_two_pow, Bool.or_assoc]
    congr 1
    rw [Bool.eq_iff_iff]
    simp only [Bool.or_eq_true, decide_eq_true_eq, List.mem_cons]
    exact ⟨fun h => h.elim (fun e => .inl e.symm) .inr, fun h => h.elim (fun e => .inl e.symm) .inr⟩
theorem union_mem {t : List Nat} {x : Nat} : (unionS 0 t).testBit x = true ↔ x ∈ t := by
  rw [unionS_bit, Nat.zero_testBit, Bool.false_or, decide_eq_true_eq]
theorem fresh_iff {N : Nat} : ∀ (t : List Nat) (S : Nat), freshS N S t ↔ (∀ x ∈ t, x < N ∧ S.testBit x = false) ∧ t.Nodup
  | [], S => by simp [freshS]
  | v :: t, S => by
    show (v < N ∧ S.testBit v = false ∧ freshS N (S ||| 2 ^ v) t) ↔ _
    rw [fresh_iff t (S ||| 2 ^ v), List.nodup_cons]
    constructor
    · rintro ⟨h1, h2, h3, h4⟩
      refine ⟨fun x hx => ?_, fun hm => ?_, h4⟩
      · rcases List.mem_cons.1 hx with rfl | hx
        · exact ⟨h1, h2⟩
        · have := h3 x hx
          rw [Nat.testBit_or, Bool.or_eq_false_iff] at this
          exact ⟨this.1, this.2.1⟩
      · have := (h3 v hm).2
        rw [Nat.testBit_or, Nat.testBit_two_pow] at this
        simp at this
    · rintro ⟨h1, h2, h3⟩
      refine ⟨(h1 v (by simp)).1, (h1 v (by simp)).2, fun x hx => ?_, h3⟩
      have := h1 x (by simp [hx])
      refine ⟨this.1, ?_⟩
      rw [Nat.testBit_or, Nat.testBit_two_pow, this.2, Bool.false_or, decide_eq_false_iff_not]
      rintro rfl
      exact h2 hx
theorem costF_le {c : Nat → Nat → Nat} {e : Nat → Nat} {t : List Nat} {M : Nat} : ∀ k, k ≤ t.length → (costF c e 0 (t.take k) 0 ≤ M ↔ ∀ j, j < k → c (unionS 0 (t.take j)) (eln t j) ≤ M ∧ e (unionS 0 (t.take (j + 1))) ≤ M)
  | 0, _ => by simp [costF]
  | k + 1, hk => by
    have ih := costF_le (c := c) (e := e) (t := t) (M := M) k (by omega)
    have hu : unionS 0 (t.take (k + 1)) = unionS 0 (t.take k) ||| 2 ^ eln t k := by rw [take_eln (l := t) (k := k) (by omega), unionS_snoc]
    rw [take_eln (l := t) (k := k) (by omega), costF_snoc, ← hu]
    constructor
    · intro h j hj
      by_cases e : j = k
      · subst e; omega
      · exact ih.1 (by omega) j (by omega)
    · intro h
      have h1 := ih.2 fun j hj => h j (by omega)
      have h2 := h k (by omega)
      omega

/-! ### Orders that reach a width, and orders that bound it -/
def U (t : List Nat) (k : Nat) : Nat := unionS 0 (t.take k)
theorem U_lt {N : Nat} {t : List Nat} (h : freshS N 0 t) (k : Nat) : U t k < 2 ^ N := fresh_lt _ _ (fresh_take t 0 h k) (Nat.two_pow_pos _)
theorem U_bit {t : List Nat} {k x : Nat} : (U t k).testBit x = true ↔ x ∈ t.take k := union_mem
theorem path_get {rs : List Int} (hv : isGraphB rs.length rs = true) : ∃ t : List Nat, freshS rs.length 0 t ∧ t.length = rs.length ∧ ∀ M : Nat, pathV rs.length rs ≤ (M : Int) ↔ ∀ k, k < t.length → frontN rs (U t (k + 1)) ≤ M := by
  have hN := (VG.of hv).2.le
  obtain ⟨t, b1, b2, b3⟩ := dpV_order (c := fun _ _ => 0) (e := pwE rs) (N := rs.length) hN (fun _ _ => Nat.zero_le _) (fun S => Nat.min_le_right _ _) _ _ (Nat.le_refl _) (all_lt rs.length)
  have hl := fresh_full hN b1 b2
  refine ⟨t, b1, hl, fun M => ?_⟩
  have h := costF_le (c := fun _ _ => 0) (e := pwE rs) (t := t) (M := M) t.length (Nat.le_refl _)
  rw [List.take_length, b3] at h
  rw [pathV_of hv, Int.ofNat_le, h]
  constructor
  · intro h k hk
    have h9 : pwE rs (U t (k + 1)) ≤ M := (h k hk).2
    rw [pwE_eq hN (U_lt b1 (k + 1))] at h9
    exact h9
  · intro h k hk
    refine ⟨Nat.zero_le _, ?_⟩
    have := h k hk
    show pwE rs (U t (k + 1)) ≤ M
    rw [pwE_eq hN (U_lt b1 (k + 1))]
    exact this
theorem path_le {rs : List Int} (hv : isGraphB rs.length rs = true) {t : List Nat} (h : freshS rs.length 0 t) (hl : t.length = rs.length) {M : Nat} (hM : ∀ k, k < t.length → frontN rs (U t (k + 1)) ≤ M) : pathV rs.length rs ≤ (M : Int) := by
  have hN := (VG.of hv).2.le
  have hlow := dpV_cost (c := fun _ _ => 0) (e := pwE rs) hN t 0 0 (Nat.two_pow_pos _) h (Nat.le_of_eq (dpV_zero _ _ _))
  rw [fresh_all hN h hl] at hlow
  have hc := (costF_le (c := fun _ _ => 0) (e := pwE rs) (t := t) (M := M) t.length (Nat.le_refl _)).2 fun k hk => ⟨Nat.zero_le _, by
    show pwE rs (U t (k + 1)) ≤ M
    rw [pwE_eq hN (U_lt h (k + 1))]
    exact hM k hk⟩
  rw [List.take_length] at hc
  rw [pathV_of hv]
  omega
theorem tree_get {rs : List Int} (hv : isGraphB rs.length rs = true) : ∃ t : List Nat, freshS rs.length 0 t ∧ t.length = rs.length ∧ ∀ M : Nat, treeV rs.length rs ≤ (M : Int) ↔ ∀ k, k < t.length → cnt (reachN rs (U t k) (eln t k)) ≤ M := by
  have hN := (VG.of hv).2.le
  obtain ⟨t, b1, b2, b3⟩ := dpV_order (c := trC rs) (e := fun _ => 0) (N := rs.length) hN (fun _ _ => Nat.min_le_right _ _) (fun _ => Nat.zero_le _) _ _ (Nat.le_refl _) (all_lt rs.length)
  have hl := fresh_full hN b1 b2
  refine ⟨t, b1, hl, fun M => ?_⟩
  have h := costF_le (c := trC rs) (e := fun _ => 0) (t := t) (M := M) t.length (Nat.le_refl _)
  rw [List.take_length, b3] at h
  rw [treeV_of hv, Int.ofNat_le, h]
  constructor
  · intro h k hk
    have := (h k hk).1
    rw [trC_eq hN] at this
    exact this
  · intro h k hk
    refine ⟨?_, Nat.zero_le _⟩
    rw [trC_eq hN]
    exact h k hk
theorem tree_le {rs : List Int} (hv : isGraphB rs.length rs = true) {t : List Nat} (h : freshS rs.length 0 t) (hl : t.length = rs.length) {M : Nat} (hM : ∀ k, k < t.length → cnt (reachN rs (U t k) (eln t k)) ≤ M) : treeV rs.length rs ≤ (M : Int) := by
  have hN := (VG.of hv).2.le
  have hlow := dpV_cost (c := trC rs) (e := fun _ => 0) hN t 0 0 (Nat.two_pow_pos _) h (Nat.le_of_eq (dpV_zero _ _ _))
  rw [fresh_all hN h hl] at hlow
  have hc := (costF_le (c := trC rs) (e := fun _ => 0) (t := t) (M := M) t.length (Nat.le_refl _)).2 fun k hk => ⟨by
    rw [trC_eq hN]
    exact hM k hk, Nat.zero_le _⟩
  rw [List.take_length] at hc
  rw [treeV_of hv]
  omega
theorem front_mem {rs : List Int} (g : VG rs) {S x : Nat} (hS : S < 2 ^ rs.length) : (S.testBit x = true ∧ outOf rs S x = true) ↔ S.testBit x = true ∧ ∃ u, S.testBit u = false ∧ eb rs x u = true := by
  refine and_congr_right fun hx => ?_
  unfold outOf
  rw [decide_eq_true_eq]
  constructor
  · intro h
    refine Classical.byContradiction fun hn => h (Nat.eq_of_testBit_eq fun u => ?_)
    rw [Nat.testBit_and]
    cases hb : (gn rs x).testBit u
    · rfl
    · cases hu : S.testBit u
      · exact absurd ⟨u, hu, hb⟩ hn
      · rfl
  · rintro ⟨u, hu, hb⟩ e
    have : (gn rs x &&& S).testBit u = (gn rs x).testBit u := by rw [e]
    rw [Nat.testBit_and, hu, Bool.and_false] at this
    unfold eb at hb
    rw [← this] at hb; cases hb
theorem front_le {rs : List Int} (g : VG rs) {S : Nat} (hS : S < 2 ^ rs.length) {ys : List Nat} (h : ∀ x u, S.testBit x = true → S.testBit u = false → eb rs x u = true → x ∈ ys) : frontN rs S ≤ ys.length := by
  unfold frontN
  rw [List.countP_eq_length_filter]
  refine nodup_sub_len _ _ ((els_nodup S).filter _) fun x hx => ?_
  rw [List.mem_filter, mem_els hS g.le] at hx
  obtain ⟨h1, u, h2, h3⟩ := (front_mem g hS).1 hx
  exact h x u h1 h2 h3
theorem cnt_le_front {rs : List Int} (g : VG rs) {S R : Nat} (hS : S < 2 ^ rs.length) (hR : R < 2 ^ rs.length) (h : ∀ x, R.testBit x = true → S.testBit x = true ∧ ∃ u, S.testBit u = false ∧ eb rs x u = true) : cnt R ≤ frontN rs S := by
  unfold frontN
  rw [List.countP_eq_length_filter]
  refine nodup_sub_len _ _ (els_nodup R) fun x hx => ?_
  rw [mem_els hR g.le] at hx
  rw [List.mem_filter, mem_els hS g.le]
  exact (front_mem g hS).2 (h x hx)
theorem cnt_le_len {N R : Nat} (hN : N ≤ 7) (hR : R < 2 ^ N) {ys : List Nat} (h : ∀ x, R.testBit x = true → x ∈ ys) : cnt R ≤ ys.length :=
  nodup_sub_len _ _ (els_nodup R) fun x hx => h x ((mem_els hR hN).1 hx)

/-! ### treewidth ≤ pathwidth ≤ bandwidth -/
theorem tree_path {rs : List Int} (hv : isGraphB rs.length rs = true) : treeV rs.length rs ≤ pathV rs.length rs := by
  have g := (VG.of hv).2
  obtain ⟨t, h1, h2, h3⟩ := path_get hv
  obtain ⟨f1, f2⟩ := (fresh_iff t 0).1 h1
  obtain ⟨M, hM⟩ : ∃ M : Nat, pathV rs.length rs = (M : Int) := ⟨_, pathV_of hv⟩
  have hb := (h3 M).1 (by omega)
  have hr : freshS rs.length 0 t.reverse := (fresh_iff _ 0).2 ⟨fun x hx => f1 x (List.mem_reverse.1 hx), (List.reverse_perm t).nodup_iff.2 f2⟩
  rw [hM]
  refine tree_le hv hr (by rw [List.length_reverse]; exact h2) fun j hj => ?_
  rw [List.length_reverse] at hj
  have hv2 : eln t.reverse j = eln t (t.length - 1 - j) := by
    unfold eln
    rw [List.getD_eq_getElem?_getD, List.getD_eq_getElem?_getD, List.getElem?_reverse hj]
  have htk : t.reverse.take j = (t.drop (t.length - j)).reverse := List.take_reverse
  have hvN := (f1 _ (eln_mem (show t.length - 1 - j < t.length by omega))).1
  have hsplit : ∀ x, x ∈ t → x ∈ t.take (t.length - 1 - j) ∨ x = eln t (t.length - 1 - j) ∨ x ∈ t.drop (t.length - j) := fun x hx => by
    rw [← List.take_append_drop (t.length - j) t, List.mem_append] at hx
    rcases hx with hx | hx
    · have e : t.length - j = (t.length - 1 - j) + 1 := by omega
      rw [e, take_eln (by omega), List.mem_append, List.mem_singleton] at hx
      exact hx.elim .inl fun h => .inr (.inl h)
    · exact .inr (.inr hx)
  have hU : ∀ x, (U t.reverse j).testBit x = true ↔ x ∈ t.drop (t.length - j) := fun x => by rw [U_bit, htk, List.mem_reverse]
  have hdis : ∀ x, x ∈ t.take (t.length - 1 - j) → x ∉ t.drop (t.length - j) ∧ x ≠ eln t (t.length - 1 - j) := fun x hx => by
    obtain ⟨i, hi, hil, rfl⟩ := mem_take.1 hx
    refine ⟨fun hd => ?_, fun e => eln_ne f2 (by omega) (by omega) (by omega) e⟩
    obtain ⟨q, hq, e⟩ := List.getElem_of_mem hd
    rw [List.length_drop] at hq
    rw [List.getElem_drop] at e
    have e2 : eln t (t.length - j + q) = eln t i := by rw [← e]; simp [eln, show t.length - j + q < t.length by omega]
    exact eln_ne f2 (by omega) (by omega) (by omega) e2
  rw [hv2]
  by_cases h0 : t.length - 1 - j = 0
  · -- the last one reaches nothing
    have hz : reachN rs (U t.reverse j) (eln t (t.length - 1 - j)) = 0 := by
      refine Nat.eq_of_testBit_eq fun x => ?_
      rw [Nat.zero_testBit, ← Bool.not_eq_true, reach_con g (U_lt hr j) hvN]
      rintro ⟨q1, q2, q3, -⟩
      have hxt : x ∈ t := by
        have := fresh_all g.le h1 h2
        rw [← union_mem, this, Nat.testBit_two_pow_sub_one, decide_eq_true_eq]; exact q1
      rcases hsplit x hxt with h | h | h
      · rw [h0] at h; simp at h
      · exact q3 h
      · rw [(hU x).2 h] at q2; cases q2
    rw [hz]; exact Nat.zero_le _
  · have hk := hb (t.length - 1 - j - 1) (by omega)
    rw [show t.length - 1 - j - 1 + 1 = t.length - 1 - j by omega] at hk
    refine Nat.le_trans (cnt_le_front g (U_lt h1 _) (reachN_lt rs _ _) fun x hx => ?_) hk
    obtain ⟨q1, q2, q3, q4⟩ := (reach_con g (U_lt hr j) hvN).1 hx
    have hxt : x ∈ t := by
      have := fresh_all g.le h1 h2
      rw [← union_mem, this, Nat.testBit_two_pow_sub_one, decide_eq_true_eq]; exact q1
    have hxp : x ∈ t.take (t.length - 1 - j) := by
      rcases hsplit x hxt with h | h | h
      · exact h
      · exact absurd h q3
      · rw [(hU x).2 h] at q2; cases q2
    refine ⟨U_bit.2 hxp, ?_⟩
    have hback := Con.sym g q4 hvN
    have hnb : ∀ u, (u = eln t (t.length - 1 - j) ∨ (U t.reverse j).testBit u = true) → (U t (t.length - 1 - j)).testBit u = false := fun u hu => by
      rw [← Bool.not_eq_true, U_bit]
      intro hm
      have := hdis u hm
      rcases hu with hu | hu
      · exact this.2 hu
      · exact this.1 ((hU u).1 hu)
    cases hback with
    | edge h => exact ⟨_, hnb _ (.inl rfl), h⟩
    | step h hs _ => exact ⟨_, hnb _ (.inr hs), h⟩
theorem path_band {rs : List Int} (hv : isGraphB rs.length rs = true) {t : List Nat} (h : freshS rs.length 0 t) (hl : t.length = rs.length) : pathV rs.length rs ≤ (bandTo rs (t.map Int.ofNat) t.length : Int) := by
  have g := (VG.of hv).2
  obtain ⟨f1, f2⟩ := (fresh_iff t 0).1 h
  have hb := (bandTo_le (rs := rs) (l := t.map Int.ofNat) (M := bandTo rs (t.map Int.ofNat) t.length) t.length).1 (Nat.le_refl _)
  generalize bandTo rs (t.map Int.ofNat) t.length = b at *
  refine path_le hv h hl fun k hk => ?_
  refine Nat.le_trans (front_le g (U_lt h _) (ys := (t.take (k + 1)).drop (k + 1 - b)) fun x u hx hu he => ?_) (by rw [List.length_drop, List.length_take]; omega)
  obtain ⟨i, hi, hil, rfl⟩ := mem_take.1 (U_bit.1 hx)
  have hxl := (f1 _ (eln_mem hil)).1
  have hul := eb_lt g hxl he
  have hut : u ∈ t := by rw [← union_mem, fresh_all g.le h hl, Nat.testBit_two_pow_sub_one, decide_eq_true_eq]; exact hul
  obtain ⟨j, hj, rfl⟩ := mem_eln hut
  have hjk : k + 1 ≤ j := by
    refine Classical.byContradiction fun hc => ?_
    rw [U_bit.2 (mem_take.2 ⟨j, by omega, hj, rfl⟩)] at hu; cases hu
  have := hb j hj i (by omega) (by
    unfold nearB
    rw [gi_map t i hil, gi_map t j hj, Int.toNat_natCast, Int.toNat_natCast]
    have e := eb_sym g hxl hul
    rw [he] at e
    exact e.symm)
  rw [List.mem_iff_getElem]
  refine ⟨i - (k + 1 - b), by rw [List.length_drop, List.length_take]; omega, ?_⟩
  rw [List.getElem_drop, List.getElem_take]
  simp only [show k + 1 - b + (i - (k + 1 - b)) = i by omega]
  simp [eln, hil]

end Go.Proofs.Ytfkehmpckhmkbaa

namespace Go.Proofs.Ytfkehmpckhmkbaa
open Go.RowKit

theorem cliqueN_none (rs : List Int) : cliqueN rs 0 = true := cliqueN_ok fun v _ => by unfold cliqueBad; rw [Nat.zero_testBit]; rfl
theorem most_is {p : Nat → Bool} (h0 : p 0 = true) : ∀ k, p (largestTo p k) = true ∧ ∀ S, S < k → p S = true → cnt S ≤ cnt (largestTo p k) := by
  intro k
  induction k with
  | zero => exact ⟨h0, fun S h => by omega⟩
  | succ k ih =>
    obtain ⟨h1, h2⟩ := ih
    have e : largestTo p (k + 1) = if cnt (largestTo p k) < cnt k ∧ p k = true then k else largestTo p k := rfl
    by_cases hc : cnt (largestTo p k) < cnt k ∧ p k = true
    · rw [e, if_pos hc]
      refine ⟨hc.2, fun S hS hp => ?_⟩
      rcases Nat.lt_succ_iff_lt_or_eq.1 hS with h | rfl
      · have := h2 S h hp; omega
      · exact Nat.le_refl _
    · rw [e, if_neg hc]
      refine ⟨h1, fun S hS hp => ?_⟩
      rcases Nat.lt_succ_iff_lt_or_eq.1 hS with h | rfl
      · exact h2 S h hp
      · by_cases h : cnt (largestTo p S) < cnt S
        · exact absurd ⟨h, hp⟩ hc
        · omega
/-- The largest clique: W many, and no clique has more. -/
theorem clq_is {rs : List Int} (hv : isGraphB rs.length rs = true) : ∃ (W K : Nat), clqN rs.length rs = (W : Int) ∧ K < 2 ^ rs.length ∧ cliqueN rs K = true ∧ cnt K = W ∧ ∀ S, S < 2 ^ rs.length → cliqueN rs S = true → cnt S ≤ W := by
  have h0 : cliqueB rs.length rs ((0 : Nat) : Int) = true := by rw [cliqueB_nat (isSetB_mk hv (Nat.two_pow_pos _))]; exact cliqueN_none rs
  obtain ⟨h1, h2⟩ := most_is (p := fun S : Nat => cliqueB rs.length rs S) h0 (2 ^ rs.length)
  have hlt := largestTo_lt (fun S : Nat => cliqueB rs.length rs S) (2 ^ rs.length) (Nat.two_pow_pos _)
  refine ⟨_, _, clqN_of hv, hlt, ?_, rfl, fun S hS hc => h2 S hS (by rw [cliqueB_nat (isSetB_mk hv hS)]; exact hc)⟩
  rw [← cliqueB_nat (isSetB_mk hv hlt)]
  exact h1
theorem set_has : ∀ t : List Nat, ∀ N, (∀ y ∈ t, y < N) → ∃ S, S < 2 ^ N ∧ ∀ x, S.testBit x = true ↔ x ∈ t
  | [], N, _ => ⟨0, Nat.two_pow_pos _, fun x => by simp⟩
  | a :: t, N, h => by
    obtain ⟨S, h1, h2⟩ := set_has t N fun y hy => h y (List.mem_cons_of_mem _ hy)
    refine ⟨S ||| 2 ^ a, Nat.or_lt_two_pow h1 (Nat.pow_lt_pow_right (by decide) (h a (by simp))), fun x => ?_⟩
    rw [Nat.testBit_or, Nat.testBit_two_pow, Bool.or_eq_true, decide_eq_true_eq, h2, List.mem_cons]
    exact ⟨fun h => h.elim .inr fun e => .inl e.symm, fun h => h.elim (fun e => .inr e.symm) .inl⟩
/-- A list of different vertices any two of which are joined is no longer than the largest clique. -/
theorem list_clique {rs : List Int} (g : VG rs) {W : Nat} (hW : ∀ S, S < 2 ^ rs.length → cliqueN rs S = true → cnt S ≤ W) {t : List Nat} (hn : t.Nodup) (hl : ∀ x ∈ t, x < rs.length) (hc : ∀ a ∈ t, ∀ b ∈ t, a ≠ b → eb rs a b = true) : t.length ≤ W := by
  obtain ⟨S, hS, hm⟩ := set_has t rs.length hl
  refine Nat.le_trans (nodup_sub_len _ (els S) hn fun x hx => (mem_els hS g.le).2 ((hm x).2 hx)) (hW S hS ((clique_iff g hS).2 fun a b ha hb hne => hc a ((hm a).1 ha) b ((hm b).1 hb) hne))

/-! ### The clique and the treewidth -/
theorem clique_tree {rs : List Int} (hv : isGraphB rs.length rs = true) : clqN rs.length rs ≤ treeV rs.length rs + 1 := by
  have g := (VG.of hv).2
  obtain ⟨W, K, e, hK, hc, hcn, -⟩ := clq_is hv
  obtain ⟨t, h1, h2, h3⟩ := tree_get hv
  obtain ⟨f1, f2⟩ := (fresh_iff t 0).1 h1
  obtain ⟨M, hM⟩ : ∃ M : Nat, treeV rs.length rs = (M : Int) := ⟨_, treeV_of hv⟩
  have hb := (h3 M).1 (by omega)
  have hall : ∀ x, x < rs.length → x ∈ t := fun x hx => by rw [← union_mem, fresh_all g.le h1 h2, Nat.testBit_two_pow_sub_one, decide_eq_true_eq]; exact hx
  rw [e, hM]
  suffices h : W ≤ M + 1 by omega
  by_cases hex : ∃ i, i < t.length ∧ K.testBit (eln t i) = true
  · obtain ⟨i, hi, hKi, hmin⟩ : ∃ i, i < t.length ∧ K.testBit (eln t i) = true ∧ ∀ j, j < i → K.testBit (eln t j) = false := by
      obtain ⟨i, hi⟩ := hex
      induction i using Nat.strongRecOn with
      | ind i ih =>
        by_cases hj : ∃ j, j < i ∧ K.testBit (eln t j) = true
        · obtain ⟨j, hj, hk⟩ := hj
          exact ih j hj ⟨by omega, hk⟩
        · exact ⟨i, hi.1, hi.2, fun j hj2 => by
            rw [← Bool.not_eq_true]
            exact fun h => hj ⟨j, hj2, h⟩⟩
    have hvl := (f1 _ (eln_mem hi)).1
    have hk := hb i hi
    have hle : cnt K ≤ (eln t i :: els (reachN rs (U t i) (eln t i))).length := cnt_le_len g.le hK fun x hx => by
      by_cases hxe : x = eln t i
      · rw [hxe]; simp
      · refine List.mem_cons_of_mem _ ((mem_els (reachN_lt rs _ _) g.le).2 ((reach_con g (U_lt h1 i) hvl).2 ⟨testBit_lt hK hx, ?_, hxe, .edge ?_⟩))
        · rw [← Bool.not_eq_true, U_bit]
          intro hm
          obtain ⟨j, hj, hjl, rfl⟩ := mem_take.1 hm
          rw [hmin j hj] at hx; cases hx
        · exact (clique_iff g hK).1 hc _ _ hKi hx (fun e => hxe e.symm)
    simp only [List.length_cons] at hle
    have : (els (reachN rs (U t i) (eln t i))).length ≤ M := hk
    omega
  · have : cnt K ≤ ([] : List Nat).length := cnt_le_len g.le hK fun x hx => by
      obtain ⟨i, hi, rfl⟩ := mem_eln (hall x (testBit_lt hK hx))
      exact absurd ⟨i, hi, hx⟩ hex
    simp at this
    omega

/-! ### Chordal graphs -/
theorem chordal_tree {rs : List Int} (h : chordalB rs.length rs = true) : treeV rs.length rs + 1 ≤ clqN rs.length rs := by
  cases hl : elimV rs.length rs with
  | none => unfold chordalB at h; rw [hl] at h; cases h
  | some l =>
    obtain ⟨-, hv, t, rfl, ho⟩ := elim_facts hl
    have g := (VG.of hv).2
    obtain ⟨W, K, e, hK, hc, hcn, hW⟩ := clq_is hv
    have hf : freshS rs.length 0 t := (fresh_iff t 0).2 ⟨fun x hx => ⟨ho.lt x hx, by simp⟩, ho.nodup⟩
    -- nothing is joined by elimination
    have hno : ∀ k, k ≤ t.length → ∀ a b, a < rs.length → b < rs.length → (U t k).testBit a = false → (U t k).testBit b = false → a ≠ b → Con rs (U t k) a b → eb rs a b = true := by
      intro k
      induction k with
      | zero => intro _ a b _ _ _ _ _ hcon; exact Con.zero.1 hcon
      | succ k ih =>
        intro hk a b hal hbl ha hb hne hcon
        have hu : U t (k + 1) = U t k ||| 2 ^ eln t k := by unfold U; rw [take_eln (by omega), unionS_snoc]
        rw [hu] at ha hb hcon
        rw [Nat.testBit_or, Nat.testBit_two_pow, Bool.or_eq_false_iff, decide_eq_false_iff_not] at ha hb
        have hvl := ho.lt _ (eln_mem (show k < t.length by omega))
        have hvU : (U t k).testBit (eln t k) = false := by
          rw [← Bool.not_eq_true, U_bit]
          intro hm
          obtain ⟨j, hj, hjl, e2⟩ := mem_take.1 hm
          exact eln_ne ho.nodup (by omega) (by omega) (by omega) e2
        rcases Con.more.1 hcon with h1 | ⟨h1, h2⟩
        · exact ih (by omega) a b hal hbl ha.1 hb.1 hne h1
        · have e1 := ih (by omega) a (eln t k) hal hvl ha.1 hvU (fun e => ha.2 e.symm) h1
          have e2 := ih (by omega) (eln t k) b hvl hbl hvU hb.1 hb.2 h2
          obtain ⟨Si, hSi, hp, hm⟩ := ho.step k (by omega)
          unfold splB at hp
          rw [Bool.and_eq_true] at hp
          have hsub : gn rs (eln t k) &&& Si < 2 ^ rs.length := Nat.lt_of_le_of_lt Nat.and_le_left (g.lt _ hvl)
          refine (clique_iff g hsub).1 hp.2 a b ?_ ?_ hne
          · rw [Nat.testBit_and, Bool.and_eq_true]
            refine ⟨?_, (hm a).2 ⟨hal, fun h => ?_⟩⟩
            · have := eb_sym g hal hvl; rw [e1] at this; exact this.symm
            · have := U_bit.2 h; rw [ha.1] at this; cases this
          · rw [Nat.testBit_and, Bool.and_eq_true]
            refine ⟨e2, (hm b).2 ⟨hbl, fun h => ?_⟩⟩
            have := U_bit.2 h; rw [hb.1] at this; cases this
    obtain ⟨W2, rfl⟩ : ∃ W2, W = W2 + 1 := by
      have h1 := list_clique g hW (t := [0]) (by simp) (fun x hx => by rw [List.mem_singleton] at hx; subst hx; exact g.pos) (fun a ha b hb hne => by rw [List.mem_singleton] at ha hb; exact absurd (ha.trans hb.symm) hne)
      exact ⟨W - 1, by simp at h1; omega⟩
    rw [e]
    have := tree_le hv hf ho.len (M := W2) fun k hk => by
      have hvl := ho.lt _ (eln_mem hk)
      have hR := reachN_lt rs (U t k) (eln t k)
      have hbit := fun x => reach_con g (U_lt hf k) (v := eln t k) (j := x) hvl
      have hvU : (U t k).testBit (eln t k) = false := by
        rw [← Bool.not_eq_true, U_bit]
        intro hm
        obtain ⟨j, hj, hjl, e2⟩ := mem_take.1 hm
        exact eln_ne ho.nodup (by omega) (by omega) (by omega) e2
      have he : ∀ x, (reachN rs (U t k) (eln t k)).testBit x = true → x < rs.length ∧ (U t k).testBit x = false ∧ x ≠ eln t k ∧ eb rs (eln t k) x = true := fun x hx => by
        obtain ⟨q1, q2, q3, q4⟩ := (hbit x).1 hx
        exact ⟨q1, q2, q3, hno k (by omega) _ _ hvl q1 hvU q2 (fun e => q3 e.symm) q4⟩
      have hlen := list_clique g hW (t := eln t k :: els (reachN rs (U t k) (eln t k))) (List.nodup_cons.2 ⟨fun hm => (he _ ((mem_els hR g.le).1 hm)).2.2.1 rfl, els_nodup _⟩)
        (fun x hx => by
          rcases List.mem_cons.1 hx with rfl | hx
          · exact hvl
          · exact (he x ((mem_els hR g.le).1 hx)).1)
        (fun a ha b hb hne => by
          rcases List.mem_cons.1 ha with rfl | ha
          · rcases List.mem_cons.1 hb with rfl | hb
            · exact absurd rfl hne
            · exact (he b ((mem_els hR g.le).1 hb)).2.2.2
          · have ha2 := he a ((mem_els hR g.le).1 ha)
            rcases List.mem_cons.1 hb with rfl | hb
            · have := eb_sym g ha2.1 hvl; rw [ha2.2.2.2] at this; exact this
            · have hb2 := he b ((mem_els hR g.le).1 hb)
              refine hno (k + 1) (by omega) a b ha2.1 hb2.1 ?_ ?_ hne ?_
              · unfold U; rw [take_eln hk, unionS_snoc, Nat.testBit_or, Nat.testBit_two_pow, Bool.or_eq_false_iff, decide_eq_false_iff_not]; exact ⟨ha2.2.1, fun e => ha2.2.2.1 e.symm⟩
              · unfold U; rw [take_eln hk, unionS_snoc, Nat.testBit_or, Nat.testBit_two_pow, Bool.or_eq_false_iff, decide_eq_false_iff_not]; exact ⟨hb2.2.1, fun e => hb2.2.2.1 e.symm⟩
              · unfold U; rw [take_eln hk, unionS_snoc]
                refine Con.more.2 (.inr ⟨.edge ?_, .edge hb2.2.2.2⟩)
                have := eb_sym g ha2.1 hvl; rw [ha2.2.2.2] at this; exact this)
      simp only [List.length_cons] at hlen
      have : (els (reachN rs (U t k) (eln t k))).length = cnt (reachN rs (U t k) (eln t k)) := rfl
      omega
    omega

/-! ### Interval graphs -/
/-- Vertices in an order by which a number does not fall. -/
theorem sorted_order (a : Nat → Nat) (n : Nat) : ∃ t : List Nat, t.length = n ∧ freshS n 0 t ∧ ∀ i j, i < j → j < t.length → a (eln t i) ≤ a (eln t j) := by
  have hp := List.mergeSort_perm (List.range n) (fun x y => decide (a x ≤ a y))
  have hs := List.pairwise_mergeSort (le := fun x y => decide (a x ≤ a y)) (fun x y z h1 h2 => by rw [decide_eq_true_eq] at *; omega) (fun x y => by rw [Bool.or_eq_true, decide_eq_true_eq, decide_eq_true_eq]; omega) (List.range n)
  generalize (List.range n).mergeSort (fun x y => decide (a x ≤ a y)) = t at *
  refine ⟨t, by rw [hp.length_eq, List.length_range], (fresh_iff _ 0).2 ⟨fun x hx => ⟨List.mem_range.1 (hp.mem_iff.1 hx), by simp⟩, hp.nodup_iff.2 List.nodup_range⟩, fun i j hij hj => ?_⟩
  rw [List.pairwise_iff_getElem] at hs
  have := hs i j (by omega) hj hij
  rw [decide_eq_true_eq] at this
  have hi : i < t.length := by omega
  rw [show eln t i = t[i] by simp [eln, hi], show eln t j = t[j] by simp [eln, hj]]
  exact this
theorem ivl_path {rs : List Int} (hv : isGraphB rs.length rs = true) {d : List Nat} (h : IvlP rs d) : pathV rs.length rs + 1 ≤ clqN rs.length rs := by
  have g := (VG.of hv).2
  obtain ⟨W, K, e, hK, hc, hcn, hW⟩ := clq_is hv
  have hex : ∀ v, ∃ i, v < rs.length → i < d.length ∧ (eln d i).testBit v = true ∧ ∀ j, j < i → (eln d j).testBit v = false := fun v => by
    by_cases hvl : v < rs.length
    · obtain ⟨i, hi, h1, -⟩ := h.share g hvl hvl (.inl rfl)
      obtain ⟨q, hq, hp, hmin⟩ := least_of (p := fun i => (eln d i).testBit v = true) i h1
      exact ⟨q, fun _ => ⟨by omega, hp, fun j hj => by rw [← Bool.not_eq_true]; exact hmin j hj⟩⟩
    · exact ⟨0, fun h => absurd h hvl⟩
  obtain ⟨a, ha⟩ : ∃ a : Nat → Nat, ∀ v, v < rs.length → a v < d.length ∧ (eln d (a v)).testBit v = true ∧ ∀ j, j < a v → (eln d j).testBit v = false := ⟨fun v => Classical.choose (hex v), fun v => Classical.choose_spec (hex v)⟩
  obtain ⟨t, hl, hf, hs⟩ := sorted_order a rs.length
  obtain ⟨f1, f2⟩ := (fresh_iff t 0).1 hf
  obtain ⟨W2, rfl⟩ : ∃ W2, W = W2 + 1 := by
    have h1 := list_clique g hW (t := [0]) (by simp) (fun x hx => by rw [List.mem_singleton] at hx; subst hx; exact g.pos) (fun a ha b hb hne => by rw [List.mem_singleton] at ha hb; exact absurd (ha.trans hb.symm) hne)
    exact ⟨W - 1, by simp at h1; omega⟩
  rw [e]
  have := path_le hv hf hl (M := W2) fun k hk => by
    by_cases hlast : k + 1 < t.length
    · -- the next vertex and all that still have neighbours ahead lie in one clique
      have hq := (f1 _ (eln_mem hlast)).1
      obtain ⟨q1, q2, q3⟩ := ha _ hq
      have hin : ∀ x u, (U t (k + 1)).testBit x = true → (U t (k + 1)).testBit u = false → eb rs x u = true → x < rs.length ∧ (eln d (a (eln t (k + 1)))).testBit x = true := fun x u hx hu he => by
        obtain ⟨i, hi, hil, rfl⟩ := mem_take.1 (U_bit.1 hx)
        have hxl := (f1 _ (eln_mem hil)).1
        have hul := eb_lt g hxl he
        have hut : u ∈ t := by rw [← union_mem, fresh_all g.le hf hl, Nat.testBit_two_pow_sub_one, decide_eq_true_eq]; exact hul
        obtain ⟨j, hj, rfl⟩ := mem_eln hut
        have hjk : k + 1 ≤ j := by
          refine Classical.byContradiction fun hc => ?_
          rw [U_bit.2 (mem_take.2 ⟨j, by omega, hj, rfl⟩)] at hu; cases hu
        have h1 := hs i (k + 1) (by omega) hlast
        have h2 : a (eln t (k + 1)) ≤ a (eln t j) := by
          by_cases e : k + 1 = j
          · rw [e]; exact Nat.le_refl _
          · exact hs (k + 1) j (by omega) hj
        obtain ⟨x1, x2, x3⟩ := ha _ hxl
        obtain ⟨u1, u2, u3⟩ := ha _ hul
        obtain ⟨p, hp, p1, p2⟩ := h.share g hxl hul (.inr he)
        have h3 : a (eln t j) ≤ p := by
          refine Classical.byContradiction fun hc => ?_
          rw [u3 p (by omega)] at p2; cases p2
        refine ⟨hxl, ?_⟩
        by_cases e1 : a (eln t i) = a (eln t (k + 1))
        · rw [← e1]; exact x2
        · by_cases e2 : a (eln t (k + 1)) = p
          · rw [e2]; exact p1
          · exact h.con _ (a (eln t i)) (a (eln t (k + 1))) p (by omega) (by omega) hp x2 p1
      have hfr : frontN rs (U t (k + 1)) ≤ ((els (U t (k + 1))).filter (outOf rs (U t (k + 1)))).length := by
        unfold frontN; rw [List.countP_eq_length_filter]; exact Nat.le_refl _
      have hmem : ∀ x, x ∈ (els (U t (k + 1))).filter (outOf rs (U t (k + 1))) → (U t (k + 1)).testBit x = true ∧ x < rs.length ∧ (eln d (a (eln t (k + 1)))).testBit x = true := fun x hx => by
        rw [List.mem_filter, mem_els (U_lt hf _) g.le] at hx
        obtain ⟨h1, u, h2, h3⟩ := (front_mem g (U_lt hf _)).1 hx
        exact ⟨h1, hin x u h1 h2 h3⟩
      have hcl := list_clique g hW (t := eln t (k + 1) :: (els (U t (k + 1))).filter (outOf rs (U t (k + 1)))) (List.nodup_cons.2 ⟨fun hm => by
          obtain ⟨j, hj, hjl, e2⟩ := mem_take.1 (U_bit.1 (hmem _ hm).1)
          exact eln_ne f2 (by omega) (by omega) (by omega) e2, (els_nodup _).filter _⟩)
        (fun x hx => by
          rcases List.mem_cons.1 hx with rfl | hx
          · exact hq
          · exact (hmem x hx).2.1)
        (fun x hx y hy hne => by
          have hb : ∀ z, z ∈ eln t (k + 1) :: (els (U t (k + 1))).filter (outOf rs (U t (k + 1))) → (eln d (a (eln t (k + 1)))).testBit z = true := fun z hz => by
            rcases List.mem_cons.1 hz with rfl | hz
            · exact q2
            · exact (hmem z hz).2.2
          exact (h.both g q1 (hb x hx) (hb y hy)).resolve_left hne)
      simp only [List.length_cons] at hcl
      omega
    · -- nothing is left
      have hk1 : k + 1 = t.length := by omega
      have : frontN rs (U t (k + 1)) ≤ ([] : List Nat).length := front_le g (U_lt hf _) fun x u hx hu he => by
        have hxl := testBit_lt (U_lt hf _) hx
        have hul := eb_lt g hxl he
        have hut : u ∈ t := by rw [← union_mem, fresh_all g.le hf hl, Nat.testBit_two_pow_sub_one, decide_eq_true_eq]; exact hul
        rw [U_bit.2 (by rw [hk1, List.take_length]; exact hut)] at hu; cases hu
      simp at this
      omega
  omega

/-! ### Proper interval graphs -/
/-- An order in which neighbours have everything between them as neighbours. -/
def UmbO (rs : List Int) (t : List Nat) : Prop := t.length = rs.length ∧ freshS rs.length 0 t ∧ ∀ i j k, i < j → j < k → k < t.length → eb rs (eln t i) (eln t k) = true → eb rs (eln t i) (eln t j) = true ∧ eb rs (eln t j) (eln t k) = true
theorem umb_band {rs : List Int} (hv : isGraphB rs.length rs = true) {t : List Nat} (h : UmbO rs t) : (bandTo rs (t.map Int.ofNat) t.length : Int) + 1 ≤ clqN rs.length rs := by
  have g := (VG.of hv).2
  obtain ⟨W, K, e, hK, hc, hcn, hW⟩ := clq_is hv
  obtain ⟨hl, hf, hu⟩ := h
  obtain ⟨f1, f2⟩ := (fresh_iff t 0).1 hf
  obtain ⟨W2, rfl⟩ : ∃ W2, W = W2 + 1 := by
    have h1 := list_clique g hW (t := [0]) (by simp) (fun x hx => by rw [List.mem_singleton] at hx; subst hx; exact g.pos) (fun a ha b hb hne => by rw [List.mem_singleton] at ha hb; exact absurd (ha.trans hb.symm) hne)
    exact ⟨W - 1, by simp at h1; omega⟩
  rw [e]
  have : bandTo rs (t.map Int.ofNat) t.length ≤ W2 := (bandTo_le _).2 fun k hk i hik hn => by
    unfold nearB at hn
    rw [gi_map t i (by omega), gi_map t k hk, Int.toNat_natCast, Int.toNat_natCast] at hn
    have hkl := (f1 _ (eln_mem hk)).1
    have hil := (f1 _ (eln_mem (show i < t.length by omega))).1
    have hn2 : eb rs (eln t i) (eln t k) = true := by have := eb_sym g hkl hil; unfold eb at this ⊢; rw [hn] at this; exact this.symm
    -- all between i and k are joined
    have hall : ∀ p q, i ≤ p → p < q → q ≤ k → eb rs (eln t p) (eln t q) = true := fun p q hp hpq hq => by
      have h1 : eb rs (eln t i) (eln t q) = true := by
        by_cases e : q = k
        · rw [e]; exact hn2
        · exact (hu i q k (by omega) (by omega) hk hn2).1
      by_cases e : p = i
      · rw [e]; exact h1
      · exact (hu i p q (by omega) hpq (by omega) h1).2
    have hmem : ∀ x, x ∈ (t.take (k + 1)).drop i → ∃ p, i ≤ p ∧ p ≤ k ∧ eln t p = x := fun x hx => by
      obtain ⟨q, hq, rfl⟩ := List.getElem_of_mem hx
      rw [List.length_drop, List.length_take] at hq
      refine ⟨i + q, by omega, by omega, ?_⟩
      rw [List.getElem_drop, List.getElem_take]
      simp [eln, show i + q < t.length by omega]
    have hcl := list_clique g hW (t := (t.take (k + 1)).drop i) ((f2.sublist (List.take_sublist _ _)).sublist (List.drop_sublist _ _))
      (fun x hx => by
        obtain ⟨p, hp, hpk, rfl⟩ := hmem x hx
        exact (f1 _ (eln_mem (by omega))).1)
      (fun x hx y hy hne => by
        obtain ⟨p, hp, hpk, rfl⟩ := hmem x hx
        obtain ⟨q, hq, hqk, rfl⟩ := hmem y hy
        rcases Nat.lt_trichotomy p q with h | h | h
        · exact hall p q hp h hqk
        · exact absurd (by rw [h]) hne
        · have := hall q p hq h hpk
          rw [eb_sym g (f1 _ (eln_mem (by omega))).1 (f1 _ (eln_mem (by omega))).1]
          exact this)
    rw [List.length_drop, List.length_take] at hcl
    omega
  omega

end Go.Proofs.Ytfkehmpckhmkbaa
