/-
  Plain law: a graph has an odd cycle exactly if it has not two sides. No program.
-/
import Derived.Test.YtgklgheaojoimaaPk24
import Derived.Test.YtgklgheaojoimaaMatchG
import Derived.Test.YtgklgheaojoimaaDfs
namespace Go.Proofs.Ytgklgheaojoimaa
open Go.RowKit

/-! ### Closed walks -/
def adjG (rs : List Int) (u v : Nat) : Prop := u < rs.length ∧ v < rs.length ∧ (gn rs u).testBit v = true
theorem adjG.symm {rs : List Int} (g : VG rs) {u v : Nat} (h : adjG rs u v) : adjG rs v u := ⟨h.2.1, h.1, by rw [g.sym v h.2.1 u h.1]; exact h.2.2⟩
def closedW (rs : List Int) (k : Nat) (f : Nat → Nat) : Prop := f k = f 0 ∧ ∀ t, t < k → adjG rs (f t) (f (t + 1))
/-- An odd closed walk has an odd cycle in it. -/
theorem odd_cycle {rs : List Int} : ∀ (k b : Nat), k ≤ b → ∀ f, k % 2 = 1 → closedW rs k f → ∃ k' f', k' % 2 = 1 ∧ closedW rs k' f' ∧ ∀ i j, i < j → j < k' → f' i ≠ f' j := by
  intro k b
  induction b generalizing k with
  | zero => intro hk f hodd _; omega
  | succ b ih =>
    intro hk f hodd hc
    by_cases hinj : ∀ i j, i < j → j < k → f i ≠ f j
    · exact ⟨k, f, hodd, hc, hinj⟩
    · have : ∃ i j, i < j ∧ j < k ∧ f i = f j := by
        refine Classical.byContradiction fun hn => hinj fun i j hi hj he => hn ⟨i, j, hi, hj, he⟩
      obtain ⟨i, j, hi, hj, he⟩ := this
      by_cases hp : (j - i) % 2 = 1
      · refine ih (j - i) (by omega) (fun t => f (i + t)) hp ⟨?_, fun t ht => ?_⟩
        · show f (i + (j - i)) = f (i + 0)
          rw [show i + (j - i) = j by omega, Nat.add_zero]; exact he.symm
        · exact hc.2 (i + t) (by omega)
      · refine ih (k - (j - i)) (by omega) (fun t => if t ≤ i then f t else f (t + (j - i))) (by omega) ⟨?_, fun t ht => ?_⟩
        · dsimp only
          rw [if_neg (by omega), if_pos (Nat.zero_le _), show k - (j - i) + (j - i) = k by omega]
          exact hc.1
        · dsimp only
          by_cases h1 : t + 1 ≤ i
          · rw [if_pos (by omega), if_pos h1]
            exact hc.2 t (by omega)
          · by_cases h2 : t ≤ i
            · obtain rfl : t = i := by omega
              rw [if_pos (Nat.le_refl _), if_neg h1, he, show t + 1 + (j - t) = j + 1 by omega]
              exact hc.2 j hj
            · rw [if_neg h2, if_neg h1, show t + 1 + (j - i) = t + (j - i) + 1 by omega]
              exact hc.2 _ (by omega)
/-- A shortest walk. -/
theorem walk_of {rs : List Int} (g : VG rs) {h : Nat} (hh : h < rs.length) : ∀ n v, v < rs.length → (reach rs h n).testBit v = true → (∀ j, j < n → (reach rs h j).testBit v = false) → ∃ p : Nat → Nat, p 0 = h ∧ p n = v ∧ ∀ t, t < n → adjG rs (p t) (p (t + 1))
  | 0, v, _, h1, _ => ⟨fun _ => h, rfl, pow_bit.1 h1, fun t ht => by omega⟩
  | n + 1, v, hv, h1, h2 => by
    have h128 := g.pow.1
    rw [reach_succ g hh] at h1
    have hlt : ∀ j, reach rs h j < 128 := fun j => by have := reach_lt hh j; omega
    rcases (around_bit (hlt n)).1 h1 with h3 | ⟨a, h3, h4⟩
    · rw [h2 n (by omega)] at h3; cases h3
    · have ha := testBit_lt (reach_lt hh n) h3
      obtain ⟨p, p1, p2, p3⟩ := walk_of g hh n a ha h3 fun j hj => by
        cases e : (reach rs h j).testBit a
        · rfl
        · have := h2 (j + 1) (by omega)
          rw [reach_succ g hh, (around_bit (hlt j)).2 (.inr ⟨a, e, h4⟩)] at this
          cases this
      refine ⟨fun t => if t ≤ n then p t else v, by dsimp only; rw [if_pos (Nat.zero_le _)]; exact p1, by dsimp only; rw [if_neg (by omega)], fun t ht => ?_⟩
      dsimp only
      by_cases e : t + 1 ≤ n
      · rw [if_pos (by omega), if_pos e]; exact p3 t (by omega)
      · obtain rfl : t = n := by omega
        rw [if_pos (Nat.le_refl _), if_neg e, p2]
        exact ⟨ha, hv, h4⟩
/-- The distance from the head of the part. -/
theorem dist_head {rs : List Int} (g : VG rs) {h v : Nat} (hh : h < rs.length) (hv : v < rs.length) (hr : (grow rs (2 ^ h) (2 ^ rs.length - 1)).testBit v = true) : ∃ n : Nat, distV rs h v = n ∧ (reach rs h n).testBit v = true ∧ ∀ j, j < n → (reach rs h j).testBit v = false := by
  have h128 := g.pow.1
  have hp := g.pos
  have hall := all_lt rs.length
  have hsub : subN (2 ^ h) (2 ^ rs.length - 1) := pow_sub (all_bit.2 hh)
  have hex : (reach rs h (rs.length - 1)).testBit v = true := by
    rcases stepN_cnt (rs := rs) (S := 2 ^ rs.length - 1) (X := 2 ^ h) (by omega) hsub (by rw [cnt_pow (by have := g.le; omega)]; exact Nat.le_refl _) (rs.length - 1) with h1 | h1
    · have h2 := stepN_stay h1 rs.length (by omega)
      have h3 : grow rs (2 ^ h) (2 ^ rs.length - 1) = reach rs h (rs.length - 1) := h2
      rw [← h3]; exact hr
    · have h2 : rs.length ≤ cnt (reach rs h (rs.length - 1)) := by
        have : rs.length - 1 + 1 ≤ cnt (reach rs h (rs.length - 1)) := h1
        omega
      have h3 : reach rs h (rs.length - 1) = 2 ^ rs.length - 1 := by
        refine Classical.byContradiction fun hne => ?_
        have h4 := cnt_lt (by omega) (sub_all (reach_lt hh (rs.length - 1))) hne
        have h5 := cnt_leN hall g.le
        omega
      rw [h3]; exact all_bit.2 hv
  unfold distV
  cases hf : firstB (fun n => (reach rs h n).testBit v) rs.length with
  | none =>
    exfalso
    unfold firstB at hf
    rw [List.find?_range_eq_none] at hf
    have := hf (rs.length - 1) (by omega)
    rw [hex] at this; cases this
  | some n =>
    unfold firstB at hf
    rw [List.find?_range_eq_some] at hf
    obtain ⟨h1, -, h3⟩ := hf
    exact ⟨n, rfl, h1, fun j hj => by simpa using h3 j hj⟩

theorem evB_nat {rs : List Int} {v n : Nat} (h : distV rs (headOf rs v) v = n) : evB rs v = decide (n % 2 = 0) := by
  unfold evB
  rw [h, Int.tmod_eq_emod_of_nonneg (by omega), Bool.eq_iff_iff, beq_iff_eq, decide_eq_true_eq]
  omega
theorem side_bit {rs : List Int} {i : Nat} : (sideN rs).testBit i = (decide (i < rs.length) && evB rs i) := accB_bit _ _ _

/-- Two neighbours at an even distance from one another make an odd cycle. -/
theorem odd_of_same {rs : List Int} (g : VG rs) {a b : Nat} (h : adjG rs a b) (he : evB rs a = evB rs b) : ∃ k f, k % 2 = 1 ∧ closedW rs k f := by
  obtain ⟨ha, hb, hab⟩ := h
  have hall := all_lt rs.length
  have h128 := g.pow.1
  have hsa : subN (2 ^ a) (2 ^ rs.length - 1) := pow_sub (all_bit.2 ha)
  have hca : 1 ≤ cnt (2 ^ a) := by rw [cnt_pow (by have := g.le; omega)]; exact Nat.le_refl _
  obtain ⟨f1, f2, f3, f4⟩ := head_facts g ha
  have hbg : (grow rs (2 ^ a) (2 ^ rs.length - 1)).testBit b = true := (shut_grow g hall hsa hca).2 a b f3 (all_bit.2 hb) hab
  have hGab := grow_same g hall (all_bit.2 ha) hbg
  have hhead : headOf rs b = headOf rs a := by unfold headOf; rw [hGab]
  have hlow : (grow rs (2 ^ a) (2 ^ rs.length - 1)).testBit (headOf rs a) = true := (low_facts (by omega) f2).1
  have hGh := grow_same g hall (all_bit.2 ha) hlow
  obtain ⟨na, a1, a2, a3⟩ := dist_head g f4 ha (by rw [hGh]; exact f3)
  obtain ⟨nb, b1, b2, b3⟩ := dist_head g f4 hb (by rw [hGh]; exact hbg)
  rw [evB_nat a1, evB_nat (by rw [hhead]; exact b1), decide_eq_decide] at he
  obtain ⟨p, p1, p2, p3⟩ := walk_of g f4 na a ha a2 a3
  obtain ⟨q, q1, q2, q3⟩ := walk_of g f4 nb b hb b2 b3
  refine ⟨na + 1 + nb, fun t => if t ≤ na then p t else q (nb - (t - na - 1)), by omega, ?_, fun t ht => ?_⟩
  · dsimp only
    rw [if_neg (by omega), if_pos (Nat.zero_le _), p1, show nb - (na + 1 + nb - na - 1) = 0 by omega, q1]
  · dsimp only
    by_cases h1 : t + 1 ≤ na
    · rw [if_pos (by omega), if_pos h1]; exact p3 t (by omega)
    · by_cases h2 : t ≤ na
      · obtain rfl : t = na := by omega
        rw [if_pos (Nat.le_refl _), if_neg h1, p2, show nb - (t + 1 - t - 1) = nb by omega, q2]
        exact ⟨ha, hb, hab⟩
      · rw [if_neg h2, if_neg h1]
        have := q3 (nb - (t + 1 - na - 1)) (by omega)
        rw [show nb - (t + 1 - na - 1) + 1 = nb - (t - na - 1) by omega] at this
        exact this.symm g

/-- An odd cycle as a list. -/
theorem oddB_of {rs : List Int} (hv : isGraphB rs.length rs = true) {k : Nat} {f : Nat → Nat} (hk : k % 2 = 1) (hc : closedW rs k f) (hi : ∀ i j, i < j → j < k → f i ≠ f j) : 3 ≤ k ∧ k ≤ rs.length ∧ oddB rs.length rs ((List.range k).map fun t => (f t : Int)) = true := by
  have g := (VG.of hv).2
  have hk1 : k ≠ 1 := by
    rintro rfl
    have := hc.2 0 (by omega)
    rw [show 0 + 1 = 1 from rfl, hc.1] at this
    have h2 := g.irr _ this.1
    rw [this.2.2] at h2; cases h2
  have hlt : ∀ t, t < k → f t < rs.length := fun t ht => (hc.2 t ht).1
  have hle : k ≤ rs.length := by
    have := nodup_lt7 rs.length ((List.range k).map f) (by
      rw [List.Nodup, List.pairwise_map]
      refine List.Pairwise.imp_of_mem ?_ List.nodup_range
      intro a b ha hb hne
      rw [List.mem_range] at ha hb
      rcases Nat.lt_or_gt_of_ne hne with h | h
      · exact hi a b h hb
      · exact Ne.symm (hi b a h ha)) fun a ha => by
      obtain ⟨t, ht, rfl⟩ := List.mem_map.1 ha
      exact hlt t (List.mem_range.1 ht)
    simpa using this
  have hlen : ((List.range k).map fun t => (f t : Int)).length = k := by simp
  have hgi : ∀ t, t < k → gi ((List.range k).map fun t => (f t : Int)) t = (f t : Int) := fun t ht => by simp [gi, ht]
  refine ⟨by omega, hle, oddB_ok (vertsB_true.2 ⟨hv, fun j hj => ?_⟩) (by omega) (by omega) fun i hi2 => ?_⟩
  · rw [hlen] at hj
    rw [hgi j hj]
    have := hlt j hj
    refine ⟨⟨by omega, by omega⟩, fun i hij e => ?_⟩
    rw [hgi i (by omega)] at e
    exact hi i j hij hj (Int.ofNat.inj e)
  · rw [hlen] at hi2
    unfold cycAt
    rw [hlen, hgi i hi2]
    have hs := (hc.2 i hi2).2.2
    by_cases e : i + 1 < k
    · rw [Nat.mod_eq_of_lt e, hgi _ e, Int.toNat_natCast, Int.toNat_natCast]; exact hs
    · obtain rfl : k = i + 1 := by omega
      rw [Nat.mod_self, hgi 0 (by omega), Int.toNat_natCast, Int.toNat_natCast, ← hc.1]; exact hs

theorem oddV_true {n : Int} {rs x : List Int} (h : oddV n rs = some x) : oddB rs.length rs x = true := by
  unfold oddV at h
  split at h
  · split at h
    · exact (dfs_from _ _ _ _ _ _ h).1
    · cases h
  · cases h

/-- A graph has an odd cycle exactly if it has not two sides. -/
theorem odd_sides {rs : List Int} (hv : isGraphB rs.length rs = true) : (oddV rs.length rs).isSome = !sidesB rs.length rs := by
  have g := (VG.of hv).2
  have h128 := g.pow.1
  have hall := all_lt rs.length
  have hS := sideN_lt rs
  have hn := nDiff_lt (b := sideN rs) (n := rs.length) hall
  cases hs : sidesB rs.length rs
  · have : ∃ a b, adjG rs a b ∧ evB rs a = evB rs b := by
      unfold sidesB at hs
      rw [hv, Bool.true_and, Bool.and_eq_false_iff] at hs
      refine Classical.byContradiction fun hno => ?_
      have hno : ∀ a b, adjG rs a b → evB rs a ≠ evB rs b := fun a b h e => hno ⟨a, b, h, e⟩
      rcases hs with h | h
      · rw [(indep_iff (by omega)).2 fun a b ha hb => ?_] at h
        · cases h
        · rw [side_bit, Bool.and_eq_true, decide_eq_true_eq] at ha hb
          cases e : (gn rs a).testBit b
          · rfl
          · exact absurd (ha.2.trans hb.2.symm) (hno a b ⟨ha.1, hb.1, e⟩)
      · rw [(indep_iff (by omega)).2 fun a b ha hb => ?_] at h
        · cases h
        · obtain ⟨a1, a2⟩ := nDiff_bit.1 ha
          obtain ⟨b1, b2⟩ := nDiff_bit.1 hb
          have a3 := all_bit.1 a1
          have b3 := all_bit.1 b1
          rw [side_bit, decide_eq_true a3, Bool.true_and] at a2
          rw [side_bit, decide_eq_true b3, Bool.true_and] at b2
          cases e : (gn rs a).testBit b
          · rfl
          · exact absurd (a2.trans b2.symm) (hno a b ⟨a3, b3, e⟩)
    obtain ⟨a, b, hab, he⟩ := this
    obtain ⟨k0, f0, h1, h2⟩ := odd_of_same g hab he
    obtain ⟨k, f, k1, k2, k3⟩ := odd_cycle k0 k0 (Nat.le_refl _) f0 h1 h2
    obtain ⟨q1, q2, q3⟩ := oddB_of hv k1 k2 k3
    have q4 := dfs_some (N := rs.length) (nec_odd rs.length rs k) ((List.range k).map fun t => (f t : Int)) [] (by simp) q3 fun y hy => by
      obtain ⟨t, ht, rfl⟩ := List.mem_map.1 hy
      exact ⟨f t, (k2.2 t (List.mem_range.1 ht)).1, rfl⟩
    have q5 : (oddAt rs k).isSome = true := by
      have e : ((List.range k).map fun t => (f t : Int)).length = k := by simp
      rw [e] at q4
      exact q4
    unfold oddV
    rw [if_pos hv]
    cases hf : firstB (fun j => decide (3 + 2 * j ≤ rs.length) && (oddAt rs (3 + 2 * j)).isSome) 3 with
    | none =>
      exfalso
      unfold firstB at hf
      rw [List.find?_range_eq_none] at hf
      have := hf ((k - 3) / 2) (by have := g.le; omega)
      rw [show 3 + 2 * ((k - 3) / 2) = k by omega, q5, decide_eq_true q2] at this
      cases this
    | some j =>
      unfold firstB at hf
      rw [List.find?_range_eq_some] at hf
      have := hf.1
      rw [Bool.and_eq_true] at this
      exact this.2
  · cases ho : oddV rs.length rs with
    | none => rfl
    | some x =>
      exfalso
      have hb := oddV_true ho
      unfold sidesB at hs
      rw [hv, Bool.true_and, Bool.and_eq_true] at hs
      have i1 := (indep_iff (by omega)).1 hs.1
      have i2 := (indep_iff (by omega)).1 hs.2
      have hd : ∀ a b, adjG rs a b → evB rs b = !evB rs a := fun a b ⟨ha, hb, hab⟩ => by
        cases ea : evB rs a <;> cases eb : evB rs b
        · have q : ∀ i, i < rs.length → evB rs i = false → (nDiff (2 ^ rs.length - 1) (sideN rs)).testBit i = true := fun i hi h => nDiff_bit.2 ⟨all_bit.2 hi, by rw [side_bit, h, Bool.and_false]⟩
          rw [i2 a b (q a ha ea) (q b hb eb)] at hab; cases hab
        · rfl
        · rfl
        · have q : ∀ i, i < rs.length → evB rs i = true → (sideN rs).testBit i = true := fun i hi h => by rw [side_bit, h, decide_eq_true hi]; rfl
          rw [i1 a b (q a ha ea) (q b hb eb)] at hab; cases hab
      obtain ⟨v1, v2⟩ := oddB_true hb
      have hodd : 3 ≤ x.length ∧ x.length % 2 = 1 := by
        unfold oddB at hb
        simp only [Bool.and_eq_true, decide_eq_true_eq] at hb
        exact hb.2.1
      have hvx : ∀ i, i < x.length → (gi x i).toNat < rs.length := fun i hi => by have := ((vertsB_true.1 v1).2 i hi).1; omega
      have hstep : ∀ i, i + 1 < x.length → evB rs (gi x (i + 1)).toNat = !evB rs (gi x i).toNat := fun i hi => by
        have := v2 i (by omega)
        unfold cycAt at this
        rw [Nat.mod_eq_of_lt hi] at this
        exact hd _ _ ⟨hvx i (by omega), hvx (i + 1) hi, this⟩
      have hall : ∀ i, i < x.length → evB rs (gi x i).toNat = (evB rs (gi x 0).toNat ^^ decide (i % 2 = 1)) := by
        intro i
        induction i with
        | zero => intro _; simp
        | succ i ih =>
          intro hi
          rw [hstep i hi, ih (by omega)]
          have : decide ((i + 1) % 2 = 1) = !decide (i % 2 = 1) := by
            by_cases e : i % 2 = 1
            · rw [decide_eq_true e, decide_eq_false (by omega)]; rfl
            · rw [decide_eq_false e, decide_eq_true (by omega)]; rfl
          rw [this]
          cases evB rs (gi x 0).toNat <;> cases decide (i % 2 = 1) <;> rfl
      have hlast := v2 (x.length - 1) (by omega)
      unfold cycAt at hlast
      rw [show x.length - 1 + 1 = x.length by omega, Nat.mod_self] at hlast
      have h1 := hd _ _ ⟨hvx (x.length - 1) (by omega), hvx 0 (by omega), hlast⟩
      rw [hall (x.length - 1) (by omega), decide_eq_false (by omega)] at h1
      cases e : evB rs (gi x 0).toNat <;> rw [e] at h1 <;> cases h1

end Go.Proofs.Ytgklgheaojoimaa
