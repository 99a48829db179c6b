/-
  Plain laws of the treewidth: what is joined by elimination is what is reached through the eliminated, so the least width of all orders is what is reckoned set by set. No conditions.
-/
import Derived.Test.YtdbaflimcbidjaaFill
import Derived.Test.YtdbaflimcbidjaaPathwL
namespace Go.Proofs.Ytdbaflimcbidjaa
open Go.RowKit

/-- A way from a to b whose vertices in between are in S. -/
inductive Con (rs : List Int) (S : Nat) : Nat → Nat → Prop
  | edge {a b : Nat} (h : eb rs a b = true) : Con rs S a b
  | step {a x b : Nat} (h : eb rs a x = true) (hx : S.testBit x = true) (k : Con rs S x b) : Con rs S a b
theorem Con.mono {rs : List Int} {S T a b : Nat} (h : Con rs S a b) (hST : subN S T) : Con rs T a b := by
  induction h with
  | edge h => exact .edge h
  | step h hx _ ih => exact .step h (hST _ hx) ih
theorem Con.trans {rs : List Int} {S a x b : Nat} (h : Con rs S a x) (hx : S.testBit x = true) (k : Con rs S x b) : Con rs S a b := by
  induction h with
  | edge h => exact .step h hx k
  | step h hy _ ih => exact .step h hy (ih hx k)
theorem eb_lt {rs : List Int} (g : VG rs) {a b : Nat} (ha : a < rs.length) (h : eb rs a b = true) : b < rs.length := testBit_lt (g.lt a ha) h
theorem Con.lt {rs : List Int} (g : VG rs) {S a b : Nat} (h : Con rs S a b) (ha : a < rs.length) : b < rs.length := by
  induction h with
  | edge h => exact eb_lt g ha h
  | step h _ _ ih => exact ih (eb_lt g ha h)
theorem Con.sym {rs : List Int} (g : VG rs) {S a b : Nat} (h : Con rs S a b) (ha : a < rs.length) : Con rs S b a := by
  induction h with
  | edge h => exact .edge (by rw [eb_sym g (eb_lt g ha h) ha]; exact h)
  | step h hx k ih =>
    have hxl := eb_lt g ha h
    exact (ih hxl).trans hx (.edge (by rw [eb_sym g hxl ha]; exact h))
theorem Con.zero {rs : List Int} {a b : Nat} : Con rs 0 a b ↔ eb rs a b = true := by
  constructor
  · intro h
    cases h with
    | edge h => exact h
    | step h hx _ => simp at hx
  · exact .edge
theorem Con.more {rs : List Int} {S v a b : Nat} : Con rs (S ||| 2 ^ v) a b ↔ Con rs S a b ∨ (Con rs S a v ∧ Con rs S v b) := by
  have hsub : subN S (S ||| 2 ^ v) := fun i hi => by rw [Nat.testBit_or, hi]; rfl
  have hv : (S ||| 2 ^ v).testBit v = true := by rw [Nat.testBit_or, Nat.testBit_two_pow]; simp
  constructor
  · intro h
    induction h with
    | edge h => exact .inl (.edge h)
    | step h hx _ ih =>
      rw [Nat.testBit_or, Nat.testBit_two_pow, Bool.or_eq_true, decide_eq_true_eq] at hx
      rcases hx with hx | rfl
      · rcases ih with ih | ⟨i1, i2⟩
        · exact .inl (.step h hx ih)
        · exact .inr ⟨.step h hx i1, i2⟩
      · rcases ih with ih | ⟨-, i2⟩
        · exact .inr ⟨.edge h, ih⟩
        · exact .inr ⟨.edge h, i2⟩
  · rintro (h | ⟨h1, h2⟩)
    · exact h.mono hsub
    · exact (h1.mono hsub).trans hv (h2.mono hsub)

/-- What v reaches through S, outside of S. -/
def reachN (rs : List Int) (S v : Nat) : Nat := around rs (grow rs (2 ^ v) (S ||| 2 ^ v)) &&& nDiff (2 ^ rs.length - 1) (S ||| 2 ^ v)
theorem reachN_lt (rs : List Int) (S v : Nat) : reachN rs S v < 2 ^ rs.length := Nat.lt_of_le_of_lt Nat.and_le_right (nDiff_lt (by have := Nat.two_pow_pos rs.length; omega))
open Classical in
theorem grow_con {rs : List Int} (g : VG rs) {S v x : Nat} (hS : S < 2 ^ rs.length) (hv : v < rs.length) : (grow rs (2 ^ v) (S ||| 2 ^ v)).testBit x = true ↔ x = v ∨ (S.testBit x = true ∧ Con rs S v x) := by
  have hp := g.pow.1
  have hpv : 2 ^ v < 2 ^ rs.length := Nat.pow_lt_pow_right (by decide) hv
  have hSv : S ||| 2 ^ v < 2 ^ rs.length := Nat.or_lt_two_pow hS hpv
  have hX : subN (2 ^ v) (S ||| 2 ^ v) := fun i hi => by rw [Nat.testBit_or, hi]; simp
  have hbit : ∀ y, (S ||| 2 ^ v).testBit y = true ↔ S.testBit y = true ∨ y = v := fun y => by
    rw [Nat.testBit_or, Nat.testBit_two_pow, Bool.or_eq_true, decide_eq_true_eq, @eq_comm _ v y]
  have h7 := g.le
  have hc1 : 1 ≤ cnt (2 ^ v) := by rw [cnt_pow (by omega)]; exact Nat.le_refl _
  constructor
  · intro h
    let D := accB (fun x => decide (x = v ∨ (S.testBit x = true ∧ Con rs S v x))) rs.length
    have hD : D < 128 := Nat.lt_of_lt_of_le (accB_lt _ _) hp
    have hDb : ∀ y, D.testBit y = true ↔ y < rs.length ∧ (y = v ∨ (S.testBit y = true ∧ Con rs S v y)) := fun y => by
      show (accB _ _).testBit y = true ↔ _
      rw [accB_bit]; simp
    have hsh : shut rs (S ||| 2 ^ v) D := by
      refine ⟨fun i hi => ?_, fun a b ha hb hab => ?_⟩
      · rcases ((hDb i).1 hi).2 with rfl | ⟨h1, -⟩
        · exact (hbit i).2 (.inr rfl)
        · exact (hbit i).2 (.inl h1)
      · obtain ⟨hal, ha2⟩ := (hDb a).1 ha
        have hbl := eb_lt g hal hab
        refine (hDb b).2 ⟨hbl, ?_⟩
        rcases (hbit b).1 hb with hb | hb
        · right
          refine ⟨hb, ?_⟩
          rcases ha2 with rfl | ⟨h1, h2⟩
          · exact .edge hab
          · exact h2.trans h1 (.edge hab)
        · exact .inl hb
    have hXD : subN (2 ^ v) D := fun i hi => by
      rw [pow_bit] at hi
      exact (hDb i).2 ⟨by omega, .inl hi.symm⟩
    exact ((hDb x).1 (shut_stepN hD hsh hXD _ x h)).2
  · have hsh := shut_grow g hSv hX hc1
    have hvC : (grow rs (2 ^ v) (S ||| 2 ^ v)).testBit v = true := sub_stepN (Nat.lt_of_lt_of_le hSv hp) hX _ v (pow_bit.2 rfl)
    have key : ∀ {a b : Nat}, Con rs S a b → (grow rs (2 ^ v) (S ||| 2 ^ v)).testBit a = true → S.testBit b = true → (grow rs (2 ^ v) (S ||| 2 ^ v)).testBit b = true := by
      intro a b h
      induction h with
      | edge h => intro ha hb; exact hsh.2 _ _ ha ((hbit _).2 (.inl hb)) h
      | step h hx _ ih => intro ha hb; exact ih (hsh.2 _ _ ha ((hbit _).2 (.inl hx)) h) hb
    rintro (rfl | ⟨h1, h2⟩)
    · exact hvC
    · exact key h2 hvC h1
theorem reach_con {rs : List Int} (g : VG rs) {S v j : Nat} (hS : S < 2 ^ rs.length) (hv : v < rs.length) : (reachN rs S v).testBit j = true ↔ j < rs.length ∧ S.testBit j = false ∧ j ≠ v ∧ Con rs S v j := by
  have hp := g.pow.1
  have hpv : 2 ^ v < 2 ^ rs.length := Nat.pow_lt_pow_right (by decide) hv
  have hSv : S ||| 2 ^ v < 2 ^ rs.length := Nat.or_lt_two_pow hS hpv
  have hX : subN (2 ^ v) (S ||| 2 ^ v) := fun i hi => by rw [Nat.testBit_or, hi]; simp
  have hG : grow rs (2 ^ v) (S ||| 2 ^ v) < 128 := stepN_lt hX (Nat.lt_of_lt_of_le hSv hp) _
  unfold reachN
  rw [Nat.testBit_and, Bool.and_eq_true, around_bit hG, nDiff_bit, Nat.testBit_two_pow_sub_one, decide_eq_true_eq, Nat.testBit_or, Nat.testBit_two_pow, Bool.or_eq_false_iff, decide_eq_false_iff_not]
  constructor
  · rintro ⟨h, hj, hjS, hjv⟩
    refine ⟨hj, hjS, fun e => hjv e.symm, ?_⟩
    rcases h with h | ⟨x, hx, hxj⟩
    · rcases (grow_con g hS hv).1 h with h | ⟨h, -⟩
      · exact absurd h.symm hjv
      · rw [hjS] at h; cases h
    · rcases (grow_con g hS hv).1 hx with rfl | ⟨h1, h2⟩
      · exact .edge hxj
      · exact h2.trans h1 (.edge hxj)
  · rintro ⟨hj, hjS, hjv, h⟩
    refine ⟨.inr ?_, hj, hjS, fun e => hjv e.symm⟩
    have key : ∀ {a b : Nat}, Con rs S a b → (grow rs (2 ^ v) (S ||| 2 ^ v)).testBit a = true → ∃ x, (grow rs (2 ^ v) (S ||| 2 ^ v)).testBit x = true ∧ (gn rs x).testBit b = true := by
      intro a b h
      induction h with
      | edge h => intro ha; exact ⟨_, ha, h⟩
      | step h hx _ ih =>
        intro ha
        refine ih ((shut_grow g hSv hX (by have := g.le; rw [cnt_pow (by omega)]; exact Nat.le_refl _)).2 _ _ ha ?_ h)
        rw [Nat.testBit_or, hx]; rfl
    exact key h ((grow_con g hS hv).2 (.inl rfl))

/-! ### Elimination -/
theorem setTo_next {n : Int} {rs l : List Int} (h : vertsB n rs l = true) {k v : Nat} (hk : k < l.length) (hv : gi l k = (v : Int)) : setTo l (k + 1) = setTo l k ||| 2 ^ v := by
  obtain ⟨u, hu, -, -, h2⟩ := vert_new h hk
  have : u = v := by rw [hu] at hv; omega
  rw [← this]; exact h2
theorem later_bit {rs rs' l : List Int} (hn : rs'.length = rs.length) (h : vertsB rs.length rs l = true) {k v j : Nat} (hk : k < l.length) (hv : gi l k = (v : Int)) : (laterN rs' l k).testBit j = true ↔ eb rs' v j = true ∧ j < rs.length ∧ (setTo l k).testBit j = false := by
  unfold laterN
  rw [Nat.testBit_and, Bool.and_eq_true, hv, Int.toNat_natCast]
  have hb : behindN rs' l k = behindN rs l k := by unfold behindN; rw [hn]
  rw [hb]
  unfold behindN
  rw [nDiff_bit, Nat.testBit_two_pow_sub_one, decide_eq_true_eq]
  rfl
theorem fill_con {rs l : List Int} (ho : orderB rs.length rs l = true) : ∀ k, k ≤ l.length → ∀ a b, a < rs.length → b < rs.length → a ≠ b → (setTo l k).testBit a = false → (setTo l k).testBit b = false → (eb (fillTo rs l k) a b = true ↔ Con rs (setTo l k) a b)
  | 0, _, a, b, _, _, _, _, _ => Con.zero.symm
  | k + 1, hk, a, b, ha, hb, hab, hna, hnb => by
    obtain ⟨hvb, -, g, hlen⟩ := orderB_true ho
    obtain ⟨v, hv, hvl⟩ := vert_at hvb (j := k) (by omega)
    have hs := setTo_next hvb (k := k) (by omega) hv
    have hFl := fillTo_len rs l k
    have hSl := setTo_lt hvb k (by omega)
    have hvS : (setTo l k).testBit v = false := by
      rw [Bool.eq_false_iff]; intro h
      obtain ⟨j, hj, e⟩ := (setTo_bit hvb (by omega)).1 h
      have := order_inj hvb (i := j) (j := k) (by omega) (by omega) (by rw [e, hv])
      omega
    rw [hs, Nat.testBit_or, Nat.testBit_two_pow, Bool.or_eq_false_iff, decide_eq_false_iff_not] at hna hnb
    have ih := fun x y hx hy hxy h1 h2 => fill_con ho k (by omega) x y hx hy hxy h1 h2
    show eb (joinL _ _) a b = true ↔ _
    unfold joinL
    rw [eb_rowsOf (by omega) (by omega), Bool.or_eq_true, Bool.and_eq_true, Bool.and_eq_true, decide_eq_true_eq, hs, Con.more, ih a b ha hb hab hna.1 hnb.1]
    rw [later_bit hFl hvb (by omega) hv, later_bit hFl hvb (by omega) hv]
    apply or_congr_right
    rw [ih v a hvl ha hna.2 hvS hna.1, ih v b hvl hb hnb.2 hvS hnb.1]
    constructor
    · rintro ⟨-, ⟨h1, -, -⟩, ⟨h2, -, -⟩⟩
      exact ⟨h1.sym g hvl, h2⟩
    · rintro ⟨h1, h2⟩
      exact ⟨hab, ⟨h1.sym g ha, ha, hna.1⟩, ⟨h2, hb, hnb.1⟩⟩
theorem later_reach {rs l : List Int} (ho : orderB rs.length rs l = true) {k v : Nat} (hk : k < l.length) (hv : gi l k = (v : Int)) : laterN (fillTo rs l k) l k = reachN rs (setTo l k) v := by
  obtain ⟨hvb, -, g, hlen⟩ := orderB_true ho
  have hvl : v < rs.length := by obtain ⟨u, hu, h⟩ := vert_at hvb hk; omega
  have hSl := setTo_lt hvb k (by omega)
  have hFl := fillTo_len rs l k
  have gF := fillTo_VG g l k
  have hvS : (setTo l k).testBit v = false := by
    rw [Bool.eq_false_iff]; intro h
    obtain ⟨j, hj, e⟩ := (setTo_bit hvb (by omega)).1 h
    have := order_inj hvb (i := j) (j := k) (by omega) (by omega) (by rw [e, hv])
    omega
  apply Nat.eq_of_testBit_eq
  intro j
  rw [Bool.eq_iff_iff, later_bit hFl hvb hk hv, reach_con g hSl hvl]
  constructor
  · rintro ⟨h1, h2, h3⟩
    have hne : v ≠ j := fun e => by rw [← e, eb_irr gF (by omega)] at h1; cases h1
    exact ⟨h2, h3, fun e => hne e.symm, (fill_con ho k (by omega) v j hvl h2 hne hvS h3).1 h1⟩
  · rintro ⟨h2, h3, h4, h5⟩
    exact ⟨(fill_con ho k (by omega) v j hvl h2 (fun e => h4 e.symm) hvS h3).2 h5, h2, h3⟩
/-- Later rounds leave what stands behind a vertex. -/
theorem later_stay {rs l : List Int} (ho : orderB rs.length rs l = true) {k : Nat} (hk : k < l.length) : ∀ d, k + d ≤ l.length → laterN (fillTo rs l (k + d)) l k = laterN (fillTo rs l k) l k
  | 0, _ => rfl
  | d + 1, hd => by
    rw [← later_stay ho hk d (by omega)]
    obtain ⟨hvb, -, g, hlen⟩ := orderB_true ho
    obtain ⟨v, hv, hvl⟩ := vert_at hvb hk
    obtain ⟨u, hu, hul⟩ := vert_at hvb (j := k + d) (by omega)
    have h1 := fillTo_len rs l (k + d)
    have h2 := fillTo_len rs l (k + (d + 1))
    have gF := fillTo_VG g l (k + d)
    apply Nat.eq_of_testBit_eq
    intro j
    rw [Bool.eq_iff_iff, later_bit h2 hvb hk hv, later_bit h1 hvb hk hv]
    apply and_congr_left
    rintro ⟨hj, hjS⟩
    show eb (joinL (fillTo rs l (k + d)) (laterN (fillTo rs l (k + d)) l (k + d))) v j = true ↔ _
    unfold joinL
    have hno : (laterN (fillTo rs l (k + d)) l (k + d)).testBit v = false := by
      rw [Bool.eq_false_iff]; intro h
      obtain ⟨e1, -, e2⟩ := (later_bit h1 hvb (by omega) hu).1 h
      by_cases e : d = 0
      · subst e
        have : u = v := by rw [Nat.add_zero] at hu; rw [hu] at hv; omega
        rw [this, eb_irr gF (by omega)] at e1; cases e1
      · have : (setTo l (k + d)).testBit v = true := (setTo_bit hvb (by omega)).2 ⟨k, by omega, hv⟩
        rw [this] at e2; cases e2
    rw [eb_rowsOf (by omega) (by omega), hno]
    simp

def trC (rs : List Int) (S v : Nat) : Nat := min (cnt (reachN rs S v)) rs.length
theorem trC_eq {rs : List Int} (hN : rs.length ≤ 7) (S v : Nat) : trC rs S v = cnt (reachN rs S v) := by
  have := cnt_leN (reachN_lt rs S v) hN
  unfold trC; omega
theorem widTo_fresh {rs : List Int} (hv : isGraphB rs.length rs = true) {t : List Nat} (h : freshS rs.length 0 t) (hl : t.length = rs.length) : ∀ k, k ≤ t.length → widTo (fillTo rs (t.map Int.ofNat) t.length) (t.map Int.ofNat) k = costF (trC rs) (fun _ => 0) 0 (t.take k) 0
  | 0, _ => by simp [widTo, costF]
  | k + 1, hk => by
    have hN := (VG.of hv).2.le
    have ho := order_fresh hv h hl
    have ih := widTo_fresh hv h hl k (by omega)
    have hs := setTo_fresh hN h k (by omega)
    have h1 := later_stay ho (k := k) (by simp; omega) (t.length - k) (by simp; omega)
    rw [show k + (t.length - k) = t.length by omega] at h1
    have h2 := later_reach ho (k := k) (by simp; omega) (gi_map t k (by omega))
    rw [take_eln (by omega), costF_snoc, trC_eq hN, ← ih, ← hs, ← h2, ← h1, widTo]
    split <;> omega
/-- The treewidth, set by set. -/
def treeV (n : Int) (rs : List Int) : Int := if isGraphB n rs = true then dpV (trC rs) (fun _ => 0) rs.length (2 ^ rs.length - 1) else -1
theorem treeV_no {n : Int} {rs : List Int} (h : isGraphB n rs = false) : treeV n rs = -1 := by unfold treeV; rw [if_neg (by rw [h]; decide)]
theorem treeV_of {n : Int} {rs : List Int} (h : isGraphB n rs = true) : treeV n rs = dpV (trC rs) (fun _ => 0) rs.length (2 ^ rs.length - 1) := by unfold treeV; rw [if_pos h]
theorem wid_order {rs : List Int} (hv : isGraphB rs.length rs = true) {t : List Nat} (h : freshS rs.length 0 t) (hl : t.length = rs.length) : widV rs.length rs (t.map Int.ofNat) = (costF (trC rs) (fun _ => 0) 0 t 0 : Int) := by
  have hw := widTo_fresh hv h hl t.length (Nat.le_refl _)
  rw [List.take_length] at hw
  rw [widV_of (order_fresh hv h hl), List.length_map, hw]
theorem tree_best {rs : List Int} (hv : isGraphB rs.length rs = true) : (bestV (widV rs.length rs) rs).2 = treeV rs.length rs := by
  have hN := (VG.of hv).2.le
  have h0 : ∀ x, x ∈ ext rs.length rs.length [] → 0 ≤ widV rs.length rs x := fun x hx => by
    obtain ⟨t, h1, h2, rfl⟩ := mem_orders.1 hx
    rw [wid_order hv h2 h1]; omega
  obtain ⟨z, h1, h2, h3, -⟩ := bestV_facts hN h0
  rw [h2, treeV_of hv]
  obtain ⟨tz, a1, a2, rfl⟩ := mem_orders.1 h1
  have hlow := dpV_cost (c := trC rs) (e := fun _ => 0) hN tz 0 0 (Nat.two_pow_pos _) a2 (Nat.le_of_eq (dpV_zero _ _ _))
  rw [fresh_all hN a2 a1] at hlow
  obtain ⟨t, b1, b2, b3⟩ := dpV_order (c := trC rs) (e := fun _ => 0) (N := rs.length) hN (fun _ _ => Nat.min_le_right _ _) (fun S => Nat.zero_le _) _ _ (Nat.le_refl _) (all_lt rs.length)
  have hl := fresh_full hN b1 b2
  have hup := h3 _ (mem_orders.2 ⟨t, hl, b1, rfl⟩)
  rw [wid_order hv b1 hl, b3] at hup
  show widV rs.length rs (tz.map Int.ofNat) = _
  rw [wid_order hv a2 a1] at hup ⊢
  omega

end Go.Proofs.Ytdbaflimcbidjaa
