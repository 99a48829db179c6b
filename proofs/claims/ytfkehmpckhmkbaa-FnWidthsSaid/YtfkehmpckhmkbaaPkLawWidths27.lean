/-
  Plain laws of the treewidth: what is joined by elimination is what is reached through the eliminated, so the least width of all orders is what is reckoned set by set. No conditions.
  The walk of l8Has of the reference. For at most 2^20 list elements.
  The test that always holds, as what is asked of a beginning and of a whole list. No conditions.
  The search l27Band of the reference. For at most 7 rows.
-/
import Derived.Test.YtfkehmpckhmkbaaPkLawWidths21
import Derived.Test.YtfkehmpckhmkbaaPkLawWidths14
import Derived.Test.YtfkehmpckhmkbaaPkLawWidths06
import Derived.Test.YtfkehmpckhmkbaaPkLawWidths13
import Derived.Test.YtfkehmpckhmkbaaPkLawWidths11
import Derived.Deep.RegionHeld3
import Derived.Deep.CutRange
namespace Go.Proofs.Ytfkehmpckhmkbaa
open Go.RowKit

/-- A way from a to b whose vertices in between are in S. -/
inductive Con (rs : List Int) (S : Nat) : Nat → Nat → Prop
  | edge {a b : Nat} (h : eb rs a b = true) : Con rs S a b
  | step {a x b : Nat} (h : eb rs a x = true) (hx : S.testBit x = true) (k : Con rs S x b) : Con rs S a b
theorem Con.mono {rs : List Int} {S T a b : Nat} (h : Con rs S a b) (hST : subN S T) : Con rs T a b := by
  induction h with
  | edge h => exact .edge h
  | step h hx _ ih => exact .step h (hST _ hx) ih
theorem Con.trans {rs : List Int} {S a x b : Nat} (h : Con rs S a x) (hx : S.testBit x = true) (k : Con rs S x b) : Con rs S a b := by
  induction h with
  | edge h => exact .step h hx k
  | step h hy _ ih => exact .step h hy (ih hx k)
theorem eb_lt {rs : List Int} (g : VG rs) {a b : Nat} (ha : a < rs.length) (h : eb rs a b = true) : b < rs.length := testBit_lt (g.lt a ha) h
theorem Con.lt {rs : List Int} (g : VG rs) {S a b : Nat} (h : Con rs S a b) (ha : a < rs.length) : b < rs.length := by
  induction h with
  | edge h => exact eb_lt g ha h
  | step h _ _ ih => exact ih (eb_lt g ha h)
theorem Con.sym {rs : List Int} (g : VG rs) {S a b : Nat} (h : Con rs S a b) (ha : a < rs.length) : Con rs S b a := by
  induction h with
  | edge h => exact .edge (by rw [eb_sym g (eb_lt g ha h) ha]; exact h)
  | step h hx k ih =>
    have hxl := eb_lt g ha h
    exact (ih hxl).trans hx (.edge (by rw [eb_sym g hxl ha]; exact h))
theorem Con.zero {rs : List Int} {a b : Nat} : Con rs 0 a b ↔ eb rs a b = true := by
  constructor
  · intro h
    cases h with
    | edge h => exact h
    | step h hx _ => simp at hx
  · exact .edge
theorem Con.more {rs : List Int} {S v a b : Nat} : Con rs (S ||| 2 ^ v) a b ↔ Con rs S a b ∨ (Con rs S a v ∧ Con rs S v b) := by
  have hsub : subN S (S ||| 2 ^ v) := fun i hi => by rw [Nat.testBit_or, hi]; rfl
  have hv : (S ||| 2 ^ v).testBit v = true := by rw [Nat.testBit_or, Nat.testBit_two_pow]; simp
  constructor
  · intro h
    induction h with
    | edge h => exact .inl (.edge h)
    | step h hx _ ih =>
      rw [Nat.testBit_or, Nat.testBit_two_pow, Bool.or_eq_true, decide_eq_true_eq] at hx
      rcases hx with hx | rfl
      · rcases ih with ih | ⟨i1, i2⟩
        · exact .inl (.step h hx ih)
        · exact .inr ⟨.step h hx i1, i2⟩
      · rcases ih with ih | ⟨-, i2⟩
        · exact .inr ⟨.edge h, ih⟩
        · exact .inr ⟨.edge h, i2⟩
  · rintro (h | ⟨h1, h2⟩)
    · exact h.mono hsub
    · exact (h1.mono hsub).trans hv (h2.mono hsub)

/-- What v reaches through S, outside of S. -/
def reachN (rs : List Int) (S v : Nat) : Nat := around rs (grow rs (2 ^ v) (S ||| 2 ^ v)) &&& nDiff (2 ^ rs.length - 1) (S ||| 2 ^ v)
theorem reachN_lt (rs : List Int) (S v : Nat) : reachN rs S v < 2 ^ rs.length := Nat.lt_of_le_of_lt Nat.and_le_right (nDiff_lt (by have := Nat.two_pow_pos rs.length; omega))
open Classical in
theorem grow_con {rs : List Int} (g : VG rs) {S v x : Nat} (hS : S < 2 ^ rs.length) (hv : v < rs.length) : (grow rs (2 ^ v) (S ||| 2 ^ v)).testBit x = true ↔ x = v ∨ (S.testBit x = true ∧ Con rs S v x) := by
  have hp := g.pow.1
  have hpv : 2 ^ v < 2 ^ rs.length := Nat.pow_lt_pow_right (by decide) hv
  have hSv : S ||| 2 ^ v < 2 ^ rs.length := Nat.or_lt_two_pow hS hpv
  have hX : subN (2 ^ v) (S ||| 2 ^ v) := fun i hi => by rw [Nat.testBit_or, hi]; simp
  have hbit : ∀ y, (S ||| 2 ^ v).testBit y = true ↔ S.testBit y = true ∨ y = v := fun y => by
    rw [Nat.testBit_or, Nat.testBit_two_pow, Bool.or_eq_true, decide_eq_true_eq, @eq_comm _ v y]
  have h7 := g.le
  have hc1 : 1 ≤ cnt (2 ^ v) := by rw [cnt_pow (by omega)]; exact Nat.le_refl _
  constructor
  · intro h
    let D := accB (fun x => decide (x = v ∨ (S.testBit x = true ∧ Con rs S v x))) rs.length
    have hD : D < 128 := Nat.lt_of_lt_of_le (accB_lt _ _) hp
    have hDb : ∀ y, D.testBit y = true ↔ y < rs.length ∧ (y = v ∨ (S.testBit y = true ∧ Con rs S v y)) := fun y => by
      show (accB _ _).testBit y = true ↔ _
      rw [accB_bit]; simp
    have hsh : shut rs (S ||| 2 ^ v) D := by
      refine ⟨fun i hi => ?_, fun a b ha hb hab => ?_⟩
      · rcases ((hDb i).1 hi).2 with rfl | ⟨h1, -⟩
        · exact (hbit i).2 (.inr rfl)
        · exact (hbit i).2 (.inl h1)
      · obtain ⟨hal, ha2⟩ := (hDb a).1 ha
        have hbl := eb_lt g hal hab
        refine (hDb b).2 ⟨hbl, ?_⟩
        rcases (hbit b).1 hb with hb | hb
        · right
          refine ⟨hb, ?_⟩
          rcases ha2 with rfl | ⟨h1, h2⟩
          · exact .edge hab
          · exact h2.trans h1 (.edge hab)
        · exact .inl hb
    have hXD : subN (2 ^ v) D := fun i hi => by
      rw [pow_bit] at hi
      exact (hDb i).2 ⟨by omega, .inl hi.symm⟩
    exact ((hDb x).1 (shut_stepN hD hsh hXD _ x h)).2
  · have hsh := shut_grow g hSv hX hc1
    have hvC : (grow rs (2 ^ v) (S ||| 2 ^ v)).testBit v = true := sub_stepN (Nat.lt_of_lt_of_le hSv hp) hX _ v (pow_bit.2 rfl)
    have key : ∀ {a b : Nat}, Con rs S a b → (grow rs (2 ^ v) (S ||| 2 ^ v)).testBit a = true → S.testBit b = true → (grow rs (2 ^ v) (S ||| 2 ^ v)).testBit b = true := by
      intro a b h
      induction h with
      | edge h => intro ha hb; exact hsh.2 _ _ ha ((hbit _).2 (.inl hb)) h
      | step h hx _ ih => intro ha hb; exact ih (hsh.2 _ _ ha ((hbit _).2 (.inl hx)) h) hb
    rintro (rfl | ⟨h1, h2⟩)
    · exact hvC
    · exact key h2 hvC h1
theorem reach_con {rs : List Int} (g : VG rs) {S v j : Nat} (hS : S < 2 ^ rs.length) (hv : v < rs.length) : (reachN rs S v).testBit j = true ↔ j < rs.length ∧ S.testBit j = false ∧ j ≠ v ∧ Con rs S v j := by
  have hp := g.pow.1
  have hpv : 2 ^ v < 2 ^ rs.length := Nat.pow_lt_pow_right (by decide) hv
  have hSv : S ||| 2 ^ v < 2 ^ rs.length := Nat.or_lt_two_pow hS hpv
  have hX : subN (2 ^ v) (S ||| 2 ^ v) := fun i hi => by rw [Nat.testBit_or, hi]; simp
  have hG : grow rs (2 ^ v) (S ||| 2 ^ v) < 128 := stepN_lt hX (Nat.lt_of_lt_of_le hSv hp) _
  unfold reachN
  rw [Nat.testBit_and, Bool.and_eq_true, around_bit hG, nDiff_bit, Nat.testBit_two_pow_sub_one, decide_eq_true_eq, Nat.testBit_or, Nat.testBit_two_pow, Bool.or_eq_false_iff, decide_eq_false_iff_not]
  constructor
  · rintro ⟨h, hj, hjS, hjv⟩
    refine ⟨hj, hjS, fun e => hjv e.symm, ?_⟩
    rcases h with h | ⟨x, hx, hxj⟩
    · rcases (grow_con g hS hv).1 h with h | ⟨h, -⟩
      · exact absurd h.symm hjv
      · rw [hjS] at h; cases h
    · rcases (grow_con g hS hv).1 hx with rfl | ⟨h1, h2⟩
      · exact .edge hxj
      · exact h2.trans h1 (.edge hxj)
  · rintro ⟨hj, hjS, hjv, h⟩
    refine ⟨.inr ?_, hj, hjS, fun e => hjv e.symm⟩
    have key : ∀ {a b : Nat}, Con rs S a b → (grow rs (2 ^ v) (S ||| 2 ^ v)).testBit a = true → ∃ x, (grow rs (2 ^ v) (S ||| 2 ^ v)).testBit x = true ∧ (gn rs x).testBit b = true := by
      intro a b h
      induction h with
      | edge h => intro ha; exact ⟨_, ha, h⟩
      | step h hx _ ih =>
        intro ha
        refine ih ((shut_grow g hSv hX (by have := g.le; rw [cnt_pow (by omega)]; exact Nat.le_refl _)).2 _ _ ha ?_ h)
        rw [Nat.testBit_or, hx]; rfl
    exact key h ((grow_con g hS hv).2 (.inl rfl))

/-! ### Elimination -/
theorem setTo_next {n : Int} {rs l : List Int} (h : vertsB n rs l = true) {k v : Nat} (hk : k < l.length) (hv : gi l k = (v : Int)) : setTo l (k + 1) = setTo l k ||| 2 ^ v := by
  obtain ⟨u, hu, -, -, h2⟩ := vert_new h hk
  have : u = v := by rw [hu] at hv; omega
  rw [← this]; exact h2
theorem later_bit {rs rs' l : List Int} (hn : rs'.length = rs.length) (_ : vertsB rs.length rs l = true) {k v j : Nat} (_ : k < l.length) (hv : gi l k = (v : Int)) : (laterN rs' l k).testBit j = true ↔ eb rs' v j = true ∧ j < rs.length ∧ (setTo l k).testBit j = false := by
  unfold laterN
  rw [Nat.testBit_and, Bool.and_eq_true, hv, Int.toNat_natCast]
  have hb : behindN rs' l k = behindN rs l k := by unfold behindN; rw [hn]
  rw [hb]
  unfold behindN
  rw [nDiff_bit, Nat.testBit_two_pow_sub_one, decide_eq_true_eq]
  rfl
theorem fill_con {rs l : List Int} (ho : orderB rs.length rs l = true) : ∀ k, k ≤ l.length → ∀ a b, a < rs.length → b < rs.length → a ≠ b → (setTo l k).testBit a = false → (setTo l k).testBit b = false → (eb (fillTo rs l k) a b = true ↔ Con rs (setTo l k) a b)
  | 0, _, a, b, _, _, _, _, _ => Con.zero.symm
  | k + 1, hk, a, b, ha, hb, hab, hna, hnb => by
    obtain ⟨hvb, -, g, hlen⟩ := orderB_true ho
    obtain ⟨v, hv, hvl⟩ := vert_at hvb (j := k) (by omega)
    have hs := setTo_next hvb (k := k) (by omega) hv
    have hFl := fillTo_len rs l k
    have hSl := setTo_lt hvb k (by omega)
    have hvS : (setTo l k).testBit v = false := by
      rw [Bool.eq_false_iff]; intro h
      obtain ⟨j, hj, e⟩ := (setTo_bit hvb (by omega)).1 h
      have := order_inj hvb (i := j) (j := k) (by omega) (by omega) (by rw [e, hv])
      omega
    rw [hs, Nat.testBit_or, Nat.testBit_two_pow, Bool.or_eq_false_iff, decide_eq_false_iff_not] at hna hnb
    have ih := fun x y hx hy hxy h1 h2 => fill_con ho k (by omega) x y hx hy hxy h1 h2
    show eb (joinL _ _) a b = true ↔ _
    unfold joinL
    rw [eb_rowsOf (by omega) (by omega), Bool.or_eq_true, Bool.and_eq_true, Bool.and_eq_true, decide_eq_true_eq, hs, Con.more, ih a b ha hb hab hna.1 hnb.1]
    rw [later_bit hFl hvb (by omega) hv, later_bit hFl hvb (by omega) hv]
    apply or_congr_right
    rw [ih v a hvl ha hna.2 hvS hna.1, ih v b hvl hb hnb.2 hvS hnb.1]
    constructor
    · rintro ⟨-, ⟨h1, -, -⟩, ⟨h2, -, -⟩⟩
      exact ⟨h1.sym g hvl, h2⟩
    · rintro ⟨h1, h2⟩
      exact ⟨hab, ⟨h1.sym g ha, ha, hna.1⟩, ⟨h2, hb, hnb.1⟩⟩
theorem later_reach {rs l : List Int} (ho : orderB rs.length rs l = true) {k v : Nat} (hk : k < l.length) (hv : gi l k = (v : Int)) : laterN (fillTo rs l k) l k = reachN rs (setTo l k) v := by
  obtain ⟨hvb, -, g, hlen⟩ := orderB_true ho
  have hvl : v < rs.length := by obtain ⟨u, hu, h⟩ := vert_at hvb hk; omega
  have hSl := setTo_lt hvb k (by omega)
  have hFl := fillTo_len rs l k
  have gF := fillTo_VG g l k
  have hvS : (setTo l k).testBit v = false := by
    rw [Bool.eq_false_iff]; intro h
    obtain ⟨j, hj, e⟩ := (setTo_bit hvb (by omega)).1 h
    have := order_inj hvb (i := j) (j := k) (by omega) (by omega) (by rw [e, hv])
    omega
  apply Nat.eq_of_testBit_eq
  intro j
  rw [Bool.eq_iff_iff, later_bit hFl hvb hk hv, reach_con g hSl hvl]
  constructor
  · rintro ⟨h1, h2, h3⟩
    have hne : v ≠ j := fun e => by rw [← e, eb_irr gF (by omega)] at h1; cases h1
    exact ⟨h2, h3, fun e => hne e.symm, (fill_con ho k (by omega) v j hvl h2 hne hvS h3).1 h1⟩
  · rintro ⟨h2, h3, h4, h5⟩
    exact ⟨(fill_con ho k (by omega) v j hvl h2 (fun e => h4 e.symm) hvS h3).2 h5, h2, h3⟩
/-- Later rounds leave what stands behind a vertex. -/
theorem later_stay {rs l : List Int} (ho : orderB rs.length rs l = true) {k : Nat} (hk : k < l.length) : ∀ d, k + d ≤ l.length → laterN (fillTo rs l (k + d)) l k = laterN (fillTo rs l k) l k
  | 0, _ => rfl
  | d + 1, hd => by
    rw [← later_stay ho hk d (by omega)]
    obtain ⟨hvb, -, g, hlen⟩ := orderB_true ho
    obtain ⟨v, hv, hvl⟩ := vert_at hvb hk
    obtain ⟨u, hu, hul⟩ := vert_at hvb (j := k + d) (by omega)
    have h1 := fillTo_len rs l (k + d)
    have h2 := fillTo_len rs l (k + (d + 1))
    have gF := fillTo_VG g l (k + d)
    apply Nat.eq_of_testBit_eq
    intro j
    rw [Bool.eq_iff_iff, later_bit h2 hvb hk hv, later_bit h1 hvb hk hv]
    apply and_congr_left
    rintro ⟨hj, hjS⟩
    show eb (joinL (fillTo rs l (k + d)) (laterN (fillTo rs l (k + d)) l (k + d))) v j = true ↔ _
    unfold joinL
    have hno : (laterN (fillTo rs l (k + d)) l (k + d)).testBit v = false := by
      rw [Bool.eq_false_iff]; intro h
      obtain ⟨e1, -, e2⟩ := (later_bit h1 hvb (by omega) hu).1 h
      by_cases e : d = 0
      · subst e
        have : u = v := by rw [Nat.add_zero] at hu; rw [hu] at hv; omega
        rw [this, eb_irr gF (by omega)] at e1; cases e1
      · have : (setTo l (k + d)).testBit v = true := (setTo_bit hvb (by omega)).2 ⟨k, by omega, hv⟩
        rw [this] at e2; cases e2
    rw [eb_rowsOf (by omega) (by omega), hno]
    simp

def trC (rs : List Int) (S v : Nat) : Nat := min (cnt (reachN rs S v)) rs.length
theorem trC_eq {rs : List Int} (hN : rs.length ≤ 7) (S v : Nat) : trC rs S v = cnt (reachN rs S v) := by
  have := cnt_leN (reachN_lt rs S v) hN
  unfold trC; omega
theorem widTo_fresh {rs : List Int} (hv : isGraphB rs.length rs = true) {t : List Nat} (h : freshS rs.length 0 t) (hl : t.length = rs.length) : ∀ k, k ≤ t.length → widTo (fillTo rs (t.map Int.ofNat) t.length) (t.map Int.ofNat) k = costF (trC rs) (fun _ => 0) 0 (t.take k) 0
  | 0, _ => by simp [widTo, costF]
  | k + 1, hk => by
    have hN := (VG.of hv).2.le
    have ho := order_fresh hv h hl
    have ih := widTo_fresh hv h hl k (by omega)
    have hs := setTo_fresh hN h k (by omega)
    have h1 := later_stay ho (k := k) (by simp; omega) (t.length - k) (by simp; omega)
    rw [show k + (t.length - k) = t.length by omega] at h1
    have h2 := later_reach ho (k := k) (by simp; omega) (gi_map t k (by omega))
    rw [take_eln (by omega), costF_snoc, trC_eq hN, ← ih, ← hs, ← h2, ← h1, widTo]
    split <;> omega
/-- The treewidth, set by set. -/
def treeV (n : Int) (rs : List Int) : Int := if isGraphB n rs = true then dpV (trC rs) (fun _ => 0) rs.length (2 ^ rs.length - 1) else -1
theorem treeV_no {n : Int} {rs : List Int} (h : isGraphB n rs = false) : treeV n rs = -1 := by unfold treeV; rw [if_neg (by rw [h]; decide)]
theorem treeV_of {n : Int} {rs : List Int} (h : isGraphB n rs = true) : treeV n rs = dpV (trC rs) (fun _ => 0) rs.length (2 ^ rs.length - 1) := by unfold treeV; rw [if_pos h]
theorem wid_order {rs : List Int} (hv : isGraphB rs.length rs = true) {t : List Nat} (h : freshS rs.length 0 t) (hl : t.length = rs.length) : widV rs.length rs (t.map Int.ofNat) = (costF (trC rs) (fun _ => 0) 0 t 0 : Int) := by
  have hw := widTo_fresh hv h hl t.length (Nat.le_refl _)
  rw [List.take_length] at hw
  rw [widV_of (order_fresh hv h hl), List.length_map, hw]
theorem tree_best {rs : List Int} (hv : isGraphB rs.length rs = true) : (bestV (widV rs.length rs) rs).2 = treeV rs.length rs := by
  have hN := (VG.of hv).2.le
  have h0 : ∀ x, x ∈ ext rs.length rs.length [] → 0 ≤ widV rs.length rs x := fun x hx => by
    obtain ⟨t, h1, h2, rfl⟩ := mem_orders.1 hx
    rw [wid_order hv h2 h1]; omega
  obtain ⟨z, h1, h2, h3, -⟩ := bestV_facts hN h0
  rw [h2, treeV_of hv]
  obtain ⟨tz, a1, a2, rfl⟩ := mem_orders.1 h1
  have hlow := dpV_cost (c := trC rs) (e := fun _ => 0) hN tz 0 0 (Nat.two_pow_pos _) a2 (Nat.le_of_eq (dpV_zero _ _ _))
  rw [fresh_all hN a2 a1] at hlow
  obtain ⟨t, b1, b2, b3⟩ := dpV_order (c := trC rs) (e := fun _ => 0) (N := rs.length) hN (fun _ _ => Nat.min_le_right _ _) (fun S => Nat.zero_le _) _ _ (Nat.le_refl _) (all_lt rs.length)
  have hl := fresh_full hN b1 b2
  have hup := h3 _ (mem_orders.2 ⟨t, hl, b1, rfl⟩)
  rw [wid_order hv b1 hl, b3] at hup
  show widV rs.length rs (tz.map Int.ofNat) = _
  rw [wid_order hv a2 a1] at hup ⊢
  omega

end Go.Proofs.Ytfkehmpckhmkbaa

namespace Go.Proofs.Ytfkehmpckhmkbaa
open Go.RowKit

theorem inB_hit {xs : List Int} {v : Int} {k : Nat} (hk : k < xs.length) (h : (gi xs k == v) = true) : inB xs v = true := inB_true.2 ⟨k, hk, by simpa using h⟩
theorem inB_miss {xs : List Int} {v : Int} (h : ∀ j, j < xs.length → (gi xs j == v) = false) : inB xs v = false := by
  rw [← Bool.not_eq_true, inB_true]
  rintro ⟨j, hj, e⟩
  have := h j hj
  rw [e] at this; simp at this

theorem l8Has_any (xs : List Int) (v : Int) (ao : Option Addr) (n c : Nat) (w : World) (hx : IntsAt w ao xs) (hn : n = xs.length) (hl : n ≤ 1048576) :
    Calls Try.prog 86 #[.slice ao n c, .int .i64 v] w fun e w' => e = .returned (.bool (inB xs v)) ∧ w = w' := by
  subst hn
  go_enter Try.func86, Try.ntmps86
  go_wp2_with fail
  go_loopw [5] (fun i wr => wr = w ∧ ∃ k : Nat, k ≤ xs.length ∧ i = .int .i64 k ∧ ∀ j, j < k → (gi xs j == v) = false) (fun i _ => xs.length - (intOf i).toNat)
  case atStart => exact ⟨rfl, 0, by omega, rfl, fun j h => by omega⟩
  case round =>
    obtain ⟨rfl, k, hk, rfl, hP⟩ := hrel
    have HhP := Lib.hid hP
    clear hP
    by_cases hlt : k < xs.length
    · obtain ⟨b, off, rfl, hb, hc⟩ := hx (by omega)
      have hkc := hc k hlt
      have HH := Lib.hid (fun h => inB_hit (v := v) hlt h)
      have HN := Lib.hid (fun h => all_succ (p := fun j => (gi xs j == v) = false) HhP.out h)
      clear hc
      generalize gi xs k = a at *
      cases he : (a == v)
      · go_wp2_with fail
        go_roundw
        case rel => exact ⟨by trivial, k + 1, by omega, by go_num, HN.out he⟩
        case measure => simp [intOf]; omega
      · go_wp2_with fail
        go_ret
        exact ⟨retB (by rw [HH.out he]), rfl⟩
    · have HM := Lib.hid (inB_miss (fun j hj => HhP.out j (by omega)))
      go_wp2_with fail
      go_ret
      exact ⟨retB (by rw [HM.out]), rfl⟩

end Go.Proofs.Ytfkehmpckhmkbaa

namespace Go.Proofs.Ytfkehmpckhmkbaa
open Go.RowKit

theorem always_any (X : Nat → Prop) (W : World) (n : Nat) : HoldsOf (S := Unit) 63 #[] X W (fun _ _ => ((), true)) (fun _ _ => True) n := by
  intro m s l ao cap _ hl hn hc
  show Calls Try.prog 63 #[.slice ao n cap] m.w _
  go_enter Try.func63, Try.ntmps63
  go_wp2_with fail
  go_ret
  exact ⟨rfl, trivial, Only.refl _ _ _⟩
theorem alwaysMay_any (X : Nat → Prop) (W : World) (n : Nat) : MayOf 63 #[] X W (fun _ => true) n := by
  intro m l ao n cap hl hn hc hm h0
  show Calls Try.prog 63 #[.slice ao n cap] m.w _
  go_enter Try.func63, Try.ntmps63
  go_wp2_with fail
  go_ret
  exact ⟨rfl, Below.refl _ _⟩

end Go.Proofs.Ytfkehmpckhmkbaa

namespace Go.Proofs.Ytfkehmpckhmkbaa
open Go.RowKit

/-- Does v, laid behind l, keep the band k with the first i places? -/
def fitTo (rs l : List Int) (v k : Nat) : Nat → Bool
  | 0 => true
  | i + 1 => fitTo rs l v k i && (decide (l.length - i ≤ k) || !(gn rs (gi l i).toNat).testBit v)
def mayBd (rs : List Int) (k : Nat) (x : List Int) : Bool := fitTo rs x.dropLast (gi x (x.length - 1)).toNat k (x.length - 1)
theorem mayBd_app {rs l : List Int} {k v : Nat} : mayBd rs k (l ++ [(v : Int)]) = fitTo rs l v k l.length := by
  unfold mayBd
  have e : (l ++ [(v : Int)]).length - 1 = l.length := by simp
  rw [e, List.dropLast_concat, gi_last, Int.toNat_natCast]
theorem fitTo_no {rs l : List Int} {v k i : Nat} (h : fitTo rs l v k i = false) : ∀ d, fitTo rs l v k (i + d) = false
  | 0 => h
  | d + 1 => by
    show (fitTo rs l v k (i + d) && _) = false
    rw [fitTo_no h d, Bool.false_and]
theorem fitTo_end {rs l : List Int} {v k i : Nat} (hi : i ≤ l.length) (h : fitTo rs l v k i = false) : mayBd rs k (l ++ [(v : Int)]) = false := by
  rw [mayBd_app, show l.length = i + (l.length - i) by omega]; exact fitTo_no h _

set_option maxRecDepth 100000 in
set_option maxHeartbeats 4000000 in
theorem l27Band_any (rs : List Int) (ro : Option Addr) (rc : Nat) (hv : isGraphB rs.length rs = true) (kk : Nat) (hk7 : kk ≤ 7) : ∀ (f : Nat) (l : List Int) (n lc : Nat) (la : Addr) (w : World), l.length + f = rs.length → n = l.length → IntsAt w ro rs → IntsAt w (some la) l → (∀ k, k < l.length → 0 ≤ gi l k ∧ gi l k < rs.length) →
    Calls Try.prog 57 #[.agg #[.int .i64 rs.length, .slice ro rs.length rc], .int .i64 kk, .slice (some la) n lc] w (RetD w f (dfs (mayBd rs kk) (fun _ => true) rs.length f l)) := by
  have g := (VG.of hv).2
  have hg1 := g.pos
  have hg2 := g.le
  intro f
  induction f with
  | zero =>
    intro l n lc la w hlf hn hr hl hV
    subst hn
    have hN : ((l.length : Int) == (rs.length : Int)) = true := by rw [beq_iff_eq]; omega
    have HD : Hid (dfs (mayBd rs kk) (fun _ => true) rs.length 0 l = some l) := rfl
    clear hV
    have Hhlf := Lib.hid hlf
    clear hlf
    go_enter Try.func57, Try.ntmps57
    go_wp2_with fail
    generalize hW : w.alloc _ = W1
    obtain ⟨hB, -, k0⟩ := alloc1 hW
    replace hr := hr.below hB
    replace hl := hl.below hB
    have hb0 := k0.lt
    have hc0 := k0.cell 0
    have hc1 := k0.cell 1
    simp at hc0 hc1
    clear hW k0
    have HhB := Lib.hid hB
    clear hB
    obtain ⟨m, hm0⟩ : ∃ m : Later W1, m.w = W1 := ⟨Later.refl _, rfl⟩
    refine (fun h => hm0 ▸ h) ?_
    clear hm0
    go_wp2_with fail
    go_ret2
    rw [HD.out]
    exact ⟨some la, lc, l, rfl, below_later HhB.out m, hl.later m, fun x h => Option.some.inj h, fun h => absurd h (by omega)⟩
  | succ f ih =>
    intro l n lc la w hlf hn hr hl hV
    subst hn
    have hN : ((l.length : Int) == (rs.length : Int)) = false := by rw [beq_eq_false_iff_ne]; omega
    have hl5 : l.length ≤ 6 := by omega
    have Hih := Lib.hid ih
    clear ih
    have Hhlf := Lib.hid hlf
    clear hlf
    have HhV := Lib.hid hV
    clear hV
    go_enter Try.func57, Try.ntmps57
    go_wp2_with fail
    generalize hW : w.alloc _ = W1
    obtain ⟨hB, -, k0⟩ := alloc1 hW
    replace hr := hr.below hB
    replace hl := hl.below hB
    have hb0 := k0.lt
    have hc0 := k0.cell 0
    have hc1 := k0.cell 1
    simp at hc0 hc1
    clear hW k0
    have HhB := Lib.hid hB
    clear hB
    obtain ⟨m, hm0⟩ : ∃ m : Later W1, m.w = W1 := ⟨Later.refl _, rfl⟩
    refine (fun h => hm0 ▸ h) ?_
    clear hm0
    go_wp2_with fail
    go_loopw [8] (fun i wr => (∃ m : Later W1, wr = m.w) ∧ ∃ j : Nat, j ≤ rs.length ∧ i = .int .i64 j ∧ preF (flStep (flRun (S := Unit) (fun _ l => ((), true)) (mayBd rs kk) rs.length f) (mayBd rs kk) l) ((), none) j = (((), none), true)) (fun i _ => rs.length - (intOf i).toNat)
    case atStart => exact ⟨⟨m, rfl⟩, 0, by omega, rfl, rfl⟩
    case round =>
      obtain ⟨⟨m, rfl⟩, j, hj, rfl, hP⟩ := hrel
      have HhP := Lib.hid hP
      clear hP
      by_cases hlt : j < rs.length
      · have hH := fun m : Later W1 => l8Has_any l (j : Int) (some la) l.length lc m.w (hl.later m) rfl (by omega)
        have hx : (l ++ [(j : Int)]).length = l.length + 1 := by simp
        have HS := Lib.hid (fun h => (preF_go HhP.out).trans (flStep_skip (rec := flRun (S := Unit) (fun _ l => ((), true)) (mayBd rs kk) rs.length f) (may := mayBd rs kk) (l := l) (v := j) (s := ()) h))
        have Hhx := Lib.hid hx
        clear hx
        go_wp2_with (first | (go_at_call 86; refine (hH m).mono ?_; rintro e w' ⟨rfl, rfl⟩))
        clear hH
        go_loopw [9, 10] (fun b i wr => (∃ m : Later W1, wr = m.w) ∧ ∃ t : Nat, t ≤ l.length ∧ i = .int .i64 t ∧ b = .bool (!inB l (j : Int) && fitTo rs l j kk t)) (fun _ i _ => l.length - (intOf i).toNat)
        case atStart => exact ⟨⟨m, rfl⟩, 0, by omega, rfl, congrArg Value.bool (by show _ = (_ && true); rw [Bool.and_true])⟩
        case round =>
          obtain ⟨⟨m, rfl⟩, t, ht, rfl, rfl⟩ := hrel
          cases hb : (!inB l (j : Int) && fitTo rs l j kk t)
          · have HS' := Lib.hid (HS.out (by
              rcases hi : inB l (j : Int) with _ | _
              · rw [hi, Bool.not_false, Bool.true_and] at hb; exact .inr (fitTo_end ht hb)
              · exact .inl rfl))
            clear HS hb
            by_cases htt : t < l.length
            all_goals
              go_wp2_with fail
              go_roundw
              case rel => exact ⟨⟨m, rfl⟩, j + 1, by omega, by go_num, HS'.out⟩
              case measure => simp [intOf]; omega
          · have hb1 : inB l (j : Int) = false ∧ fitTo rs l j kk t = true := by simpa using hb
            clear hb
            obtain ⟨hb1, hb2⟩ := hb1
            by_cases htt : t < l.length
            · clear HS
              obtain ⟨lb, lofs, hla, hlb, hlc⟩ := hl (Nat.lt_of_le_of_lt (Nat.zero_le t) htt)
              simp only [Option.some.injEq] at hla
              subst hla
              have hct := hlc t htt
              obtain ⟨u, hu⟩ : ∃ u : Nat, gi l t = u := ⟨(gi l t).toNat, by have := HhV.out t htt; omega⟩
              have hu2 : u < rs.length := by have := HhV.out t htt; omega
              rw [hu] at hct
              have HN : Hid ((!inB l (j : Int) && fitTo rs l j kk (t + 1)) = (decide (l.length - t ≤ kk) || !(gn rs u).testBit j)) := Lib.hid (by
                show (!inB l (j : Int) && (fitTo rs l j kk t && (decide (l.length - t ≤ kk) || !(gn rs (gi l t).toNat).testBit j))) = _
                rw [hb1, hb2, hu, Int.toNat_natCast]; simp)
              have hsub : (l.length : Int) - (t : Int) = ((l.length - t : Nat) : Int) := by omega
              have hA := fun m : Later W1 => l2Edge_any rs u j ro rc m.w (hr.later m) g hu2 hlt
              clear hlc hu hb1 hb2
              by_cases hd : l.length - t ≤ kk
              · have d3 : decide (((l.length - t : Nat) : Int) ≤ (kk : Int)) = true := decide_eq_true (by omega)
                go_wp2_with fail
                refine wp_region_later m rfl (by kernel_rfl) (by kernel_rfl) ?_
                repeat (go_big_quiet_step ((first | (go_at_call 65; exact Calls.later _ (hA _)))))
                refine wpQuiet_nil ?_
                rintro _ ⟨m, rfl⟩
                go_wp2_with fail
                go_roundw
                case rel => exact ⟨⟨m, rfl⟩, t + 1, by omega, by go_num, congrArg Value.bool (by rw [HN.out, decide_eq_true hd]; rfl)⟩
                case measure => simp [intOf]; omega
              · have d3 : decide (((l.length - t : Nat) : Int) ≤ (kk : Int)) = false := decide_eq_false (by omega)
                cases he : (gn rs u).testBit j
                all_goals
                  simp only [he] at hA
                  go_wp2_with fail
                  refine wp_region_later m rfl (by kernel_rfl) (by kernel_rfl) ?_
                  repeat (go_big_quiet_step ((first | (go_at_call 65; exact Calls.later _ (hA _)))))
                  refine wpQuiet_nil ?_
                  rintro _ ⟨m, rfl⟩
                  go_wp2_with fail
                  go_roundw
                  case rel => exact ⟨⟨m, rfl⟩, t + 1, by omega, by go_num, congrArg Value.bool (by rw [HN.out, decide_eq_false hd, he]; rfl)⟩
                  case measure => simp [intOf]; omega
            · have hm : mayBd rs kk (l ++ [(j : Int)]) = true := by rw [mayBd_app, show l.length = t by omega]; exact hb2
              have HG := (preF_go HhP.out).trans (flStep_dfs (q := fun _ => true) (N := rs.length) (f := f) hb1 hm rfl)
              have hih := fun (n lc : Nat) (la : Addr) (w : World) (h1 : n = (l ++ [(j : Int)]).length) h2 h3 => Hih.out (l ++ [(j : Int)]) n lc la w (by have := Hhlf.out; have := Hhx.out; omega) h1 h2 h3 (fun k hk => by
                by_cases e : k < l.length
                · rw [gi_left e]; exact HhV.out k e
                · obtain rfl : k = l.length := by have := Hhx.out; omega
                  rw [gi_last]; omega)
              generalize dfs (mayBd rs kk) (fun _ => true) rs.length f (l ++ [(j : Int)]) = O at *
              have Hhih := Lib.hid hih
              clear hih
              have HHG := Lib.hid HG
              clear HG
              clear hb1 hb2 hm HS
              have hS' : ∀ w', Below W1.heap.size W1 w' → Below W1.heap.size W1 w' ∧ w'.cell? ⟨w.heap.size, 0, none⟩ = some (.int .i64 rs.length) ∧ w'.cell? ⟨w.heap.size, 1, none⟩ = some (.slice ro rs.length rc) := fun w' h => ⟨h, (h.cell hb0).trans hc0, (h.cell hb0).trans hc1⟩
              go_wp2_with fail
              rcases O with _ | x
              · go_region_held3 (fun w' => Below W1.heap.size W1 w' ∧ w'.cell? ⟨w.heap.size, 0, none⟩ = some (.int .i64 rs.length) ∧ w'.cell? ⟨w.heap.size, 1, none⟩ = some (.slice ro rs.length rc))
                  (exact hS' _ (by first | exact m.below.drew | assumption | exact Below.alloc (And.left (by assumption : Below W1.heap.size W1 _ ∧ _)) (And.left (by assumption : Below W1.heap.size W1 _ ∧ _)).size _))
                  (first
                    | ((refine step_append_copy (by rfl) (.tmp 58) (.tmp 59) (by rfl) W1.heap.size _ la l lc (by rfl) (by rfl) (hl.below (And.left (by assumption : Below W1.heap.size W1 _ ∧ _))) (And.left (by assumption : Below W1.heap.size W1 _ ∧ _)).size (by omega) ?_); intro ao1 cap1 w1 hne1 hown1 hBw1; have hB2 : Below W1.heap.size W1 w1 := below_more (And.left (by assumption : Below W1.heap.size W1 _ ∧ _)) hBw1)
                    | ((refine step_append_e (by rfl) (.tmp 60) (.tmp 62) (by rfl) W1.heap.size cap1 ao1 l (j : Int) _ (by rfl) (by first | exact hown1 | exact hown1.below ((Below.refl _ _).alloc (Nat.le_refl _) _)) (by rfl) (by first | exact cell_new (by simp) | exact (hBw1.cell (by first | (simp; done) | (simp; omega))).trans (cell_new (by simp)) | exact (hBw1.cell (by first | (simp; done) | (simp; omega))).trans (cell_new2 (by simp))) (And.left (by assumption : Below W1.heap.size W1 _ ∧ _)).size (by omega) ?_); intro ao2 cap2 w2 hown2 hBw2; obtain ⟨lb2, lo2, rfl, -, -⟩ := hown2.ints (by simp); have hB3 : Below W1.heap.size W1 w2 := (And.left (by assumption : Below W1.heap.size W1 _ ∧ _)).trans hBw2)
                    | (go_at_call 57; go_must (refine (Hhih.out _ _ _ _ (by simp) (hr.below (And.left (by assumption : Below W1.heap.size W1 _ ∧ _))) (by first | exact hown2.ints | exact hown2)).mono ?_); rintro e w3 ⟨ao3, cap3, xs3, rfl, hB4, hI4, hE4, hN4⟩; have hB5 := below_more (And.left (by assumption : Below W1.heap.size W1 _ ∧ _)) hB4; dsimp only))
                all_goals
                  clear hS' hl hr hI4 hE4 hN4
                  go_wp2_with fail
                  go_roundw
                  case rel => exact ⟨⟨⟨w3, hB5⟩, rfl⟩, j + 1, by omega, by go_num, HHG.out⟩
                  case measure => simp [intOf]; omega
              · have HE := Lib.hid (dfs_hit hlt HHG.out)
                go_region_held3 (fun w' => Below W1.heap.size W1 w' ∧ w'.cell? ⟨w.heap.size, 0, none⟩ = some (.int .i64 rs.length) ∧ w'.cell? ⟨w.heap.size, 1, none⟩ = some (.slice ro rs.length rc))
                  (exact hS' _ (by first | exact m.below.drew | assumption | exact Below.alloc (And.left (by assumption : Below W1.heap.size W1 _ ∧ _)) (And.left (by assumption : Below W1.heap.size W1 _ ∧ _)).size _))
                  (first
                    | ((refine step_append_copy (by rfl) (.tmp 58) (.tmp 59) (by rfl) W1.heap.size _ la l lc (by rfl) (by rfl) (hl.below (And.left (by assumption : Below W1.heap.size W1 _ ∧ _))) (And.left (by assumption : Below W1.heap.size W1 _ ∧ _)).size (by omega) ?_); intro ao1 cap1 w1 hne1 hown1 hBw1; have hB2 : Below W1.heap.size W1 w1 := below_more (And.left (by assumption : Below W1.heap.size W1 _ ∧ _)) hBw1)
                    | ((refine step_append_e (by rfl) (.tmp 60) (.tmp 62) (by rfl) W1.heap.size cap1 ao1 l (j : Int) _ (by rfl) (by first | exact hown1 | exact hown1.below ((Below.refl _ _).alloc (Nat.le_refl _) _)) (by rfl) (by first | exact cell_new (by simp) | exact (hBw1.cell (by first | (simp; done) | (simp; omega))).trans (cell_new (by simp)) | exact (hBw1.cell (by first | (simp; done) | (simp; omega))).trans (cell_new2 (by simp))) (And.left (by assumption : Below W1.heap.size W1 _ ∧ _)).size (by omega) ?_); intro ao2 cap2 w2 hown2 hBw2; obtain ⟨lb2, lo2, rfl, -, -⟩ := hown2.ints (by simp); have hB3 : Below W1.heap.size W1 w2 := (And.left (by assumption : Below W1.heap.size W1 _ ∧ _)).trans hBw2)
                    | (go_at_call 57; go_must (refine (Hhih.out _ _ _ _ (by simp) (hr.below (And.left (by assumption : Below W1.heap.size W1 _ ∧ _))) (by first | exact hown2.ints | exact hown2)).mono ?_); rintro e w3 ⟨ao3, cap3, xs3, rfl, hB4, hI4, hE4, hN4⟩; have hB5 := below_more (And.left (by assumption : Below W1.heap.size W1 _ ∧ _)) hB4; dsimp only))
                all_goals
                  clear hS' hl hr hN4
                  obtain rfl := hE4 _ rfl
                  have HhI4 := Lib.hid hI4
                  clear hI4
                  go_wp2_with fail
                  go_ret2
                  rw [HE.out]
                  exact ⟨ao3, cap3, _, rfl, below_more' HhB.out hB5, HhI4.out, fun x h => Option.some.inj h, fun _ h => by cases h⟩
      · obtain rfl : j = rs.length := by omega
        have HE := Lib.hid (dfs_none HhP.out)
        go_wp2_with fail
        go_ret2
        rw [HE.out]
        exact ⟨_, _, [], rfl, (below_later HhB.out m).alloc (below_later HhB.out m).size _, fun h => absurd h (by simp), fun x h => absurd h (by simp), fun _ _ => rfl⟩

end Go.Proofs.Ytfkehmpckhmkbaa
