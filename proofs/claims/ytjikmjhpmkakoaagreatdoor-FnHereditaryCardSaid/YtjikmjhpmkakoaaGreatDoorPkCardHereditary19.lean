/-
  Plain laws of the pathwidth: the least cut of all orders is what is reckoned set by set. No conditions.
  The band of an order out of the edge list: the plain law of BandOf of the program.
  LaterNeighbours of the reference and of the program, SetOf of the program. For at most 2^20 rows and list elements; the order is right and the vertex is in it.
-/
import Derived.Test.YtjikmjhpmkakoaaGreatDoorPkCardHereditary18
import Derived.Test.YtjikmjhpmkakoaaGreatDoorPkCardHereditary14
import Derived.Test.YtjikmjhpmkakoaaGreatDoorPkCardHereditary15
import Derived.Test.YtjikmjhpmkakoaaGreatDoorPkCardHereditary06
namespace Go.Proofs.YtjikmjhpmkakoaaGreatDoor
open Go.RowKit

theorem fresh_at {N : Nat} : ∀ (t : List Nat) (S : Nat), freshS N S t → ∀ k, k < t.length → eln t k < N ∧ (unionS S (t.take k)).testBit (eln t k) = false
  | [], _, _, k, hk => absurd hk (by simp)
  | v :: t, S, ⟨h1, h2, h3⟩, 0, _ => ⟨h1, h2⟩
  | v :: t, S, ⟨h1, h2, h3⟩, k + 1, hk => by
    have := fresh_at t (S ||| 2 ^ v) h3 k (by simpa using hk)
    have e : eln (v :: t) (k + 1) = eln t k := by simp [eln]
    rw [e]
    exact this
theorem fresh_lt {N : Nat} : ∀ (t : List Nat) (S : Nat), freshS N S t → S < 2 ^ N → unionS S t < 2 ^ N
  | [], _, _, h => h
  | v :: t, S, ⟨h1, h2, h3⟩, h => fresh_lt t (S ||| 2 ^ v) h3 (Nat.or_lt_two_pow h (Nat.pow_lt_pow_right (by decide) h1))
theorem fresh_take {N : Nat} : ∀ (t : List Nat) (S : Nat), freshS N S t → ∀ k, freshS N S (t.take k)
  | [], S, _, k => by simp [freshS]
  | v :: t, S, _, 0 => by simp [freshS]
  | v :: t, S, ⟨h1, h2, h3⟩, k + 1 => ⟨h1, h2, fresh_take t (S ||| 2 ^ v) h3 k⟩
theorem or_add {S v : Nat} (hS : S < 128) (hv : v < 7) (h : S.testBit v = false) : S ||| 2 ^ v = S + 2 ^ v := by
  obtain ⟨h1, h2⟩ := or_minus hS hv h
  have := Nat.ge_two_pow_of_testBit h2
  omega
/-- How many there are. -/
theorem cnt_or_fin : ∀ S : Fin 128, ∀ v : Fin 7, S.val.testBit v.val = false → cnt (S.val ||| 2 ^ v.val) = cnt S.val + 1 := by decide +kernel
theorem fresh_cnt {N : Nat} (hN : N ≤ 7) : ∀ (t : List Nat) (S : Nat), freshS N S t → S < 2 ^ N → cnt (unionS S t) = cnt S + t.length
  | [], _, _, _ => rfl
  | v :: t, S, ⟨h1, h2, h3⟩, h => by
    have := fresh_cnt hN t (S ||| 2 ^ v) h3 (Nat.or_lt_two_pow h (Nat.pow_lt_pow_right (by decide) h1))
    have h4 := cnt_or_fin ⟨S, lt128 hN h⟩ ⟨v, by omega⟩ h2
    dsimp only at h4
    rw [unionS, this, h4]
    simp; omega
theorem cnt_all_fin : ∀ N : Fin 8, ∀ S : Fin 128, S.val < 2 ^ N.val → cnt S.val = N.val → S.val = 2 ^ N.val - 1 := by decide +kernel
theorem fresh_all {N : Nat} (hN : N ≤ 7) {t : List Nat} (h : freshS N 0 t) (hl : t.length = N) : unionS 0 t = 2 ^ N - 1 := by
  have h1 := fresh_lt t 0 h (Nat.two_pow_pos _)
  have h2 := fresh_cnt hN t 0 h (Nat.two_pow_pos _)
  have h0 : cnt 0 = 0 := by decide
  exact cnt_all_fin ⟨N, by omega⟩ ⟨_, lt128 hN h1⟩ h1 (by dsimp only; omega)
theorem fresh_full {N : Nat} (hN : N ≤ 7) {t : List Nat} (h : freshS N 0 t) (hu : unionS 0 t = 2 ^ N - 1) : t.length = N := by
  have h2 := fresh_cnt hN t 0 h (Nat.two_pow_pos _)
  have h0 : cnt 0 = 0 := by decide
  have h3 : ∀ N : Fin 8, cnt (2 ^ N.val - 1) = N.val := by decide +kernel
  have := h3 ⟨N, by omega⟩
  dsimp only at this
  rw [hu] at h2
  omega
/-- The set of the first k. -/
theorem setTo_fresh {N : Nat} (hN : N ≤ 7) {t : List Nat} (h : freshS N 0 t) : ∀ k, k ≤ t.length → setTo (t.map Int.ofNat) k = unionS 0 (t.take k)
  | 0, _ => by simp [setTo, unionS]
  | k + 1, hk => by
    have ih := setTo_fresh hN h k (by omega)
    obtain ⟨h1, h2⟩ := fresh_at t 0 h k (by omega)
    rw [take_eln (by omega), unionS_snoc, setTo, ih, gi_map t k (by omega), Int.toNat_natCast]
    exact (or_add (lt128 hN (fresh_lt _ _ (fresh_take t 0 h k) (Nat.two_pow_pos _))) (by omega) h2).symm
def pwE (rs : List Int) (S : Nat) : Nat := min (frontN rs S) rs.length
theorem pwE_eq {rs : List Int} (hN : rs.length ≤ 7) {S : Nat} (hS : S < 2 ^ rs.length) : pwE rs S = frontN rs S := by
  have h1 : frontN rs S ≤ cnt S := List.countP_le_length
  have := cnt_leN hS hN
  unfold pwE; omega
theorem cutTo_fresh {rs : List Int} (hN : rs.length ≤ 7) {t : List Nat} (h : freshS rs.length 0 t) : ∀ k, k ≤ t.length → cutTo rs (t.map Int.ofNat) k = costF (fun _ _ => 0) (pwE rs) 0 (t.take k) 0
  | 0, _ => by simp [cutTo, costF]
  | k + 1, hk => by
    have ih := cutTo_fresh hN h k (by omega)
    have hs := setTo_fresh hN h (k + 1) hk
    have hl := fresh_lt _ _ (fresh_take t 0 h (k + 1)) (Nat.two_pow_pos _)
    have hu : unionS 0 (t.take (k + 1)) = unionS 0 (t.take k) ||| 2 ^ eln t k := by rw [take_eln (by omega), unionS_snoc]
    rw [take_eln (by omega), costF_snoc, ← hu, pwE_eq hN hl, ← ih, cutTo, hs]
    rw [← hu] at *
    split <;> omega
/-- The pathwidth, set by set. -/
def pathV (n : Int) (rs : List Int) : Int := if isGraphB n rs = true then dpV (fun _ _ => 0) (pwE rs) rs.length (2 ^ rs.length - 1) else -1
theorem pathV_no {n : Int} {rs : List Int} (h : isGraphB n rs = false) : pathV n rs = -1 := by unfold pathV; rw [if_neg (by rw [h]; decide)]
theorem pathV_of {n : Int} {rs : List Int} (h : isGraphB n rs = true) : pathV n rs = dpV (fun _ _ => 0) (pwE rs) rs.length (2 ^ rs.length - 1) := by unfold pathV; rw [if_pos h]
/-- A list of all vertices. -/
theorem order_fresh {rs : List Int} (hv : isGraphB rs.length rs = true) {t : List Nat} (h : freshS rs.length 0 t) (hl : t.length = rs.length) : orderB rs.length rs (t.map Int.ofNat) = true := by
  have hv2 : vertsB rs.length rs (t.map Int.ofNat) = true := vertsB_true.2 ⟨hv, fun j hj => by
    have hj' : j < t.length := by simpa using hj
    obtain ⟨h1, h2⟩ := fresh_at t 0 h j hj'
    rw [gi_map t j hj']
    refine ⟨by omega, fun i hi => ?_⟩
    rw [gi_map t i (by omega)]
    intro e
    have e2 : eln t i = eln t j := by omega
    -- eln t i is in the union of the first j
    have key : ∀ (t : List Nat) (S : Nat) (i j : Nat), i < j → j ≤ t.length → (unionS S (t.take j)).testBit (eln t i) = true := by
      intro t S i j hij hjl
      induction j with
      | zero => omega
      | succ j ih =>
        rw [take_eln (by omega), unionS_snoc, Nat.testBit_or]
        by_cases e3 : i = j
        · subst e3; rw [Nat.testBit_two_pow]; simp
        · rw [ih (by omega) (by omega)]; rfl
    have h3 := key t 0 i j hi (by omega)
    rw [e2, h2] at h3; cases h3⟩
  rw [orderB_of hv2, beq_iff_eq]
  simp [hl]

/-! ### All orders -/
/-- The first of the least ones. -/
def bestV (num : List Int → Int) (rs : List Int) : BestS := (ext rs.length rs.length []).foldl (bestStep num) (none, -1)
theorem mem_orders {N : Nat} {x : List Int} : x ∈ ext N N [] ↔ ∃ t : List Nat, t.length = N ∧ freshS N 0 t ∧ x = t.map Int.ofNat := by
  rw [mem_ext]
  constructor
  · rintro ⟨t, h1, h2, h3⟩; exact ⟨t, h1, (fresh_start t).1 h2, by simpa using h3⟩
  · rintro ⟨t, h1, h2, h3⟩; exact ⟨t, h1, (fresh_start t).2 h2, by simpa using h3⟩
theorem orders_some {N : Nat} (hN : N ≤ 7) : ext N N [] ≠ [] := by
  obtain ⟨t, h1, h2, -⟩ := dpV_order (c := fun _ _ => 0) (e := fun _ => 0) hN (fun _ _ => Nat.zero_le _) (fun _ => Nat.zero_le _) _ _ (Nat.le_refl _) (all_lt N)
  have hm : (t.map Int.ofNat) ∈ ext N N [] := mem_orders.2 ⟨t, fresh_full hN h1 h2, h1, rfl⟩
  intro e
  rw [e] at hm; cases hm
/-- The best one is there, and its number is the least. -/
theorem bestV_facts {num : List Int → Int} {rs : List Int} (hN : rs.length ≤ 7) (h0 : ∀ x, x ∈ ext rs.length rs.length [] → 0 ≤ num x) :
    ∃ z, z ∈ ext rs.length rs.length [] ∧ bestV num rs = (some z, num z) ∧ (∀ x, x ∈ ext rs.length rs.length [] → num z ≤ num x) ∧ (ext rs.length rs.length []).find? (fun x => decide (num x ≤ num z)) = some z := by
  have hne := orders_some hN
  unfold bestV
  match hx : ext rs.length rs.length [], hne with
  | y :: xs, _ =>
    rw [hx] at h0
    have hy := h0 y (by simp)
    have ht : ∀ x, x ∈ xs → 0 ≤ num x := fun x h => h0 x (by simp [h])
    have e : bestStep num (none, -1) y = (some y, num y) := by unfold bestStep; rw [if_pos (.inl (by decide))]
    rw [List.foldl_cons, e]
    obtain ⟨z, h1, h2, h3⟩ := bestFold xs y ht hy
    have h4 := bestFold_find xs y ht hy
    rw [h2] at h4
    exact ⟨z, h1, h2, h3, h4⟩
theorem cut_order {rs : List Int} (hv : isGraphB rs.length rs = true) {t : List Nat} (h : freshS rs.length 0 t) (hl : t.length = rs.length) : cutV rs.length rs (t.map Int.ofNat) = (costF (fun _ _ => 0) (pwE rs) 0 t 0 : Int) := by
  have hN := (VG.of hv).2.le
  rw [cutV_of (order_fresh hv h hl), cutTo_fresh hN h _ (by simp)]
  simp
theorem path_best {rs : List Int} (hv : isGraphB rs.length rs = true) : (bestV (cutV rs.length rs) rs).2 = pathV rs.length rs := by
  have hN := (VG.of hv).2.le
  have h0 : ∀ x, x ∈ ext rs.length rs.length [] → 0 ≤ cutV rs.length rs x := fun x hx => by
    obtain ⟨t, h1, h2, rfl⟩ := mem_orders.1 hx
    rw [cut_order hv h2 h1]; omega
  obtain ⟨z, h1, h2, h3, -⟩ := bestV_facts hN h0
  rw [h2, pathV_of hv]
  obtain ⟨tz, a1, a2, rfl⟩ := mem_orders.1 h1
  have hlow := dpV_cost (c := fun _ _ => 0) (e := pwE rs) hN tz 0 0 (Nat.two_pow_pos _) a2 (Nat.le_of_eq (dpV_zero _ _ _))
  rw [fresh_all hN a2 a1] at hlow
  obtain ⟨t, b1, b2, b3⟩ := dpV_order (c := fun _ _ => 0) (e := pwE rs) (N := rs.length) hN (fun _ _ => Nat.zero_le _) (fun S => Nat.min_le_right _ _) _ _ (Nat.le_refl _) (all_lt rs.length)
  have hl := fresh_full hN b1 b2
  have hup := h3 _ (mem_orders.2 ⟨t, hl, b1, rfl⟩)
  rw [cut_order hv b1 hl, b3] at hup
  show cutV rs.length rs (tz.map Int.ofNat) = _
  rw [cut_order hv a2 a1] at hup ⊢
  omega

end Go.Proofs.YtjikmjhpmkakoaaGreatDoor

namespace Go.Proofs.YtjikmjhpmkakoaaGreatDoor
open Go.RowKit

theorem order_cnt {n : Int} {rs l : List Int} (h : vertsB n rs l = true) (h7 : rs.length ≤ 7) : ∀ k, k ≤ l.length → cnt (setTo l k) = k
  | 0, _ => by show cnt 0 = 0; decide
  | k + 1, hk => by
    obtain ⟨v, -, hv, e1, e2⟩ := vert_new h (k := k) (by omega)
    have hlt := setTo_lt h k (by omega)
    have h128 : setTo l k < 128 := Nat.lt_of_lt_of_le hlt (Nat.pow_le_pow_right (n := 2) (by decide) h7)
    have hb : (setTo l k).testBit v = false := by
      cases hb : (setTo l k).testBit v
      · rfl
      · have he : setTo l k ||| 2 ^ v = setTo l k := by
          apply Nat.eq_of_testBit_eq; intro i
          rw [Nat.testBit_or, Nat.testBit_two_pow]
          by_cases e : v = i
          · subst e; rw [hb]; simp
          · rw [decide_eq_false e, Bool.or_false]
        have := Nat.two_pow_pos v
        omega
    rw [e2, cnt_or_fin ⟨_, h128⟩ ⟨v, by omega⟩ hb, order_cnt h h7 k (by omega)]
theorem order_place {n : Int} {rs l : List Int} (h : orderB n rs l = true) {v : Nat} (hv : v < rs.length) : ∃ k, k < l.length ∧ gi l k = v := by
  obtain ⟨hvb, -, g, hlen⟩ := orderB_true h
  have hlt := setTo_lt hvb l.length (Nat.le_refl _)
  have h128 : setTo l l.length < 128 := Nat.lt_of_lt_of_le hlt (Nat.pow_le_pow_right (n := 2) (by decide) g.le)
  have hc := order_cnt hvb g.le l.length (Nat.le_refl _)
  have hS := cnt_all_fin ⟨rs.length, by have := g.le; omega⟩ ⟨_, h128⟩ hlt (hc.trans hlen)
  have hb : (setTo l l.length).testBit v = true := by
    have hS' : setTo l l.length = 2 ^ rs.length - 1 := hS
    rw [hS', Nat.testBit_two_pow_sub_one]
    exact decide_eq_true hv
  have hs := hvb
  unfold vertsB at hs
  simp only [Bool.and_eq_true] at hs
  obtain ⟨-, hs, -⟩ := hs
  have hd : ∀ j, j < l.length → diffAt l j = true := by unfold setOk at hs; simpa using hs
  obtain ⟨j, hj, e⟩ := ((setTo_bits hd).2 v).1 hb
  obtain ⟨u, hu, -⟩ := vert_at hvb hj
  exact ⟨j, hj, by rw [hu] at e ⊢; simp at e; rw [e]⟩
theorem order_inj {n : Int} {rs l : List Int} (h : vertsB n rs l = true) {i j : Nat} (hi : i < l.length) (hj : j < l.length) (e : gi l i = gi l j) : i = j := by
  rcases Nat.lt_trichotomy i j with h1 | h1 | h1
  · exact absurd e (((vertsB_true.1 h).2 j hj).2 i h1)
  · exact h1
  · exact absurd e.symm (((vertsB_true.1 h).2 i hi).2 j h1)
/-- The place of v in an order. -/
theorem idx_at {n : Int} {rs l : List Int} (h : vertsB n rs l = true) {i : Nat} (hi : i < l.length) : idxV (idxN l (gi l i)) = i := by
  refine (idxV_hit hi (fun j hj => ?_) (by simp)).symm
  rw [beq_eq_false_iff_ne]
  intro e
  exact absurd (order_inj h (by omega) hi e.symm) (by omega)

/-! ### The edges -/
theorem mem_edgesIn {rs : List Int} {i : Nat} {e : Nat × Nat} : ∀ {c}, e ∈ edgesIn rs i c ↔ e.1 = i ∧ i < e.2 ∧ e.2 < i + 1 + c ∧ (gn rs i).testBit e.2 = true
  | 0 => by simp [edgesIn]; omega
  | c + 1 => by
    unfold edgesIn
    rw [List.mem_append, mem_edgesIn]
    constructor
    · rintro (⟨h1, h2, h3, h4⟩ | h)
      · exact ⟨h1, h2, by omega, h4⟩
      · split at h
        · rename_i hb
          simp only [List.mem_singleton] at h
          subst h
          exact ⟨rfl, by show i < i + 1 + c; omega, by show i + 1 + c < _; omega, hb⟩
        · simp at h
    · rintro ⟨h1, h2, h3, h4⟩
      by_cases e2 : e.2 = i + 1 + c
      · right
        rw [e2] at h4
        rw [if_pos h4, List.mem_singleton]
        exact Prod.ext h1 e2
      · exact .inl ⟨h1, h2, by omega, h4⟩
theorem mem_edgesTo {rs : List Int} {e : Nat × Nat} : ∀ {n}, e ∈ edgesTo rs n ↔ e.1 < n ∧ e.1 < e.2 ∧ e.2 < max rs.length (e.1 + 1) ∧ (gn rs e.1).testBit e.2 = true
  | 0 => by simp [edgesTo]
  | n + 1 => by
    unfold edgesTo
    rw [List.mem_append, mem_edgesTo, mem_edgesIn]
    constructor
    · rintro (⟨h1, h2, h3, h4⟩ | ⟨h1, h2, h3, h4⟩)
      · exact ⟨by omega, h2, h3, h4⟩
      · subst h1
        exact ⟨by omega, h2, by omega, h4⟩
    · rintro ⟨h1, h2, h3, h4⟩
      by_cases e1 : e.1 = n
      · subst e1
        exact .inr ⟨rfl, h2, by omega, h4⟩
      · exact .inl ⟨by omega, h2, h3, h4⟩

/-- The distance of an edge's ends in the list. -/
def gapE (l : List Int) (e : Nat × Nat) : Int := max (idxV (idxN l (e.1 : Int)) - idxV (idxN l (e.2 : Int))) (idxV (idxN l (e.2 : Int)) - idxV (idxN l (e.1 : Int)))
def bandE (l : List Int) (es : List (Nat × Nat)) : Int := es.foldl (fun b e => max b (gapE l e)) 0
theorem foldl_le {l : List Int} {M : Int} : ∀ (es : List (Nat × Nat)) (b : Int), es.foldl (fun b e => max b (gapE l e)) b ≤ M ↔ b ≤ M ∧ ∀ e, e ∈ es → gapE l e ≤ M
  | [], b => by simp
  | e :: es, b => by
    show es.foldl (fun b e => max b (gapE l e)) (max b (gapE l e)) ≤ M ↔ _
    rw [foldl_le es]
    constructor
    · rintro ⟨h1, h2⟩
      refine ⟨by omega, fun x hx => ?_⟩
      rcases List.mem_cons.1 hx with rfl | hx
      · omega
      · exact h2 x hx
    · rintro ⟨h1, h2⟩
      exact ⟨by have := h2 e (by simp); omega, fun x hx => h2 x (by simp [hx])⟩
theorem bandE_le {l : List Int} {M : Int} {es : List (Nat × Nat)} : bandE l es ≤ M ↔ 0 ≤ M ∧ ∀ e, e ∈ es → gapE l e ≤ M := foldl_le es 0
theorem bandE_snoc (l : List Int) (es : List (Nat × Nat)) (e : Nat × Nat) : bandE l (es ++ [e]) = max (bandE l es) (gapE l e) := by unfold bandE; rw [List.foldl_append]; rfl

theorem band_edges {n : Int} {rs l : List Int} (h : orderB n rs l = true) : bandE l (edgesTo rs rs.length) = bandTo rs l l.length := by
  obtain ⟨hvb, -, g, hlen⟩ := orderB_true h
  have key : ∀ M : Nat, bandE l (edgesTo rs rs.length) ≤ M ↔ bandTo rs l l.length ≤ M := by
    intro M
    rw [bandE_le, bandTo_le]
    constructor
    · rintro ⟨-, H⟩ i hi j hj hn
      obtain ⟨u, hu, hul⟩ := vert_at hvb hi
      obtain ⟨v, hv, hvl⟩ := vert_at hvb (j := j) (by omega)
      have pu := idx_at hvb hi
      have pv := idx_at hvb (i := j) (by omega)
      have hb : (gn rs u).testBit v = true := by
        unfold nearB at hn
        rw [hu, hv] at hn
        simpa using hn
      rw [hu] at pu
      rw [hv] at pv
      rcases Nat.lt_trichotomy u v with h1 | h1 | h1
      · have := H (u, v) (mem_edgesTo.2 ⟨hul, h1, by show v < _; omega, hb⟩)
        unfold gapE at this
        simp only [pu, pv] at this
        omega
      · subst h1
        exact absurd (order_inj hvb hi (by omega) (hu.trans hv.symm)) (by omega)
      · have := H (v, u) (mem_edgesTo.2 ⟨hvl, h1, by show u < _; omega, by show (gn rs v).testBit u = true; rw [g.sym v hvl u hul]; exact hb⟩)
        unfold gapE at this
        simp only [pu, pv] at this
        omega
    · intro H
      refine ⟨by omega, fun e he => ?_⟩
      obtain ⟨h1, h2, h3, h4⟩ := mem_edgesTo.1 he
      have hb : e.2 < rs.length := by omega
      obtain ⟨i, hi, ei⟩ := order_place h h1
      obtain ⟨j, hj, ej⟩ := order_place h hb
      have pi := idx_at hvb hi
      have pj := idx_at hvb hj
      rw [ei] at pi
      rw [ej] at pj
      unfold gapE
      rw [pi, pj]
      rcases Nat.lt_trichotomy i j with q | q | q
      · have := H j hj i q (by unfold nearB; rw [ei, ej]; simp only [Int.toNat_natCast]; rw [g.sym e.2 hb e.1 h1]; exact h4)
        omega
      · subst q; omega
      · have := H i hi j q (by unfold nearB; rw [ei, ej]; simp only [Int.toNat_natCast]; exact h4)
        omega
  have h0 : 0 ≤ bandE l (edgesTo rs rs.length) := by
    have := (bandE_le (l := l) (es := edgesTo rs rs.length)).1 (Int.le_refl _)
    exact this.1
  have h1 := (key (bandE l (edgesTo rs rs.length)).toNat).1 (by omega)
  have h2 := (key (bandTo rs l l.length)).2 (Nat.le_refl _)
  omega

end Go.Proofs.YtjikmjhpmkakoaaGreatDoor

namespace Go.Proofs.YtjikmjhpmkakoaaGreatDoor
open Go.RowKit

/-- What stands from place i on. -/
def behindN (rs l : List Int) (i : Nat) : Nat := nDiff (2 ^ rs.length - 1) (setTo l i)
def laterN (rs l : List Int) (i : Nat) : Nat := gn rs (gi l i).toNat &&& behindN rs l i
theorem behind_lt (rs l : List Int) (i : Nat) : behindN rs l i < 2 ^ rs.length := nDiff_lt (by have := Nat.two_pow_pos rs.length; omega)
theorem later_lt (rs l : List Int) (i : Nat) : laterN rs l i < 2 ^ rs.length := Nat.lt_of_le_of_lt Nat.and_le_right (behind_lt rs l i)
theorem setTo_sub {n : Int} {rs l : List Int} (h : vertsB n rs l = true) {k : Nat} (hk : k ≤ l.length) : subN (setTo l k) (2 ^ rs.length - 1) := fun i hi => by
  rw [Nat.testBit_two_pow_sub_one]
  exact decide_eq_true (testBit_lt (setTo_lt h k hk) hi)
theorem behind_minus {n : Int} {rs l : List Int} (h : vertsB n rs l = true) (h7 : rs.length ≤ 7) {k : Nat} (hk : k ≤ l.length) : behindN rs l k = 2 ^ rs.length - 1 - setTo l k :=
  nDiff_minus (by have := Nat.pow_le_pow_right (n := 2) (by decide) h7; have := Nat.two_pow_pos rs.length; omega) (setTo_sub h hk)
theorem setTo_bit {n : Int} {rs l : List Int} (h : vertsB n rs l = true) {k v : Nat} (hk : k ≤ l.length) : (setTo l k).testBit v = true ↔ ∃ j, j < k ∧ gi l j = (v : Int) := by
  have hs := h
  unfold vertsB at hs
  simp only [Bool.and_eq_true] at hs
  have hd : ∀ j, j < l.length → diffAt l j = true := by have := hs.2.1; unfold setOk at this; simpa using this
  rw [(setTo_bits (k := k) (fun j hj => hd j (by omega))).2 v]
  constructor
  · rintro ⟨j, hj, e⟩
    obtain ⟨u, hu, -⟩ := vert_at h (j := j) (by omega)
    exact ⟨j, hj, by rw [hu] at e ⊢; simp at e; rw [e]⟩
  · rintro ⟨j, hj, e⟩
    exact ⟨j, hj, by rw [e]; simp⟩


theorem IntsAt.drop {w : World} {b off : Nat} {xs : List Int} (h : IntsAt w (some ⟨b, off, none⟩) xs) (i : Nat) : IntsAt w (some ⟨b, off + i, none⟩) (xs.drop i) := fun h0 => by
  rw [List.length_drop] at h0
  obtain ⟨b2, off2, e, h1, h2⟩ := h (by omega)
  simp only [Option.some.injEq, Addr.mk.injEq] at e
  obtain ⟨rfl, rfl, -⟩ := e
  refine ⟨b, off + i, rfl, h1, fun k hk => ?_⟩
  rw [List.length_drop] at hk
  have := h2 (i + k) (by omega)
  rw [Nat.add_assoc, this]
  simp [gi, show k < xs.length - i by omega, show i + k < xs.length by omega]


theorem gi_drop {l : List Int} {i j : Nat} (h : i + j < l.length) : gi (l.drop i) j = gi l (i + j) := by
  simp [gi, h, show j < l.length - i by omega]
theorem behind_bit {n : Int} {rs l : List Int} (h : vertsB n rs l = true) {i v : Nat} (hi : i ≤ l.length) : (behindN rs l i).testBit v = true ↔ v < rs.length ∧ ¬∃ j, j < i ∧ gi l j = (v : Int) := by
  unfold behindN
  rw [nDiff_bit, Nat.testBit_two_pow_sub_one, decide_eq_true_eq, ← setTo_bit h hi, Bool.eq_false_iff]
theorem drop_set {rs l : List Int} (h : orderB rs.length rs l = true) {i : Nat} (hi : i < l.length) : setOk (l.drop i) = true ∧ setV (l.drop i) = (behindN rs l i : Int) := by
  obtain ⟨hv, -, g, hlen⟩ := orderB_true h
  have hvd : vertsB rs.length rs (l.drop i) = true := by
    obtain ⟨h1, h2⟩ := vertsB_true.1 hv
    refine vertsB_true.2 ⟨h1, fun j hj => ?_⟩
    rw [List.length_drop] at hj
    rw [gi_drop (by omega)]
    refine ⟨(h2 (i + j) (by omega)).1, fun k hk => ?_⟩
    rw [gi_drop (by omega)]
    exact (h2 (i + j) (by omega)).2 (i + k) (by omega)
  have hs : setOk (l.drop i) = true := by
    unfold vertsB at hvd
    simp only [Bool.and_eq_true] at hvd
    exact hvd.2.1
  refine ⟨hs, ?_⟩
  rw [setV_all hs]
  congr 1
  apply Nat.eq_of_testBit_eq
  intro v
  rw [Bool.eq_iff_iff, setTo_bit hvd (Nat.le_refl _), behind_bit hv (by omega), List.length_drop]
  constructor
  · rintro ⟨j, hj, e⟩
    rw [gi_drop (by omega)] at e
    obtain ⟨u, hu, hul⟩ := vert_at hv (j := i + j) (by omega)
    refine ⟨by omega, ?_⟩
    rintro ⟨k, hk, e2⟩
    have := order_inj hv (i := k) (j := i + j) (by omega) (by omega) (by rw [e, e2])
    omega
  · rintro ⟨hvl, hno⟩
    obtain ⟨k, hk, e⟩ := order_place h hvl
    have : i ≤ k := by
      rcases Nat.lt_or_ge k i with hki | hki
      · exact absurd ⟨k, hki, e⟩ hno
      · exact hki
    exact ⟨k - i, by omega, by rw [gi_drop (by omega), show i + (k - i) = k by omega]; exact e⟩


end Go.Proofs.YtjikmjhpmkakoaaGreatDoor
