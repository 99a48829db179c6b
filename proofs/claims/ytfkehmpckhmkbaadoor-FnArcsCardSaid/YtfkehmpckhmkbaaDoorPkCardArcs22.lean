/-
  The band of an order out of the edge list: the plain law of BandOf of the program.
  LaterNeighbours of the reference and of the program, SetOf of the program. For at most 2^20 rows and list elements; the order is right and the vertex is in it.
-/
import Derived.Test.YtfkehmpckhmkbaaDoorPkCardArcs16
import Derived.Test.YtfkehmpckhmkbaaDoorPkCardArcs21
import Derived.Test.YtfkehmpckhmkbaaDoorPkCardArcs09
namespace Go.Proofs.YtfkehmpckhmkbaaDoor
open Go.RowKit

theorem order_cnt {n : Int} {rs l : List Int} (h : vertsB n rs l = true) (h7 : rs.length ≤ 7) : ∀ k, k ≤ l.length → cnt (setTo l k) = k
  | 0, _ => by show cnt 0 = 0; decide
  | k + 1, hk => by
    obtain ⟨v, -, hv, e1, e2⟩ := vert_new h (k := k) (by omega)
    have hlt := setTo_lt h k (by omega)
    have h128 : setTo l k < 128 := Nat.lt_of_lt_of_le hlt (Nat.pow_le_pow_right (n := 2) (by decide) h7)
    have hb : (setTo l k).testBit v = false := by
      cases hb : (setTo l k).testBit v
      · rfl
      · have he : setTo l k ||| 2 ^ v = setTo l k := by
          apply Nat.eq_of_testBit_eq; intro i
          rw [Nat.testBit_or, Nat.testBit_two_pow]
          by_cases e : v = i
          · subst e; rw [hb]; simp
          · rw [decide_eq_false e, Bool.or_false]
        have := Nat.two_pow_pos v
        omega
    rw [e2, cnt_or_fin ⟨_, h128⟩ ⟨v, by omega⟩ hb, order_cnt h h7 k (by omega)]
theorem order_place {n : Int} {rs l : List Int} (h : orderB n rs l = true) {v : Nat} (hv : v < rs.length) : ∃ k, k < l.length ∧ gi l k = v := by
  obtain ⟨hvb, -, g, hlen⟩ := orderB_true h
  have hlt := setTo_lt hvb l.length (Nat.le_refl _)
  have h128 : setTo l l.length < 128 := Nat.lt_of_lt_of_le hlt (Nat.pow_le_pow_right (n := 2) (by decide) g.le)
  have hc := order_cnt hvb g.le l.length (Nat.le_refl _)
  have hS := cnt_all_fin ⟨rs.length, by have := g.le; omega⟩ ⟨_, h128⟩ hlt (hc.trans hlen)
  have hb : (setTo l l.length).testBit v = true := by
    have hS' : setTo l l.length = 2 ^ rs.length - 1 := hS
    rw [hS', Nat.testBit_two_pow_sub_one]
    exact decide_eq_true hv
  have hs := hvb
  unfold vertsB at hs
  simp only [Bool.and_eq_true] at hs
  obtain ⟨-, hs, -⟩ := hs
  have hd : ∀ j, j < l.length → diffAt l j = true := by unfold setOk at hs; simpa using hs
  obtain ⟨j, hj, e⟩ := ((setTo_bits hd).2 v).1 hb
  obtain ⟨u, hu, -⟩ := vert_at hvb hj
  exact ⟨j, hj, by rw [hu] at e ⊢; simp at e; rw [e]⟩
theorem order_inj {n : Int} {rs l : List Int} (h : vertsB n rs l = true) {i j : Nat} (hi : i < l.length) (hj : j < l.length) (e : gi l i = gi l j) : i = j := by
  rcases Nat.lt_trichotomy i j with h1 | h1 | h1
  · exact absurd e (((vertsB_true.1 h).2 j hj).2 i h1)
  · exact h1
  · exact absurd e.symm (((vertsB_true.1 h).2 i hi).2 j h1)
/-- The place of v in an order. -/
theorem idx_at {n : Int} {rs l : List Int} (h : vertsB n rs l = true) {i : Nat} (hi : i < l.length) : idxV (idxN l (gi l i)) = i := by
  refine (idxV_hit hi (fun j hj => ?_) (by simp)).symm
  rw [beq_eq_false_iff_ne]
  intro e
  exact absurd (order_inj h (by omega) hi e.symm) (by omega)

/-! ### The edges -/
theorem mem_edgesIn {rs : List Int} {i : Nat} {e : Nat × Nat} : ∀ {c}, e ∈ edgesIn rs i c ↔ e.1 = i ∧ i < e.2 ∧ e.2 < i + 1 + c ∧ (gn rs i).testBit e.2 = true
  | 0 => by simp [edgesIn]; omega
  | c + 1 => by
    unfold edgesIn
    rw [List.mem_append, mem_edgesIn]
    constructor
    · rintro (⟨h1, h2, h3, h4⟩ | h)
      · exact ⟨h1, h2, by omega, h4⟩
      · split at h
        · rename_i hb
          simp only [List.mem_singleton] at h
          subst h
          exact ⟨rfl, by show i < i + 1 + c; omega, by show i + 1 + c < _; omega, hb⟩
        · simp at h
    · rintro ⟨h1, h2, h3, h4⟩
      by_cases e2 : e.2 = i + 1 + c
      · right
        rw [e2] at h4
        rw [if_pos h4, List.mem_singleton]
        exact Prod.ext h1 e2
      · exact .inl ⟨h1, h2, by omega, h4⟩
theorem mem_edgesTo {rs : List Int} {e : Nat × Nat} : ∀ {n}, e ∈ edgesTo rs n ↔ e.1 < n ∧ e.1 < e.2 ∧ e.2 < max rs.length (e.1 + 1) ∧ (gn rs e.1).testBit e.2 = true
  | 0 => by simp [edgesTo]
  | n + 1 => by
    unfold edgesTo
    rw [List.mem_append, mem_edgesTo, mem_edgesIn]
    constructor
    · rintro (⟨h1, h2, h3, h4⟩ | ⟨h1, h2, h3, h4⟩)
      · exact ⟨by omega, h2, h3, h4⟩
      · subst h1
        exact ⟨by omega, h2, by omega, h4⟩
    · rintro ⟨h1, h2, h3, h4⟩
      by_cases e1 : e.1 = n
      · subst e1
        exact .inr ⟨rfl, h2, by omega, h4⟩
      · exact .inl ⟨by omega, h2, h3, h4⟩

/-- The distance of an edge's ends in the list. -/
def gapE (l : List Int) (e : Nat × Nat) : Int := max (idxV (idxN l (e.1 : Int)) - idxV (idxN l (e.2 : Int))) (idxV (idxN l (e.2 : Int)) - idxV (idxN l (e.1 : Int)))
def bandE (l : List Int) (es : List (Nat × Nat)) : Int := es.foldl (fun b e => max b (gapE l e)) 0
theorem foldl_le {l : List Int} {M : Int} : ∀ (es : List (Nat × Nat)) (b : Int), es.foldl (fun b e => max b (gapE l e)) b ≤ M ↔ b ≤ M ∧ ∀ e, e ∈ es → gapE l e ≤ M
  | [], b => by simp
  | e :: es, b => by
    show es.foldl (fun b e => max b (gapE l e)) (max b (gapE l e)) ≤ M ↔ _
    rw [foldl_le es]
    constructor
    · rintro ⟨h1, h2⟩
      refine ⟨by omega, fun x hx => ?_⟩
      rcases List.mem_cons.1 hx with rfl | hx
      · omega
      · exact h2 x hx
    · rintro ⟨h1, h2⟩
      exact ⟨by have := h2 e (by simp); omega, fun x hx => h2 x (by simp [hx])⟩
theorem bandE_le {l : List Int} {M : Int} {es : List (Nat × Nat)} : bandE l es ≤ M ↔ 0 ≤ M ∧ ∀ e, e ∈ es → gapE l e ≤ M := foldl_le es 0
theorem bandE_snoc (l : List Int) (es : List (Nat × Nat)) (e : Nat × Nat) : bandE l (es ++ [e]) = max (bandE l es) (gapE l e) := by unfold bandE; rw [List.foldl_append]; rfl

theorem band_edges {n : Int} {rs l : List Int} (h : orderB n rs l = true) : bandE l (edgesTo rs rs.length) = bandTo rs l l.length := by
  obtain ⟨hvb, -, g, hlen⟩ := orderB_true h
  have key : ∀ M : Nat, bandE l (edgesTo rs rs.length) ≤ M ↔ bandTo rs l l.length ≤ M := by
    intro M
    rw [bandE_le, bandTo_le]
    constructor
    · rintro ⟨-, H⟩ i hi j hj hn
      obtain ⟨u, hu, hul⟩ := vert_at hvb hi
      obtain ⟨v, hv, hvl⟩ := vert_at hvb (j := j) (by omega)
      have pu := idx_at hvb hi
      have pv := idx_at hvb (i := j) (by omega)
      have hb : (gn rs u).testBit v = true := by
        unfold nearB at hn
        rw [hu, hv] at hn
        simpa using hn
      rw [hu] at pu
      rw [hv] at pv
      rcases Nat.lt_trichotomy u v with h1 | h1 | h1
      · have := H (u, v) (mem_edgesTo.2 ⟨hul, h1, by show v < _; omega, hb⟩)
        unfold gapE at this
        simp only [pu, pv] at this
        omega
      · subst h1
        exact absurd (order_inj hvb hi (by omega) (hu.trans hv.symm)) (by omega)
      · have := H (v, u) (mem_edgesTo.2 ⟨hvl, h1, by show u < _; omega, by show (gn rs v).testBit u = true; rw [g.sym v hvl u hul]; exact hb⟩)
        unfold gapE at this
        simp only [pu, pv] at this
        omega
    · intro H
      refine ⟨by omega, fun e he => ?_⟩
      obtain ⟨h1, h2, h3, h4⟩ := mem_edgesTo.1 he
      have hb : e.2 < rs.length := by omega
      obtain ⟨i, hi, ei⟩ := order_place h h1
      obtain ⟨j, hj, ej⟩ := order_place h hb
      have pi := idx_at hvb hi
      have pj := idx_at hvb hj
      rw [ei] at pi
      rw [ej] at pj
      unfold gapE
      rw [pi, pj]
      rcases Nat.lt_trichotomy i j with q | q | q
      · have := H j hj i q (by unfold nearB; rw [ei, ej]; simp only [Int.toNat_natCast]; rw [g.sym e.2 hb e.1 h1]; exact h4)
        omega
      · subst q; omega
      · have := H i hi j q (by unfold nearB; rw [ei, ej]; simp only [Int.toNat_natCast]; exact h4)
        omega
  have h0 : 0 ≤ bandE l (edgesTo rs rs.length) := by
    have := (bandE_le (l := l) (es := edgesTo rs rs.length)).1 (Int.le_refl _)
    exact this.1
  have h1 := (key (bandE l (edgesTo rs rs.length)).toNat).1 (by omega)
  have h2 := (key (bandTo rs l l.length)).2 (Nat.le_refl _)
  omega

end Go.Proofs.YtfkehmpckhmkbaaDoor

namespace Go.Proofs.YtfkehmpckhmkbaaDoor
open Go.RowKit

/-- What stands from place i on. -/
def behindN (rs l : List Int) (i : Nat) : Nat := nDiff (2 ^ rs.length - 1) (setTo l i)
def laterN (rs l : List Int) (i : Nat) : Nat := gn rs (gi l i).toNat &&& behindN rs l i
theorem behind_lt (rs l : List Int) (i : Nat) : behindN rs l i < 2 ^ rs.length := nDiff_lt (by have := Nat.two_pow_pos rs.length; omega)
theorem later_lt (rs l : List Int) (i : Nat) : laterN rs l i < 2 ^ rs.length := Nat.lt_of_le_of_lt Nat.and_le_right (behind_lt rs l i)
theorem setTo_sub {n : Int} {rs l : List Int} (h : vertsB n rs l = true) {k : Nat} (hk : k ≤ l.length) : subN (setTo l k) (2 ^ rs.length - 1) := fun i hi => by
  rw [Nat.testBit_two_pow_sub_one]
  exact decide_eq_true (testBit_lt (setTo_lt h k hk) hi)
theorem behind_minus {n : Int} {rs l : List Int} (h : vertsB n rs l = true) (h7 : rs.length ≤ 7) {k : Nat} (hk : k ≤ l.length) : behindN rs l k = 2 ^ rs.length - 1 - setTo l k :=
  nDiff_minus (by have := Nat.pow_le_pow_right (n := 2) (by decide) h7; have := Nat.two_pow_pos rs.length; omega) (setTo_sub h hk)
theorem setTo_bit {n : Int} {rs l : List Int} (h : vertsB n rs l = true) {k v : Nat} (hk : k ≤ l.length) : (setTo l k).testBit v = true ↔ ∃ j, j < k ∧ gi l j = (v : Int) := by
  have hs := h
  unfold vertsB at hs
  simp only [Bool.and_eq_true] at hs
  have hd : ∀ j, j < l.length → diffAt l j = true := by have := hs.2.1; unfold setOk at this; simpa using this
  rw [(setTo_bits (k := k) (fun j hj => hd j (by omega))).2 v]
  constructor
  · rintro ⟨j, hj, e⟩
    obtain ⟨u, hu, -⟩ := vert_at h (j := j) (by omega)
    exact ⟨j, hj, by rw [hu] at e ⊢; simp at e; rw [e]⟩
  · rintro ⟨j, hj, e⟩
    exact ⟨j, hj, by rw [e]; simp⟩


theorem IntsAt.drop {w : World} {b off : Nat} {xs : List Int} (h : IntsAt w (some ⟨b, off, none⟩) xs) (i : Nat) : IntsAt w (some ⟨b, off + i, none⟩) (xs.drop i) := fun h0 => by
  rw [List.length_drop] at h0
  obtain ⟨b2, off2, e, h1, h2⟩ := h (by omega)
  simp only [Option.some.injEq, Addr.mk.injEq] at e
  obtain ⟨rfl, rfl, -⟩ := e
  refine ⟨b, off + i, rfl, h1, fun k hk => ?_⟩
  rw [List.length_drop] at hk
  have := h2 (i + k) (by omega)
  rw [Nat.add_assoc, this]
  simp [gi, show k < xs.length - i by omega, show i + k < xs.length by omega]


theorem gi_drop {l : List Int} {i j : Nat} (h : i + j < l.length) : gi (l.drop i) j = gi l (i + j) := by
  simp [gi, h, show j < l.length - i by omega]
theorem behind_bit {n : Int} {rs l : List Int} (h : vertsB n rs l = true) {i v : Nat} (hi : i ≤ l.length) : (behindN rs l i).testBit v = true ↔ v < rs.length ∧ ¬∃ j, j < i ∧ gi l j = (v : Int) := by
  unfold behindN
  rw [nDiff_bit, Nat.testBit_two_pow_sub_one, decide_eq_true_eq, ← setTo_bit h hi, Bool.eq_false_iff]
theorem drop_set {rs l : List Int} (h : orderB rs.length rs l = true) {i : Nat} (hi : i < l.length) : setOk (l.drop i) = true ∧ setV (l.drop i) = (behindN rs l i : Int) := by
  obtain ⟨hv, -, g, hlen⟩ := orderB_true h
  have hvd : vertsB rs.length rs (l.drop i) = true := by
    obtain ⟨h1, h2⟩ := vertsB_true.1 hv
    refine vertsB_true.2 ⟨h1, fun j hj => ?_⟩
    rw [List.length_drop] at hj
    rw [gi_drop (by omega)]
    refine ⟨(h2 (i + j) (by omega)).1, fun k hk => ?_⟩
    rw [gi_drop (by omega)]
    exact (h2 (i + j) (by omega)).2 (i + k) (by omega)
  have hs : setOk (l.drop i) = true := by
    unfold vertsB at hvd
    simp only [Bool.and_eq_true] at hvd
    exact hvd.2.1
  refine ⟨hs, ?_⟩
  rw [setV_all hs]
  congr 1
  apply Nat.eq_of_testBit_eq
  intro v
  rw [Bool.eq_iff_iff, setTo_bit hvd (Nat.le_refl _), behind_bit hv (by omega), List.length_drop]
  constructor
  · rintro ⟨j, hj, e⟩
    rw [gi_drop (by omega)] at e
    obtain ⟨u, hu, hul⟩ := vert_at hv (j := i + j) (by omega)
    refine ⟨by omega, ?_⟩
    rintro ⟨k, hk, e2⟩
    have := order_inj hv (i := k) (j := i + j) (by omega) (by omega) (by rw [e, e2])
    omega
  · rintro ⟨hvl, hno⟩
    obtain ⟨k, hk, e⟩ := order_place h hvl
    have : i ≤ k := by
      rcases Nat.lt_or_ge k i with hki | hki
      · exact absurd ⟨k, hki, e⟩ hno
      · exact hki
    exact ⟨k - i, by omega, by rw [gi_drop (by omega), show i + (k - i) = k by omega]; exact e⟩


end Go.Proofs.YtfkehmpckhmkbaaDoor
