/-
  Plain laws of the fill: what elimination in an order joins, edge by edge, row by row, and out of the list of new edges. No conditions.
-/
import Derived.Test.YtjikmjhpmkakoaaGreatDoorPkCardHereditary19
namespace Go.Proofs.YtjikmjhpmkakoaaGreatDoor
open Go.RowKit

/-- The graph with all of L joined to one another. -/
def joinL (rs : List Int) (L : Nat) : List Int := rowsOf rs.length fun i j => eb rs i j || (decide (i ≠ j) && (L.testBit i && L.testBit j))
theorem joinL_len (rs : List Int) (L : Nat) : (joinL rs L).length = rs.length := rowsOf_len _ _
theorem joinL_VG {rs : List Int} (g : VG rs) (L : Nat) : VG (joinL rs L) :=
  rowsOf_VG g.pos g.le (fun i hi => by rw [eb_irr g hi]; simp) (fun i hi j hj => by
    rw [eb_sym g hi hj, Bool.and_comm (L.testBit i)]
    congr 2
    rw [Bool.eq_iff_iff]; simp; omega)
def fillTo (rs l : List Int) : Nat → List Int
  | 0 => rs
  | i + 1 => joinL (fillTo rs l i) (laterN (fillTo rs l i) l i)
theorem fillTo_len (rs l : List Int) : ∀ i, (fillTo rs l i).length = rs.length
  | 0 => rfl
  | i + 1 => (joinL_len _ _).trans (fillTo_len rs l i)
theorem fillTo_VG {rs : List Int} (g : VG rs) (l : List Int) : ∀ i, VG (fillTo rs l i)
  | 0 => g
  | i + 1 => joinL_VG (fillTo_VG g l i) _
theorem order_same {rs rs' l : List Int} (g : VG rs') (hn : rs'.length = rs.length) (h : orderB rs.length rs l = true) : orderB rs'.length rs' l = true := by
  obtain ⟨hv, -, -, hl⟩ := orderB_true h
  have h2 := (vertsB_true.1 hv).2
  unfold orderB
  rw [vertsB_true.2 ⟨g.graph, by rw [hn]; exact h2⟩, hn, hl]
  simp

/-! ### Pair by pair -/
def pA (rs : List Int) (E : Nat → Nat) (a : Nat) : Nat → List Int
  | 0 => rs
  | b + 1 => addE (pA rs E a b) (E a) (E b)
def pR (rs : List Int) (E : Nat → Nat) : Nat → List Int
  | 0 => rs
  | a + 1 => pA (pR rs E a) E a a
theorem pA_len (rs : List Int) (E : Nat → Nat) (a : Nat) : ∀ b, (pA rs E a b).length = rs.length
  | 0 => rfl
  | b + 1 => (addE_len _ _ _).trans (pA_len rs E a b)
theorem pR_len (rs : List Int) (E : Nat → Nat) : ∀ a, (pR rs E a).length = rs.length
  | 0 => rfl
  | a + 1 => (pA_len _ _ _ _).trans (pR_len rs E a)
theorem pA_VG {rs : List Int} (g : VG rs) {E : Nat → Nat} {a c : Nat} (inj : ∀ x, x < c → ∀ y, y < c → E x = E y → x = y) (ha : a < c) : ∀ b, b ≤ a → VG (pA rs E a b)
  | 0, _ => g
  | b + 1, hb => addE_VG (pA_VG g inj ha b (by omega)) fun e => by have := inj a ha b (by omega) e; omega
theorem pR_VG {rs : List Int} (g : VG rs) {E : Nat → Nat} {c : Nat} (inj : ∀ x, x < c → ∀ y, y < c → E x = E y → x = y) : ∀ a, a ≤ c → VG (pR rs E a)
  | 0, _ => g
  | a + 1, ha => pA_VG (pR_VG g inj a (by omega)) inj (by omega) a (Nat.le_refl _)
theorem pA_eb {rs : List Int} {E : Nat → Nat} {a i j : Nat} (hi : i < rs.length) (hj : j < rs.length) : ∀ b, eb (pA rs E a b) i j = true ↔ eb rs i j = true ∨ ∃ y, y < b ∧ isE (E a) (E y) i j = true
  | 0 => ⟨fun h => .inl h, fun h => h.elim id fun ⟨y, hy, _⟩ => absurd hy (Nat.not_lt_zero _)⟩
  | b + 1 => by
    have hl := pA_len rs E a b
    show eb (addE _ _ _) i j = true ↔ _
    rw [addE_eb (by omega) (by omega), Bool.or_eq_true, pA_eb hi hj b]
    constructor
    · rintro ((h | ⟨y, hy, h⟩) | h)
      · exact .inl h
      · exact .inr ⟨y, by omega, h⟩
      · exact .inr ⟨b, by omega, h⟩
    · rintro (h | ⟨y, hy, h⟩)
      · exact .inl (.inl h)
      · rcases Nat.lt_succ_iff_lt_or_eq.1 hy with hy | rfl
        · exact .inl (.inr ⟨y, hy, h⟩)
        · exact .inr h
theorem pR_eb {rs : List Int} {E : Nat → Nat} {i j : Nat} (hi : i < rs.length) (hj : j < rs.length) : ∀ a, eb (pR rs E a) i j = true ↔ eb rs i j = true ∨ ∃ x, x < a ∧ ∃ y, y < x ∧ isE (E x) (E y) i j = true
  | 0 => ⟨fun h => .inl h, fun h => h.elim id fun ⟨y, hy, _⟩ => absurd hy (Nat.not_lt_zero _)⟩
  | a + 1 => by
    have hl := pR_len rs E a
    show eb (pA _ _ _ _) i j = true ↔ _
    rw [pA_eb (by omega) (by omega), pR_eb hi hj a]
    constructor
    · rintro ((h | ⟨x, hx, h⟩) | h)
      · exact .inl h
      · exact .inr ⟨x, by omega, h⟩
      · exact .inr ⟨a, by omega, h⟩
    · rintro (h | ⟨x, hx, h⟩)
      · exact .inl (.inl h)
      · rcases Nat.lt_succ_iff_lt_or_eq.1 hx with hx | rfl
        · exact .inl (.inr ⟨x, hx, h⟩)
        · exact .inr h
/-- The members of a set, place by place. -/
theorem els_nodup (S : Nat) : (els S).Nodup := List.Pairwise.filter _ List.nodup_range
theorem eln_get {l : List Nat} {k : Nat} (h : k < l.length) : eln l k = l[k] := by simp [eln, h]
theorem els_inj {S x y : Nat} (hx : x < cnt S) (hy : y < cnt S) (e : eln (els S) x = eln (els S) y) : x = y := by
  unfold eln at e
  have hx' : x < (els S).length := hx
  have hy' : y < (els S).length := hy
  simp only [List.getD_eq_getElem?_getD, List.getElem?_eq_getElem hx', List.getElem?_eq_getElem hy', Option.getD_some] at e
  exact (List.getElem_inj (els_nodup S)).1 e
theorem els_has {S N v : Nat} (h : S < 2 ^ N) (hN : N ≤ 7) : S.testBit v = true ↔ ∃ k, k < cnt S ∧ eln (els S) k = v := by
  rw [← mem_els h hN, List.mem_iff_getElem]
  constructor
  · rintro ⟨k, hk, e⟩
    exact ⟨k, hk, by rw [eln_get hk]; exact e⟩
  · rintro ⟨k, hk, e⟩
    exact ⟨k, hk, by rw [← e, eln_get (l := els S) hk]⟩
theorem pR_join {rs : List Int} (g : VG rs) {L : Nat} (hL : L < 2 ^ rs.length) : pR rs (eln (els L)) (cnt L) = joinL rs L := by
  have gR := pR_VG g (E := eln (els L)) (c := cnt L) (fun x hx y hy e => els_inj hx hy e) (cnt L) (Nat.le_refl _)
  have hl := pR_len rs (eln (els L)) (cnt L)
  rw [rows_of gR (p := fun i j => eb rs i j || (decide (i ≠ j) && (L.testBit i && L.testBit j))), hl]
  · rfl
  · intro i hi j hj
    rw [hl] at hi hj
    rw [Bool.eq_iff_iff, pR_eb hi hj, Bool.or_eq_true]
    simp only [Bool.and_eq_true, decide_eq_true_eq, els_has hL g.le]
    apply or_congr_right
    constructor
    · rintro ⟨x, hx, y, hy, h⟩
      rcases isE_true.1 h with ⟨rfl, rfl⟩ | ⟨rfl, rfl⟩
      · exact ⟨fun e => by have := els_inj hx (by omega) e; omega, ⟨x, hx, rfl⟩, ⟨y, by omega, rfl⟩⟩
      · exact ⟨fun e => by have := els_inj (by omega) hx e; omega, ⟨y, by omega, rfl⟩, ⟨x, hx, rfl⟩⟩
    · rintro ⟨hne, ⟨x, hx, rfl⟩, ⟨y, hy, rfl⟩⟩
      rcases Nat.lt_trichotomy x y with h | h | h
      · exact ⟨y, hy, x, h, isE_true.2 (.inr ⟨rfl, rfl⟩)⟩
      · exact absurd (by rw [h]) hne
      · exact ⟨x, hx, y, h, isE_true.2 (.inl ⟨rfl, rfl⟩)⟩

/-! ### Row by row -/
def orL (rs : List Int) (L t : Nat) : List Int := (List.range rs.length).map fun i => ((if i ∈ (els L).take t then gn rs i ||| nDiff L (2 ^ i) else gn rs i : Nat) : Int)
theorem orL_len (rs : List Int) (L t : Nat) : (orL rs L t).length = rs.length := by simp [orL]
theorem orL_at {rs : List Int} {L t i : Nat} (h : i < rs.length) : gi (orL rs L t) i = ((if i ∈ (els L).take t then gn rs i ||| nDiff L (2 ^ i) else gn rs i : Nat) : Int) := by simp [orL, gi, h]
theorem orL_zero {rs : List Int} (g : VG rs) (L : Nat) : orL rs L 0 = rs := by
  refine gi_ext (orL_len _ _ _) fun i hi => ?_
  rw [orL_len] at hi
  rw [orL_at hi, g.row i hi]; simp
theorem not_in_take {S t : Nat} (h : t < cnt S) : eln (els S) t ∉ (els S).take t := fun hm => by
  obtain ⟨k, hk, e⟩ := List.mem_iff_getElem.1 hm
  rw [List.length_take] at hk
  rw [List.getElem_take] at e
  have := els_inj (S := S) (x := k) (y := t) (by unfold cnt at h ⊢; omega) h (by
    unfold eln
    have hk' : k < (els S).length := by omega
    simp only [List.getD_eq_getElem?_getD, List.getElem?_eq_getElem hk', Option.getD_some]
    exact e)
  omega
theorem orL_now {rs : List Int} {L t : Nat} (hL : L < 2 ^ rs.length) (h7 : rs.length ≤ 7) (h : t < cnt L) : gi (orL rs L t) (eln (els L) t) = (gn rs (eln (els L) t) : Int) := by
  rw [orL_at (els_at hL h7 h).1, if_neg (not_in_take h)]
theorem orL_succ {rs : List Int} {L t : Nat} (hL : L < 2 ^ rs.length) (h7 : rs.length ≤ 7) (h : t < cnt L) : (orL rs L t).set (eln (els L) t) ((gn rs (eln (els L) t) ||| nDiff L (2 ^ eln (els L) t) : Nat) : Int) = orL rs L (t + 1) := by
  have hv := (els_at hL h7 h).1
  refine gi_ext (by simp [orL_len]) fun i hi => ?_
  simp only [List.length_set, orL_len] at hi
  rw [orL_at hi, take_eln h]
  by_cases e : eln (els L) t = i
  · subst e
    rw [if_pos (by simp)]
    simp [gi, orL_len, hv]
  · have e2 : i ≠ eln (els L) t := fun x => e x.symm
    have : gi ((orL rs L t).set (eln (els L) t) ((gn rs (eln (els L) t) ||| nDiff L (2 ^ eln (els L) t) : Nat) : Int)) i = gi (orL rs L t) i := by simp [gi, e]
    rw [this, orL_at hi]
    congr 2
    simp [e2]
theorem orL_end {rs : List Int} (g : VG rs) {L : Nat} (hL : L < 2 ^ rs.length) : orL rs L (cnt L) = joinL rs L := by
  refine gi_ext (by rw [orL_len, joinL_len]) fun i hi => ?_
  rw [orL_len] at hi
  unfold joinL
  rw [orL_at hi, rowsOf_at hi]
  congr 1
  have e : (els L).take (cnt L) = els L := List.take_length
  rw [e]
  apply Nat.eq_of_testBit_eq
  intro j
  rw [accB_bit]
  by_cases hj : j < rs.length
  · rw [decide_eq_true hj, Bool.true_and]
    by_cases hm : i ∈ els L
    · rw [if_pos hm, Nat.testBit_or, testBit_nDiff, Nat.testBit_two_pow, (mem_els hL g.le).1 hm]
      show (eb rs i j || _) = _
      congr 1
      rw [Bool.true_and, Bool.eq_iff_iff]; simp [and_comm]
    · rw [if_neg hm]
      have : L.testBit i = false := by rw [Bool.eq_false_iff]; exact fun h => hm ((mem_els hL g.le).2 h)
      rw [this]; simp; rfl
  · rw [decide_eq_false hj, Bool.false_and]
    have h1 := testBit_ge (g.lt i hi) (v := j) (by omega)
    have h2 := testBit_ge hL (v := j) (by omega)
    split
    · rw [Nat.testBit_or, testBit_nDiff, h1, h2]; rfl
    · exact h1

/-! ### Out of the list of edges -/
def addEs (rs : List Int) (es : List (Nat × Nat)) : List Int := es.foldl (fun r e => addE r e.1 e.2) rs
theorem addEs_snoc (rs : List Int) (es : List (Nat × Nat)) (e : Nat × Nat) : addEs rs (es ++ [e]) = addE (addEs rs es) e.1 e.2 := by unfold addEs; rw [List.foldl_append]; rfl
theorem addEs_len : ∀ (es : List (Nat × Nat)) (rs : List Int), (addEs rs es).length = rs.length
  | [], _ => rfl
  | _ :: es, _ => (addEs_len es _).trans (addE_len _ _ _)
theorem addEs_VG : ∀ (es : List (Nat × Nat)) (rs : List Int), VG rs → (∀ e, e ∈ es → e.1 ≠ e.2) → VG (addEs rs es)
  | [], _, g, _ => g
  | e :: es, rs, g, h => addEs_VG es _ (addE_VG g (h e (by simp))) fun e he => h e (by simp [he])
theorem addEs_eb {i j : Nat} : ∀ (es : List (Nat × Nat)) (rs : List Int), i < rs.length → j < rs.length → (eb (addEs rs es) i j = true ↔ eb rs i j = true ∨ ∃ e, e ∈ es ∧ isE e.1 e.2 i j = true)
  | [], rs, _, _ => by simp [addEs]
  | e :: es, rs, hi, hj => by
    show eb (addEs (addE rs e.1 e.2) es) i j = true ↔ _
    rw [addEs_eb es _ (by rw [addE_len]; exact hi) (by rw [addE_len]; exact hj), addE_eb hi hj, Bool.or_eq_true]
    constructor
    · rintro ((h | h) | ⟨x, hx, h⟩)
      · exact .inl h
      · exact .inr ⟨e, by simp, h⟩
      · exact .inr ⟨x, by simp [hx], h⟩
    · rintro (h | ⟨x, hx, h⟩)
      · exact .inl (.inl h)
      · rcases List.mem_cons.1 hx with rfl | hx
        · exact .inl (.inr h)
        · exact .inr ⟨x, hx, h⟩
theorem edgesIn_nodup (rs : List Int) (i : Nat) : ∀ c, (edgesIn rs i c).Nodup
  | 0 => by simp [edgesIn]
  | c + 1 => by
    unfold edgesIn
    rw [List.nodup_append]
    refine ⟨edgesIn_nodup rs i c, by split <;> simp, fun a ha b hb e => ?_⟩
    subst e
    have h1 := mem_edgesIn.1 ha
    split at hb
    · simp at hb; subst hb; simp at h1
    · simp at hb
theorem edgesTo_nodup (rs : List Int) : ∀ n, (edgesTo rs n).Nodup
  | 0 => by simp [edgesTo]
  | n + 1 => by
    unfold edgesTo
    rw [List.nodup_append]
    refine ⟨edgesTo_nodup rs n, edgesIn_nodup rs n _, fun a ha b hb e => ?_⟩
    subst e
    have h1 := mem_edgesTo.1 ha
    have h2 := mem_edgesIn.1 hb
    omega
/-- The edges of a graph that another one lacks. -/
def newEs (rs hs : List Int) : List (Nat × Nat) := (edgesTo hs hs.length).filter fun e => !eb rs e.1 e.2
theorem mem_newEs {rs hs : List Int} {e : Nat × Nat} : e ∈ newEs rs hs ↔ e.1 < e.2 ∧ e.2 < hs.length ∧ eb hs e.1 e.2 = true ∧ eb rs e.1 e.2 = false := by
  unfold newEs
  rw [List.mem_filter, mem_edgesTo]
  simp only [Bool.not_eq_true']
  constructor
  · rintro ⟨⟨h1, h2, h3, h4⟩, h5⟩; exact ⟨h2, by omega, h4, h5⟩
  · rintro ⟨h2, h3, h4, h5⟩; exact ⟨⟨by omega, h2, by omega, h4⟩, h5⟩
theorem addEs_all {rs hs : List Int} (g : VG rs) (k : VG hs) (hn : hs.length = rs.length) (hsub : ∀ i, i < rs.length → ∀ j, j < rs.length → eb rs i j = true → eb hs i j = true) : addEs rs (newEs rs hs) = hs := by
  have gA := addEs_VG (newEs rs hs) rs g fun e he => by have := mem_newEs.1 he; omega
  have hl := addEs_len (newEs rs hs) rs
  rw [rows_of gA (p := eb hs), hl, ← hn, rows_eb k]
  intro i hi j hj
  rw [hl] at hi hj
  rw [Bool.eq_iff_iff, addEs_eb _ _ hi hj]
  constructor
  · rintro (h | ⟨e, he, h⟩)
    · exact hsub i hi j hj h
    · obtain ⟨h1, h2, h3, h4⟩ := mem_newEs.1 he
      rcases isE_true.1 h with ⟨rfl, rfl⟩ | ⟨rfl, rfl⟩
      · exact h3
      · rw [eb_sym k (by omega) (by omega)]; exact h3
  · intro h
    cases hr : eb rs i j
    · right
      rcases Nat.lt_trichotomy i j with q | q | q
      · exact ⟨(i, j), mem_newEs.2 ⟨q, by omega, h, hr⟩, isE_true.2 (.inl ⟨rfl, rfl⟩)⟩
      · subst q; rw [eb_irr k (by omega)] at h; cases h
      · exact ⟨(j, i), mem_newEs.2 ⟨q, by omega, by rw [eb_sym k (by omega) (by omega)]; exact h, by rw [eb_sym g hj hi]; exact hr⟩, isE_true.2 (.inr ⟨rfl, rfl⟩)⟩
    · exact .inl rfl
theorem newEs_at {rs hs : List Int} (hn : hs.length = rs.length) {k : Nat} {e : Nat × Nat} (he : (newEs rs hs)[k]? = some e) :
    e.1 < rs.length ∧ e.2 < rs.length ∧ e.1 ≠ e.2 ∧ eb (addEs rs ((newEs rs hs).take k)) e.1 e.2 = false := by
  obtain ⟨hk, hke⟩ := List.getElem?_eq_some_iff.1 he
  obtain ⟨h1, h2, h3, h4⟩ := mem_newEs.1 (hke ▸ List.getElem_mem hk)
  refine ⟨by omega, by omega, by omega, ?_⟩
  rw [Bool.eq_false_iff]
  intro h
  rcases (addEs_eb _ _ (by omega) (by omega)).1 h with h | ⟨x, hx, h⟩
  · rw [h4] at h; cases h
  · obtain ⟨t, ht, e2⟩ := List.mem_iff_getElem.1 hx
    rw [List.length_take] at ht
    rw [List.getElem_take] at e2
    have hmx := mem_newEs.1 (List.mem_of_mem_take hx)
    have hxe : x = e := by
      rcases isE_true.1 h with ⟨a, b⟩ | ⟨a, b⟩
      · exact Prod.ext a.symm b.symm
      · omega
    have hnd : (newEs rs hs).Nodup := List.Pairwise.filter _ (edgesTo_nodup _ _)
    have := (List.getElem_inj hnd (i := t) (j := k) (h₀ := by omega) (h₁ := hk)).1 (by rw [e2, hxe, hke])
    omega
theorem joinL_sub {rs : List Int} {L i j : Nat} (hi : i < rs.length) (hj : j < rs.length) (h : eb rs i j = true) : eb (joinL rs L) i j = true := by
  unfold joinL; rw [eb_rowsOf hi hj, h]; rfl
theorem fillTo_sub {rs l : List Int} {i j : Nat} (hi : i < rs.length) (hj : j < rs.length) (h : eb rs i j = true) : ∀ k, eb (fillTo rs l k) i j = true
  | 0 => h
  | k + 1 => joinL_sub (by rw [fillTo_len]; exact hi) (by rw [fillTo_len]; exact hj) (fillTo_sub hi hj h k)

/-! ### The width of an order -/
def widTo (hs l : List Int) : Nat → Nat
  | 0 => 0
  | k + 1 => if widTo hs l k < cnt (laterN hs l k) then cnt (laterN hs l k) else widTo hs l k
def widV (n : Int) (rs l : List Int) : Int := if orderB n rs l = true then widTo (fillTo rs l l.length) l l.length else -1
theorem widV_no {n : Int} {rs l : List Int} (h : orderB n rs l = false) : widV n rs l = -1 := by unfold widV; rw [if_neg (by rw [h]; decide)]
theorem widV_of {n : Int} {rs l : List Int} (h : orderB n rs l = true) : widV n rs l = widTo (fillTo rs l l.length) l l.length := by unfold widV; rw [if_pos h]
theorem widTo_le (hs l : List Int) : ∀ k, widTo hs l k ≤ 7
  | 0 => by simp [widTo]
  | k + 1 => by
    have h1 := widTo_le hs l k
    have h2 := cnt_le (laterN hs l k)
    unfold widTo; split <;> omega

end Go.Proofs.YtjikmjhpmkakoaaGreatDoor
