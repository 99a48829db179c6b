/-
  Plain laws of putting prunes back: the graph that comes of a list of prunes. No conditions.
-/
import Derived.Test.YtjikmjhpmkakoaaGreatDoorPkCardHereditary35
import Derived.Test.YtjikmjhpmkakoaaGreatDoorPkCardHereditary20
namespace Go.Proofs.YtjikmjhpmkakoaaGreatDoor
open Go.RowKit

/-- Of the prune i: its vertex, kind, anchor. -/
def pv (l : List Int) (i : Nat) : Int := gi l (i * 3)
def pk (l : List Int) (i : Nat) : Int := gi l (i * 3 + 1)
def pa (l : List Int) (i : Nat) : Int := gi l (i * 3 + 2)
/-- The vertices in their order. -/
def pvs (l : List Int) (K : Nat) : List Int := (List.range K).map (pv l)
theorem pvs_len (l : List Int) (K : Nat) : (pvs l K).length = K := by simp [pvs]
theorem pvs_at {l : List Int} {K j : Nat} (h : j < K) : gi (pvs l K) j = pv l j := by simp [pvs, gi, h]

/-- v joined to each of T, in rising order; the first t of them. -/
def joinV (rs : List Int) (v T t : Nat) : List Int := addEs rs (((els T).take t).map fun w => (v, w))
theorem joinV_len (rs : List Int) (v T t : Nat) : (joinV rs v T t).length = rs.length := addEs_len _ _
theorem joinV_zero (rs : List Int) (v T : Nat) : joinV rs v T 0 = rs := rfl
theorem joinV_succ {rs : List Int} {v T t : Nat} (h : t < cnt T) : joinV rs v T (t + 1) = addE (joinV rs v T t) v (eln (els T) t) := by
  have ht : t < (els T).length := h
  unfold joinV
  rw [List.take_succ_eq_append_getElem ht, List.map_append, List.map_cons, List.map_nil, addEs_snoc, eln_get ht]
theorem joinV_VG {rs : List Int} (g : VG rs) {v T t : Nat} (h7 : T < 128) (hv : T.testBit v = false) : VG (joinV rs v T t) :=
  addEs_VG _ _ g fun e he => by
    obtain ⟨w, hw, rfl⟩ := List.mem_map.1 he
    intro e2
    have : T.testBit w = true := (mem_els (N := 7) h7 (by omega)).1 (List.mem_of_mem_take hw)
    have e3 : v = w := e2
    rw [← e3, hv] at this; cases this
theorem joinV_eb {rs : List Int} {v T i j : Nat} (h7 : T < 128) (hi : i < rs.length) (hj : j < rs.length) : eb (joinV rs v T (cnt T)) i j = true ↔ eb rs i j = true ∨ ∃ w, T.testBit w = true ∧ isE v w i j = true := by
  unfold joinV
  rw [addEs_eb _ _ hi hj, show cnt T = (els T).length from rfl, List.take_length]
  constructor
  · rintro (h | ⟨e, he, h⟩)
    · exact .inl h
    · obtain ⟨w, hw, rfl⟩ := List.mem_map.1 he
      exact .inr ⟨w, (mem_els (N := 7) h7 (by omega)).1 hw, h⟩
  · rintro (h | ⟨w, hw, h⟩)
    · exact .inl h
    · exact .inr ⟨(v, w), List.mem_map.2 ⟨w, (mem_els (N := 7) h7 (by omega)).2 hw, rfl⟩, h⟩
theorem eb_ext {rs rs' : List Int} (g : VG rs) (g' : VG rs') (hn : rs.length = rs'.length) (h : ∀ i, i < rs.length → ∀ j, j < rs.length → (eb rs i j = true ↔ eb rs' i j = true)) : rs = rs' := by
  rw [rows_of g (p := eb rs') fun i hi j hj => Bool.eq_iff_iff.2 (h i hi j hj), hn]
  exact rows_eb g'
theorem joinV_or {rs : List Int} (g : VG rs) {v T a : Nat} (h7 : T < 128) (ha7 : a < 7) (hv : T.testBit v = false) (hav : a ≠ v) : joinV rs v (T ||| 2 ^ a) (cnt (T ||| 2 ^ a)) = addE (joinV rs v T (cnt T)) v a := by
  have hp : 2 ^ a ≤ 2 ^ 6 := Nat.pow_le_pow_right (by decide) (by omega)
  have h8 : T ||| 2 ^ a < 128 := Nat.or_lt_two_pow (n := 7) h7 (by omega)
  have hb : (T ||| 2 ^ a).testBit v = false := by
    rw [Nat.testBit_or, hv, Bool.false_or, Bool.eq_false_iff]
    intro h; rw [pow_bit] at h; omega
  have gT := joinV_VG g (t := cnt T) h7 hv
  refine eb_ext (joinV_VG g h8 hb) (addE_VG gT (fun e => hav e.symm)) (by rw [joinV_len, addE_len, joinV_len]) fun i hi j hj => ?_
  rw [joinV_len] at hi hj
  rw [joinV_eb h8 hi hj, addE_eb (by rw [joinV_len]; exact hi) (by rw [joinV_len]; exact hj), Bool.or_eq_true, joinV_eb h7 hi hj]
  constructor
  · rintro (h | ⟨w, hw, h⟩)
    · exact .inl (.inl h)
    · rw [Nat.testBit_or, Bool.or_eq_true, pow_bit] at hw
      rcases hw with hw | rfl
      · exact .inl (.inr ⟨w, hw, h⟩)
      · exact .inr h
  · rintro ((h | ⟨w, hw, h⟩) | h)
    · exact .inl h
    · exact .inr ⟨w, by rw [Nat.testBit_or, hw]; rfl, h⟩
    · exact .inr ⟨a, by rw [Nat.testBit_or, Bool.or_eq_true, pow_bit]; exact .inr rfl, h⟩
theorem joinV_one {rs : List Int} (g : VG rs) {v a : Nat} (ha7 : a < 7) (hav : a ≠ v) : joinV rs v (2 ^ a) (cnt (2 ^ a)) = addE rs v a := by
  have := joinV_or g (v := v) (T := 0) (a := a) (by omega) ha7 (by simp) hav
  rw [Nat.zero_or] at this
  rw [this]
  rfl

/-- The neighbours that the prune lays. -/
def putT (rs : List Int) (k a : Int) : Nat := if k = 1 then 2 ^ a.toNat else if k = 2 then gn rs a.toNat else if k = 3 then gn rs a.toNat ||| 2 ^ a.toNat else 0
/-- Is the prune in order, S the set of the vertices that lie? -/
def putOk (K S : Nat) (k a : Int) : Bool := decide ((0 ≤ k ∧ k ≤ 3) ∧ (k = 0 → a = -1) ∧ (k ≠ 0 → 0 ≤ a ∧ a ≤ (K : Int) - 1 ∧ S.testBit a.toNat = true))
def putRun (l : List Int) (K : Nat) : Nat → List Int → Nat → Option (List Int)
  | 0, rs, _ => some rs
  | i + 1, rs, S => if putOk K S (pk l i) (pa l i) = true then putRun l K i (joinV rs (pv l i).toNat (putT rs (pk l i) (pa l i)) (cnt (putT rs (pk l i) (pa l i)))) (S + 2 ^ (pv l i).toNat) else none
def putV (l : List Int) (K : Nat) : Option (List Int) := if permB (pvs l K) = true then putRun l K K (List.replicate K 0) 0 else none
theorem putV_no {l : List Int} {K : Nat} (h : permB (pvs l K) = false) : putV l K = none := by unfold putV; rw [if_neg (by rw [h]; decide)]
theorem putV_of {l : List Int} {K : Nat} (h : permB (pvs l K) = true) : putV l K = putRun l K K (List.replicate K 0) 0 := by unfold putV; rw [if_pos h]
theorem putRun_no {l : List Int} {K i S : Nat} {rs : List Int} (h : putOk K S (pk l i) (pa l i) = false) : putRun l K (i + 1) rs S = none := by
  show (if _ then _ else _) = _
  rw [if_neg (by rw [h]; decide)]
theorem putRun_go {l : List Int} {K i S : Nat} {rs : List Int} (h : putOk K S (pk l i) (pa l i) = true) :
    putRun l K (i + 1) rs S = putRun l K i (joinV rs (pv l i).toNat (putT rs (pk l i) (pa l i)) (cnt (putT rs (pk l i) (pa l i)))) (S + 2 ^ (pv l i).toNat) := by
  show (if _ then _ else _) = _
  rw [if_pos h]
theorem putRun_len {l : List Int} {K : Nat} : ∀ (i S : Nat) (rs qs : List Int), putRun l K i rs S = some qs → qs.length = rs.length
  | 0, _, rs, qs, h => by simp only [putRun, Option.some.injEq] at h; rw [← h]
  | i + 1, S, rs, qs, h => by
    cases hp : putOk K S (pk l i) (pa l i)
    · rw [putRun_no hp] at h; cases h
    · rw [putRun_go hp] at h
      rw [putRun_len i _ _ _ h, joinV_len]

/-- What holds before the prune i - 1 is put back: of the rows, of the set. -/
structure PutI (l : List Int) (K i : Nat) (rs : List Int) (S : Nat) : Prop where
  len : rs.length = K
  vg : VG rs
  lt : S < 2 ^ K
  set : ∀ u, S.testBit u = true ↔ ∃ j, i ≤ j ∧ j < K ∧ pv l j = (u : Int)
  sub : ∀ x, x < K → ∀ y, y < K → eb rs x y = true → S.testBit y = true
theorem PutI.start {l : List Int} {K : Nat} (h : permB (pvs l K) = true) : PutI l K K (List.replicate K 0) 0 := by
  have hp := permB_true h
  rw [pvs_len] at hp
  have he : ∀ x y, eb (List.replicate K 0) x y = false := fun x y => by
    unfold eb gn gi
    by_cases hx : x < K <;> simp [hx]
  refine ⟨by simp, ?_, Nat.two_pow_pos K, fun u => by simp; omega, fun x _ y _ h => by rw [he] at h; cases h⟩
  have := rowsOf_VG (N := K) (p := fun _ _ => false) hp.1 hp.2.1 (fun _ _ => rfl) (fun _ _ _ _ => rfl)
  have e : rowsOf K (fun _ _ => false) = List.replicate K 0 := by
    refine gi_ext (by simp [rowsOf_len]) fun i hi => ?_
    rw [rowsOf_len] at hi
    rw [rowsOf_at hi]
    have : accB (fun _ : Nat => false) K = 0 := by
      apply Nat.eq_of_testBit_eq
      intro j
      rw [accB_bit, Nat.zero_testBit]; simp
    rw [this]; simp [gi, hi]
  rw [← e]; exact this
/-- The vertex of the prune, the set behind it, the rows behind it. -/
theorem PutI.vertex {l : List Int} {K i S : Nat} {rs : List Int} (hp : permB (pvs l K) = true) (h : PutI l K (i + 1) rs S) (hi : i < K) : 0 ≤ pv l i ∧ pv l i < K ∧ S.testBit (pv l i).toNat = false := by
  have h2 := permB_true hp
  rw [pvs_len] at h2
  obtain ⟨-, -, h3, h4⟩ := h2
  have h5 := h3 i hi
  rw [pvs_at hi] at h5
  refine ⟨h5.1, h5.2, ?_⟩
  rw [Bool.eq_false_iff]
  intro hb
  obtain ⟨j, hj1, hj2, e⟩ := (h.set _).1 hb
  rw [List.nodup_iff_pairwise_ne, List.pairwise_iff_getElem] at h4
  refine h4 i j (by rw [pvs_len]; exact hi) (by rw [pvs_len]; exact hj2) (by omega) ?_
  rw [← gi_get (by rw [pvs_len]; exact hi), ← gi_get (by rw [pvs_len]; exact hj2), pvs_at hi, pvs_at hj2]
  omega
theorem putOk_true {K S : Nat} {k a : Int} (h : putOk K S k a = true) : (0 ≤ k ∧ k ≤ 3) ∧ (k = 0 → a = -1) ∧ (k ≠ 0 → 0 ≤ a ∧ a ≤ (K : Int) - 1 ∧ S.testBit a.toNat = true) := of_decide_eq_true h
/-- What the prune lays lies within the set. -/
theorem PutI.within {l : List Int} {K i S : Nat} {rs : List Int} (h : PutI l K (i + 1) rs S) {k a : Int} (ho : putOk K S k a = true) {u : Nat} (hu : (putT rs k a).testBit u = true) : S.testBit u = true := by
  obtain ⟨-, -, h3⟩ := putOk_true ho
  have hl := h.len
  have hrow : k ≠ 0 → (gn rs a.toNat).testBit u = true → S.testBit u = true := fun hk hb => by
    obtain ⟨h4, h5, h6⟩ := h3 hk
    have hu : u < K := by
      refine Nat.lt_of_not_le fun hc => ?_
      rw [testBit_ge (h.vg.lt a.toNat (by omega)) (by omega)] at hb; cases hb
    exact h.sub a.toNat (by omega) u hu hb
  unfold putT at hu
  split at hu
  · rw [pow_bit] at hu; subst hu; exact (h3 (by omega)).2.2
  · split at hu
    · exact hrow (by omega) hu
    · split at hu
      · rw [Nat.testBit_or, Bool.or_eq_true, pow_bit] at hu
        rcases hu with hu | rfl
        · exact hrow (by omega) hu
        · exact (h3 (by omega)).2.2
      · simp at hu
theorem PutI.nb {l : List Int} {K i S : Nat} {rs : List Int} (hp : permB (pvs l K) = true) (h : PutI l K (i + 1) rs S) (hi : i < K) {k a : Int} (ho : putOk K S k a = true) :
    putT rs k a < 2 ^ K ∧ putT rs k a < 128 ∧ (putT rs k a).testBit (pv l i).toNat = false := by
  have hl := h.len
  have h7 := h.vg.le
  have h1 : putT rs k a < 2 ^ K := Nat.lt_pow_two_of_testBit _ fun u hu => by
    rw [Bool.eq_false_iff]
    intro hb
    have := h.within ho hb
    rw [testBit_ge h.lt hu] at this; cases this
  have h2 : 2 ^ K ≤ 2 ^ 7 := Nat.pow_le_pow_right (by decide) (by omega)
  refine ⟨h1, by omega, ?_⟩
  rw [Bool.eq_false_iff]
  intro hb
  have := h.within ho hb
  rw [(h.vertex hp hi).2.2] at this; cases this
theorem PutI.miss {l : List Int} {K i S : Nat} {rs : List Int} (hp : permB (pvs l K) = true) (h : PutI l K (i + 1) rs S) (hi : i < K) {u : Nat} (hu : u < K) : eb rs (pv l i).toNat u = false := by
  have hv := h.vertex hp hi
  have hl := h.len
  rw [eb_sym h.vg (by omega) (by omega), Bool.eq_false_iff]
  intro hb
  have := h.sub u hu (pv l i).toNat (by omega) hb
  rw [hv.2.2] at this; cases this
theorem joinV_miss {rs : List Int} {v T t : Nat} (hv : v < rs.length) (hw : eln (els T) t < rs.length) (ht : t < cnt T) (hne : eln (els T) t ≠ v) (h : eb rs v (eln (els T) t) = false) : eb (joinV rs v T t) v (eln (els T) t) = false := by
  rw [Bool.eq_false_iff]
  intro hb
  unfold joinV at hb
  rw [addEs_eb _ _ hv hw] at hb
  rcases hb with hb | ⟨e, he, hb⟩
  · rw [h] at hb; cases hb
  · obtain ⟨w, hw2, rfl⟩ := List.mem_map.1 he
    rw [isE_true] at hb
    rcases hb with ⟨-, e⟩ | ⟨e, e2⟩
    · have e' : eln (els T) t = w := e
      rw [← e'] at hw2; exact not_in_take ht hw2
    · exact hne e2
theorem PutI.step {l : List Int} {K i S : Nat} {rs : List Int} (hp : permB (pvs l K) = true) (h : PutI l K (i + 1) rs S) (hi : i < K) {k a : Int} (ho : putOk K S k a = true) :
    PutI l K i (joinV rs (pv l i).toNat (putT rs k a) (cnt (putT rs k a))) (S + 2 ^ (pv l i).toNat) := by
  obtain ⟨hT, hT7, hTv⟩ := h.nb hp hi ho
  obtain ⟨hv0, hvK, hvS⟩ := h.vertex hp hi
  have hl := h.len
  have h7 := h.vg.le
  have hK7 : 2 ^ K ≤ 2 ^ 7 := Nat.pow_le_pow_right (by decide) (by omega)
  have hpv : 2 ^ (pv l i).toNat < 2 ^ K := Nat.pow_lt_pow_right (by decide) (by omega)
  have hSl := h.lt
  have hadd : S + 2 ^ (pv l i).toNat = S ||| 2 ^ (pv l i).toNat := by
    refine add_disj (by omega) (by omega) ?_
    apply Nat.eq_of_testBit_eq
    intro j
    rw [Nat.testBit_and, Nat.zero_testBit, Nat.testBit_two_pow]
    by_cases e : (pv l i).toNat = j
    · subst e; rw [hvS]; rfl
    · rw [decide_eq_false e, Bool.and_false]
  have hbit : ∀ u, (S + 2 ^ (pv l i).toNat).testBit u = true ↔ S.testBit u = true ∨ (pv l i).toNat = u := fun u => by
    rw [hadd, Nat.testBit_or, Bool.or_eq_true, pow_bit]
  refine ⟨by rw [joinV_len, hl], joinV_VG h.vg hT7 hTv, by rw [hadd]; exact Nat.or_lt_two_pow hSl hpv, fun u => ?_, fun x hx y hy hb => ?_⟩
  · rw [hbit, h.set u]
    constructor
    · rintro (⟨j, h1, h2, h3⟩ | e)
      · exact ⟨j, by omega, h2, h3⟩
      · exact ⟨i, by omega, hi, by omega⟩
    · rintro ⟨j, h1, h2, h3⟩
      rcases Nat.lt_or_ge i j with h4 | h4
      · exact .inl ⟨j, by omega, h2, h3⟩
      · obtain rfl : j = i := by omega
        exact .inr (by omega)
  · rw [hbit]
    rw [joinV_eb hT7 (by omega) (by omega)] at hb
    rcases hb with hb | ⟨w, hw, hb⟩
    · exact .inl (h.sub x hx y hy hb)
    · rw [isE_true] at hb
      rcases hb with ⟨-, e⟩ | ⟨-, e⟩
      · rw [e]; exact .inl (h.within ho hw)
      · exact .inr e.symm
/-- The rows behind a prune, kind by kind. -/
theorem put_0 {rs : List Int} (v : Nat) (a : Int) : joinV rs v (putT rs 0 a) (cnt (putT rs 0 a)) = rs := by
  rw [show putT rs 0 a = 0 from rfl]
  rfl
theorem put_2 {rs : List Int} (v : Nat) (a : Int) : joinV rs v (putT rs 2 a) (cnt (putT rs 2 a)) = joinV rs v (gn rs a.toNat) (cnt (gn rs a.toNat)) := rfl
theorem PutI.one {l : List Int} {K i S : Nat} {rs : List Int} (hp : permB (pvs l K) = true) (h : PutI l K (i + 1) rs S) (hi : i < K) {a : Int} (ho : putOk K S 1 a = true) : joinV rs (pv l i).toNat (putT rs 1 a) (cnt (putT rs 1 a)) = addE rs (pv l i).toNat a.toNat := by
  have h7 := h.vg.le
  have hl := h.len
  have h3 := (putOk_true ho).2.2 (by decide)
  have h4 := h.nb hp hi ho
  refine joinV_one h.vg (by omega) fun e => ?_
  have h5 := h4.2.2
  rw [show putT rs 1 a = 2 ^ a.toNat from rfl, e, Bool.eq_false_iff] at h5
  exact h5 (pow_bit.2 rfl)
theorem PutI.three {l : List Int} {K i S : Nat} {rs : List Int} (hp : permB (pvs l K) = true) (h : PutI l K (i + 1) rs S) (hi : i < K) {a : Int} (ho : putOk K S 3 a = true) : joinV rs (pv l i).toNat (putT rs 3 a) (cnt (putT rs 3 a)) = addE (joinV rs (pv l i).toNat (gn rs a.toNat) (cnt (gn rs a.toNat))) (pv l i).toNat a.toNat := by
  have h7 := h.vg.le
  have hl := h.len
  have h3 := (putOk_true ho).2.2 (by decide)
  have h4 := (h.nb hp hi ho).2.2
  rw [show putT rs 3 a = gn rs a.toNat ||| 2 ^ a.toNat from rfl, Nat.testBit_or, Bool.or_eq_false_iff] at h4
  refine joinV_or h.vg (h.vg.lt128 (by omega)) (by omega) h4.1 fun e => ?_
  have h5 := h4.2
  rw [e, Bool.eq_false_iff] at h5
  exact h5 (pow_bit.2 rfl)

end Go.Proofs.YtjikmjhpmkakoaaGreatDoor
