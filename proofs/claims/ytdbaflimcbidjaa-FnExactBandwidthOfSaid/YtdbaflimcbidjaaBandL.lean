/-
  The plain law of the bandwidth: the search for an order of band k finds the first order whose number is at most k.
-/
import Derived.Test.YtdbaflimcbidjaaBestBandS
import Derived.Test.YtdbaflimcbidjaaPathwL
import Derived.Test.YtdbaflimcbidjaaBestO
namespace Go.Proofs.Ytdbaflimcbidjaa
open Go.RowKit

theorem preF_some {o : Nat → Option (List Int)} {step : Nat → FL Unit → FL Unit × Bool} (h : ∀ v, step v ((), none) = (((), o v), (o v).isNone)) : ∀ j, preF step ((), none) j = (((), (List.range j).findSome? o), ((List.range j).findSome? o).isNone)
  | 0 => rfl
  | j + 1 => by
    have ih := preF_some h j
    rw [List.range_succ, List.findSome?_append]
    cases hx : (List.range j).findSome? o with
    | none =>
      rw [hx] at ih
      rw [preF_go ih, h j]
      simp
    | some x =>
      rw [hx] at ih
      rw [preF_stop (j := j) (by rw [ih]; rfl) (j + 1) (by omega), ih]
      rfl

theorem findSome_congr {α β : Type} {f g : α → Option β} : ∀ {xs : List α}, (∀ x, x ∈ xs → f x = g x) → xs.findSome? f = xs.findSome? g
  | [], _ => rfl
  | x :: xs, h => by
    rw [List.findSome?_cons, List.findSome?_cons, h x (by simp), findSome_congr fun y hy => h y (by simp [hy])]

/-- A search whose checks tell exactly who can still come to a list of the kind p. -/
theorem dfs_ext {may p : List Int → Bool} {N : Nat} (hm : ∀ l (v : Nat), v < N → inB l (v : Int) = false → p l = true → p (l ++ [(v : Int)]) = may (l ++ [(v : Int)])) (hp : ∀ l t, p (l ++ t) = true → p l = true) :
    ∀ f l, p l = true → dfs may (fun _ => true) N f l = (ext N f l).find? p
  | 0, l, h => by
    show some l = [l].find? p
    rw [List.find?_cons_of_pos h]
  | f + 1, l, h => by
    have e : ∀ v, v < N → (if inB l (v : Int) = true then [] else ext N f (l ++ [(v : Int)])).find? p = (if inB l (v : Int) = true then none else if may (l ++ [(v : Int)]) = true then dfs may (fun _ => true) N f (l ++ [(v : Int)]) else none) := by
      intro v hv
      cases hi : inB l (v : Int)
      · rw [if_neg (by decide), if_neg (by decide)]
        have h1 := hm l v hv hi h
        by_cases h2 : may (l ++ [(v : Int)]) = true
        · rw [if_pos h2, dfs_ext hm hp f _ (h1.trans h2)]
        · rw [if_neg h2, List.find?_eq_none]
          intro x hx hpx
          obtain ⟨t, -, -, rfl⟩ := (mem_ext _ _ _).1 hx
          exact h2 (h1.symm.trans (hp _ _ hpx))
      · rfl
    have hs : ∀ v, flStep (flRun (S := Unit) (fun _ l => ((), true)) may N f) may l v ((), none) = (((), (if inB l (v : Int) = true then none else if may (l ++ [(v : Int)]) = true then dfs may (fun _ => true) N f (l ++ [(v : Int)]) else none)), (if inB l (v : Int) = true then none else if may (l ++ [(v : Int)]) = true then dfs may (fun _ => true) N f (l ++ [(v : Int)]) else none : Option (List Int)).isNone) := by
      intro v
      cases hi : inB l (v : Int)
      · by_cases h2 : may (l ++ [(v : Int)]) = true
        · rw [flStep_dfs (q := fun _ => true) hi h2 rfl, if_neg (by decide), if_pos h2]
        · rw [flStep_skip (.inr (by simpa using h2)), if_neg (by decide), if_neg h2]; rfl
      · rw [flStep_skip (.inl hi)]; rfl
    show (preF (flStep (flRun (S := Unit) (fun _ l => ((), true)) may N f) may l) ((), none) N).1.2 = _
    rw [preF_some hs N]
    show _ = ((List.range N).flatMap _).find? p
    rw [List.find?_flatMap]
    show (List.range N).findSome? _ = (List.range N).findSome? _
    refine findSome_congr fun v hv => ?_
    exact (e v (by simpa using hv)).symm

def bandP (rs : List Int) (k : Nat) (l : List Int) : Bool := l.all (fun x => decide (0 ≤ x ∧ x < rs.length)) && decide (bandTo rs l l.length ≤ k)
theorem band_app {rs l t : List Int} {k : Nat} (h : bandTo rs (l ++ t) (l ++ t).length ≤ k) : bandTo rs l l.length ≤ k := by
  rw [bandTo_le] at h ⊢
  intro i hi j hj hn
  refine h i (by simp; omega) j hj ?_
  unfold nearB at hn ⊢
  rw [gi_left hi, gi_left (by omega)]
  exact hn
theorem bandP_app {rs : List Int} {k : Nat} (l t : List Int) (h : bandP rs k (l ++ t) = true) : bandP rs k l = true := by
  unfold bandP at h ⊢
  rw [Bool.and_eq_true, decide_eq_true_eq, List.all_append, Bool.and_eq_true] at h
  rw [Bool.and_eq_true, decide_eq_true_eq]
  exact ⟨h.1.1, band_app h.2⟩
theorem fitTo_iff {rs l : List Int} {v k : Nat} : ∀ i, fitTo rs l v k i = true ↔ ∀ j, j < i → l.length - j ≤ k ∨ (gn rs (gi l j).toNat).testBit v = false
  | 0 => by simp [fitTo]
  | i + 1 => by
    show (fitTo rs l v k i && (decide (l.length - i ≤ k) || !(gn rs (gi l i).toNat).testBit v)) = true ↔ _
    rw [Bool.and_eq_true, fitTo_iff i, Bool.or_eq_true, decide_eq_true_eq, Bool.not_eq_true']
    constructor
    · rintro ⟨h1, h2⟩ j hj
      by_cases e : j = i
      · subst e; exact h2
      · exact h1 j (by omega)
    · intro h; exact ⟨fun j hj => h j (by omega), h i (by omega)⟩
theorem bandP_new {rs : List Int} {k : Nat} (g : VG rs) (l : List Int) (v : Nat) (hv : v < rs.length) (h : bandP rs k l = true) : bandP rs k (l ++ [(v : Int)]) = mayBd rs k (l ++ [(v : Int)]) := by
  have h' := h
  unfold bandP at h'
  rw [Bool.and_eq_true, decide_eq_true_eq, List.all_eq_true, bandTo_le] at h'
  obtain ⟨ha, hb⟩ := h'
  have hr : ∀ j, j < l.length → (gi l j).toNat < rs.length := fun j hj => by
    have h1 := ha (gi l j) (by unfold gi; rw [List.getD_eq_getElem?_getD, List.getElem?_eq_getElem hj]; exact List.getElem_mem hj)
    rw [decide_eq_true_eq] at h1
    omega
  have hall : (l ++ [(v : Int)]).all (fun x => decide (0 ≤ x ∧ x < rs.length)) = true := by
    rw [List.all_append, Bool.and_eq_true]
    refine ⟨List.all_eq_true.2 ha, ?_⟩
    simp [hv]
  rw [mayBd_app, Bool.eq_iff_iff, fitTo_iff]
  unfold bandP
  rw [hall, Bool.true_and, decide_eq_true_eq, bandTo_le]
  have hlen : (l ++ [(v : Int)]).length = l.length + 1 := by simp
  have hlast : ∀ j, j < l.length → nearB rs (l ++ [(v : Int)]) l.length j = (gn rs (gi l j).toNat).testBit v := fun j hj => by
    unfold nearB
    rw [gi_last, gi_left hj, Int.toNat_natCast]
    exact g.sym v hv _ (hr j hj)
  constructor
  · intro H j hj
    have := H l.length (by omega) j hj
    rw [hlast j hj] at this
    cases ht : (gn rs (gi l j).toNat).testBit v
    · exact .inr rfl
    · exact .inl (this ht)
  · intro H i hi j hj hn
    by_cases e : i = l.length
    · subst e
      rw [hlast j hj] at hn
      rcases H j hj with h1 | h1
      · exact h1
      · rw [h1] at hn; cases hn
    · refine hb i (by omega) j hj ?_
      unfold nearB at hn ⊢
      rw [gi_left (by omega), gi_left (by omega)] at hn
      exact hn
theorem find_congr {p q : List Int → Bool} : ∀ {xs : List (List Int)}, (∀ x, x ∈ xs → p x = q x) → xs.find? p = xs.find? q
  | [], _ => rfl
  | x :: xs, h => by rw [List.find?_cons, List.find?_cons, h x (by simp), find_congr fun y hy => h y (by simp [hy])]
theorem order_band {rs : List Int} (hv : isGraphB rs.length rs = true) {x : List Int} (hx : x ∈ ext rs.length rs.length []) : bandV rs.length rs x = bandTo rs x x.length ∧ x.length = rs.length ∧ x.all (fun x => decide (0 ≤ x ∧ x < rs.length)) = true := by
  obtain ⟨t, h1, h2, rfl⟩ := mem_orders.1 hx
  refine ⟨bandV_of (order_fresh hv h2 h1), by simpa using h1, List.all_eq_true.2 fun y hy => ?_⟩
  obtain ⟨a, ha, rfl⟩ := List.mem_map.1 hy
  obtain ⟨k, hk, rfl⟩ := List.getElem_of_mem ha
  have := (fresh_at t 0 h2 k hk).1
  unfold eln at this
  simp [hk] at this
  simp [this]
theorem bandAt_find {rs : List Int} (hv : isGraphB rs.length rs = true) (k : Nat) : bandAt rs k = (ext rs.length rs.length []).find? (fun x => decide (bandV rs.length rs x ≤ (k : Int))) := by
  have g := (VG.of hv).2
  unfold bandAt
  rw [dfs_ext (p := bandP rs k) (fun l v hv' _ h => bandP_new g l v hv' h) bandP_app rs.length [] (by simp [bandP, bandTo])]
  refine find_congr fun x hx => ?_
  obtain ⟨h1, -, h3⟩ := order_band hv hx
  unfold bandP
  rw [h1, h3, Bool.true_and]
  exact decide_eq_decide.2 (by omega)
/-- The search for the least band finds the best order. -/
theorem band_best {rs : List Int} (hv : isGraphB rs.length rs = true) : ∃ z, bestV (bandV rs.length rs) rs = (some z, bandV rs.length rs z) ∧ bestBandV rs.length rs = some z := by
  have g := (VG.of hv).2
  have hg1 := g.pos
  obtain ⟨z, hz, h1, h2, h3⟩ := bestV_facts (num := bandV rs.length rs) g.le (fun x hx => by rw [(order_band hv hx).1]; omega)
  refine ⟨z, h1, ?_⟩
  obtain ⟨e1, e2, -⟩ := order_band hv hz
  have hM : bandTo rs z z.length ≤ rs.length - 1 := (bandTo_le _).2 fun i hi j hj _ => by omega
  generalize hB : bandTo rs z z.length = M at *
  refine bestBandV_hit (k := M) hv (by omega) (fun j hj => ?_) ?_
  · rw [bandAt_find hv, Option.isSome_eq_false_iff, Option.isNone_iff_eq_none, List.find?_eq_none]
    intro x hx
    have := h2 x hx
    rw [e1] at this
    simp; omega
  · rw [bandAt_find hv, ← e1]; exact h3
theorem bestO_band (n : Int) (rs : List Int) : bestO (bandV n rs) n rs = (bestBandV n rs, bandwidthV n rs) := by
  unfold bestO bandwidthV
  cases hv : isGraphB n rs
  · rw [if_neg (by decide), bestBandV_no hv]
  · obtain ⟨rfl, -⟩ := VG.of hv
    obtain ⟨z, h1, h2⟩ := band_best hv
    rw [if_pos rfl, h1, h2]

end Go.Proofs.Ytdbaflimcbidjaa
