/-
  The plain law of the bandwidth: the search for an order of band k finds the first order whose number is at most k.
  The walks of IsDominating and IsPacking on both sides. For at most 2^20 rows.
  The walks of largest and fewest of the program, for whatever test; of LargestPacking and FewestDominating of the reference. For at most 2^20 rows.
  LargestClique and CliqueNumber on both sides. For at most 2^20 rows.
-/
import Derived.Test.YtfkehmpckhmkbaaPkLawWidths28
import Derived.Test.YtfkehmpckhmkbaaPkLawWidths14
import Derived.Test.YtfkehmpckhmkbaaPkLawWidths03
import Derived.Test.YtfkehmpckhmkbaaPkLawWidths09
namespace Go.Proofs.Ytfkehmpckhmkbaa
open Go.RowKit

theorem preF_some {o : Nat → Option (List Int)} {step : Nat → FL Unit → FL Unit × Bool} (h : ∀ v, step v ((), none) = (((), o v), (o v).isNone)) : ∀ j, preF step ((), none) j = (((), (List.range j).findSome? o), ((List.range j).findSome? o).isNone)
  | 0 => rfl
  | j + 1 => by
    have ih := preF_some h j
    rw [List.range_succ, List.findSome?_append]
    cases hx : (List.range j).findSome? o with
    | none =>
      rw [hx] at ih
      rw [preF_go ih, h j]
      simp
    | some x =>
      rw [hx] at ih
      rw [preF_stop (j := j) (by rw [ih]; rfl) (j + 1) (by omega), ih]
      rfl

theorem findSome_congr {α β : Type} {f g : α → Option β} : ∀ {xs : List α}, (∀ x, x ∈ xs → f x = g x) → xs.findSome? f = xs.findSome? g
  | [], _ => rfl
  | x :: xs, h => by
    rw [List.findSome?_cons, List.findSome?_cons, h x (by simp), findSome_congr fun y hy => h y (by simp [hy])]

/-- A search whose checks tell exactly who can still come to a list of the kind p. -/
theorem dfs_ext {may p : List Int → Bool} {N : Nat} (hm : ∀ l (v : Nat), v < N → inB l (v : Int) = false → p l = true → p (l ++ [(v : Int)]) = may (l ++ [(v : Int)])) (hp : ∀ l t, p (l ++ t) = true → p l = true) :
    ∀ f l, p l = true → dfs may (fun _ => true) N f l = (ext N f l).find? p
  | 0, l, h => by
    show some l = [l].find? p
    rw [List.find?_cons_of_pos h]
  | f + 1, l, h => by
    have e : ∀ v, v < N → (if inB l (v : Int) = true then [] else ext N f (l ++ [(v : Int)])).find? p = (if inB l (v : Int) = true then none else if may (l ++ [(v : Int)]) = true then dfs may (fun _ => true) N f (l ++ [(v : Int)]) else none) := by
      intro v hv
      cases hi : inB l (v : Int)
      · rw [if_neg (by decide), if_neg (by decide)]
        have h1 := hm l v hv hi h
        by_cases h2 : may (l ++ [(v : Int)]) = true
        · rw [if_pos h2, dfs_ext hm hp f _ (h1.trans h2)]
        · rw [if_neg h2, List.find?_eq_none]
          intro x hx hpx
          obtain ⟨t, -, -, rfl⟩ := (mem_ext _ _ _).1 hx
          exact h2 (h1.symm.trans (hp _ _ hpx))
      · rfl
    have hs : ∀ v, flStep (flRun (S := Unit) (fun _ l => ((), true)) may N f) may l v ((), none) = (((), (if inB l (v : Int) = true then none else if may (l ++ [(v : Int)]) = true then dfs may (fun _ => true) N f (l ++ [(v : Int)]) else none)), (if inB l (v : Int) = true then none else if may (l ++ [(v : Int)]) = true then dfs may (fun _ => true) N f (l ++ [(v : Int)]) else none : Option (List Int)).isNone) := by
      intro v
      cases hi : inB l (v : Int)
      · by_cases h2 : may (l ++ [(v : Int)]) = true
        · rw [flStep_dfs (q := fun _ => true) hi h2 rfl, if_neg (by decide), if_pos h2]
        · rw [flStep_skip (.inr (by simpa using h2)), if_neg (by decide), if_neg h2]; rfl
      · rw [flStep_skip (.inl hi)]; rfl
    show (preF (flStep (flRun (S := Unit) (fun _ l => ((), true)) may N f) may l) ((), none) N).1.2 = _
    rw [preF_some hs N]
    show _ = ((List.range N).flatMap _).find? p
    rw [List.find?_flatMap]
    show (List.range N).findSome? _ = (List.range N).findSome? _
    refine findSome_congr fun v hv => ?_
    exact (e v (by simpa using hv)).symm

def bandP (rs : List Int) (k : Nat) (l : List Int) : Bool := l.all (fun x => decide (0 ≤ x ∧ x < rs.length)) && decide (bandTo rs l l.length ≤ k)
theorem band_app {rs l t : List Int} {k : Nat} (h : bandTo rs (l ++ t) (l ++ t).length ≤ k) : bandTo rs l l.length ≤ k := by
  rw [bandTo_le] at h ⊢
  intro i hi j hj hn
  refine h i (by simp; omega) j hj ?_
  unfold nearB at hn ⊢
  rw [gi_left hi, gi_left (by omega)]
  exact hn
theorem bandP_app {rs : List Int} {k : Nat} (l t : List Int) (h : bandP rs k (l ++ t) = true) : bandP rs k l = true := by
  unfold bandP at h ⊢
  rw [Bool.and_eq_true, decide_eq_true_eq, List.all_append, Bool.and_eq_true] at h
  rw [Bool.and_eq_true, decide_eq_true_eq]
  exact ⟨h.1.1, band_app h.2⟩
theorem fitTo_iff {rs l : List Int} {v k : Nat} : ∀ i, fitTo rs l v k i = true ↔ ∀ j, j < i → l.length - j ≤ k ∨ (gn rs (gi l j).toNat).testBit v = false
  | 0 => by simp [fitTo]
  | i + 1 => by
    show (fitTo rs l v k i && (decide (l.length - i ≤ k) || !(gn rs (gi l i).toNat).testBit v)) = true ↔ _
    rw [Bool.and_eq_true, fitTo_iff i, Bool.or_eq_true, decide_eq_true_eq, Bool.not_eq_true']
    constructor
    · rintro ⟨h1, h2⟩ j hj
      by_cases e : j = i
      · subst e; exact h2
      · exact h1 j (by omega)
    · intro h; exact ⟨fun j hj => h j (by omega), h i (by omega)⟩
theorem bandP_new {rs : List Int} {k : Nat} (g : VG rs) (l : List Int) (v : Nat) (hv : v < rs.length) (h : bandP rs k l = true) : bandP rs k (l ++ [(v : Int)]) = mayBd rs k (l ++ [(v : Int)]) := by
  have h' := h
  unfold bandP at h'
  rw [Bool.and_eq_true, decide_eq_true_eq, List.all_eq_true, bandTo_le] at h'
  obtain ⟨ha, hb⟩ := h'
  have hr : ∀ j, j < l.length → (gi l j).toNat < rs.length := fun j hj => by
    have h1 := ha (gi l j) (by unfold gi; rw [List.getD_eq_getElem?_getD, List.getElem?_eq_getElem hj]; exact List.getElem_mem hj)
    rw [decide_eq_true_eq] at h1
    omega
  have hall : (l ++ [(v : Int)]).all (fun x => decide (0 ≤ x ∧ x < rs.length)) = true := by
    rw [List.all_append, Bool.and_eq_true]
    refine ⟨List.all_eq_true.2 ha, ?_⟩
    simp [hv]
  rw [mayBd_app, Bool.eq_iff_iff, fitTo_iff]
  unfold bandP
  rw [hall, Bool.true_and, decide_eq_true_eq, bandTo_le]
  have hlen : (l ++ [(v : Int)]).length = l.length + 1 := by simp
  have hlast : ∀ j, j < l.length → nearB rs (l ++ [(v : Int)]) l.length j = (gn rs (gi l j).toNat).testBit v := fun j hj => by
    unfold nearB
    rw [gi_last, gi_left hj, Int.toNat_natCast]
    exact g.sym v hv _ (hr j hj)
  constructor
  · intro H j hj
    have := H l.length (by omega) j hj
    rw [hlast j hj] at this
    cases ht : (gn rs (gi l j).toNat).testBit v
    · exact .inr rfl
    · exact .inl (this ht)
  · intro H i hi j hj hn
    by_cases e : i = l.length
    · subst e
      rw [hlast j hj] at hn
      rcases H j hj with h1 | h1
      · exact h1
      · rw [h1] at hn; cases hn
    · refine hb i (by omega) j hj ?_
      unfold nearB at hn ⊢
      rw [gi_left (by omega), gi_left (by omega)] at hn
      exact hn
theorem find_congr {p q : List Int → Bool} : ∀ {xs : List (List Int)}, (∀ x, x ∈ xs → p x = q x) → xs.find? p = xs.find? q
  | [], _ => rfl
  | x :: xs, h => by rw [List.find?_cons, List.find?_cons, h x (by simp), find_congr fun y hy => h y (by simp [hy])]
theorem order_band {rs : List Int} (hv : isGraphB rs.length rs = true) {x : List Int} (hx : x ∈ ext rs.length rs.length []) : bandV rs.length rs x = bandTo rs x x.length ∧ x.length = rs.length ∧ x.all (fun x => decide (0 ≤ x ∧ x < rs.length)) = true := by
  obtain ⟨t, h1, h2, rfl⟩ := mem_orders.1 hx
  refine ⟨bandV_of (order_fresh hv h2 h1), by simpa using h1, List.all_eq_true.2 fun y hy => ?_⟩
  obtain ⟨a, ha, rfl⟩ := List.mem_map.1 hy
  obtain ⟨k, hk, rfl⟩ := List.getElem_of_mem ha
  have := (fresh_at t 0 h2 k hk).1
  unfold eln at this
  simp [hk] at this
  simp [this]
theorem bandAt_find {rs : List Int} (hv : isGraphB rs.length rs = true) (k : Nat) : bandAt rs k = (ext rs.length rs.length []).find? (fun x => decide (bandV rs.length rs x ≤ (k : Int))) := by
  have g := (VG.of hv).2
  unfold bandAt
  rw [dfs_ext (p := bandP rs k) (fun l v hv' _ h => bandP_new g l v hv' h) bandP_app rs.length [] (by simp [bandP, bandTo])]
  refine find_congr fun x hx => ?_
  obtain ⟨h1, -, h3⟩ := order_band hv hx
  unfold bandP
  rw [h1, h3, Bool.true_and]
  exact decide_eq_decide.2 (by omega)
/-- The search for the least band finds the best order. -/
theorem band_best {rs : List Int} (hv : isGraphB rs.length rs = true) : ∃ z, bestV (bandV rs.length rs) rs = (some z, bandV rs.length rs z) ∧ bestBandV rs.length rs = some z := by
  have g := (VG.of hv).2
  have hg1 := g.pos
  obtain ⟨z, hz, h1, h2, h3⟩ := bestV_facts (num := bandV rs.length rs) g.le (fun x hx => by rw [(order_band hv hx).1]; omega)
  refine ⟨z, h1, ?_⟩
  obtain ⟨e1, e2, -⟩ := order_band hv hz
  have hM : bandTo rs z z.length ≤ rs.length - 1 := (bandTo_le _).2 fun i hi j hj _ => by omega
  generalize hB : bandTo rs z z.length = M at *
  refine bestBandV_hit (k := M) hv (by omega) (fun j hj => ?_) ?_
  · rw [bandAt_find hv, Option.isSome_eq_false_iff, Option.isNone_iff_eq_none, List.find?_eq_none]
    intro x hx
    have := h2 x hx
    rw [e1] at this
    simp; omega
  · rw [bandAt_find hv, ← e1]; exact h3
theorem bestO_band (n : Int) (rs : List Int) : bestO (bandV n rs) n rs = (bestBandV n rs, bandwidthV n rs) := by
  unfold bestO bandwidthV
  cases hv : isGraphB n rs
  · rw [if_neg (by decide), bestBandV_no hv]
  · obtain ⟨rfl, -⟩ := VG.of hv
    obtain ⟨z, h1, h2⟩ := band_best hv
    rw [if_pos rfl, h1, h2]

end Go.Proofs.Ytfkehmpckhmkbaa

namespace Go.Proofs.Ytfkehmpckhmkbaa
open Go.RowKit

def domB (n : Int) (rs : List Int) (s : Int) : Bool := isSetB n rs s && decide (around rs s.toNat = 2 ^ rs.length - 1)
theorem domB_nat {rs : List Int} {S : Nat} (h : isSetB rs.length rs S = true) : domB rs.length rs S = (((around rs S : Nat) : Int) == ((2 ^ rs.length - 1 : Nat) : Int)) := by
  unfold domB; rw [h, Bool.true_and, Int.toNat_natCast, Bool.eq_iff_iff, decide_eq_true_eq, beq_iff_eq]; exact Int.ofNat_inj.symm
theorem domB_no {n : Int} {rs : List Int} {s : Int} (h : isSetB n rs s = false) : domB n rs s = false := by unfold domB; rw [h]; rfl



/-- Vertex v and its neighbours have at most one vertex in S. -/
def packAt (rs : List Int) (S v : Nat) : Nat := cnt ((gn rs v ||| 2 ^ v) &&& S)
def packB (n : Int) (rs : List Int) (s : Int) : Bool := isSetB n rs s && decide (∀ v, v < rs.length → packAt rs s.toNat v ≤ 1)
theorem packB_no {n : Int} {rs : List Int} {s : Int} (h : isSetB n rs s = false) : packB n rs s = false := by unfold packB; rw [h]; rfl
theorem packB_bad {n : Int} {rs : List Int} {S v : Nat} (hv : v < rs.length) (h : 1 < packAt rs S v) : packB n rs S = false := by
  unfold packB; rw [Int.toNat_natCast, decide_eq_false (fun a => by have := a v hv; omega), Bool.and_false]
theorem packB_ok {n : Int} {rs : List Int} {S : Nat} (h : isSetB n rs S = true) (ha : ∀ v, v < rs.length → packAt rs S v ≤ 1) : packB n rs S = true := by
  unfold packB; rw [h, Int.toNat_natCast, decide_eq_true ha]; rfl

/-- What the walks want of vertex k. -/
theorem pack_facts {rs : List Int} (g : VG rs) {S k : Nat} (hS : S < 2 ^ rs.length) (hk : k < rs.length) :
    pwN k = ((2 ^ k : Nat) : Int) ∧ bits .or .i64 (gn rs k : Int) ((2 ^ k : Nat) : Int) = ((gn rs k ||| 2 ^ k : Nat) : Int) ∧ bits .and .i64 ((gn rs k ||| 2 ^ k : Nat) : Int) (S : Int) = (((gn rs k ||| 2 ^ k) &&& S : Nat) : Int) ∧ (gn rs k ||| 2 ^ k) &&& S < 128 := by
  have h1 := g.lt k hk
  have h2 := g.pow.1
  have h3 : 2 ^ k < 2 ^ rs.length := Nat.pow_lt_pow_right (by decide) hk
  have h4 : gn rs k ||| 2 ^ k < 2 ^ rs.length := Nat.or_lt_two_pow h1 h3
  have h5 : (gn rs k ||| 2 ^ k) &&& S ≤ S := Nat.and_le_right
  have h6 := g.le
  exact ⟨pwN_small _ (by omega), bits_or_nat _ _ (by omega) (by omega), bits_and_nat _ _ (by omega) (by omega), by omega⟩



end Go.Proofs.Ytfkehmpckhmkbaa

namespace Go.Proofs.Ytfkehmpckhmkbaa
open Go.RowKit

/-- The least of the sets below k with most vertices for which something holds. -/
def largestTo (p : Nat → Bool) : Nat → Nat
  | 0 => 0
  | k + 1 => if cnt (largestTo p k) < cnt k ∧ p k = true then k else largestTo p k
theorem largestTo_le (p : Nat → Bool) (k : Nat) : largestTo p k ≤ k := by
  induction k with
  | zero => exact Nat.le_refl _
  | succ k ih => unfold largestTo; split <;> omega
theorem largestTo_one (p : Nat → Bool) : largestTo p 1 = 0 := by unfold largestTo largestTo; rw [if_neg (by omega)]
/-- The least of the sets below k with fewest vertices for which something holds; -1 if there is none. -/
def fewestTo (p : Nat → Bool) : Nat → Int
  | 0 => -1
  | k + 1 => if (fewestTo p k < 0 ∨ cnt k < cnt (fewestTo p k).toNat) ∧ p k = true then k else fewestTo p k
theorem fewestTo_le (p : Nat → Bool) (k : Nat) : -1 ≤ fewestTo p k ∧ fewestTo p k < k ∨ fewestTo p k = -1 := by
  induction k with
  | zero => exact .inr rfl
  | succ k ih => unfold fewestTo; split <;> omega

/-- What largest says of a graph and a test. -/
def largestV (n : Int) (rs : List Int) (p : Nat → Bool) : Int := if isGraphB n rs = true then largestTo p (2 ^ rs.length) else 0
def fewestV (n : Int) (rs : List Int) (p : Nat → Bool) : Int := if isGraphB n rs = true then fewestTo p (2 ^ rs.length) else -1

/-- A function that answers p of a graph and a set. -/
def TestOf (K : Nat) (rs : List Int) (ro : Option Addr) (rc : Nat) (p : Nat → Bool) : Prop :=
  ∀ (S : Nat) (w : World), IntsAt w ro rs → S < 2 ^ rs.length → Calls Try.prog K #[.agg #[.int .i64 rs.length, .slice ro rs.length rc], .int .i64 S] w fun e w' => e = .returned (.bool (p S)) ∧ Below w.heap.size w w'


theorem fewestTo_form (p : Nat → Bool) (k : Nat) : fewestTo p k = -1 ∨ ∃ L : Nat, L < k ∧ fewestTo p k = (L : Int) := by
  rcases fewestTo_le p k with h | h
  · by_cases h0 : fewestTo p k = -1
    · exact .inl h0
    · exact .inr ⟨(fewestTo p k).toNat, by omega, by omega⟩
  · exact .inl h
theorem fewestTo_succ (p : Nat → Bool) (k : Nat) : fewestTo p (k + 1) = if (fewestTo p k < 0 ∨ cnt k < cnt (fewestTo p k).toNat) ∧ p k = true then (k : Int) else fewestTo p k := rfl
theorem fewestTo_skip {p : Nat → Bool} {k : Nat} (h : p k = false) : fewestTo p (k + 1) = fewestTo p k := by rw [fewestTo_succ, if_neg (fun a => by rw [h] at a; exact absurd a.2 (by decide))]
theorem fewestTo_new {p : Nat → Bool} {k : Nat} (h : p k = true) (h0 : fewestTo p k < 0 ∨ cnt k < cnt (fewestTo p k).toNat) : fewestTo p (k + 1) = (k : Int) := by rw [fewestTo_succ, if_pos ⟨h0, h⟩]
theorem fewestTo_keep {p : Nat → Bool} {k L : Nat} (h : fewestTo p k = (L : Int)) (h0 : ¬cnt k < cnt L) : fewestTo p (k + 1) = fewestTo p k := by
  rw [fewestTo_succ, if_neg]
  rw [h, Int.toNat_natCast]; rintro ⟨a | a, _⟩ <;> omega






end Go.Proofs.Ytfkehmpckhmkbaa

namespace Go.Proofs.Ytfkehmpckhmkbaa
open Go.RowKit

theorem largestTo_lt (p : Nat → Bool) : ∀ k, 1 ≤ k → largestTo p k < k
  | 0, h => by omega
  | k + 1, _ => by
    unfold largestTo
    split
    · omega
    · have := largestTo_le p k; omega

/-- How many vertices the largest clique has. -/
def clqN (n : Int) (rs : List Int) : Int := if isGraphB n rs = true then (cnt (largestTo (fun S => cliqueB rs.length rs S) (2 ^ rs.length)) : Int) else -1
theorem clqN_no {n : Int} {rs : List Int} (h : isGraphB n rs = false) : clqN n rs = -1 := by unfold clqN; rw [if_neg (by rw [h]; decide)]
theorem clqN_of {n : Int} {rs : List Int} (h : isGraphB n rs = true) : clqN n rs = (cnt (largestTo (fun S => cliqueB rs.length rs S) (2 ^ rs.length)) : Int) := by unfold clqN; rw [if_pos h]

set_option maxRecDepth 100000 in
set_option maxHeartbeats 1000000 in
theorem specLargestClique_any (n : Int) (rs : List Int) (ro : Option Addr) (rc : Nat) (w : World) (hr : IntsAt w ro rs) (hrl : rs.length ≤ 1048576) :
    Calls Try.prog 38 #[.agg #[.int .i64 n, .slice ro rs.length rc]] w fun e w' => e = .returned (.int .i64 (largestV n rs fun S => cliqueB rs.length rs S)) ∧ Below w.heap.size w w' := by
  go_enter Try.func38, Try.ntmps38
  go_wp2_with fail
  generalize hW : w.alloc _ = W1
  obtain ⟨hB, -, k0⟩ := alloc1 hW
  replace hr := hr.below hB
  have hb0 := k0.lt
  have hc0 := k0.cell 0
  have hc1 := k0.cell 1
  simp at hc0 hc1
  clear hW k0
  have HhB := Lib.hid hB
  clear hB
  cases hv : isGraphB n rs
  · have HE : Hid (largestV n rs (fun S => cliqueB rs.length rs S) = 0) := by show largestV n rs _ = 0; unfold largestV; rw [hv]; rfl
    go_loopw [3, 4] (fun b i wr => (∃ m : Later W1, wr = m.w) ∧ b = .int .i64 0 ∧ i = .int .i64 1) (fun _ _ _ => 0)
    case atStart => exact ⟨⟨Later.refl _, rfl⟩, rfl, rfl⟩
    case round =>
      obtain ⟨⟨m, rfl⟩, rfl, rfl⟩ := hrel
      go_wp2_with (first | (go_at_call 12; refine (Calls.later m (specIsGraph_any _ _ _ _ _ (hr.later m) hrl)).mono ?_; rintro e w' ⟨rfl, m, rfl⟩))
      go_ret
      exact ⟨retI (by rw [HE.out]), below_later HhB.out m⟩
  · obtain ⟨rfl, g⟩ := VG.of hv
    have hg1 := g.pos
    have hg2 := g.le
    obtain ⟨hp1, hp2⟩ := g.pow
    have hq := pwN_small rs.length (by omega)
    have HE : Hid (largestV rs.length rs (fun S => cliqueB rs.length rs S) = largestTo (fun S => cliqueB rs.length rs S) (2 ^ rs.length)) := by show largestV rs.length rs _ = _; unfold largestV; rw [if_pos hv]
    generalize 2 ^ rs.length = T at *
    generalize hP : (fun S : Nat => cliqueB rs.length rs S) = p at *
    have hpk : ∀ S : Nat, cliqueB rs.length rs S = p S := fun S => by rw [← hP]
    have HhP := Lib.hid hP
    clear hP
    go_loopw [3, 4] (fun b i wr => (∃ m : Later W1, wr = m.w) ∧ ∃ k : Nat, 1 ≤ k ∧ k ≤ T ∧ b = .int .i64 (largestTo p k) ∧ i = .int .i64 k) (fun _ i _ => T - (intOf i).toNat)
    case atStart => exact ⟨⟨Later.refl _, rfl⟩, 1, by omega, by omega, by rw [largestTo_one]; rfl, rfl⟩
    case round =>
      obtain ⟨⟨m, rfl⟩, k, hk1, hk, rfl, rfl⟩ := hrel
      by_cases hlt : k < T
      · have hl := largestTo_le p k
        have HN : Hid (largestTo p (k + 1) = if cnt (largestTo p k) < cnt k ∧ p k = true then k else largestTo p k) := rfl
        have hn1 := cnt_le k
        have hn2 := cnt_le (largestTo p k)
        generalize hN : largestTo p (k + 1) = L' at *
        have HhN := Lib.hid hN
        clear hN
        generalize largestTo p k = L at *
        have hIS := fun m : Later W1 => specIsClique_any rs.length rs k ro rc m.w (hr.later m) hrl
        rw [hpk k] at hIS
        by_cases hc : cnt L < cnt k
        · cases hp : p k <;> simp only [hp] at hIS
          · go_wp2_with (first | (go_at_call 12; refine (Calls.later m (specIsGraph_any _ _ _ _ _ (hr.later m) hrl)).mono ?_; rintro e w' ⟨rfl, m, rfl⟩) | (go_at_call 36; refine (Calls.later m (specCount_any _ (by omega) _)).mono ?_; rintro e w' ⟨rfl, m, rfl⟩) | (go_at_call 68; refine (Calls.later m (hIS m)).mono ?_; rintro e w' ⟨rfl, m, rfl⟩))
            go_roundw
            case rel => exact ⟨⟨m, rfl⟩, k + 1, by omega, by omega, by rw [HhN.out, HN.out, if_neg (fun h => by rw [hp] at h; exact absurd h.2 (by decide))], by go_num⟩
            case measure => simp [intOf]; omega
          · go_wp2_with (first | (go_at_call 12; refine (Calls.later m (specIsGraph_any _ _ _ _ _ (hr.later m) hrl)).mono ?_; rintro e w' ⟨rfl, m, rfl⟩) | (go_at_call 36; refine (Calls.later m (specCount_any _ (by omega) _)).mono ?_; rintro e w' ⟨rfl, m, rfl⟩) | (go_at_call 68; refine (Calls.later m (hIS m)).mono ?_; rintro e w' ⟨rfl, m, rfl⟩))
            go_roundw
            case rel => exact ⟨⟨m, rfl⟩, k + 1, by omega, by omega, by rw [HhN.out, HN.out, if_pos ⟨hc, hp⟩], by go_num⟩
            case measure => simp [intOf]; omega
        · go_wp2_with (first | (go_at_call 12; refine (Calls.later m (specIsGraph_any _ _ _ _ _ (hr.later m) hrl)).mono ?_; rintro e w' ⟨rfl, m, rfl⟩) | (go_at_call 36; refine (Calls.later m (specCount_any _ (by omega) _)).mono ?_; rintro e w' ⟨rfl, m, rfl⟩))
          go_roundw
          case rel => exact ⟨⟨m, rfl⟩, k + 1, by omega, by omega, by rw [HhN.out, HN.out, if_neg (fun h => hc h.1)], by go_num⟩
          case measure => simp [intOf]; omega
      · go_wp2_with (first | (go_at_call 12; refine (Calls.later m (specIsGraph_any _ _ _ _ _ (hr.later m) hrl)).mono ?_; rintro e w' ⟨rfl, m, rfl⟩))
        go_ret
        obtain rfl : k = T := by omega
        exact ⟨retI (by rw [HhP.out, HE.out]), below_later HhB.out m⟩


set_option maxRecDepth 100000 in
set_option maxHeartbeats 1000000 in
theorem specClqN_any (n : Int) (rs : List Int) (ro : Option Addr) (rc : Nat) (w : World) (hr : IntsAt w ro rs) (hrl : rs.length ≤ 1048576) :
    Calls Try.prog 13 #[.agg #[.int .i64 n, .slice ro rs.length rc]] w fun e w' => e = .returned (.int .i64 (clqN n rs)) ∧ Below w.heap.size w w' := by
  go_enter Try.func13, Try.ntmps13
  go_wp2_with fail
  generalize hW : w.alloc _ = W1
  obtain ⟨hB, -, k0⟩ := alloc1 hW
  replace hr := hr.below hB
  have hb0 := k0.lt
  have hc0 := k0.cell 0
  have hc1 := k0.cell 1
  simp at hc0 hc1
  clear hW k0
  have HhB := Lib.hid hB
  clear hB
  obtain ⟨m, hm0⟩ : ∃ m : Later W1, m.w = W1 := ⟨Later.refl _, rfl⟩
  refine (fun h => hm0 ▸ h) ?_
  clear hm0
  have hL := fun m : Later W1 => specLargestClique_any n rs ro rc m.w (hr.later m) hrl
  cases hv : isGraphB n rs
  · have HE := Lib.hid (clqN_no hv)
    go_wp2_with (first | (go_at_call 12; refine (Calls.later m (specIsGraph_any _ _ _ _ _ (hr.later m) hrl)).mono ?_; rintro e w' ⟨rfl, m, rfl⟩))
    go_ret
    exact ⟨retI (by rw [HE.out]), below_later HhB.out m⟩
  · have HE := Lib.hid (clqN_of hv)
    obtain ⟨rfl, g⟩ := VG.of hv
    obtain ⟨hp1, hp2⟩ := g.pow
    have hlt := largestTo_lt (fun S => cliqueB rs.length rs S) (2 ^ rs.length) (by omega)
    have hV : largestV rs.length rs (fun S => cliqueB rs.length rs S) = (largestTo (fun S => cliqueB rs.length rs S) (2 ^ rs.length) : Int) := by unfold largestV; rw [if_pos hv]
    rw [hV] at hL
    clear hV
    generalize largestTo (fun S : Nat => cliqueB rs.length rs S) (2 ^ rs.length) = L at *
    go_wp2_with (first | (go_at_call 12; refine (Calls.later m (specIsGraph_any _ _ _ _ _ (hr.later m) hrl)).mono ?_; rintro e w' ⟨rfl, m, rfl⟩) | (go_at_call 38; refine (Calls.later m (hL _)).mono ?_; rintro e w' ⟨rfl, m, rfl⟩) | (go_at_call 36; refine (Calls.later m (specCount_any _ (by omega) _)).mono ?_; rintro e w' ⟨rfl, m, rfl⟩))
    go_ret
    exact ⟨retI (by rw [HE.out]), below_later HhB.out m⟩


end Go.Proofs.Ytfkehmpckhmkbaa
