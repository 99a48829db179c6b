/-
  The walks of IsArcs, of the reference and of the program: both return isArcsB, for lists of at most 2^20 elements.
  The walks of l23On, contains, ArcsAt of the reference and of the program. For lists of at most 2^20 elements.
  graphOf of the program, for whatever test of two vertices: the graph of the pairs that pass. For 1 to 7 vertices.
  GraphOfArcs on both sides. For lists of at most 2^20 elements.
  CutArcs: the two lists that come of cutting a circle of arcs at a point; what a call that makes them returns; eqIntervals. For at most 2^20 elements.
  The walks of CoversCircle and FreePoint of the reference and of the program. For lists of at most 2^20 elements.
-/
import Derived.Test.YtjikmjhpmkakoaaGreatDoorPkCardHereditary01
import Derived.Test.YtjikmjhpmkakoaaGreatDoorPkCardHereditary25
import Derived.Test.YtjikmjhpmkakoaaGreatDoorPkCardHereditary21
import Derived.Laws.EntriesVeiled
import Derived.StillTailTactics
namespace Go.Proofs.YtjikmjhpmkakoaaGreatDoor
open Go.RowKit

def arcOk (c : Int) (f l : List Int) (j : Nat) : Bool := (decide (0 ≤ gi f j) && decide (gi f j ≤ wrap64 (c - 1))) && (decide (1 ≤ gi l j) && decide (gi l j ≤ wrap64 (c - 1)))

def isArcsB (c : Int) (f l : List Int) : Bool := decide (3 ≤ c ∧ c ≤ 30 ∧ 1 ≤ f.length ∧ f.length ≤ 7 ∧ l.length = f.length ∧ ∀ j, j < f.length → arcOk c f l j = true)

theorem isArcsB_bad {c : Int} {f l : List Int} {k : Nat} (h1 : k < f.length) (h : arcOk c f l k = false) : isArcsB c f l = false := by
  unfold isArcsB
  simp only [decide_eq_false_iff_not]
  rintro ⟨_, _, _, _, _, h6⟩
  rw [h6 k h1] at h
  cases h

theorem isArcsB_end {c : Int} {f l : List Int} {k : Nat} (h0 : k ≤ f.length) (h1 : ¬ (k < f.length ∧ k < l.length)) (h : ∀ j, j < k → arcOk c f l j = true) :
    isArcsB c f l = ((decide (3 ≤ c) && decide (c ≤ 30)) && (decide ((1 : Int) ≤ f.length) && decide ((f.length : Int) ≤ 7)) && ((l.length : Int) == f.length)) := by
  unfold isArcsB
  rw [Bool.eq_iff_iff]
  simp only [decide_eq_true_eq, Bool.and_eq_true, beq_iff_eq]
  constructor
  · rintro ⟨a, b, c, d, e, _⟩; omega
  · rintro ⟨⟨⟨a, b⟩, c, d⟩, e⟩; exact ⟨by omega, by omega, by omega, by omega, by omega, fun j hj => h j (by omega)⟩

theorem isArcsB_head {c : Int} {f l : List Int} (h : ((decide (3 ≤ c) && decide (c ≤ 30)) && (decide ((1 : Int) ≤ f.length) && decide ((f.length : Int) ≤ 7)) && ((l.length : Int) == f.length)) = false) : isArcsB c f l = false := by
  unfold isArcsB
  simp only [decide_eq_false_iff_not]
  rintro ⟨a, b, d, e, g, _⟩
  simp only [Bool.and_eq_false_iff, decide_eq_false_iff_not, beq_eq_false_iff_ne] at h
  omega

theorem isArcsB_all {c : Int} {f l : List Int} (h0 : 3 ≤ c) (h1 : c ≤ 30) (h2 : 1 ≤ f.length) (h3 : f.length ≤ 7) (h4 : l.length = f.length) (h : ∀ j, j < f.length → arcOk c f l j = true) : isArcsB c f l = true := by
  unfold isArcsB
  simp only [decide_eq_true_eq]
  exact ⟨h0, h1, h2, h3, h4, h⟩



end Go.Proofs.YtjikmjhpmkakoaaGreatDoor

namespace Go.Proofs.YtjikmjhpmkakoaaGreatDoor
open Go.RowKit

theorem isArcsB_true {c : Int} {f l : List Int} (h : isArcsB c f l = true) : 3 ≤ c ∧ c ≤ 30 ∧ 1 ≤ f.length ∧ f.length ≤ 7 ∧ l.length = f.length ∧
    ∀ j, j < f.length → (0 ≤ gi f j ∧ gi f j ≤ c - 1) ∧ 1 ≤ gi l j ∧ gi l j ≤ c - 1 := by
  unfold isArcsB at h
  simp only [decide_eq_true_eq] at h
  obtain ⟨a, b, d, e, g, h⟩ := h
  refine ⟨a, b, d, e, g, fun j hj => ?_⟩
  have := h j hj
  unfold arcOk at this
  rw [IntWalk.wrap64_in (c - 1) ⟨by omega, by omega⟩] at this
  simpa using this

def onB (c : Int) (f l : List Int) (i : Nat) (x : Int) : Bool := decide ((x - gi f i) % c < gi l i)
def arcsUpto (c : Int) (f l : List Int) (x : Int) : Nat → Nat
  | 0 => 0
  | k + 1 => arcsUpto c f l x k + (if onB c f l k x = true then 2 ^ k else 0)
theorem arcsUpto_lt (c : Int) (f l : List Int) (x : Int) (k : Nat) : arcsUpto c f l x k < 2 ^ k := by
  induction k with
  | zero => simp [arcsUpto]
  | succ k ih => unfold arcsUpto; split <;> omega
def arcsAtV (c : Int) (f l : List Int) (x : Int) : Int := if isArcsB c f l = true ∧ 0 ≤ x ∧ x ≤ c - 1 then (arcsUpto c f l x f.length : Int) else 0





end Go.Proofs.YtjikmjhpmkakoaaGreatDoor

namespace Go.Proofs.YtjikmjhpmkakoaaGreatDoor
open Go.RowKit

/-- Is the pair of i and j, the lesser first, one that passes? -/
def gE (p : Nat → Nat → Bool) (i j : Nat) : Bool := (decide (i < j) && p i j) || (decide (j < i) && p j i)
/-- Has the pair of i and j come up before w and v, w below v? -/
def gDone (v w i j : Nat) : Bool := decide (max i j < v ∨ (max i j = v ∧ min i j < w))
def gPart (N : Nat) (p : Nat → Nat → Bool) (v w : Nat) : List Int := rowsOf N fun i j => gE p i j && gDone v w i j
def gOf (N : Nat) (p : Nat → Nat → Bool) : List Int := rowsOf N (gE p)
theorem gPart_len (N : Nat) (p : Nat → Nat → Bool) (v w : Nat) : (gPart N p v w).length = N := rowsOf_len _ _
theorem gE_sym (p : Nat → Nat → Bool) (i j : Nat) : gE p i j = gE p j i := by unfold gE; rw [Bool.or_comm]
theorem gDone_sym (v w i j : Nat) : gDone v w i j = gDone v w j i := by unfold gDone; rw [Nat.max_comm, Nat.min_comm]
theorem gE_irr (p : Nat → Nat → Bool) (i : Nat) : gE p i i = false := by simp [gE]
theorem gPart_VG {N : Nat} {p : Nat → Nat → Bool} {v w : Nat} (h1 : 1 ≤ N) (h7 : N ≤ 7) : VG (gPart N p v w) :=
  rowsOf_VG h1 h7 (fun i _ => by rw [gE_irr]; rfl) (fun i _ j _ => by rw [gE_sym, gDone_sym])
theorem gOf_VG {N : Nat} {p : Nat → Nat → Bool} (h1 : 1 ≤ N) (h7 : N ≤ 7) : VG (gOf N p) := rowsOf_VG h1 h7 (fun i _ => gE_irr p i) (fun i _ j _ => gE_sym p i j)
theorem gOf_len (N : Nat) (p : Nat → Nat → Bool) : (gOf N p).length = N := rowsOf_len _ _
theorem gPart_zero (N : Nat) (p : Nat → Nat → Bool) : gPart N p 0 0 = List.replicate N 0 := by
  refine gi_ext (by rw [gPart_len, List.length_replicate]) fun i hi => ?_
  rw [gPart_len] at hi
  unfold gPart
  rw [rowsOf_at hi]
  have : accB (fun j => gE p i j && gDone 0 0 i j) N = 0 := by
    apply Nat.eq_of_testBit_eq
    intro j
    rw [accB_bit, Nat.zero_testBit]
    simp [gDone]
  rw [this]; simp [gi, hi]
theorem gPart_next (N : Nat) (p : Nat → Nat → Bool) (v : Nat) : gPart N p v v = gPart N p (v + 1) 0 := by
  apply rowsOf_congr
  intro i _ j _
  by_cases e : i = j
  · subst e; rw [gE_irr]; rfl
  · congr 1
    unfold gDone
    rw [Bool.eq_iff_iff]; simp only [decide_eq_true_eq]; omega
theorem gPart_end (N : Nat) (p : Nat → Nat → Bool) : gPart N p N 0 = gOf N p := by
  apply rowsOf_congr
  intro i hi j hj
  unfold gDone
  rw [decide_eq_true (by omega), Bool.and_true]
theorem gPart_no {N : Nat} {p : Nat → Nat → Bool} {v w : Nat} (hw : w < v) (h : p w v = false) : gPart N p v (w + 1) = gPart N p v w := by
  apply rowsOf_congr
  intro i _ j _
  by_cases e : (i = w ∧ j = v) ∨ (i = v ∧ j = w)
  · have : gE p i j = false := by
      rcases e with ⟨rfl, rfl⟩ | ⟨rfl, rfl⟩
      · unfold gE; rw [h, decide_eq_false (by omega : ¬ j < i)]; simp
      · unfold gE; rw [h, decide_eq_false (by omega : ¬ i < j)]; simp
    rw [this]; rfl
  · congr 1
    unfold gDone
    rw [Bool.eq_iff_iff]; simp only [decide_eq_true_eq]; omega
theorem gPart_yes {N : Nat} {p : Nat → Nat → Bool} {v w : Nat} (hw : w < v) (h : p w v = true) : gPart N p v (w + 1) = addE (gPart N p v w) w v := by
  unfold addE
  rw [gPart_len]
  apply rowsOf_congr
  intro i hi j hj
  rw [show eb (gPart N p v w) i j = _ from eb_rowsOf hi hj]
  by_cases e : (i = w ∧ j = v) ∨ (i = v ∧ j = w)
  · have h1 : isE w v i j = true := isE_true.2 e
    have h2 : gE p i j = true := by
      rcases e with ⟨rfl, rfl⟩ | ⟨rfl, rfl⟩
      · unfold gE; rw [h, decide_eq_true hw]; rfl
      · unfold gE; rw [h, decide_eq_true hw]; simp
    have h3 : gDone v (w + 1) i j = true := by unfold gDone; rw [decide_eq_true_eq]; omega
    rw [h1, h2, h3]; simp
  · have h1 : isE w v i j = false := by rw [Bool.eq_false_iff]; exact fun h => e (isE_true.1 h)
    rw [h1, Bool.or_false]
    congr 1
    unfold gDone
    rw [Bool.eq_iff_iff]; simp only [decide_eq_true_eq]; omega
theorem gPart_miss {N : Nat} {p : Nat → Nat → Bool} {v w : Nat} (hw : w < v) (hv : v < N) : eb (gPart N p v w) w v = false := by
  rw [show eb (gPart N p v w) w v = _ from eb_rowsOf (by omega) hv]
  unfold gDone
  rw [decide_eq_false (by omega), Bool.and_false]

/-- A function value that tells of two vertices whether the pair passes. -/
def PredOf (K : Nat) (caps : Array Value) (W : World) (N : Nat) (p : Nat → Nat → Bool) : Prop :=
  ∀ (v w : Nat) (w0 : World), w < v → v < N → Below W.heap.size W w0 → Calls Tryz.prog K (#[.int .i64 w, .int .i64 v] ++ caps) w0 fun e w' => e = .returned (.bool (p w v)) ∧ Below w0.heap.size w0 w'


end Go.Proofs.YtjikmjhpmkakoaaGreatDoor

namespace Go.Proofs.YtjikmjhpmkakoaaGreatDoor
open Go.RowKit

theorem addE_comm (rs : List Int) (v w : Nat) : addE rs v w = addE rs w v := by
  unfold addE
  apply rowsOf_congr
  intro i _ j _
  congr 1
  unfold isE; rw [Bool.or_comm]
/-- Do two arcs meet? -/
def arcP (c : Int) (f l : List Int) (i j : Nat) : Bool := onB c f l j (gi f i) || onB c f l i (gi f j)
def arcG (c : Int) (f l : List Int) : List Int := gOf f.length (arcP c f l)






end Go.Proofs.YtjikmjhpmkakoaaGreatDoor

namespace Go.Proofs.YtjikmjhpmkakoaaGreatDoor
open Go.RowKit

def cutT (c : Int) (f : List Int) (x : Int) (i : Nat) : Int := (gi f i - x) % c
def cutLs (c : Int) (f : List Int) (x : Int) (k : Nat) : List Int := (List.range k).map (cutT c f x)
def cutRs (c : Int) (f l : List Int) (x : Int) (k : Nat) : List Int := (List.range k).map fun i => cutT c f x i + gi l i - 1
theorem cutLs_succ (c : Int) (f : List Int) (x : Int) (k : Nat) : cutLs c f x (k + 1) = cutLs c f x k ++ [cutT c f x k] := by simp [cutLs, List.range_succ]
theorem cutRs_succ (c : Int) (f l : List Int) (x : Int) (k : Nat) : cutRs c f l x (k + 1) = cutRs c f l x k ++ [cutT c f x k + gi l k - 1] := by simp [cutRs, List.range_succ]
theorem cutLs_len (c : Int) (f : List Int) (x : Int) (k : Nat) : (cutLs c f x k).length = k := by simp [cutLs]
theorem cutRs_len (c : Int) (f l : List Int) (x : Int) (k : Nat) : (cutRs c f l x k).length = k := by simp [cutRs]
theorem cutT_lo (c : Int) (f : List Int) (x : Int) (k : Nat) (h : 0 < c) : 0 ≤ cutT c f x k ∧ cutT c f x k < c := ⟨Int.emod_nonneg _ (by omega), Int.emod_lt_of_pos _ h⟩
def cutOk (c : Int) (f l : List Int) (x : Int) : Bool := isArcsB c f l && ((decide (0 ≤ x) && decide (x ≤ c - 1)) && (arcsAtV c f l x == 0))
def cutLV (c : Int) (f l : List Int) (x : Int) : List Int := if cutOk c f l x = true then cutLs c f x f.length else []
def cutRV (c : Int) (f l : List Int) (x : Int) : List Int := if cutOk c f l x = true then cutRs c f l x f.length else []
theorem cutV_len (c : Int) (f l : List Int) (x : Int) : (cutLV c f l x).length ≤ 1048576 ∧ (cutRV c f l x).length ≤ 1048576 := by
  unfold cutLV cutRV
  by_cases h : cutOk c f l x = true
  · rw [if_pos h, if_pos h, cutLs_len, cutRs_len]
    unfold cutOk at h
    rw [Bool.and_eq_true] at h
    have := (isArcsB_true h.1).2.2.2.1
    omega
  · rw [if_neg h, if_neg h]; simp
theorem cutOk_no {c : Int} {f l : List Int} {x : Int} (h : isArcsB c f l = false) : cutOk c f l x = false := by unfold cutOk; rw [h]; rfl
theorem cutOk_out {c : Int} {f l : List Int} {x : Int} (h : (decide (0 ≤ x) && decide (x ≤ c - 1)) = false) : cutOk c f l x = false := by unfold cutOk; rw [h]; simp
theorem cutOk_hit {c : Int} {f l : List Int} {x : Int} (h : ¬arcsAtV c f l x = 0) : cutOk c f l x = false := by unfold cutOk; rw [beq_false_of_ne h]; simp
theorem cutOk_yes {c : Int} {f l : List Int} {x : Int} (h : isArcsB c f l = true) (h1 : (decide (0 ≤ x) && decide (x ≤ c - 1)) = true) (h2 : arcsAtV c f l x = 0) : cutOk c f l x = true := by unfold cutOk; rw [h, h1, h2]; rfl

/-- What a call that makes intervals returns. -/
def RetIv (w : World) (R R2 : List Int) (ok : Bool) (e : Ending) (w' : World) : Prop :=
  ∃ ao bo c d, e = .returned (.tuple #[.agg #[.slice ao R.length c, .slice bo R2.length d], .bool ok]) ∧ Below w.heap.size w w' ∧ OwnE w' w.heap.size ao c R ∧ OwnE w' w.heap.size bo d R2 ∧ ∀ b, XR ao R b → ¬XR bo R2 b
theorem RetIv.no {c : Int} {f l : List Int} {x : Int} (h : cutOk c f l x = false) {w w' : World} {e : Ending} (he : e = .returned (.tuple #[.agg #[.slice none 0 0, .slice none 0 0], .bool false])) (hB : Below w.heap.size w w') :
    RetIv w (cutLV c f l x) (cutRV c f l x) (cutOk c f l x) e w' := by
  unfold cutLV cutRV
  rw [h]
  exact ⟨none, none, 0, 0, he, hB, .inl (OwnL.nil _ _), .inl (OwnL.nil _ _), fun b h => absurd h.1 (by simp)⟩
theorem RetIv.yes {c : Int} {f l : List Int} {x : Int} (h : cutOk c f l x = true) {w w' : World} {e : Ending} {base : Nat} {v1 v2 : Value} (he : e = .returned (.tuple #[.agg #[v1, v2], .bool true])) (hB : Below w.heap.size w w')
    (ht : TwoL w' base v1 v2 (cutLs c f x f.length) (cutRs c f l x f.length)) (hb : w.heap.size ≤ base) : RetIv w (cutLV c f l x) (cutRV c f l x) (cutOk c f l x) e w' := by
  unfold cutLV cutRV
  rw [h, if_pos rfl, if_pos rfl]
  obtain ⟨ao, bo, p, q, rfl, rfl, h1, h2, h3⟩ := ht.parts
  exact ⟨ao, bo, p, q, he, hB, h1.mono' hb, h2.mono' hb, h3⟩


end Go.Proofs.YtjikmjhpmkakoaaGreatDoor

namespace Go.Proofs.YtjikmjhpmkakoaaGreatDoor
open Go.RowKit

def notCov (c : Int) (f l : List Int) (s : Int) (x : Nat) : Bool := bits .and .i64 (arcsAtV c f l x) s == 0
def coversB (c : Int) (f l : List Int) (s : Int) : Bool := decide (isArcsB c f l = true ∧ 0 ≤ s ∧ s < pwN f.length ∧ ∀ x, x < c.toNat → notCov c f l s x = false)
theorem coversB_inv {c : Int} {f l : List Int} {s : Int} (h : isArcsB c f l = false) : coversB c f l s = false := by
  unfold coversB; simp only [decide_eq_false_iff_not]; rintro ⟨a, _⟩; rw [h] at a; cases a
theorem coversB_hit {c : Int} {f l : List Int} {s : Int} {k : Nat} (hk : (k : Int) < c) (h : notCov c f l s k = true) : coversB c f l s = false := by
  unfold coversB; simp only [decide_eq_false_iff_not]; rintro ⟨_, _, _, a⟩; rw [a k (by omega)] at h; cases h
theorem coversB_all {c : Int} {f l : List Int} {s : Int} (h : isArcsB c f l = true) (ha : ∀ x, x < c.toNat → notCov c f l s x = false) : coversB c f l s = (decide (0 ≤ s) && decide (s < pwN f.length)) := by
  unfold coversB; rw [Bool.eq_iff_iff]; simp only [decide_eq_true_eq, Bool.and_eq_true]
  exact ⟨fun ⟨_, b, d, _⟩ => ⟨b, d⟩, fun ⟨b, d⟩ => ⟨h, b, d, ha⟩⟩
theorem coversB_out {c : Int} {f l : List Int} {s : Int} (h : (decide (0 ≤ s) && decide (s ≤ pwN f.length - 1)) = false) : coversB c f l s = false := by
  unfold coversB; simp only [decide_eq_false_iff_not]; rintro ⟨_, a, b, _⟩; simp only [Bool.and_eq_false_iff, decide_eq_false_iff_not] at h; omega
theorem coversB_in {c : Int} {f l : List Int} {s : Int} (h : isArcsB c f l = true) (hs : (decide (0 ≤ s) && decide (s ≤ pwN f.length - 1)) = true) (ha : ∀ x, x < c.toNat → notCov c f l s x = false) : coversB c f l s = true := by
  rw [coversB_all h ha]; simp only [Bool.and_eq_true, decide_eq_true_eq] at *; omega



/-- What FreePoint returns. -/
def freePt (c : Int) (f l : List Int) : Option Nat := if isArcsB c f l = true then firstB (fun x => arcsAtV c f l x == 0) c.toNat else none
def freeN (o : Option Nat) : Int := (o.getD 0 : Nat)
theorem freePt_inv {c : Int} {f l : List Int} (h : isArcsB c f l = false) : freePt c f l = none := by unfold freePt; rw [h]; rfl
theorem freePt_hit {c : Int} {f l : List Int} {k : Nat} (h : isArcsB c f l = true) (hk : (k : Int) < c) (hb : ∀ x, x < k → (arcsAtV c f l x == 0) = false) (hh : (arcsAtV c f l k == 0) = true) : freePt c f l = some k := by
  unfold freePt; rw [if_pos h]; exact firstB_hit (by omega) hb hh
theorem freePt_none {c : Int} {f l : List Int} {k : Nat} (h : isArcsB c f l = true) (hk : c ≤ (k : Int)) (hb : ∀ x, x < k → (arcsAtV c f l x == 0) = false) : freePt c f l = none := by
  unfold freePt; rw [if_pos h]; exact firstB_none (fun j hj => hb j (by omega))
/-- Whether there is one. -/
def freeIs (o : Option Nat) : Bool := o.isSome
theorem ret_none {o : Option Nat} (h : o = none) : Ending.returned (.tuple #[.int .i64 0, .bool false]) = .returned (.tuple #[.int .i64 (freeN o), .bool (freeIs o)]) := by subst h; rfl
theorem ret_some {o : Option Nat} {k : Nat} (h : o = some k) : Ending.returned (.tuple #[.int .i64 k, .bool true]) = .returned (.tuple #[.int .i64 (freeN o), .bool (freeIs o)]) := by subst h; rfl



end Go.Proofs.YtjikmjhpmkakoaaGreatDoor
