/-
  copyGraph and ComplementOf of the program. For at most 2^20 rows.
  The walks of slices.Index and slices.Contains at []int. For at most 2^20 elements.
  The walks of SetOf, l2Edge, l4Distinct (the reference) and areVertices (the program): lists of different vertices. For at most 2^20 rows and list elements.
-/
import Derived.Test.YtfkehmpckhmkbaaDoorPkCardArcs08
import Derived.Test.YtfkehmpckhmkbaaDoorPkCardArcs05
import Derived.Deep.RegionHeld3
import Derived.Test.YtfkehmpckhmkbaaDoorPkCardArcs02
namespace Go.Proofs.YtfkehmpckhmkbaaDoor
open Go.RowKit

theorem RowAt.otherCell {w : World} {g cap : Nat} {xs : List Int} (h : RowAt w g cap xs) {a : Addr} {v : Value} (hne : g ≠ a.block) : RowAt (w.setCell a v) g cap xs := by
  obtain ⟨cur, hb, hr⟩ := h
  exact ⟨cur, hb.other v hne, hr⟩

/-- The row of v in the complement. -/
def complRow (rs : List Int) (v : Nat) : Nat := nDiff (nDiff (2 ^ rs.length - 1) (gn rs v)) (2 ^ v)
def compl (rs : List Int) : List Int := (List.range rs.length).map fun v : Nat => (complRow rs v : Int)
theorem compl_len (rs : List Int) : (compl rs).length = rs.length := by simp [compl]
theorem compl_at {rs : List Int} {v : Nat} (h : v < rs.length) : gi (compl rs) v = (complRow rs v : Int) := by simp [compl, gi, h]


theorem RowAt.below {w w' : World} {g cap : Nat} {xs : List Int} (h : RowAt w g cap xs) (hb : Below w.heap.size w w') : RowAt w' g cap xs := by
  obtain ⟨cur, h1, h2⟩ := h
  exact ⟨cur, h1.below hb h1.lt, h2⟩
theorem LateX.setOn {X : Nat → Prop} {W : World} (m : LateX X W) {a : Addr} (hx : X a.block) (v : Value) : ∃ m' : LateX X W, m'.w = m.w.setCell a v := ⟨⟨_, m.only.setCell (.inl hx) v⟩, rfl⟩



end Go.Proofs.YtfkehmpckhmkbaaDoor

namespace Go.Proofs.YtfkehmpckhmkbaaDoor
open Go.RowKit

theorem retIB {a a' : Int} {b b' : Bool} (h1 : a = a') (h2 : b = b') : Ending.returned (.tuple #[.int .i64 a, .bool b]) = .returned (.tuple #[.int .i64 a', .bool b']) := by rw [h1, h2]

/-- The place of v in xs. -/
def idxN (xs : List Int) (v : Int) : Option Nat := firstB (fun j => v == gi xs j) xs.length
def idxV (o : Option Nat) : Int := match o with | none => -1 | some k => k
def inB (xs : List Int) (v : Int) : Bool := (idxN xs v).isSome
theorem idxV_hit {xs : List Int} {v : Int} {k : Nat} (hk : k < xs.length) (h : ∀ j, j < k → (v == gi xs j) = false) (hv : (v == gi xs k) = true) : (k : Int) = idxV (idxN xs v) := by
  unfold idxN; rw [firstB_hit hk h hv]; rfl
theorem idxV_none {xs : List Int} {v : Int} (h : ∀ j, j < xs.length → (v == gi xs j) = false) : -1 = idxV (idxN xs v) := by
  unfold idxN; rw [firstB_none h]; rfl
theorem idxV_nonneg (o : Option Nat) : decide (0 ≤ idxV o) = o.isSome := by cases o <;> simp [idxV]
theorem idxV_bound (xs : List Int) (v : Int) : -1 ≤ idxV (idxN xs v) := by cases idxN xs v <;> simp [idxV] <;> omega
theorem inB_true {xs : List Int} {v : Int} : inB xs v = true ↔ ∃ j, j < xs.length ∧ gi xs j = v := by
  unfold inB idxN firstB
  rw [List.find?_isSome]
  simp only [List.mem_range, beq_iff_eq]
  exact ⟨fun ⟨j, h1, h2⟩ => ⟨j, h1, h2.symm⟩, fun ⟨j, h1, h2⟩ => ⟨j, h1, h2.symm⟩⟩



/-- The first i elements lie where the list lies. -/
theorem IntsAt.take {w : World} {ao : Option Addr} {xs : List Int} (h : IntsAt w ao xs) (i : Nat) : IntsAt w ao (xs.take i) := fun h0 => by
  have hl : (xs.take i).length = min i xs.length := List.length_take
  obtain ⟨b, off, h1, h2, h3⟩ := h (by omega)
  refine ⟨b, off, h1, h2, fun k hk => ?_⟩
  have hk1 : k < i := by omega
  have e : gi (xs.take i) k = gi xs k := by simp [gi, hk1]
  rw [e]; exact h3 k (by omega)
theorem gi_take {xs : List Int} {i k : Nat} (hk : k < i) : gi (xs.take i) k = gi xs k := by simp [gi, hk]

end Go.Proofs.YtfkehmpckhmkbaaDoor

namespace Go.Proofs.YtfkehmpckhmkbaaDoor
open Go.RowKit

/-! ### Lists of different vertices -/
/-- The set of the first k numbers, as the reference adds it up. -/
def setTo (l : List Int) : Nat → Nat
  | 0 => 0
  | k + 1 => setTo l k + 2 ^ (gi l k).toNat
/-- Number k is from 0 to 6 and not among those before it. -/
def diffAt (l : List Int) (k : Nat) : Bool := (decide (0 ≤ gi l k) && decide (gi l k ≤ 6)) && !(setTo l k).testBit (gi l k).toNat
def setOk (l : List Int) : Bool := decide (∀ k, k < l.length → diffAt l k = true)
def setV (l : List Int) : Int := if setOk l = true then setTo l l.length else 0
theorem setTo_bits {l : List Int} : ∀ {k : Nat}, (∀ j, j < k → diffAt l j = true) → (setTo l k < 128 ∧ ∀ v, (setTo l k).testBit v = true ↔ ∃ j, j < k ∧ (gi l j).toNat = v)
  | 0, _ => ⟨by simp [setTo], fun v => by simp [setTo]⟩
  | k + 1, h => by
    obtain ⟨h1, h2⟩ := setTo_bits (k := k) (fun j hj => h j (by omega))
    have hk := h k (by omega)
    unfold diffAt at hk
    simp only [Bool.and_eq_true, decide_eq_true_eq, Bool.not_eq_true'] at hk
    obtain ⟨⟨h3, h4⟩, h5⟩ := hk
    generalize hv : (gi l k).toNat = v at *
    have hv7 : v ≤ 6 := by omega
    have hp : 2 ^ v ≤ 2 ^ 6 := Nat.pow_le_pow_right (by decide) hv7
    have he : setTo l k + 2 ^ v = setTo l k ||| 2 ^ v := by
      have hd : setTo l k &&& 2 ^ v = 0 := by
        apply Nat.eq_of_testBit_eq; intro i
        rw [Nat.testBit_and, Nat.testBit_two_pow, Nat.zero_testBit]
        by_cases e : v = i
        · subst e; rw [h5]; rfl
        · simp [e]
      have := BitVec.add_eq_or_of_and_eq_zero (BitVec.ofNat 64 (setTo l k)) (BitVec.ofNat 64 (2 ^ v)) (by rw [← BitVec.ofNat_and, hd])
      have h2' := congrArg BitVec.toNat this
      simp only [BitVec.toNat_add, BitVec.toNat_or, BitVec.toNat_ofNat] at h2'
      rw [Nat.mod_eq_of_lt (a := setTo l k) (by omega), Nat.mod_eq_of_lt (a := 2 ^ v) (by omega), Nat.mod_eq_of_lt (by omega)] at h2'
      exact h2'
    have hs : setTo l (k + 1) = setTo l k ||| 2 ^ v := by show setTo l k + 2 ^ (gi l k).toNat = _; rw [hv, he]
    refine ⟨by rw [hs]; exact Nat.or_lt_two_pow (n := 7) h1 (by omega), fun u => ?_⟩
    rw [hs, Nat.testBit_or, Bool.or_eq_true, h2, Nat.testBit_two_pow, decide_eq_true_eq]
    constructor
    · rintro (⟨j, hj, e⟩ | e)
      · exact ⟨j, by omega, e⟩
      · exact ⟨k, by omega, by omega⟩
    · rintro ⟨j, hj, e⟩
      rcases Nat.lt_succ_iff_lt_or_eq.1 hj with hj | rfl
      · exact .inl ⟨j, hj, e⟩
      · exact .inr (by omega)
theorem setOk_bad {l : List Int} {k : Nat} (hk : k < l.length) (h : diffAt l k = false) : setOk l = false := by
  unfold setOk; rw [decide_eq_false_iff_not]; intro a; rw [a k hk] at h; cases h
theorem setV_bad {l : List Int} (h : setOk l = false) : setV l = 0 := by unfold setV; rw [h]; rfl
theorem setOk_all {l : List Int} (h : ∀ k, k < l.length → diffAt l k = true) : setOk l = true := by unfold setOk; rw [decide_eq_true_eq]; exact h
theorem setV_all {l : List Int} (h : setOk l = true) : setV l = setTo l l.length := by unfold setV; rw [if_pos h]


/-- A list of different vertices of a graph. -/
def vertsB (n : Int) (rs l : List Int) : Bool := isGraphB n rs && (setOk l && isSetB n rs (setV l))


theorem vertsB_inv {n : Int} {rs l : List Int} (h : isGraphB n rs = false) : vertsB n rs l = false := by unfold vertsB; rw [h]; rfl
/-- What it says: different vertices of a graph that is right. -/
theorem vertsB_true {n : Int} {rs l : List Int} : vertsB n rs l = true ↔ isGraphB n rs = true ∧ ∀ j, j < l.length → (0 ≤ gi l j ∧ gi l j < rs.length) ∧ ∀ i, i < j → gi l i ≠ gi l j := by
  unfold vertsB
  simp only [Bool.and_eq_true]
  constructor
  · rintro ⟨hg, hs, hi⟩
    have hs' : ∀ k, k < l.length → diffAt l k = true := by unfold setOk at hs; simpa using hs
    obtain ⟨rfl, g, S, h1, h2⟩ := isSetB_true hi
    rw [setV_all hs] at h1
    have h1' : setTo l l.length = S := by omega
    have hb := (setTo_bits hs').2
    refine ⟨hg, fun j hj => ?_⟩
    have hd := hs' j hj
    unfold diffAt at hd
    simp only [Bool.and_eq_true, decide_eq_true_eq, Bool.not_eq_true'] at hd
    obtain ⟨⟨h3, h4⟩, h5⟩ := hd
    refine ⟨⟨h3, ?_⟩, fun i hi he => ?_⟩
    · have := testBit_lt (N := rs.length) (v := (gi l j).toNat) h2 (by rw [← h1']; exact (hb _).2 ⟨j, hj, rfl⟩)
      omega
    · have hbj := (setTo_bits (k := j) (fun i hi => hs' i (by omega))).2
      rw [(hbj (gi l j).toNat).2 ⟨i, hi, by rw [he]⟩] at h5
      cases h5
  · rintro ⟨hg, ha⟩
    obtain ⟨hn, g⟩ := VG.of hg
    have h7 := g.le
    have hd : ∀ k, k < l.length → diffAt l k = true := by
      intro k
      induction k using Nat.strongRecOn with
      | ind k ih =>
        intro hk
        have hb := (setTo_bits (l := l) (k := k) (fun j hj => ih j hj (by omega))).2
        obtain ⟨⟨h3, h4⟩, h5⟩ := ha k hk
        unfold diffAt
        rw [decide_eq_true h3, decide_eq_true (by omega), Bool.true_and, Bool.true_and, Bool.not_eq_true']
        cases hc : (setTo l k).testBit (gi l k).toNat with
        | false => rfl
        | true =>
          obtain ⟨j, hj, he⟩ := (hb _).1 hc
          have := (ha j (by omega)).1
          exact absurd (by omega) (h5 j hj)
    have hs := setOk_all hd
    refine ⟨hg, hs, ?_⟩
    rw [hn, setV_all hs]
    refine isSetB_mk (by rw [← hn]; exact hg) ?_
    apply Nat.lt_pow_two_of_testBit
    intro i hi
    cases hc : (setTo l l.length).testBit i with
    | false => rfl
    | true =>
      obtain ⟨j, hj, he⟩ := ((setTo_bits hd).2 i).1 hc
      have := (ha j hj).1
      omega


/-- Whether v and w are neighbours. -/
theorem l2Edge_any (rs : List Int) (v w0 : Nat) (ro : Option Addr) (rc : Nat) (w : World) (hr : IntsAt w ro rs) (g : VG rs) (hv : v < rs.length) (hw : w0 < rs.length) :
    Calls Tryd.prog 48 #[.agg #[.int .i64 rs.length, .slice ro rs.length rc], .int .i64 v, .int .i64 w0] w fun e w' => e = .returned (.bool ((gn rs v).testBit w0)) ∧ Below w.heap.size w w' := by
  have hg2 := g.le
  have HH : Hid (hasN (gn rs v : Int) w0 = (gn rs v).testBit w0) := hasN_nat _ _
  obtain ⟨rb, rofs, rfl, hrb0, hrc0⟩ := hr.graph g
  go_enter Tryd.func48, Tryd.ntmps48
  go_wp2_with fail
  generalize hW : w.alloc _ = W1
  obtain ⟨hB, -, k0⟩ := alloc1 hW
  have hb0 := k0.lt
  have hc1 := k0.cell 1
  simp at hc1
  have hrc : ∀ k, k < rs.length → W1.cell? ⟨rb, rofs + k, none⟩ = some (.int .i64 (gn rs k : Int)) := fun k hk => (hB.cell (p := ⟨rb, rofs + k, none⟩) hrb0).trans (hrc0 k hk)
  clear hW k0 hrc0
  have HhB := Lib.hid hB
  clear hB
  go_wp2
  go_ret
  exact ⟨retB HH.out, HhB.out⟩

end Go.Proofs.YtfkehmpckhmkbaaDoor
