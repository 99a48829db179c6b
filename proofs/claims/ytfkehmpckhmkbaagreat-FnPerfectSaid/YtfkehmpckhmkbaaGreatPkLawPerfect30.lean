/-
  The walk of IsSimple of the program. For at most 2^20 rows.
  slices.IndexFunc and SimpleOrder of the program. For at most 2^20 rows.
  Lists of slices ([][]int) that a call itself makes and appends to.
  The walks of IsOrder and CutOf on both sides, l27Front of the reference. For at most 2^20 rows and list elements.
  EdgesOf of the program on a graph. For at most 7 rows.
  The walks of IsWay on both sides. For at most 2^20 rows and list elements; the program's wants that the list's capacity is at least its length.
  BandOf of the reference. For at most 2^20 rows.
  Plain laws of searches through all lists of different numbers: what a visitor that never stops has seen; the first best list. No conditions.
-/
import Derived.Test.YtfkehmpckhmkbaaGreatPkLawPerfect18
import Derived.Test.YtfkehmpckhmkbaaGreatPkLawPerfect04
import Derived.Deep.RegionHeld3
import Derived.Test.YtfkehmpckhmkbaaGreatPkLawPerfect01
import Derived.Deep.RegionLaw
import Derived.Laws.EntriesVeiled
import Derived.Test.YtfkehmpckhmkbaaGreatPkLawPerfect03
import Derived.Test.YtfkehmpckhmkbaaGreatPkLawPerfect22
import Derived.Test.YtfkehmpckhmkbaaGreatPkLawPerfect06
import Derived.Test.YtfkehmpckhmkbaaGreatPkLawPerfect14
namespace Go.Proofs.YtfkehmpckhmkbaaGreat
open Go.RowKit

theorem OwnE.room {w : World} {base cap : Nat} {ao : Option Addr} {xs : List Int} (h : OwnE w base ao cap xs) : xs.length ≤ cap := by
  rcases h with ⟨hl, ⟨h1, h2⟩ | ⟨g, cp, cur, hv, hg, hb, hn, hm, hsz, ht⟩⟩ | ⟨rfl, -, -⟩
  · omega
  · simp only [Value.slice.injEq] at hv
    omega
  · simp

theorem wpList_later_drew2 {W : World} {P : Program} {ops : Array Oper} {Q : Exit → Act → World → Prop} {rest : List Oper} {a : Act} (m : Later W) (h : ∀ m' : Later W, Below m.w.heap.size m.w m'.w → wpList P ops Q rest a m'.w) : wpList P ops Q rest a m.w.drew :=
  h ⟨m.w.drew, m.below.drew⟩ (Below.refl _ _).drew

/-- The closed hoods of the first k vertices of a list. -/
def hoodsTo (rs : List Int) (S : Nat) (l : List Nat) (k : Nat) : List Int := (l.take k).map fun u => (hood rs S u : Int)
theorem hoodsTo_succ {rs : List Int} {S k : Nat} {l : List Nat} (hk : k < l.length) : hoodsTo rs S l (k + 1) = hoodsTo rs S l k ++ [(hood rs S (eln l k) : Int)] := by
  unfold hoodsTo; rw [take_eln hk, List.map_append]; rfl
theorem hoodsTo_len {rs : List Int} {S k : Nat} {l : List Nat} (hk : k ≤ l.length) : (hoodsTo rs S l k).length = k := by
  unfold hoodsTo; rw [List.length_map, List.length_take]; omega
theorem hoodsTo_at {rs : List Int} {S k n : Nat} {l : List Nat} (hk : k < n) (hn : n ≤ l.length) : gi (hoodsTo rs S l n) k = (hood rs S (eln l k) : Int) := by
  have h : k < l.length := by omega
  simp [hoodsTo, gi, eln, hk, h]
theorem nest_diff (a b : Nat) (b1 b2 : Bool) (h1 : ((nDiff a b : Int) != 0) = b1) (h2 : ((nDiff b a : Int) != 0) = b2) : nestB a b = !(b1 && b2) := by
  have e : ∀ x y : Nat, nDiff x y = 0 ↔ x &&& y = x := fun x y => by
    unfold nDiff
    constructor
    · intro h
      apply Nat.eq_of_testBit_eq
      intro i
      have := congrArg (fun z => z.testBit i) h
      simp only [Nat.testBit_xor, Nat.zero_testBit, bne_eq_false_iff_eq] at this
      exact this.symm
    · intro h
      rw [h, Nat.xor_self]
  have e1 := e a b
  have e2 := e b a
  rw [Nat.and_comm] at e2
  rw [← h1, ← h2]
  unfold nestB
  rw [Bool.eq_iff_iff, decide_eq_true_eq]
  simp only [Bool.not_eq_true', Bool.and_eq_false_iff, bne_eq_false_iff_eq]
  omega


end Go.Proofs.YtfkehmpckhmkbaaGreat

namespace Go.Proofs.YtfkehmpckhmkbaaGreat
open Go.RowKit

theorem idxV_first {p : Nat → Bool} {n k : Nat} (hk : k < n) (h : ∀ j, j < k → p j = false) (hp : p k = true) : (k : Int) = idxV (firstB p n) := by rw [firstB_hit hk h hp]; rfl
theorem idxV_never {p : Nat → Bool} {n : Nat} (h : ∀ j, j < n → p j = false) : -1 = idxV (firstB p n) := by rw [firstB_none h]; rfl


/-- The first place of a list that passes. -/
theorem find_first (p : Nat → Bool) (l : List Nat) : (firstB (fun j => p (eln l j)) l.length = none ∧ l.find? p = none) ∨ ∃ j, j < l.length ∧ firstB (fun j => p (eln l j)) l.length = some j ∧ l.find? p = some (eln l j) := by
  rcases h : firstB (fun j => p (eln l j)) l.length with _ | j
  · refine .inl ⟨rfl, ?_⟩
    rw [List.find?_eq_none]
    intro x hx
    obtain ⟨i, hi, rfl⟩ := List.mem_iff_getElem.1 hx
    unfold firstB at h
    rw [List.find?_eq_none] at h
    have := h i (by simpa using hi)
    simpa [eln, hi] using this
  · refine .inr ⟨j, ?_⟩
    unfold firstB at h
    rw [List.find?_range_eq_some] at h
    obtain ⟨h1, h2, h3⟩ := h
    have hj : j < l.length := by simpa using h2
    refine ⟨hj, rfl, ?_⟩
    rw [List.find?_eq_some_iff_getElem]
    refine ⟨h1, j, hj, by simp [eln, hj], fun i hi => ?_⟩
    have := h3 i hi
    have hil : i < l.length := by omega
    simpa [eln, hil] using this
theorem least_els {rs : List Int} {S : Nat} (g : VG rs) (hS : S < 2 ^ rs.length) : leastB rs S = (els S).find? fun v : Nat => simpleB rs.length rs v S := by
  rw [els_eq hS g.le]
  unfold leastB firstB elsTo
  rw [List.find?_filter]
  congr 1
  funext v
  cases h : simpleB rs.length rs v S
  · simp
  · simp [(simple_left h).1]
theorem nDiff_pow {S v : Nat} (h : S < 9223372036854775808) (hv : S.testBit v = true) : nDiff S (2 ^ v) = S - 2 ^ v := by
  have h1 := nDiff_add (b := 2 ^ v) h
  have h2 : 2 ^ v &&& S = 2 ^ v := by
    apply Nat.eq_of_testBit_eq
    intro i
    rw [Nat.testBit_and, Nat.testBit_two_pow]
    by_cases e : v = i
    · subst e; simp [hv]
    · simp [e]
  rw [h2] at h1
  omega
theorem OwnE.setB' {w : World} {base cap : Nat} {ao : Option Addr} {xs : List Int} (h : OwnE w base ao cap xs) {a : Addr} (ha : a.block < base) (u : Value) : OwnE (w.setCell a u) base ao cap xs :=
  h.imp (fun h => ownsRow_setCell_below h ha u) id
/-- The number in the variable of block b. -/
def cellN (w : World) (b : Nat) : Nat := match w.cell? ⟨b, 0, none⟩ with | some v => (intOf v).toNat | none => 0
theorem cellN_blk {w : World} {b x : Nat} {T : TypeId} (h : Blk w b #[.int .i64 x] T) : cellN w b = x := by
  have := h.cell 0
  simp at this
  simp [cellN, this, intOf]


end Go.Proofs.YtfkehmpckhmkbaaGreat

namespace Go.Proofs.YtfkehmpckhmkbaaGreat
open Go.RowKit

theorem info_row : (Tryz.prog.info? 24).map (fun i => (i.zero, i.size, i.bytes)) = some (some (.slice none 0 0), 1, 24) := by kernel_rfl

/-- The slice value v owns the slices xs in a row of the call's own, from block 'base' on. -/
def OwnV (w : World) (base : Nat) (v : Value) (xs : List Value) : Prop := w.ownsRow base 24 1 v xs.length xs

theorem OwnV.cells {w : World} {base n cap : Nat} {ao : Option Addr} {xs : List Value} (h : OwnV w base (.slice ao n cap) xs) (h0 : 0 < xs.length) : ∃ g, ao = some ⟨g, 0, none⟩ ∧ base ≤ g ∧ g < w.heap.size ∧ ∀ k u, xs[k]? = some u → w.cell? ⟨g, k, none⟩ = some u := by
  obtain ⟨hl, h1 | ⟨g, cp, cur, hv, hg, hb, hn, hm, hsz, ht⟩⟩ := h
  · omega
  · simp only [Value.slice.injEq] at hv
    obtain ⟨rfl, -, -⟩ := hv
    refine ⟨g, rfl, hg, (Array.getElem?_eq_some_iff.1 hb).1, fun k u hk => ?_⟩
    obtain ⟨hkl, -⟩ := List.getElem?_eq_some_iff.1 hk
    have : cur[k]? = some u := by
      have e : (cur.toList.take (xs.length * 1))[k]? = xs[k]? := by rw [ht]
      rw [List.getElem?_take, if_pos (by omega), Array.getElem?_toList] at e
      rw [e]; exact hk
    simp only [World.cell?, hb]
    simpa using this

theorem OwnV.form {w : World} {base : Nat} {v : Value} {xs : List Value} (h : OwnV w base v xs) : ∃ ao cap, v = .slice ao xs.length cap := by
  obtain ⟨hl, ⟨h1, h2⟩ | ⟨g, cp, cur, hv, -⟩⟩ := h
  · exact ⟨none, 0, by rw [h1, h2]⟩
  · exact ⟨_, _, hv⟩

theorem OwnV.alloc {w : World} {base : Nat} {v : Value} {xs : List Value} (h : OwnV w base v xs) (o : Obj) : OwnV (w.alloc o) base v xs := World.ownsRow.alloc h o

theorem OwnV.below {w w' : World} {base : Nat} {v : Value} {xs : List Value} (h : OwnV w base v xs) (hb : Below w.heap.size w w') : OwnV w' base v xs := by
  obtain ⟨h0, h1 | ⟨g, cap, cur, hv, hg, hh, r⟩⟩ := h
  · exact ⟨h0, .inl h1⟩
  · exact ⟨h0, .inr ⟨g, cap, cur, hv, hg, by rw [hb.block g (Array.getElem?_eq_some_iff.1 hh).1]; exact hh, r⟩⟩

/-- '[][]int{}' -/
theorem OwnV.empty (w : World) : OwnV (w.alloc (.cells #[] 24)) w.heap.size (.slice (some ⟨w.heap.size, 0, none⟩) 0 0) [] :=
  ⟨by simp, .inr ⟨w.heap.size, 0, #[], rfl, Nat.le_refl _, by show (w.heap.push _)[w.heap.size]? = _; simp, Nat.le_refl _, by simp, by simp, by simp⟩⟩

theorem OwnV.own {w : World} {base : Nat} {v : Value} {xs : List Value} (h : OwnV w base v xs) : ∀ k, v.ownBlock = some k → base ≤ k := by
  intro k hk
  obtain ⟨hl, ⟨h1, h2⟩ | ⟨g, cp, cur, hv, hg, -⟩⟩ := h
  · rw [h1] at hk; cases hk
  · rw [hv] at hk
    simp only [Value.ownBlock, Option.some.injEq] at hk
    omega

/-- 'out = append(out, y)', out the call's own, y a slice. -/
theorem wpList_append_row {ops : Array Oper} {rest : List Oper} {o : Oper} {a : Act} {Q : Exit → Act → World → Prop} {w : World} (hgd : o.guard = none) (s x : Operand)
    (ho : o.op = .call { callee := .builtin .append, args := #[s, x], argTypes := #[70, 70] })
    (base : Nat) (v : Value) (xs : List Value) (y : Value) (hy : y.oneCell' = true) (hs : a.eval s = v) (hown : OwnV w base v xs) (hx : a.eval x = .slice (some ⟨w.heap.size, 0, none⟩) 1 1) (hbase : base ≤ w.heap.size) (hlen : xs.length ≤ 1048576)
    (h : ∀ ao cap w', OwnV w' base (.slice ao (xs.length + 1) cap) (xs ++ [y]) → Below base w w' → (w.alloc (.cells #[y] 24)).grownBy w' v.ownBlock → wpList Tryz.prog ops Q rest (a.put o.dst (.slice ao (xs.length + 1) cap)) w') :
    wpList Tryz.prog ops Q (o :: rest) a (w.alloc (.cells #[y] 24)) := by
  obtain ⟨i0, hi, hz0, hz1, hz2⟩ := info_parts info_row
  refine wpList_append_own (w.alloc (.cells #[y] 24)) hgd s x 70 ho base 24 i0 (.slice none 0 0) 1 24 Tryz.underlying70 hi hz0 hz1 hz2 rfl (by decide) v xs.length xs hs (hown.alloc _)
    ⟨w.heap.size, 0, none⟩ 1 1 [y] hx rfl ?_ ?_ (by unfold maxLen; omega) (by omega) (by simp; omega) ?_
  · intro j u hj
    match j, hj with
    | 0, hj => simp at hj; subst hj; simp [Addr.add]
  · intro u hu; simp at hu; subst hu; exact hy
  · intro v' w' h1 h2 _
    have h3 : OwnV w' base v' (xs ++ [y]) := by unfold OwnV; simpa using h1
    obtain ⟨ao, cap, rfl⟩ := h3.form
    have e : (xs ++ [y]).length = xs.length + 1 := by simp
    rw [e] at h3 ⊢
    refine h ao cap w' h3 ?_ ?_
    · have hb : Below base w (w.alloc (.cells #[y] 24)) := (Below.refl _ _).alloc hbase _
      exact hb.grown h2 (by simp; omega) hown.own
    · exact h2

end Go.Proofs.YtfkehmpckhmkbaaGreat

namespace Go.Proofs.YtfkehmpckhmkbaaGreat
open Go.RowKit

/-! ### IsOrder -/
def orderB (n : Int) (rs l : List Int) : Bool := vertsB n rs l && ((l.length : Int) == n)
theorem orderB_no {n : Int} {rs l : List Int} (h : vertsB n rs l = false) : orderB n rs l = false := by unfold orderB; rw [h]; rfl
theorem orderB_of {n : Int} {rs l : List Int} (h : vertsB n rs l = true) : orderB n rs l = ((l.length : Int) == n) := by unfold orderB; rw [h]; rfl
theorem orderB_true {n : Int} {rs l : List Int} (h : orderB n rs l = true) : vertsB n rs l = true ∧ n = rs.length ∧ VG rs ∧ l.length = rs.length := by
  unfold orderB at h
  simp only [Bool.and_eq_true, beq_iff_eq] at h
  obtain ⟨hn, g⟩ := VG.of (vertsB_true.1 h.1).1
  exact ⟨h.1, hn, g, by omega⟩



/-- Vertex k of a list of different vertices. -/
theorem vert_new {n : Int} {rs l : List Int} (h : vertsB n rs l = true) {k : Nat} (hk : k < l.length) :
    ∃ v : Nat, gi l k = v ∧ v < rs.length ∧ setTo l (k + 1) = setTo l k + 2 ^ v ∧ setTo l (k + 1) = setTo l k ||| 2 ^ v := by
  have hv := h
  unfold vertsB at hv
  simp only [Bool.and_eq_true] at hv
  obtain ⟨hg, hs, -⟩ := hv
  have hd : ∀ j, j < l.length → diffAt l j = true := by unfold setOk at hs; simpa using hs
  obtain ⟨h1, h2⟩ := ((vertsB_true.1 h).2 k hk).1
  refine ⟨(gi l k).toNat, by omega, by omega, rfl, ?_⟩
  apply Nat.eq_of_testBit_eq; intro i
  rw [Bool.eq_iff_iff, (setTo_bits (fun j hj => hd j (by omega))).2, Nat.testBit_or, Bool.or_eq_true, (setTo_bits (fun j hj => hd j (by omega))).2, Nat.testBit_two_pow, decide_eq_true_eq]
  constructor
  · rintro ⟨j, hj, e⟩
    rcases Nat.lt_succ_iff_lt_or_eq.1 hj with hj | rfl
    · exact .inl ⟨j, hj, e⟩
    · exact .inr (by omega)
  · rintro (⟨j, hj, e⟩ | e)
    · exact ⟨j, by omega, e⟩
    · exact ⟨k, by omega, by omega⟩
theorem setTo_lt {n : Int} {rs l : List Int} (h : vertsB n rs l = true) : ∀ k, k ≤ l.length → setTo l k < 2 ^ rs.length
  | 0, _ => Nat.two_pow_pos _
  | k + 1, hk => by
    obtain ⟨v, -, hv, -, e⟩ := vert_new h (k := k) (by omega)
    rw [e]
    exact Nat.or_lt_two_pow (setTo_lt h k (by omega)) (Nat.pow_lt_pow_right (by decide) hv)

/-! ### The front of a set: its vertices with an edge out of it -/
def outOf (rs : List Int) (S v : Nat) : Bool := decide (gn rs v &&& S ≠ gn rs v)
def frontTo (rs : List Int) (S k : Nat) : Nat := (elsTo S k).countP (outOf rs S)
def frontN (rs : List Int) (S : Nat) : Nat := (els S).countP (outOf rs S)
theorem frontTo_no {rs : List Int} {S k : Nat} (h : S.testBit k = false) : frontTo rs S (k + 1) = frontTo rs S k := by unfold frontTo; rw [elsTo_no h]
theorem frontTo_yes {rs : List Int} {S k : Nat} (h : S.testBit k = true) (b : Bool) (hb : outOf rs S k = b) : frontTo rs S (k + 1) = frontTo rs S k + (if b then 1 else 0) := by
  unfold frontTo; rw [elsTo_yes h, List.countP_append, List.countP_singleton, hb]
theorem frontTo_le (rs : List Int) (S k : Nat) : frontTo rs S k ≤ k := by
  unfold frontTo; exact Nat.le_trans List.countP_le_length (Nat.le_trans (List.length_filter_le _ _) (by simp))


/-! ### CutOf -/
def cutTo (rs l : List Int) : Nat → Nat
  | 0 => 0
  | k + 1 => if cutTo rs l k < frontN rs (setTo l (k + 1)) then frontN rs (setTo l (k + 1)) else cutTo rs l k
def cutV (n : Int) (rs l : List Int) : Int := if orderB n rs l = true then cutTo rs l l.length else -1
theorem cutV_no {n : Int} {rs l : List Int} (h : orderB n rs l = false) : cutV n rs l = -1 := by unfold cutV; rw [h]; rfl
theorem cutV_of {n : Int} {rs l : List Int} (h : orderB n rs l = true) : cutV n rs l = cutTo rs l l.length := by unfold cutV; rw [if_pos h]
theorem frontN_le (rs : List Int) (S : Nat) : frontN rs S ≤ 7 := Nat.le_trans List.countP_le_length (els_len S)
theorem cutTo_le (rs l : List Int) (k : Nat) : cutTo rs l k ≤ 7 := by
  induction k with
  | zero => simp [cutTo]
  | succ k ih => unfold cutTo; have := frontN_le rs (setTo l (k + 1)); split <;> omega
theorem cutTo_more {rs l : List Int} {k : Nat} (h : cutTo rs l k < frontN rs (setTo l (k + 1))) : cutTo rs l (k + 1) = frontN rs (setTo l (k + 1)) := by rw [show cutTo rs l (k + 1) = if cutTo rs l k < frontN rs (setTo l (k + 1)) then frontN rs (setTo l (k + 1)) else cutTo rs l k from rfl, if_pos h]
theorem cutTo_same {rs l : List Int} {k : Nat} (h : ¬cutTo rs l k < frontN rs (setTo l (k + 1))) : cutTo rs l (k + 1) = cutTo rs l k := by rw [show cutTo rs l (k + 1) = if cutTo rs l k < frontN rs (setTo l (k + 1)) then frontN rs (setTo l (k + 1)) else cutTo rs l k from rfl, if_neg h]


theorem take_len {l : List Nat} {k : Nat} (h : k = l.length) : l.take k = l := by rw [h, List.take_length]


end Go.Proofs.YtfkehmpckhmkbaaGreat

namespace Go.Proofs.YtfkehmpckhmkbaaGreat
open Go.RowKit

/-- The edges from i to the c vertices behind i. -/
def edgesIn (rs : List Int) (i : Nat) : Nat → List (Nat × Nat)
  | 0 => []
  | c + 1 => edgesIn rs i c ++ (if (gn rs i).testBit (i + 1 + c) = true then [(i, i + 1 + c)] else [])
def edgesTo (rs : List Int) : Nat → List (Nat × Nat)
  | 0 => []
  | i + 1 => edgesTo rs i ++ edgesIn rs i (rs.length - (i + 1))
theorem edgesIn_len (rs : List Int) (i : Nat) : ∀ c, (edgesIn rs i c).length ≤ c
  | 0 => by simp [edgesIn]
  | c + 1 => by
    have := edgesIn_len rs i c
    unfold edgesIn
    rw [List.length_append]
    split <;> simp <;> omega
theorem edgesTo_len (rs : List Int) : ∀ i, (edgesTo rs i).length ≤ i * rs.length
  | 0 => by simp [edgesTo]
  | i + 1 => by
    have h1 := edgesTo_len rs i
    have h2 := edgesIn_len rs i (rs.length - (i + 1))
    unfold edgesTo
    rw [List.length_append, Nat.succ_mul]
    omega

/-- The slices xs read as the pairs es. -/
def ValsOf (w : World) (xs : List Value) (es : List (Nat × Nat)) : Prop :=
  xs.length = es.length ∧ ∀ (k : Nat) (e : Nat × Nat), es[k]? = some e → ∃ g, xs[k]? = some (.slice (some ⟨g, 0, none⟩) 2 2) ∧ w.heap[g]? = some (.cells #[.int .i64 e.1, .int .i64 e.2] 3)
theorem ValsOf.nil (w : World) : ValsOf w [] [] := ⟨rfl, fun k e h => by simp at h⟩
theorem ValsOf.below {w w' : World} {xs : List Value} {es : List (Nat × Nat)} (h : ValsOf w xs es) (hb : Below w.heap.size w w') : ValsOf w' xs es :=
  ⟨h.1, fun k e he => by
    obtain ⟨g, h1, h2⟩ := h.2 k e he
    exact ⟨g, h1, (hb.block g (Array.getElem?_eq_some_iff.1 h2).1).trans h2⟩⟩
theorem ValsOf.grown {w w' : World} {base : Nat} {v : Value} {zs xs : List Value} {es : List (Nat × Nat)} (h : ValsOf w xs es) (ho : OwnV w base v zs) (hg : w.grownBy w' v.ownBlock) : ValsOf w' xs es :=
  ⟨h.1, fun k e he => by
    obtain ⟨g, h1, h2⟩ := h.2 k e he
    refine ⟨g, h1, (hg.block g (Array.getElem?_eq_some_iff.1 h2).1 ?_).trans h2⟩
    intro e
    obtain ⟨-, ⟨h1, -⟩ | ⟨g2, cp, cur, hv, -, hh, -⟩⟩ := ho
    · rw [h1] at e; cases e
    · rw [hv] at e
      simp only [Value.ownBlock, Option.some.injEq] at e
      subst e
      rw [h2] at hh
      simp at hh⟩
theorem ValsOf.push {w : World} {xs : List Value} {es : List (Nat × Nat)} {g a b : Nat} (h : ValsOf w xs es) (hg : w.heap[g]? = some (.cells #[.int .i64 a, .int .i64 b] 3)) :
    ValsOf w (xs ++ [.slice (some ⟨g, 0, none⟩) 2 2]) (es ++ [(a, b)]) := by
  refine ⟨by simp [h.1], fun k e he => ?_⟩
  by_cases hk : k < es.length
  · rw [List.getElem?_append_left hk] at he
    rw [List.getElem?_append_left (by rw [h.1]; exact hk)]
    exact h.2 k e he
  · rw [List.getElem?_append_right (by omega)] at he
    have hke : k = es.length := by
      obtain ⟨hl, -⟩ := List.getElem?_eq_some_iff.1 he
      simp at hl; omega
    subst hke
    simp at he
    subst he
    refine ⟨g, ?_, hg⟩
    rw [← h.1]; simp

theorem OwnV.mono {w : World} {base base' : Nat} {v : Value} {xs : List Value} (h : OwnV w base v xs) (hb : base' ≤ base) : OwnV w base' v xs := by
  obtain ⟨h0, h1 | ⟨g, cap, cur, hv, hg, r⟩⟩ := h
  · exact ⟨h0, .inl h1⟩
  · exact ⟨h0, .inr ⟨g, cap, cur, hv, Nat.le_trans hb hg, r⟩⟩


end Go.Proofs.YtfkehmpckhmkbaaGreat

namespace Go.Proofs.YtfkehmpckhmkbaaGreat
open Go.RowKit

def edgeAt (rs l : List Int) (j : Nat) : Bool := (gn rs (gi l (j - 1)).toNat).testBit (gi l j).toNat
def wayB (n : Int) (rs l : List Int) : Bool := vertsB n rs l && decide (1 ≤ l.length ∧ ∀ j, j < l.length → 1 ≤ j → edgeAt rs l j = true)
theorem wayB_no {n : Int} {rs l : List Int} (h : vertsB n rs l = false) : wayB n rs l = false := by unfold wayB; rw [h]; rfl
theorem wayB_nil {n : Int} {rs l : List Int} (h : l.length = 0) : wayB n rs l = false := by unfold wayB; rw [decide_eq_false (by omega), Bool.and_false]
theorem wayB_bad {n : Int} {rs l : List Int} {j : Nat} (h1 : 1 ≤ j) (h2 : j < l.length) (h : edgeAt rs l j = false) : wayB n rs l = false := by
  unfold wayB; rw [decide_eq_false, Bool.and_false]; rintro ⟨_, a⟩; rw [a j h2 h1] at h; cases h
theorem wayB_ok {n : Int} {rs l : List Int} (hv : vertsB n rs l = true) (h0 : 1 ≤ l.length) (h : ∀ j, j < l.length → 1 ≤ j → edgeAt rs l j = true) : wayB n rs l = true := by
  unfold wayB; rw [hv, Bool.true_and, decide_eq_true_eq]; exact ⟨h0, h⟩
/-- A vertex of a list of different vertices, as a natural number. -/
theorem vert_at {n : Int} {rs l : List Int} (h : vertsB n rs l = true) {j : Nat} (hj : j < l.length) : ∃ v : Nat, gi l j = v ∧ v < rs.length := by
  obtain ⟨a, b⟩ := ((vertsB_true.1 h).2 j hj).1
  exact ⟨(gi l j).toNat, by omega, by omega⟩



end Go.Proofs.YtfkehmpckhmkbaaGreat

namespace Go.Proofs.YtfkehmpckhmkbaaGreat
open Go.RowKit

/-- Are places i and k of an order neighbours? -/
def nearB (rs l : List Int) (i k : Nat) : Bool := (gn rs (gi l i).toNat).testBit (gi l k).toNat
def bandRow (rs l : List Int) (i : Nat) : Nat → Nat → Nat
  | 0, a => a
  | k + 1, a => if nearB rs l i k = true then (if bandRow rs l i k a < i - k then i - k else bandRow rs l i k a) else bandRow rs l i k a
def bandTo (rs l : List Int) : Nat → Nat
  | 0 => 0
  | i + 1 => bandRow rs l i i (bandTo rs l i)
def bandV (n : Int) (rs l : List Int) : Int := if orderB n rs l = true then bandTo rs l l.length else -1
theorem bandV_no {n : Int} {rs l : List Int} (h : orderB n rs l = false) : bandV n rs l = -1 := by unfold bandV; rw [if_neg (by rw [h]; decide)]
theorem bandV_of {n : Int} {rs l : List Int} (h : orderB n rs l = true) : bandV n rs l = bandTo rs l l.length := by unfold bandV; rw [if_pos h]
theorem bandRow_no {rs l : List Int} {i k a : Nat} (h : nearB rs l i k = false) : bandRow rs l i (k + 1) a = bandRow rs l i k a := by
  show (if nearB rs l i k = true then _ else _) = _; rw [if_neg (by rw [h]; decide)]
theorem bandRow_yes {rs l : List Int} {i k a : Nat} (h : nearB rs l i k = true) : bandRow rs l i (k + 1) a = if bandRow rs l i k a < i - k then i - k else bandRow rs l i k a := by
  show (if nearB rs l i k = true then _ else _) = _; rw [if_pos h]
/-- What it bounds. -/
theorem bandRow_le {rs l : List Int} {i M : Nat} : ∀ k a, bandRow rs l i k a ≤ M ↔ a ≤ M ∧ ∀ j, j < k → nearB rs l i j = true → i - j ≤ M
  | 0, a => by simp [bandRow]
  | k + 1, a => by
    have ih := bandRow_le (rs := rs) (l := l) (i := i) (M := M) k a
    cases h : nearB rs l i k
    · rw [bandRow_no h, ih]
      constructor
      · rintro ⟨h1, h2⟩
        refine ⟨h1, fun j hj hn => ?_⟩
        by_cases e : j = k
        · subst e; rw [h] at hn; cases hn
        · exact h2 j (by omega) hn
      · rintro ⟨h1, h2⟩; exact ⟨h1, fun j hj => h2 j (by omega)⟩
    · have key : bandRow rs l i (k + 1) a ≤ M ↔ bandRow rs l i k a ≤ M ∧ i - k ≤ M := by rw [bandRow_yes h]; split <;> omega
      rw [key, ih]
      constructor
      · rintro ⟨⟨h1, h2⟩, h3⟩
        refine ⟨h1, fun j hj hn => ?_⟩
        by_cases e : j = k
        · subst e; exact h3
        · exact h2 j (by omega) hn
      · rintro ⟨h1, h2⟩; exact ⟨⟨h1, fun j hj => h2 j (by omega)⟩, h2 k (by omega) h⟩
theorem bandTo_le {rs l : List Int} {M : Nat} : ∀ n, bandTo rs l n ≤ M ↔ ∀ i, i < n → ∀ j, j < i → nearB rs l i j = true → i - j ≤ M
  | 0 => by simp [bandTo]
  | n + 1 => by
    have ih := bandTo_le (rs := rs) (l := l) (M := M) n
    show bandRow rs l n n (bandTo rs l n) ≤ M ↔ _
    rw [bandRow_le, ih]
    constructor
    · rintro ⟨h1, h2⟩ i hi
      by_cases e : i = n
      · subst e; exact h2
      · exact h1 i (by omega)
    · intro h; exact ⟨fun i hi => h i (by omega), h n (by omega)⟩


end Go.Proofs.YtfkehmpckhmkbaaGreat

namespace Go.Proofs.YtfkehmpckhmkbaaGreat
open Go.RowKit

/-- All ways to go on with f different numbers below N, in order. -/
def ext (N : Nat) : Nat → List Int → List (List Int)
  | 0, l => [l]
  | f + 1, l => (List.range N).flatMap fun v : Nat => if inB l (v : Int) = true then [] else ext N f (l ++ [(v : Int)])
theorem flRun_fold {S : Type} {V : S → List Int → S × Bool} {N : Nat} (hV : ∀ s l, (V s l).2 = false) : ∀ f s l, flRun V (fun _ => true) N f s l = ((ext N f l).foldl (fun s x => (V s x).1) s, none)
  | 0, s, l => by
    show ((V s l).1, if (V s l).2 = true then some l else none) = _
    rw [hV]; rfl
  | f + 1, s, l => by
    have h : ∀ j, preF (flStep (flRun V (fun _ => true) N f) (fun _ => true) l) (s, none) j = ((((List.range j).flatMap fun v : Nat => if inB l (v : Int) = true then [] else ext N f (l ++ [(v : Int)])).foldl (fun s x => (V s x).1) s, none), true) := by
      intro j
      induction j with
      | zero => rfl
      | succ j ih =>
        rw [preF_go ih, List.range_succ, List.flatMap_append, List.foldl_append]
        unfold flStep flSub
        cases hb : inB l (j : Int)
        · rw [if_pos ⟨rfl, rfl⟩, flRun_fold hV f]
          simp [hb]
        · rw [if_neg (by rintro ⟨h1, -⟩; cases h1)]
          simp [hb]
    show (preF _ (s, none) N).1 = _
    rw [h N]; rfl

/-- t goes on behind p with different numbers below N. -/
def fresh (N : Nat) : List Int → List Nat → Prop
  | _, [] => True
  | p, v :: t => v < N ∧ inB p (v : Int) = false ∧ fresh N (p ++ [(v : Int)]) t
theorem mem_ext {N : Nat} : ∀ f p (x : List Int), x ∈ ext N f p ↔ ∃ t : List Nat, t.length = f ∧ fresh N p t ∧ x = p ++ t.map Int.ofNat
  | 0, p, x => by
    show x ∈ [p] ↔ _
    rw [List.mem_singleton]
    constructor
    · rintro rfl; exact ⟨[], rfl, trivial, by simp⟩
    · rintro ⟨t, h1, -, h3⟩
      obtain rfl : t = [] := List.eq_nil_of_length_eq_zero h1
      simpa using h3
  | f + 1, p, x => by
    show x ∈ (List.range N).flatMap (fun v : Nat => if inB p (v : Int) = true then [] else ext N f (p ++ [(v : Int)])) ↔ _
    rw [List.mem_flatMap]
    constructor
    · rintro ⟨v, h1, h2⟩
      have hv : v < N := by simpa using h1
      split at h2
      · cases h2
      · rename_i h3
        obtain ⟨t, h4, h5, h6⟩ := (mem_ext f _ x).1 h2
        exact ⟨v :: t, by simp [h4], ⟨hv, by simpa using h3, h5⟩, by rw [h6]; simp⟩
    · rintro ⟨t, h1, h2, h3⟩
      match t, h1, h2, h3 with
      | v :: t, h1, ⟨h4, h5, h6⟩, h3 =>
        refine ⟨v, by simpa using h4, ?_⟩
        rw [if_neg (by rw [h5]; decide)]
        exact (mem_ext f _ x).2 ⟨t, by simpa using h1, h6, by rw [h3]; simp⟩

/-! ### The first best -/
abbrev BestS := Option (List Int) × Int
/-- What bestOrder's visitor does. -/
def bestStep (num : List Int → Int) (s : BestS) (x : List Int) : BestS := if s.2 < 0 ∨ num x < s.2 then (some x, num x) else s
theorem bestFold {num : List Int → Int} : ∀ (xs : List (List Int)) (y : List Int), (∀ x, x ∈ xs → 0 ≤ num x) → 0 ≤ num y → ∃ z, z ∈ y :: xs ∧ xs.foldl (bestStep num) (some y, num y) = (some z, num z) ∧ (∀ x, x ∈ y :: xs → num z ≤ num x)
  | [], y, _, _ => ⟨y, by simp, rfl, by simp⟩
  | x :: xs, y, h, hy => by
    have hx := h x (by simp)
    have ht : ∀ u, u ∈ xs → 0 ≤ num u := fun u hu => h u (by simp [hu])
    rw [List.foldl_cons]
    by_cases hc : num x < num y
    · have e : bestStep num (some y, num y) x = (some x, num x) := by unfold bestStep; rw [if_pos (.inr hc)]
      rw [e]
      obtain ⟨z, h1, h2, h3⟩ := bestFold xs x ht hx
      refine ⟨z, List.mem_cons_of_mem _ h1, h2, fun u hu => ?_⟩
      simp only [List.mem_cons] at hu
      rcases hu with rfl | hu
      · have := h3 x (by simp); omega
      · exact h3 u (by simpa using hu)
    · have e : bestStep num (some y, num y) x = (some y, num y) := by unfold bestStep; rw [if_neg (by dsimp only; omega)]
      rw [e]
      obtain ⟨z, h1, h2, h3⟩ := bestFold xs y ht hy
      refine ⟨z, by rcases List.mem_cons.1 h1 with h4 | h4 <;> simp [h4], h2, fun u hu => ?_⟩
      simp only [List.mem_cons] at hu
      rcases hu with rfl | rfl | hu
      · exact h3 u (by simp)
      · have := h3 y (by simp); omega
      · exact h3 u (by simp [hu])
/-- The best one is the first whose number is at most the least number. -/
theorem bestFold_find {num : List Int → Int} : ∀ (xs : List (List Int)) (y : List Int), (∀ x, x ∈ xs → 0 ≤ num x) → 0 ≤ num y → (y :: xs).find? (fun x => decide (num x ≤ (xs.foldl (bestStep num) (some y, num y)).2)) = (xs.foldl (bestStep num) (some y, num y)).1
  | [], y, _, _ => by simp
  | x :: xs, y, h, hy => by
    have hx := h x (by simp)
    have ht : ∀ u, u ∈ xs → 0 ≤ num u := fun u hu => h u (by simp [hu])
    rw [List.foldl_cons]
    by_cases hc : num x < num y
    · have e : bestStep num (some y, num y) x = (some x, num x) := by unfold bestStep; rw [if_pos (.inr hc)]
      rw [e]
      have ih := bestFold_find xs x ht hx
      obtain ⟨z, h1, h2, h3⟩ := bestFold xs x ht hx
      rw [h2] at ih ⊢
      have h4 := h3 x (by simp)
      dsimp only at ih ⊢
      rw [List.find?_cons, decide_eq_false (show ¬num y ≤ num z by omega)]
      exact ih
    · have e : bestStep num (some y, num y) x = (some y, num y) := by unfold bestStep; rw [if_neg (by dsimp only; omega)]
      rw [e]
      have ih := bestFold_find xs y ht hy
      obtain ⟨z, h1, h2, h3⟩ := bestFold xs y ht hy
      rw [h2] at ih ⊢
      dsimp only at ih ⊢
      rw [List.find?_cons] at ih ⊢
      cases hd : decide (num y ≤ num z)
      · rw [hd] at ih
        dsimp only at ih ⊢
        rw [List.find?_cons]
        have := of_decide_eq_false hd
        rw [decide_eq_false (show ¬num x ≤ num z by omega)]
        exact ih
      · rw [hd] at ih
        exact ih

end Go.Proofs.YtfkehmpckhmkbaaGreat
