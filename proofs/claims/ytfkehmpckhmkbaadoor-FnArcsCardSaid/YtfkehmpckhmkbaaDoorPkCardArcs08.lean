/-
  The walks of the laws' helpers on Graph: szGraph, toGraph, eqGraph. The rows are at most 2^20 where copies are made.
  The walks of the laws' helpers that write into results and read them again: markIntS, heldIntS. For lists of at most 2^20 elements.
  The walks of l3Grow, PartsOf of the reference and of partOf, parts, PartsOf of the program. The graph is right, the set is one of it.
  Sums and differences of sets as numbers.
  CutVertices on both sides. For at most 2^20 rows.
-/
import Derived.Test.YtfkehmpckhmkbaaDoorPkCardArcs02
import Derived.Test.YtfkehmpckhmkbaaDoorPkCardArcs07
import Derived.Test.YtfkehmpckhmkbaaDoorPkCardArcs06
import Derived.Test.YtfkehmpckhmkbaaDoorPkCardArcs05
import Derived.Deep.RegionHeld3
namespace Go.Proofs.YtfkehmpckhmkbaaDoor
open Go.RowKit

def szOne (n : Nat) : Int := if 1048576 < n then -1 else 1048576 - n




end Go.Proofs.YtfkehmpckhmkbaaDoor

namespace Go.Proofs.YtfkehmpckhmkbaaDoor
open Go.RowKit

theorem wpList_append_cp {ops : Array Oper} {rest : List Oper} {o : Oper} {a : Act} {Q : Exit → Act → World → Prop} {w : World} (hgd : o.guard = none) (s x : Operand)
    (ho : o.op = .call { callee := .builtin .append, args := #[s, x], argTypes := #[24, 24] })
    (base B : Nat) (la : Addr) (l : List Int) (lc : Nat) (hs : a.eval s = .slice (some ⟨B, 0, none⟩) 0 0) (hx : a.eval x = .slice (some la) l.length lc) (hi : IntsAt w (some la) l) (hbase : base ≤ w.heap.size) (hlen : l.length ≤ 1048576)
    (h : ∀ ao' cap' w', ao' ≠ none → OwnE w' base ao' cap' l → Below w.heap.size w w' → wpList Tryd.prog ops Q rest (a.put o.dst (.slice ao' l.length cap')) w') : wpList Tryd.prog ops Q (o :: rest) a w :=
  wpList_plain hgd fun _ hK => wp_append_copy s x ho base B la l lc hs hx hi hbase hlen fun ao' cap' w' h1 h2 h3 => hK _ _ (h ao' cap' w' h1 h2 h3)
theorem OwnE.room' {w : World} {base cap : Nat} {ao : Option Addr} {xs : List Int} (h : OwnE w base ao cap xs) : xs.length ≤ cap := by
  rcases h with ⟨hl, ⟨h1, h2⟩ | ⟨g, cp, cur, hv, hg, hb, hn, hm, hsz, ht⟩⟩ | ⟨rfl, -, -⟩
  · omega
  · simp only [Value.slice.injEq] at hv
    omega
  · simp
theorem OwnE.mono' {w : World} {base base' cap : Nat} {ao : Option Addr} {xs : List Int} (h : OwnE w base ao cap xs) (hb : base' ≤ base) : OwnE w base' ao cap xs := h.imp (fun h => h.mono hb) id

/-- A row of integers: block g begins with xs, nothing frozen. -/
def RowAt (w : World) (g cap : Nat) (xs : List Int) : Prop := ∃ cur, Blk w g cur 3 ∧ xs.length ≤ cap ∧ cap ≤ maxLen ∧ cur.size = cap * 1 ∧ cur.toList.take (xs.length * 1) = xs.map (Value.int .i64)
theorem RowAt.cell {w : World} {g cap : Nat} {xs : List Int} (h : RowAt w g cap xs) (k : Nat) (hk : k < xs.length) : w.cell? ⟨g, k, none⟩ = some (.int .i64 (gi xs k)) := by
  obtain ⟨cur, hb, hn, hm, hs, ht⟩ := h
  rw [hb.cell]
  have e : (cur.toList.take (xs.length * 1))[k]? = (xs.map (Value.int .i64))[k]? := by rw [ht]
  rw [List.getElem?_take, if_pos (by omega), Array.getElem?_toList] at e
  rw [e]; simp [gi, hk]
theorem RowAt.frozen {w : World} {g cap : Nat} {xs : List Int} (h : RowAt w g cap xs) (k : Nat) : w.frozen? ⟨g, k, none⟩ = false := by obtain ⟨cur, hb, _⟩ := h; exact hb.frozen k
theorem RowAt.lt {w : World} {g cap : Nat} {xs : List Int} (h : RowAt w g cap xs) : g < w.heap.size := by obtain ⟨cur, hb, _⟩ := h; exact hb.lt
theorem RowAt.store {w : World} {g cap : Nat} {xs : List Int} (h : RowAt w g cap xs) (k : Nat) (x : Int) : RowAt (w.setCell ⟨g, k, none⟩ (.int .i64 x)) g cap (xs.set k x) := by
  obtain ⟨cur, hb, hn, hm, hs, ht⟩ := h
  refine ⟨_, hb.store k _, by simpa using hn, hm, by simpa using hs, ?_⟩
  rw [Array.toList_setIfInBounds, List.length_set, List.take_set, ht, List.map_set]
theorem RowAt.of {w : World} {b : Nat} {xs : List Int} (h : OwnInts w b xs) (hn : xs.length ≤ 1048576) : RowAt w b xs.length xs :=
  ⟨_, h, Nat.le_refl _, by unfold maxLen; omega, by rw [intRow_size, Nat.mul_one], by simp only [intRow, Nat.mul_one]; exact List.take_of_length_le (by simp)⟩
theorem OwnE.row {w : World} {base cap : Nat} {ao : Option Addr} {xs : List Int} (h : OwnE w base ao cap xs) (h0 : 0 < xs.length) : ∃ g, ao = some ⟨g, 0, none⟩ ∧ base ≤ g ∧ RowAt w g cap xs := by
  rcases h with ⟨hl, ⟨h1, h2⟩ | ⟨g, cp, cur, hv, hg, hb, hn, hm, hsz, ht⟩⟩ | ⟨rfl, -, -⟩
  · omega
  · simp only [Value.slice.injEq] at hv
    obtain ⟨rfl, -, rfl⟩ := hv
    exact ⟨g, rfl, hg, cur, hb, hn, hm, hsz, ht⟩
  · simp at h0
theorem RowAt.own {w : World} {base g cap : Nat} {xs : List Int} (h : RowAt w g cap xs) (hb : base ≤ g) : OwnE w base (some ⟨g, 0, none⟩) cap xs := by
  obtain ⟨cur, h1, h2, h3, h4, h5⟩ := h
  exact .inl ⟨by simp, .inr ⟨g, cap, cur, rfl, hb, h1, h2, h3, h4, h5⟩⟩

theorem OwnE.onlyOne {w w' : World} {base cap b1 : Nat} {ao : Option Addr} {xs : List Int} (h : OwnE w base ao cap xs) (k : Only (fun b => b = b1) w.heap.size w w') (hb : b1 < base) : OwnE w' base ao cap xs := by
  rcases h with ⟨hl, h1 | ⟨g, cp, cur, hv, hg, hb, hr⟩⟩ | h
  · exact .inl ⟨hl, .inl h1⟩
  · exact .inl ⟨hl, .inr ⟨g, cp, cur, hv, hg, by rw [k.block g (Array.getElem?_eq_some_iff.1 hb).1 (fun e => by omega)]; exact hb, hr⟩⟩
  · exact .inr h

/-- The slice address ao reads as the integers xs, out of a block below B. -/
def IntsU (B : Nat) (w : World) (ao : Option Addr) (xs : List Int) : Prop :=
  0 < xs.length → ∃ b off, ao = some ⟨b, off, none⟩ ∧ b < B ∧ b < w.heap.size ∧ ∀ k, k < xs.length → w.cell? ⟨b, off + k, none⟩ = some (.int .i64 (gi xs k))
theorem IntsAt.upto {w : World} {ao : Option Addr} {xs : List Int} (h : IntsAt w ao xs) : IntsU w.heap.size w ao xs := fun h0 => by
  obtain ⟨b, off, h1, h2, h3⟩ := h h0
  exact ⟨b, off, h1, h2, h2, h3⟩
theorem IntsU.ints {B : Nat} {w : World} {ao : Option Addr} {xs : List Int} (h : IntsU B w ao xs) : IntsAt w ao xs := fun h0 => by
  obtain ⟨b, off, h1, _, h2, h3⟩ := h h0
  exact ⟨b, off, h1, h2, h3⟩
theorem IntsU.mono {B B' : Nat} {w : World} {ao : Option Addr} {xs : List Int} (h : IntsU B w ao xs) (hB : B ≤ B') : IntsU B' w ao xs := fun h0 => by
  obtain ⟨b, off, h1, h2, h3⟩ := h h0
  exact ⟨b, off, h1, by omega, h3⟩
theorem IntsU.below {B B' : Nat} {w w' : World} {ao : Option Addr} {xs : List Int} (h : IntsU B w ao xs) (hb : Below B' w w') (hB : B ≤ B') : IntsU B w' ao xs := fun h0 => by
  obtain ⟨b, off, h1, h2, h3, h4⟩ := h h0
  exact ⟨b, off, h1, h2, Nat.lt_of_lt_of_le h3 hb.size, fun k hk => by rw [hb.cell (p := ⟨b, off + k, none⟩) (Nat.lt_of_lt_of_le h2 hB)]; exact h4 k hk⟩
theorem IntsU.later {B : Nat} {W : World} {ao : Option Addr} {xs : List Int} (h : IntsU B W ao xs) (m : Later W) : IntsU B m.w ao xs := fun h0 => by
  obtain ⟨b, off, h1, h2, h3, h4⟩ := h h0
  exact ⟨b, off, h1, h2, Nat.lt_of_lt_of_le h3 m.size, fun k hk => by rw [m.below.cell (p := ⟨b, off + k, none⟩) h3]; exact h4 k hk⟩
theorem IntsU.only {B : Nat} {X : Nat → Prop} {w w' : World} {ao : Option Addr} {xs : List Int} (h : IntsU B w ao xs) (hb : Only X w.heap.size w w') (hX : ∀ b, b < B → ¬X b) : IntsU B w' ao xs := fun h0 => by
  obtain ⟨b, off, h1, h2, h3, h4⟩ := h h0
  exact ⟨b, off, h1, h2, Nat.lt_of_lt_of_le h3 hb.size, fun k hk => by rw [hb.cell (p := ⟨b, off + k, none⟩) h3 (hX b h2)]; exact h4 k hk⟩

/-- The marks 1, 2, .. -/
def marksL (n : Nat) : List Int := (List.range n).map fun i : Nat => (i : Int) + 1
theorem marksL_len (n : Nat) : (marksL n).length = n := by simp [marksL]
theorem marksL_at {n k : Nat} (h : k < n) : gi (marksL n) k = (k : Int) + 1 := by simp [marksL, gi, h]






end Go.Proofs.YtfkehmpckhmkbaaDoor

namespace Go.Proofs.YtfkehmpckhmkbaaDoor
open Go.RowKit


theorem low_bit_fin : ∀ s : Fin 128, s.val ≠ 0 → bits .and .i64 (s.val : Int) (-(s.val : Int)) = ((2 ^ low s.val : Nat) : Int) := by decide +kernel
theorem low_bit {S : Nat} (hS : S < 128) (h0 : S ≠ 0) : bits .and .i64 (S : Int) (-(S : Int)) = ((2 ^ low S : Nat) : Int) := low_bit_fin ⟨S, hS⟩ h0


def ints (l : List Nat) : List Int := l.map Int.ofNat
theorem ints_len (l : List Nat) : (ints l).length = l.length := by simp [ints]
theorem ints_snoc (l : List Nat) (v : Nat) : ints (l ++ [v]) = ints l ++ [(v : Int)] := by simp [ints]

/-- What a call says that hands back a list of its own. -/
def RetE (w : World) (xs : List Int) (e : Ending) (w' : World) : Prop := ∃ ao cap, e = .returned (.slice ao xs.length cap) ∧ Below w.heap.size w w' ∧ OwnE w' w.heap.size ao cap xs



end Go.Proofs.YtfkehmpckhmkbaaDoor

namespace Go.Proofs.YtfkehmpckhmkbaaDoor

theorem add_disj {a b : Nat} (ha : a < 9223372036854775808) (hb : b < 9223372036854775808) (h : a &&& b = 0) : a + b = a ||| b := by
  have h1 := BitVec.add_eq_or_of_and_eq_zero (BitVec.ofNat 64 a) (BitVec.ofNat 64 b) (by rw [← BitVec.ofNat_and, h])
  have h2 := congrArg BitVec.toNat h1
  simp only [BitVec.toNat_add, BitVec.toNat_or, BitVec.toNat_ofNat] at h2
  rw [Nat.mod_eq_of_lt (a := a) (by omega), Nat.mod_eq_of_lt (a := b) (by omega), Nat.mod_eq_of_lt (by omega)] at h2
  exact h2
/-- What is in a and not in b, and what is in both, make up a. -/
theorem nDiff_add {a b : Nat} (ha : a < 9223372036854775808) : nDiff a b + (b &&& a) = a := by
  have h1 : nDiff a b < 9223372036854775808 := nDiff_lt (n := 63) ha
  have h2 : b &&& a ≤ a := Nat.and_le_right
  rw [add_disj h1 (by omega)]
  · apply Nat.eq_of_testBit_eq; intro i
    rw [Nat.testBit_or, testBit_nDiff, Nat.testBit_and]
    cases a.testBit i <;> cases b.testBit i <;> rfl
  · apply Nat.eq_of_testBit_eq; intro i
    rw [Nat.testBit_and, testBit_nDiff, Nat.testBit_and, Nat.zero_testBit]
    cases a.testBit i <;> cases b.testBit i <;> rfl
theorem pow_le_of_testBit {S v : Nat} (h : S.testBit v = true) : 2 ^ v ≤ S := Nat.ge_two_pow_of_testBit h


end Go.Proofs.YtfkehmpckhmkbaaDoor

namespace Go.Proofs.YtfkehmpckhmkbaaDoor
open Go.RowKit

/-- The numbers below k for which something holds, as a set. -/
def accB (p : Nat → Bool) : Nat → Nat
  | 0 => 0
  | k + 1 => if p k = true then accB p k ||| 2 ^ k else accB p k
theorem accB_lt (p : Nat → Bool) : ∀ k, accB p k < 2 ^ k
  | 0 => by simp [accB]
  | k + 1 => by
    have ih := accB_lt p k
    have e : 2 ^ (k + 1) = 2 ^ k + 2 ^ k := by omega
    unfold accB; split
    · rw [or_pow _ _ ih]; omega
    · omega
theorem accB_yes {p : Nat → Bool} {k : Nat} (h : p k = true) : accB p (k + 1) = accB p k ||| 2 ^ k := by show (if p k = true then _ else _) = _; rw [if_pos h]
theorem accB_no {p : Nat → Bool} {k : Nat} (h : p k = false) : accB p (k + 1) = accB p k := by show (if p k = true then _ else _) = _; rw [if_neg (by rw [h]; decide)]
theorem accB_add {p : Nat → Bool} {k : Nat} (h : p k = true) : accB p (k + 1) = accB p k + 2 ^ k := by rw [accB_yes h, or_pow _ _ (accB_lt p k)]
theorem accB_bit (p : Nat → Bool) (i : Nat) : ∀ k, (accB p k).testBit i = (decide (i < k) && p i)
  | 0 => by simp [accB]
  | k + 1 => by
    have ih := accB_bit p i k
    cases h : p k
    · rw [accB_no h, ih]
      by_cases e : i = k
      · subst e; simp [h]
      · have : (i < k + 1) ↔ i < k := by omega
        simp [this]
    · rw [accB_yes h, Nat.testBit_or, ih, Nat.testBit_two_pow]
      by_cases e : k = i
      · subst e; simp [h]
      · have : (i < k + 1) ↔ i < k := by omega
        simp [this, e]

/-- Is v a vertex without which there are more parts? -/
def cutP (rs : List Int) (v : Nat) : Bool := decide ((partsOf rs (2 ^ rs.length - 1)).length < (partsOf rs (2 ^ rs.length - 1 - 2 ^ v)).length)
def cutVN (n : Int) (rs : List Int) : Int := if isGraphB n rs = true then accB (cutP rs) rs.length else 0
theorem cutVN_no {n : Int} {rs : List Int} (h : isGraphB n rs = false) : cutVN n rs = 0 := by unfold cutVN; rw [if_neg (by rw [h]; decide)]
theorem cutVN_of {n : Int} {rs : List Int} (h : isGraphB n rs = true) : cutVN n rs = accB (cutP rs) rs.length := by unfold cutVN; rw [if_pos h]

/-- All vertices but one. -/
theorem but_facts {N v : Nat} (hN : N ≤ 7) (hv : v < N) : 2 ^ N - 1 - 2 ^ v < 2 ^ N ∧ nDiff (2 ^ N - 1) (2 ^ v) = 2 ^ N - 1 - 2 ^ v ∧ 2 ^ v ≤ 2 ^ N - 1 := by
  have h1 : 2 ^ N ≤ 128 := Nat.pow_le_pow_right (n := 2) (by decide) hN
  have hs : subN (2 ^ v) (2 ^ N - 1) := pow_sub (all_bit.2 hv)
  have h2 := hs.le
  have := Nat.two_pow_pos N
  have := Nat.two_pow_pos v
  exact ⟨by omega, nDiff_minus (by omega) hs, h2⟩



end Go.Proofs.YtfkehmpckhmkbaaDoor
