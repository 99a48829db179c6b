/-
  The search of firstList of the program, for whatever two functions: the first list of so many different vertices. The functions' worlds: those that have grown from a world but for some blocks.
-/
import Derived.Test.YtfkehmpckhmkbaaDoorPkCardArcs08
import Derived.Test.YtfkehmpckhmkbaaDoorPkCardArcs10
import Derived.Laws.EntriesVeiled
namespace Go.Proofs.YtfkehmpckhmkbaaDoor
open Go.RowKit

/-! ### The plain search -/
def preF {S : Type} (step : Nat → S → S × Bool) (s : S) : Nat → S × Bool
  | 0 => (s, true)
  | j + 1 => if (preF step s j).2 = true then step j (preF step s j).1 else preF step s j
theorem preF_go {S : Type} {step : Nat → S → S × Bool} {s s' : S} {j : Nat} (h : preF step s j = (s', true)) : preF step s (j + 1) = step j s' := by
  rw [preF, h]; rfl
theorem preF_stop {S : Type} {step : Nat → S → S × Bool} {s : S} {j : Nat} (h : (preF step s j).2 = false) : ∀ i, j ≤ i → preF step s i = preF step s j
  | 0, hi => by obtain rfl : j = 0 := by omega
                rfl
  | i + 1, hi => by
    rcases Nat.lt_or_ge i j with h1 | h1
    · obtain rfl : j = i + 1 := by omega
      rfl
    · have e := preF_stop h i h1
      rw [preF, e, h]; rfl
abbrev FL (S : Type) := S × Option (List Int)
def flSub {S : Type} (rec : S → List Int → FL S) (may : List Int → Bool) (l : List Int) (v : Nat) (t : FL S) : FL S :=
  if inB l (v : Int) = false ∧ may (l ++ [(v : Int)]) = true then rec t.1 (l ++ [(v : Int)]) else (t.1, none)
def flStep {S : Type} (rec : S → List Int → FL S) (may : List Int → Bool) (l : List Int) (v : Nat) (t : FL S) : FL S × Bool := (flSub rec may l v t, (flSub rec may l v t).2.isNone)
/-- The search with f places to go. -/
def flRun {S : Type} (V : S → List Int → S × Bool) (may : List Int → Bool) (N : Nat) : Nat → S → List Int → FL S
  | 0, s, l => ((V s l).1, if (V s l).2 = true then some l else none)
  | f + 1, s, l => (preF (flStep (flRun V may N f) may l) (s, none) N).1

/-- The slice address ao reads as xs, out of a block that is none of X. -/
def IntsX (X : Nat → Prop) (w : World) (ao : Option Addr) (xs : List Int) : Prop :=
  0 < xs.length → ∃ b off, ao = some ⟨b, off, none⟩ ∧ ¬X b ∧ b < w.heap.size ∧ ∀ k, k < xs.length → w.cell? ⟨b, off + k, none⟩ = some (.int .i64 (gi xs k))
theorem IntsX.ints {X : Nat → Prop} {w : World} {ao : Option Addr} {xs : List Int} (h : IntsX X w ao xs) : IntsAt w ao xs := fun h0 => by
  obtain ⟨b, off, h1, _, h2, h3⟩ := h h0
  exact ⟨b, off, h1, h2, h3⟩
theorem IntsX.only {X : Nat → Prop} {w w' : World} {ao : Option Addr} {xs : List Int} (h : IntsX X w ao xs) (hb : Only X w.heap.size w w') : IntsX X w' ao xs := fun h0 => by
  obtain ⟨b, off, h1, h2, h3, h4⟩ := h h0
  exact ⟨b, off, h1, h2, Nat.lt_of_lt_of_le h3 hb.size, fun k hk => by rw [hb.cell (p := ⟨b, off + k, none⟩) h3 h2]; exact h4 k hk⟩
theorem OwnE.intsX {X : Nat → Prop} {w : World} {base cap : Nat} {ao : Option Addr} {xs : List Int} (h : OwnE w base ao cap xs) (hX : ∀ b, base ≤ b → ¬X b) : IntsX X w ao xs := fun h0 => by
  obtain ⟨g, rfl, hg, hR⟩ := h.row h0
  exact ⟨g, 0, rfl, hX g hg, hR.lt, fun k hk => by rw [Nat.zero_add]; exact hR.cell k hk⟩

/-- A test of lists: a function value that reads what it captured. -/
def MayOf (K : Nat) (caps : Array Value) (X : Nat → Prop) (W : World) (may : List Int → Bool) (nmax : Nat) : Prop :=
  ∀ (m : LateX X W) (l : List Int) (ao : Option Addr) (n cap : Nat), IntsAt m.w ao l → n = l.length → n ≤ cap → n ≤ nmax → 0 < n → Calls Tryd.prog K (#[.slice ao n cap] ++ caps) m.w fun e w' => e = .returned (.bool (may l)) ∧ Below m.w.heap.size m.w w'
/-- What is asked of a whole list: it may turn its own variables (the blocks of X). -/
def HoldsOf {S : Type} (K : Nat) (caps : Array Value) (X : Nat → Prop) (W : World) (V : S → List Int → S × Bool) (I : S → World → Prop) (n : Nat) : Prop :=
  ∀ (m : LateX X W) (s : S) (l : List Int) (ao : Option Addr) (cap : Nat), I s m.w → IntsAt m.w ao l → n = l.length → n ≤ cap → Calls Tryd.prog K (#[.slice ao n cap] ++ caps) m.w fun e w' => e = .returned (.bool (V s l).2) ∧ I (V s l).1 w' ∧ Only X m.w.heap.size m.w w'
def LateX.on {X : Nat → Prop} {W : World} (m : LateX X W) {w' : World} (h : Only X m.w.heap.size m.w w') : LateX X W := ⟨w', m.only.trans (h.mono m.size fun _ _ h => h)⟩
theorem LateX.onB_only {X : Nat → Prop} {W : World} (m : LateX X W) {w' : World} (h : Below m.w.heap.size m.w w') : Only X W.heap.size W w' := m.only.more h m.size

/-- 'more := append(l[:len(l):len(l)], y)': always new memory. -/
theorem wpList_append_full {ops : Array Oper} {rest : List Oper} {o : Oper} {a : Act} {Q : Exit → Act → World → Prop} {w : World} (hgd : o.guard = none) (s x : Operand)
    (ho : o.op = .call { callee := .builtin .append, args := #[s, x], argTypes := #[24, 24] })
    (lo : Option Addr) (l : List Int) (n : Nat) (y : Int) (hs : a.eval s = .slice lo n n) (hl : IntsAt w lo l) (hn : n = l.length) (hx : a.eval x = .slice (some ⟨w.heap.size, 0, none⟩) 1 1) (hlen : n ≤ 1048576)
    (h : ∀ ao' cap' w', OwnL w' w.heap.size (.slice ao' (n + 1) cap') (l ++ [y]) → Below w.heap.size w w' → wpList Tryd.prog ops Q rest (a.put o.dst (.slice ao' (n + 1) cap')) w') :
    wpList Tryd.prog ops Q (o :: rest) a (w.alloc (.cells #[.int .i64 y] 3)) := by
  subst hn
  obtain ⟨i0, hi, hz0, hz1, hz2⟩ := info_parts info_int
  have hB : Below w.heap.size w (w.alloc (.cells #[.int .i64 y] 3)) := (Below.refl _ _).alloc (Nat.le_refl _) _
  refine wpList_append_grows (w.alloc (.cells #[.int .i64 y] 3)) hgd s x 24 ho 3 i0 (.int .i64 0) 1 8 Tryd.underlying24 hi hz0 hz1 hz2 rfl (by decide) lo l.length l.length (l.map (Value.int .i64)) hs ?_ (by simp) ?_
    ⟨w.heap.size, 0, none⟩ 1 1 [.int .i64 y] hx rfl ?_ ?_ (by omega) (by unfold maxLen; omega) (by omega) ?_
  · intro h0
    by_cases hz : l.length = 0
    · exact ⟨hz, hz⟩
    · obtain ⟨b, off, e, _⟩ := hl (by omega)
      rw [e] at h0; cases h0
  · intro b hb j u hj
    rw [List.getElem?_map, Option.map_eq_some_iff] at hj
    obtain ⟨z, hz, rfl⟩ := hj
    obtain ⟨hjl, rfl⟩ := List.getElem?_eq_some_iff.1 hz
    obtain ⟨b', off, e, hlt, hc⟩ := hl (by omega)
    rw [hb] at e
    simp only [Option.some.injEq] at e
    subst e
    have := hc j hjl
    rw [show gi l j = l[j] by simp [gi, hjl]] at this
    have e2 : (⟨b', off, none⟩ : Addr).add j = ⟨b', off + j, none⟩ := by unfold Addr.add; split <;> simp_all
    rw [e2, hB.cell (p := ⟨b', off + j, none⟩) hlt]; exact this
  · intro j u hj
    match j, hj with
    | 0, hj => simp at hj; subst hj; simp [Addr.add]
  · intro u hu; simp at hu; subst hu; rfl
  · intro v' w' h1 h2
    have h3 : OwnL w' (w.heap.size + 1) v' (l ++ [y]) := by unfold OwnL; simpa using h1
    obtain ⟨ao', cap', rfl⟩ := h3.form
    have e : (l ++ [y]).length = l.length + 1 := by simp
    rw [e] at h3 ⊢
    exact h ao' cap' w' (h3.mono (by omega)) (hB.grown h2 (by simp) (fun k hk => by cases hk))


def LateX.onB {X : Nat → Prop} {W : World} (m : LateX X W) {w' : World} (h : Below m.w.heap.size m.w w') : LateX X W := ⟨w', m.onB_only h⟩
theorem flStep_skip {S : Type} {rec : S → List Int → FL S} {may : List Int → Bool} {l : List Int} {v : Nat} {s : S} (h : inB l (v : Int) = true ∨ may (l ++ [(v : Int)]) = false) : flStep rec may l v (s, none) = ((s, none), true) := by
  unfold flStep flSub
  rw [if_neg]
  · rfl
  · rintro ⟨a, b⟩; rcases h with h | h
    · rw [h] at a; cases a
    · rw [h] at b; cases b
theorem flStep_go {S : Type} {rec : S → List Int → FL S} {may : List Int → Bool} {l : List Int} {v : Nat} {s : S} {r : FL S} (h1 : inB l (v : Int) = false) (h2 : may (l ++ [(v : Int)]) = true) (h3 : rec s (l ++ [(v : Int)]) = r) : flStep rec may l v (s, none) = (r, r.2.isNone) := by
  unfold flStep flSub
  rw [if_pos ⟨h1, h2⟩, h3]


end Go.Proofs.YtfkehmpckhmkbaaDoor
