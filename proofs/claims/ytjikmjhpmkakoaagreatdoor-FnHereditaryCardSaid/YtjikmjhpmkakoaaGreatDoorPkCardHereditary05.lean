/-
  Lists of integers that a call makes out of '[]int{}' and appends to beside other lists of its own: the empty list owns nothing, so it may count as made later.
  The walks of the laws' helpers on Graph: szGraph, toGraph, eqGraph. The rows are at most 2^20 where copies are made.
  The walks of the laws' helpers that write into results and read them again: markIntS, heldIntS. For lists of at most 2^20 elements.
-/
import Derived.Test.YtjikmjhpmkakoaaGreatDoorPkCardHereditary03
import Derived.Test.YtjikmjhpmkakoaaGreatDoorPkCardHereditary01
namespace Go.Proofs.YtjikmjhpmkakoaaGreatDoor
open Go.RowKit

/-- The call's own list from block 'base' on, or an empty one without room. -/
def OwnE (w : World) (base : Nat) (ao : Option Addr) (cap : Nat) (xs : List Int) : Prop := OwnL w base (.slice ao xs.length cap) xs ∨ (xs = [] ∧ cap = 0 ∧ ao ≠ none)
theorem OwnE.below {w w' : World} {base cap : Nat} {ao : Option Addr} {xs : List Int} (h : OwnE w base ao cap xs) (hb : Below w.heap.size w w') : OwnE w' base ao cap xs :=
  h.imp (fun h => h.below hb) id
theorem OwnE.later {W : World} {base cap : Nat} {ao : Option Addr} {xs : List Int} (h : OwnE W base ao cap xs) (m : Later W) : OwnE m.w base ao cap xs := h.below m.below
theorem OwnE.ints {w : World} {base cap : Nat} {ao : Option Addr} {xs : List Int} (h : OwnE w base ao cap xs) : IntsAt w ao xs := by
  rcases h with h | ⟨rfl, -, -⟩
  · exact h.ints
  · exact fun h0 => absurd h0 (by simp)
theorem OwnE.empty (w : World) (base : Nat) (a : Addr) : OwnE w base (some a) 0 [] := .inr ⟨rfl, rfl, by simp⟩
theorem OwnE.own {w : World} {base cap : Nat} {ao : Option Addr} {xs : List Int} (h : OwnL w base (.slice ao xs.length cap) xs) : OwnE w base ao cap xs := .inl h

/-- 'out = append(out, y)'. -/
theorem wpList_append_e {ops : Array Oper} {rest : List Oper} {o : Oper} {a : Act} {Q : Exit → Act → World → Prop} {w : World} (hgd : o.guard = none) (s x : Operand)
    (ho : o.op = .call { callee := .builtin .append, args := #[s, x], argTypes := #[24, 24] })
    (base cap : Nat) (ao : Option Addr) (xs : List Int) (y : Int) (hs : a.eval s = .slice ao xs.length cap) (hown : OwnE w base ao cap xs) (hx : a.eval x = .slice (some ⟨w.heap.size, 0, none⟩) 1 1) (hbase : base ≤ w.heap.size) (hlen : xs.length ≤ 1048576)
    (h : ∀ ao' cap' w', OwnE w' base ao' cap' (xs ++ [y]) → Below base w w' → wpList Tryz.prog ops Q rest (a.put o.dst (.slice ao' (xs.length + 1) cap')) w') :
    wpList Tryz.prog ops Q (o :: rest) a (w.alloc (.cells #[.int .i64 y] 3)) := by
  have he : (xs ++ [y]).length = xs.length + 1 := by simp
  rcases hown with hown | ⟨rfl, rfl, hne⟩
  · exact wpList_append_int hgd s x ho base _ xs y hs hown hx hbase hlen fun ao' cap' w' h1 h2 => h ao' cap' w' (.inl (by rw [he]; exact h1)) h2
  · obtain ⟨i0, hi, hz0, hz1, hz2⟩ := info_parts info_int
    refine wpList_append_grows (w.alloc (.cells #[.int .i64 y] 3)) hgd s x 24 ho 3 i0 (.int .i64 0) 1 8 Tryz.underlying24 hi hz0 hz1 hz2 rfl (by decide) ao 0 0 [] hs (fun _ => ⟨rfl, rfl⟩) rfl (by simp)
      ⟨w.heap.size, 0, none⟩ 1 1 [.int .i64 y] hx rfl ?_ ?_ (by omega) (by unfold maxLen; omega) (by omega) ?_
    · intro j u hj
      match j, hj with
      | 0, hj => simp at hj; subst hj; simp [Addr.add]
    · intro u hu; simp at hu; subst hu; rfl
    · intro v' w' h1 h2
      have hb : Below base w (w.alloc (.cells #[.int .i64 y] 3)) := (Below.refl _ _).alloc hbase _
      have h3 : OwnL w' base v' [y] := by
        have : OwnL w' (w.heap.size + 1) v' [y] := by unfold OwnL; simpa using h1
        exact this.mono (by omega)
      obtain ⟨ao', cap', rfl⟩ := h3.form
      exact h ao' cap' w' (.inl h3) (hb.grown h2 (by simp; omega) (fun k hk => by cases hk))

/-- The same at an operation, whatever lies at the world at hand: the element stands in a block of its own. -/
theorem wp_append_e {o : Oper} {a : Act} {K : Act → World → Prop} {Q : Exit → Act → World → Prop} {w : World} (s x : Operand)
    (ho : o.op = .call { callee := .builtin .append, args := #[s, x], argTypes := #[24, 24] })
    (base cap : Nat) (ao : Option Addr) (xs : List Int) (y : Int) (B : Nat) (hs : a.eval s = .slice ao xs.length cap) (hown : OwnE w base ao cap xs) (hx : a.eval x = .slice (some ⟨B, 0, none⟩) 1 1)
    (hc : w.cell? ⟨B, 0, none⟩ = some (.int .i64 y)) (hbase : base ≤ w.heap.size) (hlen : xs.length ≤ 1048576)
    (h : ∀ ao' cap' w', OwnE w' base ao' cap' (xs ++ [y]) → Below base w w' → K (a.put o.dst (.slice ao' (xs.length + 1) cap')) w') : o.wp Tryz.prog a w K Q := by
  have he : (xs ++ [y]).length = xs.length + 1 := by simp
  have hnews : ∀ j u, [Value.int .i64 y][j]? = some u → w.cell? ((⟨B, 0, none⟩ : Addr).add j) = some u := by
    intro j u hj
    match j, hj with
    | 0, hj => simp at hj; subst hj; simpa [Addr.add] using hc
  have h1 : ∀ u ∈ [Value.int .i64 y], u.oneCell' = true := by intro u hu; simp at hu; subst hu; rfl
  obtain ⟨i0, hi, hz0, hz1, hz2⟩ := info_parts info_int
  rcases hown with hown | ⟨rfl, rfl, hne⟩
  · refine wp_append_own w s x 24 ho base 3 i0 (.int .i64 0) 1 8 Tryz.underlying24 hi hz0 hz1 hz2 rfl (by decide) (.slice ao xs.length cap) xs.length (xs.map (Value.int .i64)) hs hown
      ⟨B, 0, none⟩ 1 1 [.int .i64 y] hx rfl hnews h1 (by unfold maxLen; omega) (by omega) hbase ?_
    intro v' w' h1 h2 _
    have h3 : OwnL w' base v' (xs ++ [y]) := by unfold OwnL; simpa using h1
    obtain ⟨ao', cap', rfl⟩ := h3.form
    rw [he] at h3 ⊢
    refine h ao' cap' w' (.inl (by rw [he]; exact h3)) ?_
    exact (Below.refl base w).grown h2 hbase (fun k hk => (hown.lt k hk).1)
  · obtain ⟨b, rfl⟩ := Option.ne_none_iff_exists'.1 hne
    obtain ⟨v', w', hrun, r1, r2⟩ := run_append_arg_grows (P := Tryz.prog) w 24 o.type 3 i0 (.int .i64 0) 1 8 Tryz.underlying24 hi hz0 hz1 hz2 rfl (by decide) b 0 0 [] rfl (by simp) ⟨B, 0, none⟩ 1 1 [.int .i64 y] rfl hnews (by omega) (by unfold maxLen; omega) (by omega)
    have h3 : OwnL w' base v' [y] := by
      have : OwnL w' w.heap.size v' [y] := by unfold OwnL; simpa using r1
      exact this.mono hbase
    obtain ⟨ao', cap', rfl⟩ := h3.form
    have hs' : a.eval s = .slice (some b) 0 0 := hs
    unfold Oper.wp
    simp only [execOp, ho, resolve, invoke, builtin, Sem.run_bind, Sem.run_pure, Result.andThen_ok, List.map_toArray, List.map_cons, List.map_nil, hs', hx, hrun]
    exact h ao' cap' w' (.inl h3) ((Below.refl base w).grown r2 hbase (fun k hk => by cases hk))
/-- At a step of a region that draws its order. -/
theorem step_append_e {ops : Array Oper} {o : Oper} {a : Act} {K : Act → World → Prop} {Q : Exit → Act → World → Prop} {E : Prop} {w : World} (hgd : o.guard = none) (s x : Operand)
    (ho : o.op = .call { callee := .builtin .append, args := #[s, x], argTypes := #[24, 24] })
    (base cap : Nat) (ao : Option Addr) (xs : List Int) (y : Int) (B : Nat) (hs : a.eval s = .slice ao xs.length cap) (hown : OwnE w base ao cap xs) (hx : a.eval x = .slice (some ⟨B, 0, none⟩) 1 1)
    (hc : w.cell? ⟨B, 0, none⟩ = some (.int .i64 y)) (hbase : base ≤ w.heap.size) (hlen : xs.length ≤ 1048576)
    (h : ∀ ao' cap' w', OwnE w' base ao' cap' (xs ++ [y]) → Below base w w' → K (a.put o.dst (.slice ao' (xs.length + 1) cap')) w') :
    if Region.wanted o (yielded ops a.tmps) = true then Oper.wp Tryz.prog o a w K Q else E := by
  have hw : Region.wanted o (yielded ops a.tmps) = true := by simp [Region.wanted, hgd]
  rw [if_pos hw]
  exact wp_append_e s x ho base cap ao xs y B hs hown hx hc hbase hlen h

theorem cell_new {w : World} {b : Nat} {v : Value} {t : TypeId} (hb : b = w.heap.size) : (w.alloc (.cells #[v] t)).cell? ⟨b, 0, none⟩ = some v := by subst hb; exact cell_of_one (heap_alloc_new _ _)
theorem cell_new2 {w : World} {b : Nat} {v : Value} {t : TypeId} {o : Obj} (hb : b = w.heap.size) : ((w.alloc (.cells #[v] t)).alloc o).cell? ⟨b, 0, none⟩ = some v := by
  have h := Below.cell (w := w.alloc (.cells #[v] t)) (w' := (w.alloc (.cells #[v] t)).alloc o) (p := ⟨b, 0, none⟩) ((Below.refl _ _).alloc (Nat.le_refl _) _) (by subst hb; simp)
  rw [h]; exact cell_new hb
/-- 'append([]int{}, l...)': a copy of l. -/
theorem wp_append_copy {o : Oper} {a : Act} {K : Act → World → Prop} {Q : Exit → Act → World → Prop} {w : World} (s x : Operand)
    (ho : o.op = .call { callee := .builtin .append, args := #[s, x], argTypes := #[24, 24] })
    (base B : Nat) (la : Addr) (l : List Int) (lc : Nat) (hs : a.eval s = .slice (some ⟨B, 0, none⟩) 0 0) (hx : a.eval x = .slice (some la) l.length lc) (hi : IntsAt w (some la) l) (hbase : base ≤ w.heap.size) (hlen : l.length ≤ 1048576)
    (h : ∀ ao' cap' w', ao' ≠ none → OwnE w' base ao' cap' l → Below w.heap.size w w' → K (a.put o.dst (.slice ao' l.length cap')) w') : o.wp Tryz.prog a w K Q := by
  obtain ⟨i0, hi', hz0, hz1, hz2⟩ := info_parts info_int
  by_cases h0 : l.length = 0
  · obtain rfl : l = [] := List.eq_nil_of_length_eq_zero h0
    have hrun := run_append_room_cells (P := Tryz.prog) w 24 o.type 3 i0 Tryz.underlying24 hi' B 0 0 0 la 0 lc [] (by simp) (by simp) (by simp) (Nat.le_refl _) (by simp) (by simp)
    unfold Oper.wp
    simp only [execOp, ho, resolve, invoke, builtin, Sem.run_bind, Sem.run_pure, Result.andThen_ok, List.map_toArray, List.map_cons, List.map_nil, hs, hx]
    simp only [List.length_nil]
    rw [hrun]
    exact h _ _ _ (by simp) (OwnE.empty _ _ _) (Below.refl _ _)
  · obtain ⟨b, off, he, hlt, hc⟩ := hi (by omega)
    simp only [Option.some.injEq] at he
    subst he
    have hnews : ∀ j u, (l.map (Value.int .i64))[j]? = some u → w.cell? ((⟨b, off, none⟩ : Addr).add j) = some u := by
      intro j u hj
      rw [List.getElem?_map, Option.map_eq_some_iff] at hj
      obtain ⟨z, hz, rfl⟩ := hj
      obtain ⟨hjl, rfl⟩ := List.getElem?_eq_some_iff.1 hz
      have := hc j hjl
      rw [show gi l j = l[j] by simp [gi, hjl]] at this
      have e2 : (⟨b, off, none⟩ : Addr).add j = ⟨b, off + j, none⟩ := by unfold Addr.add; split <;> simp_all
      rw [← this, e2]
    obtain ⟨v', w', hrun, r1, r2⟩ := run_append_arg_grows (P := Tryz.prog) w 24 o.type 3 i0 (.int .i64 0) 1 8 Tryz.underlying24 hi' hz0 hz1 hz2 rfl (by decide) ⟨B, 0, none⟩ 0 0 [] rfl (by simp) ⟨b, off, none⟩ l.length lc (l.map (Value.int .i64)) (by simp) hnews (by omega) (by unfold maxLen; omega) (by omega)
    have h3 : OwnL w' w.heap.size v' l := by unfold OwnL; simpa using r1
    obtain ⟨ao', cap', rfl⟩ := h3.form
    have hne : ao' ≠ none := by obtain ⟨_, _, e, _, _⟩ := h3.ints (by omega); rw [e]; simp
    unfold Oper.wp
    simp only [execOp, ho, resolve, invoke, builtin, Sem.run_bind, Sem.run_pure, Result.andThen_ok, List.map_toArray, List.map_cons, List.map_nil, hs, hx, hrun]
    exact h ao' cap' w' hne (.inl (h3.mono hbase)) ((Below.refl _ w).grown r2 (Nat.le_refl _) (fun k hk => by cases hk))
/-- The same at a step of a region that draws its order. -/
theorem step_append_copy {ops : Array Oper} {o : Oper} {a : Act} {K : Act → World → Prop} {Q : Exit → Act → World → Prop} {E : Prop} {w : World} (hgd : o.guard = none) (s x : Operand)
    (ho : o.op = .call { callee := .builtin .append, args := #[s, x], argTypes := #[24, 24] })
    (base B : Nat) (la : Addr) (l : List Int) (lc : Nat) (hs : a.eval s = .slice (some ⟨B, 0, none⟩) 0 0) (hx : a.eval x = .slice (some la) l.length lc) (hi : IntsAt w (some la) l) (hbase : base ≤ w.heap.size) (hlen : l.length ≤ 1048576)
    (h : ∀ ao' cap' w', ao' ≠ none → OwnE w' base ao' cap' l → Below w.heap.size w w' → K (a.put o.dst (.slice ao' l.length cap')) w') :
    if Region.wanted o (yielded ops a.tmps) = true then Oper.wp Tryz.prog o a w K Q else E := by
  have hw : Region.wanted o (yielded ops a.tmps) = true := by simp [Region.wanted, hgd]
  rw [if_pos hw]
  exact wp_append_copy s x ho base B la l lc hs hx hi hbase hlen h

end Go.Proofs.YtjikmjhpmkakoaaGreatDoor

namespace Go.Proofs.YtjikmjhpmkakoaaGreatDoor
open Go.RowKit

def szOne (n : Nat) : Int := if 1048576 < n then -1 else 1048576 - n




end Go.Proofs.YtjikmjhpmkakoaaGreatDoor

namespace Go.Proofs.YtjikmjhpmkakoaaGreatDoor
open Go.RowKit

theorem wpList_append_cp {ops : Array Oper} {rest : List Oper} {o : Oper} {a : Act} {Q : Exit → Act → World → Prop} {w : World} (hgd : o.guard = none) (s x : Operand)
    (ho : o.op = .call { callee := .builtin .append, args := #[s, x], argTypes := #[24, 24] })
    (base B : Nat) (la : Addr) (l : List Int) (lc : Nat) (hs : a.eval s = .slice (some ⟨B, 0, none⟩) 0 0) (hx : a.eval x = .slice (some la) l.length lc) (hi : IntsAt w (some la) l) (hbase : base ≤ w.heap.size) (hlen : l.length ≤ 1048576)
    (h : ∀ ao' cap' w', ao' ≠ none → OwnE w' base ao' cap' l → Below w.heap.size w w' → wpList Tryz.prog ops Q rest (a.put o.dst (.slice ao' l.length cap')) w') : wpList Tryz.prog ops Q (o :: rest) a w :=
  wpList_plain hgd fun _ hK => wp_append_copy s x ho base B la l lc hs hx hi hbase hlen fun ao' cap' w' h1 h2 h3 => hK _ _ (h ao' cap' w' h1 h2 h3)
theorem OwnE.room' {w : World} {base cap : Nat} {ao : Option Addr} {xs : List Int} (h : OwnE w base ao cap xs) : xs.length ≤ cap := by
  rcases h with ⟨hl, ⟨h1, h2⟩ | ⟨g, cp, cur, hv, hg, hb, hn, hm, hsz, ht⟩⟩ | ⟨rfl, -, -⟩
  · omega
  · simp only [Value.slice.injEq] at hv
    omega
  · simp
theorem OwnE.mono' {w : World} {base base' cap : Nat} {ao : Option Addr} {xs : List Int} (h : OwnE w base ao cap xs) (hb : base' ≤ base) : OwnE w base' ao cap xs := h.imp (fun h => h.mono hb) id

/-- A row of integers: block g begins with xs, nothing frozen. -/
def RowAt (w : World) (g cap : Nat) (xs : List Int) : Prop := ∃ cur, Blk w g cur 3 ∧ xs.length ≤ cap ∧ cap ≤ maxLen ∧ cur.size = cap * 1 ∧ cur.toList.take (xs.length * 1) = xs.map (Value.int .i64)
theorem RowAt.cell {w : World} {g cap : Nat} {xs : List Int} (h : RowAt w g cap xs) (k : Nat) (hk : k < xs.length) : w.cell? ⟨g, k, none⟩ = some (.int .i64 (gi xs k)) := by
  obtain ⟨cur, hb, hn, hm, hs, ht⟩ := h
  rw [hb.cell]
  have e : (cur.toList.take (xs.length * 1))[k]? = (xs.map (Value.int .i64))[k]? := by rw [ht]
  rw [List.getElem?_take, if_pos (by omega), Array.getElem?_toList] at e
  rw [e]; simp [gi, hk]
theorem RowAt.frozen {w : World} {g cap : Nat} {xs : List Int} (h : RowAt w g cap xs) (k : Nat) : w.frozen? ⟨g, k, none⟩ = false := by obtain ⟨cur, hb, _⟩ := h; exact hb.frozen k
theorem RowAt.lt {w : World} {g cap : Nat} {xs : List Int} (h : RowAt w g cap xs) : g < w.heap.size := by obtain ⟨cur, hb, _⟩ := h; exact hb.lt
theorem RowAt.store {w : World} {g cap : Nat} {xs : List Int} (h : RowAt w g cap xs) (k : Nat) (x : Int) : RowAt (w.setCell ⟨g, k, none⟩ (.int .i64 x)) g cap (xs.set k x) := by
  obtain ⟨cur, hb, hn, hm, hs, ht⟩ := h
  refine ⟨_, hb.store k _, by simpa using hn, hm, by simpa using hs, ?_⟩
  rw [Array.toList_setIfInBounds, List.length_set, List.take_set, ht, List.map_set]
theorem RowAt.of {w : World} {b : Nat} {xs : List Int} (h : OwnInts w b xs) (hn : xs.length ≤ 1048576) : RowAt w b xs.length xs :=
  ⟨_, h, Nat.le_refl _, by unfold maxLen; omega, by rw [intRow_size, Nat.mul_one], by simp only [intRow, Nat.mul_one]; exact List.take_of_length_le (by simp)⟩
theorem OwnE.row {w : World} {base cap : Nat} {ao : Option Addr} {xs : List Int} (h : OwnE w base ao cap xs) (h0 : 0 < xs.length) : ∃ g, ao = some ⟨g, 0, none⟩ ∧ base ≤ g ∧ RowAt w g cap xs := by
  rcases h with ⟨hl, ⟨h1, h2⟩ | ⟨g, cp, cur, hv, hg, hb, hn, hm, hsz, ht⟩⟩ | ⟨rfl, -, -⟩
  · omega
  · simp only [Value.slice.injEq] at hv
    obtain ⟨rfl, -, rfl⟩ := hv
    exact ⟨g, rfl, hg, cur, hb, hn, hm, hsz, ht⟩
  · simp at h0
theorem RowAt.own {w : World} {base g cap : Nat} {xs : List Int} (h : RowAt w g cap xs) (hb : base ≤ g) : OwnE w base (some ⟨g, 0, none⟩) cap xs := by
  obtain ⟨cur, h1, h2, h3, h4, h5⟩ := h
  exact .inl ⟨by simp, .inr ⟨g, cap, cur, rfl, hb, h1, h2, h3, h4, h5⟩⟩

theorem OwnE.onlyOne {w w' : World} {base cap b1 : Nat} {ao : Option Addr} {xs : List Int} (h : OwnE w base ao cap xs) (k : Only (fun b => b = b1) w.heap.size w w') (hb : b1 < base) : OwnE w' base ao cap xs := by
  rcases h with ⟨hl, h1 | ⟨g, cp, cur, hv, hg, hb, hr⟩⟩ | h
  · exact .inl ⟨hl, .inl h1⟩
  · exact .inl ⟨hl, .inr ⟨g, cp, cur, hv, hg, by rw [k.block g (Array.getElem?_eq_some_iff.1 hb).1 (fun e => by omega)]; exact hb, hr⟩⟩
  · exact .inr h

/-- The slice address ao reads as the integers xs, out of a block below B. -/
def IntsU (B : Nat) (w : World) (ao : Option Addr) (xs : List Int) : Prop :=
  0 < xs.length → ∃ b off, ao = some ⟨b, off, none⟩ ∧ b < B ∧ b < w.heap.size ∧ ∀ k, k < xs.length → w.cell? ⟨b, off + k, none⟩ = some (.int .i64 (gi xs k))
theorem IntsAt.upto {w : World} {ao : Option Addr} {xs : List Int} (h : IntsAt w ao xs) : IntsU w.heap.size w ao xs := fun h0 => by
  obtain ⟨b, off, h1, h2, h3⟩ := h h0
  exact ⟨b, off, h1, h2, h2, h3⟩
theorem IntsU.ints {B : Nat} {w : World} {ao : Option Addr} {xs : List Int} (h : IntsU B w ao xs) : IntsAt w ao xs := fun h0 => by
  obtain ⟨b, off, h1, _, h2, h3⟩ := h h0
  exact ⟨b, off, h1, h2, h3⟩
theorem IntsU.mono {B B' : Nat} {w : World} {ao : Option Addr} {xs : List Int} (h : IntsU B w ao xs) (hB : B ≤ B') : IntsU B' w ao xs := fun h0 => by
  obtain ⟨b, off, h1, h2, h3⟩ := h h0
  exact ⟨b, off, h1, by omega, h3⟩
theorem IntsU.below {B B' : Nat} {w w' : World} {ao : Option Addr} {xs : List Int} (h : IntsU B w ao xs) (hb : Below B' w w') (hB : B ≤ B') : IntsU B w' ao xs := fun h0 => by
  obtain ⟨b, off, h1, h2, h3, h4⟩ := h h0
  exact ⟨b, off, h1, h2, Nat.lt_of_lt_of_le h3 hb.size, fun k hk => by rw [hb.cell (p := ⟨b, off + k, none⟩) (Nat.lt_of_lt_of_le h2 hB)]; exact h4 k hk⟩
theorem IntsU.later {B : Nat} {W : World} {ao : Option Addr} {xs : List Int} (h : IntsU B W ao xs) (m : Later W) : IntsU B m.w ao xs := fun h0 => by
  obtain ⟨b, off, h1, h2, h3, h4⟩ := h h0
  exact ⟨b, off, h1, h2, Nat.lt_of_lt_of_le h3 m.size, fun k hk => by rw [m.below.cell (p := ⟨b, off + k, none⟩) h3]; exact h4 k hk⟩
theorem IntsU.only {B : Nat} {X : Nat → Prop} {w w' : World} {ao : Option Addr} {xs : List Int} (h : IntsU B w ao xs) (hb : Only X w.heap.size w w') (hX : ∀ b, b < B → ¬X b) : IntsU B w' ao xs := fun h0 => by
  obtain ⟨b, off, h1, h2, h3, h4⟩ := h h0
  exact ⟨b, off, h1, h2, Nat.lt_of_lt_of_le h3 hb.size, fun k hk => by rw [hb.cell (p := ⟨b, off + k, none⟩) h3 (hX b h2)]; exact h4 k hk⟩

/-- The marks 1, 2, .. -/
def marksL (n : Nat) : List Int := (List.range n).map fun i : Nat => (i : Int) + 1
theorem marksL_len (n : Nat) : (marksL n).length = n := by simp [marksL]
theorem marksL_at {n k : Nat} (h : k < n) : gi (marksL n) k = (k : Int) + 1 := by simp [marksL, gi, h]






end Go.Proofs.YtjikmjhpmkakoaaGreatDoor
