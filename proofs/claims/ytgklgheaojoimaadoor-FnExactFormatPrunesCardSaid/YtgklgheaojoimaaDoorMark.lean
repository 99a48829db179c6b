/-
  The walks of the laws' helpers that write into results and read them again: markIntS, heldIntS. For lists of at most 2^20 elements.
-/
import Derived.Test.YtgklgheaojoimaaDoorAppend
import Derived.Test.YtgklgheaojoimaaDoorFrame
import Derived.Test.YtgklgheaojoimaaDoorConvGraph
namespace Go.Proofs.YtgklgheaojoimaaDoor
open Go.RowKit

theorem wpList_append_cp {ops : Array Oper} {rest : List Oper} {o : Oper} {a : Act} {Q : Exit → Act → World → Prop} {w : World} (hgd : o.guard = none) (s x : Operand)
    (ho : o.op = .call { callee := .builtin .append, args := #[s, x], argTypes := #[24, 24] })
    (base B : Nat) (la : Addr) (l : List Int) (lc : Nat) (hs : a.eval s = .slice (some ⟨B, 0, none⟩) 0 0) (hx : a.eval x = .slice (some la) l.length lc) (hi : IntsAt w (some la) l) (hbase : base ≤ w.heap.size) (hlen : l.length ≤ 1048576)
    (h : ∀ ao' cap' w', ao' ≠ none → OwnE w' base ao' cap' l → Below w.heap.size w w' → wpList Tryd.prog ops Q rest (a.put o.dst (.slice ao' l.length cap')) w') : wpList Tryd.prog ops Q (o :: rest) a w :=
  wpList_plain hgd fun _ hK => wp_append_copy s x ho base B la l lc hs hx hi hbase hlen fun ao' cap' w' h1 h2 h3 => hK _ _ (h ao' cap' w' h1 h2 h3)
theorem OwnE.room' {w : World} {base cap : Nat} {ao : Option Addr} {xs : List Int} (h : OwnE w base ao cap xs) : xs.length ≤ cap := by
  rcases h with ⟨hl, ⟨h1, h2⟩ | ⟨g, cp, cur, hv, hg, hb, hn, hm, hsz, ht⟩⟩ | ⟨rfl, -, -⟩
  · omega
  · simp only [Value.slice.injEq] at hv
    omega
  · simp
theorem OwnE.mono' {w : World} {base base' cap : Nat} {ao : Option Addr} {xs : List Int} (h : OwnE w base ao cap xs) (hb : base' ≤ base) : OwnE w base' ao cap xs := h.imp (fun h => h.mono hb) id

/-- A row of integers: block g begins with xs, nothing frozen. -/
def RowAt (w : World) (g cap : Nat) (xs : List Int) : Prop := ∃ cur, Blk w g cur 3 ∧ xs.length ≤ cap ∧ cap ≤ maxLen ∧ cur.size = cap * 1 ∧ cur.toList.take (xs.length * 1) = xs.map (Value.int .i64)
theorem RowAt.cell {w : World} {g cap : Nat} {xs : List Int} (h : RowAt w g cap xs) (k : Nat) (hk : k < xs.length) : w.cell? ⟨g, k, none⟩ = some (.int .i64 (gi xs k)) := by
  obtain ⟨cur, hb, hn, hm, hs, ht⟩ := h
  rw [hb.cell]
  have e : (cur.toList.take (xs.length * 1))[k]? = (xs.map (Value.int .i64))[k]? := by rw [ht]
  rw [List.getElem?_take, if_pos (by omega), Array.getElem?_toList] at e
  rw [e]; simp [gi, hk]
theorem RowAt.frozen {w : World} {g cap : Nat} {xs : List Int} (h : RowAt w g cap xs) (k : Nat) : w.frozen? ⟨g, k, none⟩ = false := by obtain ⟨cur, hb, _⟩ := h; exact hb.frozen k
theorem RowAt.lt {w : World} {g cap : Nat} {xs : List Int} (h : RowAt w g cap xs) : g < w.heap.size := by obtain ⟨cur, hb, _⟩ := h; exact hb.lt
theorem RowAt.store {w : World} {g cap : Nat} {xs : List Int} (h : RowAt w g cap xs) (k : Nat) (x : Int) : RowAt (w.setCell ⟨g, k, none⟩ (.int .i64 x)) g cap (xs.set k x) := by
  obtain ⟨cur, hb, hn, hm, hs, ht⟩ := h
  refine ⟨_, hb.store k _, by simpa using hn, hm, by simpa using hs, ?_⟩
  rw [Array.toList_setIfInBounds, List.length_set, List.take_set, ht, List.map_set]
theorem RowAt.of {w : World} {b : Nat} {xs : List Int} (h : OwnInts w b xs) (hn : xs.length ≤ 1048576) : RowAt w b xs.length xs :=
  ⟨_, h, Nat.le_refl _, by unfold maxLen; omega, by rw [intRow_size, Nat.mul_one], by simp only [intRow, Nat.mul_one]; exact List.take_of_length_le (by simp)⟩
theorem OwnE.row {w : World} {base cap : Nat} {ao : Option Addr} {xs : List Int} (h : OwnE w base ao cap xs) (h0 : 0 < xs.length) : ∃ g, ao = some ⟨g, 0, none⟩ ∧ base ≤ g ∧ RowAt w g cap xs := by
  rcases h with ⟨hl, ⟨h1, h2⟩ | ⟨g, cp, cur, hv, hg, hb, hn, hm, hsz, ht⟩⟩ | ⟨rfl, -, -⟩
  · omega
  · simp only [Value.slice.injEq] at hv
    obtain ⟨rfl, -, rfl⟩ := hv
    exact ⟨g, rfl, hg, cur, hb, hn, hm, hsz, ht⟩
  · simp at h0
theorem RowAt.own {w : World} {base g cap : Nat} {xs : List Int} (h : RowAt w g cap xs) (hb : base ≤ g) : OwnE w base (some ⟨g, 0, none⟩) cap xs := by
  obtain ⟨cur, h1, h2, h3, h4, h5⟩ := h
  exact .inl ⟨by simp, .inr ⟨g, cap, cur, rfl, hb, h1, h2, h3, h4, h5⟩⟩

theorem OwnE.onlyOne {w w' : World} {base cap b1 : Nat} {ao : Option Addr} {xs : List Int} (h : OwnE w base ao cap xs) (k : Only (fun b => b = b1) w.heap.size w w') (hb : b1 < base) : OwnE w' base ao cap xs := by
  rcases h with ⟨hl, h1 | ⟨g, cp, cur, hv, hg, hb, hr⟩⟩ | h
  · exact .inl ⟨hl, .inl h1⟩
  · exact .inl ⟨hl, .inr ⟨g, cp, cur, hv, hg, by rw [k.block g (Array.getElem?_eq_some_iff.1 hb).1 (fun e => by omega)]; exact hb, hr⟩⟩
  · exact .inr h

/-- The slice address ao reads as the integers xs, out of a block below B. -/
def IntsU (B : Nat) (w : World) (ao : Option Addr) (xs : List Int) : Prop :=
  0 < xs.length → ∃ b off, ao = some ⟨b, off, none⟩ ∧ b < B ∧ b < w.heap.size ∧ ∀ k, k < xs.length → w.cell? ⟨b, off + k, none⟩ = some (.int .i64 (gi xs k))
theorem IntsAt.upto {w : World} {ao : Option Addr} {xs : List Int} (h : IntsAt w ao xs) : IntsU w.heap.size w ao xs := fun h0 => by
  obtain ⟨b, off, h1, h2, h3⟩ := h h0
  exact ⟨b, off, h1, h2, h2, h3⟩
theorem IntsU.ints {B : Nat} {w : World} {ao : Option Addr} {xs : List Int} (h : IntsU B w ao xs) : IntsAt w ao xs := fun h0 => by
  obtain ⟨b, off, h1, _, h2, h3⟩ := h h0
  exact ⟨b, off, h1, h2, h3⟩
theorem IntsU.mono {B B' : Nat} {w : World} {ao : Option Addr} {xs : List Int} (h : IntsU B w ao xs) (hB : B ≤ B') : IntsU B' w ao xs := fun h0 => by
  obtain ⟨b, off, h1, h2, h3⟩ := h h0
  exact ⟨b, off, h1, by omega, h3⟩
theorem IntsU.below {B B' : Nat} {w w' : World} {ao : Option Addr} {xs : List Int} (h : IntsU B w ao xs) (hb : Below B' w w') (hB : B ≤ B') : IntsU B w' ao xs := fun h0 => by
  obtain ⟨b, off, h1, h2, h3, h4⟩ := h h0
  exact ⟨b, off, h1, h2, Nat.lt_of_lt_of_le h3 hb.size, fun k hk => by rw [hb.cell (p := ⟨b, off + k, none⟩) (Nat.lt_of_lt_of_le h2 hB)]; exact h4 k hk⟩
theorem IntsU.later {B : Nat} {W : World} {ao : Option Addr} {xs : List Int} (h : IntsU B W ao xs) (m : Later W) : IntsU B m.w ao xs := fun h0 => by
  obtain ⟨b, off, h1, h2, h3, h4⟩ := h h0
  exact ⟨b, off, h1, h2, Nat.lt_of_lt_of_le h3 m.size, fun k hk => by rw [m.below.cell (p := ⟨b, off + k, none⟩) h3]; exact h4 k hk⟩
theorem IntsU.only {B : Nat} {X : Nat → Prop} {w w' : World} {ao : Option Addr} {xs : List Int} (h : IntsU B w ao xs) (hb : Only X w.heap.size w w') (hX : ∀ b, b < B → ¬X b) : IntsU B w' ao xs := fun h0 => by
  obtain ⟨b, off, h1, h2, h3, h4⟩ := h h0
  exact ⟨b, off, h1, h2, Nat.lt_of_lt_of_le h3 hb.size, fun k hk => by rw [hb.cell (p := ⟨b, off + k, none⟩) h3 (hX b h2)]; exact h4 k hk⟩

/-- The marks 1, 2, .. -/
def marksL (n : Nat) : List Int := (List.range n).map fun i : Nat => (i : Int) + 1
theorem marksL_len (n : Nat) : (marksL n).length = n := by simp [marksL]
theorem marksL_at {n k : Nat} (h : k < n) : gi (marksL n) k = (k : Int) + 1 := by simp [marksL, gi, h]






end Go.Proofs.YtgklgheaojoimaaDoor
