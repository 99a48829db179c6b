/-
  The walks of the laws' helpers that write into results and read them again: markIntS, heldIntS. For lists of at most 2^20 elements.
-/
import Derived.Test.YtfjljfjnooieoaaAppend
import Derived.Test.YtfjljfjnooieoaaFrame
import Derived.Test.YtfjljfjnooieoaaConvGraph
namespace Go.Proofs.Ytfjljfjnooieoaa
open Go.RowKit

theorem wpList_append_cp {ops : Array Oper} {rest : List Oper} {o : Oper} {a : Act} {Q : Exit → Act → World → Prop} {w : World} (hgd : o.guard = none) (s x : Operand)
    (ho : o.op = .call { callee := .builtin .append, args := #[s, x], argTypes := #[22, 22] })
    (base B : Nat) (la : Addr) (l : List Int) (lc : Nat) (hs : a.eval s = .slice (some ⟨B, 0, none⟩) 0 0) (hx : a.eval x = .slice (some la) l.length lc) (hi : IntsAt w (some la) l) (hbase : base ≤ w.heap.size) (hlen : l.length ≤ 1048576)
    (h : ∀ ao' cap' w', ao' ≠ none → OwnE w' base ao' cap' l → Below w.heap.size w w' → wpList Try.prog ops Q rest (a.put o.dst (.slice ao' l.length cap')) w') : wpList Try.prog ops Q (o :: rest) a w :=
  wpList_plain hgd fun _ hK => wp_append_copy s x ho base B la l lc hs hx hi hbase hlen fun ao' cap' w' h1 h2 h3 => hK _ _ (h ao' cap' w' h1 h2 h3)
theorem OwnE.room' {w : World} {base cap : Nat} {ao : Option Addr} {xs : List Int} (h : OwnE w base ao cap xs) : xs.length ≤ cap := by
  rcases h with ⟨hl, ⟨h1, h2⟩ | ⟨g, cp, cur, hv, hg, hb, hn, hm, hsz, ht⟩⟩ | ⟨rfl, -, -⟩
  · omega
  · simp only [Value.slice.injEq] at hv
    omega
  · simp
theorem OwnE.mono' {w : World} {base base' cap : Nat} {ao : Option Addr} {xs : List Int} (h : OwnE w base ao cap xs) (hb : base' ≤ base) : OwnE w base' ao cap xs := h.imp (fun h => h.mono hb) id

/-- A row of integers: block g begins with xs, nothing frozen. -/
def RowAt (w : World) (g cap : Nat) (xs : List Int) : Prop := ∃ cur, Blk w g cur 3 ∧ xs.length ≤ cap ∧ cap ≤ maxLen ∧ cur.size = cap * 1 ∧ cur.toList.take (xs.length * 1) = xs.map (Value.int .i64)
theorem RowAt.cell {w : World} {g cap : Nat} {xs : List Int} (h : RowAt w g cap xs) (k : Nat) (hk : k < xs.length) : w.cell? ⟨g, k, none⟩ = some (.int .i64 (gi xs k)) := by
  obtain ⟨cur, hb, hn, hm, hs, ht⟩ := h
  rw [hb.cell]
  have e : (cur.toList.take (xs.length * 1))[k]? = (xs.map (Value.int .i64))[k]? := by rw [ht]
  rw [List.getElem?_take, if_pos (by omega), Array.getElem?_toList] at e
  rw [e]; simp [gi, hk]
theorem RowAt.frozen {w : World} {g cap : Nat} {xs : List Int} (h : RowAt w g cap xs) (k : Nat) : w.frozen? ⟨g, k, none⟩ = false := by obtain ⟨cur, hb, _⟩ := h; exact hb.frozen k
theorem RowAt.lt {w : World} {g cap : Nat} {xs : List Int} (h : RowAt w g cap xs) : g < w.heap.size := by obtain ⟨cur, hb, _⟩ := h; exact hb.lt
theorem RowAt.store {w : World} {g cap : Nat} {xs : List Int} (h : RowAt w g cap xs) (k : Nat) (x : Int) : RowAt (w.setCell ⟨g, k, none⟩ (.int .i64 x)) g cap (xs.set k x) := by
  obtain ⟨cur, hb, hn, hm, hs, ht⟩ := h
  refine ⟨_, hb.store k _, by simpa using hn, hm, by simpa using hs, ?_⟩
  rw [Array.toList_setIfInBounds, List.length_set, List.take_set, ht, List.map_set]
theorem RowAt.of {w : World} {b : Nat} {xs : List Int} (h : OwnInts w b xs) (hn : xs.length ≤ 1048576) : RowAt w b xs.length xs :=
  ⟨_, h, Nat.le_refl _, by unfold maxLen; omega, by rw [intRow_size, Nat.mul_one], by simp only [intRow, Nat.mul_one]; exact List.take_of_length_le (by simp)⟩
theorem OwnE.row {w : World} {base cap : Nat} {ao : Option Addr} {xs : List Int} (h : OwnE w base ao cap xs) (h0 : 0 < xs.length) : ∃ g, ao = some ⟨g, 0, none⟩ ∧ base ≤ g ∧ RowAt w g cap xs := by
  rcases h with ⟨hl, ⟨h1, h2⟩ | ⟨g, cp, cur, hv, hg, hb, hn, hm, hsz, ht⟩⟩ | ⟨rfl, -, -⟩
  · omega
  · simp only [Value.slice.injEq] at hv
    obtain ⟨rfl, -, rfl⟩ := hv
    exact ⟨g, rfl, hg, cur, hb, hn, hm, hsz, ht⟩
  · simp at h0
theorem RowAt.own {w : World} {base g cap : Nat} {xs : List Int} (h : RowAt w g cap xs) (hb : base ≤ g) : OwnE w base (some ⟨g, 0, none⟩) cap xs := by
  obtain ⟨cur, h1, h2, h3, h4, h5⟩ := h
  exact .inl ⟨by simp, .inr ⟨g, cap, cur, rfl, hb, h1, h2, h3, h4, h5⟩⟩

theorem OwnE.onlyOne {w w' : World} {base cap b1 : Nat} {ao : Option Addr} {xs : List Int} (h : OwnE w base ao cap xs) (k : Only (fun b => b = b1) w.heap.size w w') (hb : b1 < base) : OwnE w' base ao cap xs := by
  rcases h with ⟨hl, h1 | ⟨g, cp, cur, hv, hg, hb, hr⟩⟩ | h
  · exact .inl ⟨hl, .inl h1⟩
  · exact .inl ⟨hl, .inr ⟨g, cp, cur, hv, hg, by rw [k.block g (Array.getElem?_eq_some_iff.1 hb).1 (fun e => by omega)]; exact hb, hr⟩⟩
  · exact .inr h

/-- The slice address ao reads as the integers xs, out of a block below B. -/
def IntsU (B : Nat) (w : World) (ao : Option Addr) (xs : List Int) : Prop :=
  0 < xs.length → ∃ b off, ao = some ⟨b, off, none⟩ ∧ b < B ∧ b < w.heap.size ∧ ∀ k, k < xs.length → w.cell? ⟨b, off + k, none⟩ = some (.int .i64 (gi xs k))
theorem IntsAt.upto {w : World} {ao : Option Addr} {xs : List Int} (h : IntsAt w ao xs) : IntsU w.heap.size w ao xs := fun h0 => by
  obtain ⟨b, off, h1, h2, h3⟩ := h h0
  exact ⟨b, off, h1, h2, h2, h3⟩
theorem IntsU.ints {B : Nat} {w : World} {ao : Option Addr} {xs : List Int} (h : IntsU B w ao xs) : IntsAt w ao xs := fun h0 => by
  obtain ⟨b, off, h1, _, h2, h3⟩ := h h0
  exact ⟨b, off, h1, h2, h3⟩
theorem IntsU.mono {B B' : Nat} {w : World} {ao : Option Addr} {xs : List Int} (h : IntsU B w ao xs) (hB : B ≤ B') : IntsU B' w ao xs := fun h0 => by
  obtain ⟨b, off, h1, h2, h3⟩ := h h0
  exact ⟨b, off, h1, by omega, h3⟩
theorem IntsU.below {B B' : Nat} {w w' : World} {ao : Option Addr} {xs : List Int} (h : IntsU B w ao xs) (hb : Below B' w w') (hB : B ≤ B') : IntsU B w' ao xs := fun h0 => by
  obtain ⟨b, off, h1, h2, h3, h4⟩ := h h0
  exact ⟨b, off, h1, h2, Nat.lt_of_lt_of_le h3 hb.size, fun k hk => by rw [hb.cell (p := ⟨b, off + k, none⟩) (Nat.lt_of_lt_of_le h2 hB)]; exact h4 k hk⟩
theorem IntsU.later {B : Nat} {W : World} {ao : Option Addr} {xs : List Int} (h : IntsU B W ao xs) (m : Later W) : IntsU B m.w ao xs := fun h0 => by
  obtain ⟨b, off, h1, h2, h3, h4⟩ := h h0
  exact ⟨b, off, h1, h2, Nat.lt_of_lt_of_le h3 m.size, fun k hk => by rw [m.below.cell (p := ⟨b, off + k, none⟩) h3]; exact h4 k hk⟩
theorem IntsU.only {B : Nat} {X : Nat → Prop} {w w' : World} {ao : Option Addr} {xs : List Int} (h : IntsU B w ao xs) (hb : Only X w.heap.size w w') (hX : ∀ b, b < B → ¬X b) : IntsU B w' ao xs := fun h0 => by
  obtain ⟨b, off, h1, h2, h3, h4⟩ := h h0
  exact ⟨b, off, h1, h2, Nat.lt_of_lt_of_le h3 hb.size, fun k hk => by rw [hb.cell (p := ⟨b, off + k, none⟩) h3 (hX b h2)]; exact h4 k hk⟩

/-- The marks 1, 2, .. -/
def marksL (n : Nat) : List Int := (List.range n).map fun i : Nat => (i : Int) + 1
theorem marksL_len (n : Nat) : (marksL n).length = n := by simp [marksL]
theorem marksL_at {n k : Nat} (h : k < n) : gi (marksL n) k = (k : Int) + 1 := by simp [marksL, gi, h]

set_option maxHeartbeats 400000 in
theorem markRow_any (g cap : Nat) (xs : List Int) (w : World) (h : RowAt w g cap xs) (h0 : 0 < xs.length) (hn : xs.length ≤ 1048576) :
    Calls Try.prog 32 #[.slice (some ⟨g, 0, none⟩) xs.length cap, .int .i64 1] w fun e w' => e = .returned (.int .i64 ((xs.length : Int) + 1)) ∧ RowAt w' g cap (marksL xs.length) ∧ Only (fun b => b = g) w.heap.size w w' := by
  have Hh := Lib.hid h
  clear h
  go_enter Try.func32, Try.ntmps32
  go_wp2_with fail
  go_loopw [1, 5] (fun a i wr => ∃ k : Nat, k ≤ xs.length ∧ i = .int .i64 k ∧ a = .int .i64 ((k : Int) + 1) ∧ Only (fun b => b = g) w.heap.size w wr ∧ ∃ ys, RowAt wr g cap ys ∧ ys.length = xs.length ∧ ∀ j, j < k → gi ys j = (j : Int) + 1) (fun _ i _ => xs.length - (intOf i).toNat)
  case atStart => exact ⟨0, by omega, rfl, rfl, Only.refl _ _ _, xs, Hh.out, rfl, fun j h => by omega⟩
  case round =>
    obtain ⟨k, hk, rfl, rfl, hO, ys, hR, hl, hP⟩ := hrel
    have HhO := Lib.hid hO
    clear hO
    have Hhl := Lib.hid hl
    clear hl
    have HhP := Lib.hid hP
    clear hP
    by_cases hlt : k < xs.length
    · have z1 := hR.cell k (by have := Hhl.out; omega)
      have z2 := hR.frozen k
      have HhR := Lib.hid hR
      clear hR
      go_wp2_with fail
      go_roundw
      case rel =>
        refine ⟨k + 1, by omega, by go_num, by go_num, HhO.out.setCell (p := ⟨g, k, none⟩) (.inl rfl) _, ys.set k ((k : Int) + 1), HhR.out.store k _, by rw [List.length_set]; exact Hhl.out, fun j hj => ?_⟩
        by_cases e : j = k
        · subst e; simp [gi, Hhl.out, hlt]
        · have e' : k ≠ j := fun h => e h.symm
          rw [← HhP.out j (by omega)]; simp [gi, e']
      case measure => simp [intOf]; omega
    · obtain rfl : k = xs.length := by omega
      have HhR := Lib.hid hR
      clear hR
      go_wp2_with fail
      go_ret
      have e : ys = marksL xs.length := by
        refine gi_ext (by rw [marksL_len]; exact Hhl.out) fun j hj => ?_
        have hj' : j < xs.length := by rw [← Hhl.out]; exact hj
        rw [HhP.out j hj', marksL_at hj']
      exact ⟨rfl, e ▸ HhR.out, HhO.out⟩

theorem markNil_any (ao : Option Addr) (cap : Nat) (w : World) : Calls Try.prog 32 #[.slice ao 0 cap, .int .i64 1] w fun e w' => e = .returned (.int .i64 1) ∧ w = w' := by
  go_enter Try.func32, Try.ntmps32
  go_wp2_with fail
  go_loopw [1, 5] (fun a i wr => wr = w ∧ a = .int .i64 1 ∧ i = .int .i64 0) (fun _ _ _ => 0)
  case atStart => exact ⟨rfl, rfl, rfl⟩
  case round =>
    obtain ⟨rfl, rfl, rfl⟩ := hrel
    go_wp2_with fail
    go_ret
    exact ⟨rfl, rfl⟩

/-- markIntS over a list of the call's own. -/
theorem markE_any (base cap : Nat) (ao : Option Addr) (xs : List Int) (w : World) (h : OwnE w base ao cap xs) (hbase : base ≤ w.heap.size) (hn : xs.length ≤ 1048576) :
    Calls Try.prog 32 #[.slice ao xs.length cap, .int .i64 1] w fun e w' => e = .returned (.int .i64 ((xs.length : Int) + 1)) ∧ IntsAt w' ao (marksL xs.length) ∧ Below base w w' := by
  by_cases h0 : 0 < xs.length
  · obtain ⟨g, rfl, hg, hR⟩ := h.row h0
    refine (markRow_any g cap xs w hR h0 hn).mono fun e w' ⟨h1, h2, h3⟩ => ⟨h1, (h2.own hg).ints, h3.below hbase (fun b hb e => by omega)⟩
  · obtain rfl : xs = [] := List.eq_nil_of_length_eq_zero (by omega)
    refine (markNil_any ao cap w).mono fun e w' ⟨h1, h2⟩ => ⟨by rw [h1]; rfl, fun h => absurd h (by simp [marksL]), by rw [← h2]; exact Below.refl _ _⟩

set_option maxHeartbeats 400000 in
theorem held_any (cap n : Nat) (ao : Option Addr) (w : World) (h : IntsAt w ao (marksL n)) (hn : n ≤ 1048576) :
    Calls Try.prog 33 #[.slice ao n cap, .int .i64 1] w fun e w' => e = .returned (.int .i64 ((n : Int) + 1)) ∧ w = w' := by
  have hl := marksL_len n
  have Hhl := Lib.hid hl
  clear hl
  go_enter Try.func33, Try.ntmps33
  go_wp2_with fail
  go_loopw [1, 5] (fun a i wr => wr = w ∧ ∃ k : Nat, k ≤ n ∧ i = .int .i64 k ∧ a = .int .i64 ((k : Int) + 1)) (fun _ i _ => n - (intOf i).toNat)
  case atStart => exact ⟨rfl, 0, by omega, rfl, rfl⟩
  case round =>
    obtain ⟨rfl, k, hk, rfl, rfl⟩ := hrel
    by_cases hlt : k < n
    · obtain ⟨b, off, rfl, hb, hc⟩ := h (by rw [Hhl.out]; omega)
      have z := hc k (by rw [Hhl.out]; omega)
      rw [marksL_at hlt] at z
      clear hc
      go_wp2_with fail
      go_roundw
      case rel => exact ⟨by trivial, k + 1, by omega, by go_num, by go_num⟩
      case measure => simp [intOf]; omega
    · obtain rfl : k = n := by omega
      go_wp2_with fail
      go_ret
      exact ⟨rfl, rfl⟩

set_option maxHeartbeats 400000 in
/-- markGraph over a copy: nothing but the copy's rows turns. -/
theorem markGraph_any (x : Int) (f : List Int) (b1 : Nat) (w : World) (h : OwnInts w b1 f) (hn : f.length ≤ 1048576) :
    Calls Try.prog 21 #[.agg #[.int .i64 x, .slice (some ⟨b1, 0, none⟩) f.length f.length], .int .i64 1] w fun e w' => e = .returned (.int .i64 ((f.length : Int) + 1)) ∧ Only (fun b => b = b1) w.heap.size w w' := by
  have hlt := h.lt
  go_enter Try.func21, Try.ntmps21
  go_wp2_with fail
  generalize hW : w.alloc _ = W1
  obtain ⟨hB, -, k0⟩ := alloc1 hW
  have h1 := h.below hB hlt
  clear hW k0
  have hk : Calls Try.prog 32 #[.slice (some ⟨b1, 0, none⟩) f.length f.length, .int .i64 1] W1 fun e w' => e = .returned (.int .i64 ((f.length : Int) + 1)) ∧ Only (fun b => b = b1) W1.heap.size W1 w' := by
    by_cases h0 : 0 < f.length
    · exact (markRow_any b1 f.length f W1 (RowAt.of h1 hn) h0 hn).mono fun e w' ⟨h1, _, h3⟩ => ⟨h1, h3⟩
    · obtain rfl : f = [] := List.eq_nil_of_length_eq_zero (by omega)
      exact (markNil_any _ _ W1).mono fun e w' ⟨h1, h2⟩ => ⟨by rw [h1]; rfl, by rw [← h2]; exact Only.refl _ _ _⟩
  refine hk.mono ?_
  rintro e w3 ⟨rfl, hO⟩
  have hO3 : Only (fun b => b = b1) w.heap.size w w3 := (Only.of hB).trans (hO.mono hB.size fun b _ h => h)
  have HhO3 := Lib.hid hO3
  clear hO3
  clear hO h1 hk h
  go_wp2_with fail
  go_ret
  exact ⟨rfl, HhO3.out⟩

end Go.Proofs.Ytfjljfjnooieoaa
