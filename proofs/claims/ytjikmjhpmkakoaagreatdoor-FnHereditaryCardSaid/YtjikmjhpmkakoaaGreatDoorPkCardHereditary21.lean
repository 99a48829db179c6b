/-
  l6Filled and WidthOfOrder of the reference. For at most 2^20 rows and list elements.
  The walks of the laws' helpers on Arcs: szArcs, toArcs, eqArcs. The lists have at most 2^20 elements where copies are made.
  The walks of the laws' helpers that write into results and read them again, from whatever number on: markIntS, heldIntS; markArcs, markGraph, heldGraph, markIntervals, heldIntervals over them. For lists of at most 2^20 elements.
  Two lists of integers that a call makes side by side, each appended to in turn. For at most 2^20 elements.
-/
import Derived.Test.YtjikmjhpmkakoaaGreatDoorPkCardHereditary20
import Derived.Test.YtjikmjhpmkakoaaGreatDoorPkCardHereditary09
import Derived.Deep.RegionWith
import Derived.Test.YtjikmjhpmkakoaaGreatDoorPkCardHereditary01
import Derived.Test.YtjikmjhpmkakoaaGreatDoorPkCardHereditary05
import Derived.Deep.AppendLies
namespace Go.Proofs.YtjikmjhpmkakoaaGreatDoor
open Go.RowKit

/-- A list of vertices out of a block from 'base' on. -/
def NatsB (base : Nat) (w : World) (ao : Option Addr) (l : List Nat) : Prop :=
  0 < l.length → ∃ g, ao = some ⟨g, 0, none⟩ ∧ base ≤ g ∧ g < w.heap.size ∧ ∀ k, k < l.length → w.cell? ⟨g, k, none⟩ = some (.int .i64 (eln l k : Int))
theorem NatsB.of {w : World} {base cap : Nat} {ao : Option Addr} {l : List Nat} (h : OwnL w base (.slice ao (l.map Int.ofNat).length cap) (l.map Int.ofNat)) : NatsB base w ao l := fun h0 => by
  obtain ⟨g, h1, h2, h3⟩ := (OwnE.own h).row (by simpa using h0)
  refine ⟨g, h1, h2, h3.lt, fun k hk => ?_⟩
  rw [h3.cell k (by simpa using hk), gi_map l k hk]
theorem specListB_any (S : Nat) (h : S < 128) (w : World) : Calls Tryz.prog 64 #[.int .i64 S] w fun e w' => ∃ ao cap, e = .returned (.slice ao (cnt S) cap) ∧ Below w.heap.size w w' ∧ NatsB w.heap.size w' ao (els S) :=
  (specListOf_any (S : Int) w).mono fun e w' ⟨ao, cap, he, hb, ho⟩ => by
    rw [listOf_nat h] at he ho
    exact ⟨ao, cap, by rw [he, List.length_map]; rfl, hb, NatsB.of ho⟩
theorem implListB_any (S : Nat) (h : S < 128) (w : World) : Calls Tryz.prog 47 #[.int .i64 S] w fun e w' => ∃ ao cap, e = .returned (.slice ao (cnt S) cap) ∧ Below w.heap.size w w' ∧ NatsB w.heap.size w' ao (els S) :=
  (implListOf_any (S : Int) w).mono fun e w' ⟨ao, cap, he, hb, ho⟩ => by
    rw [listOf_nat h] at he ho
    exact ⟨ao, cap, by rw [he, List.length_map]; rfl, hb, NatsB.of ho⟩



end Go.Proofs.YtjikmjhpmkakoaaGreatDoor

namespace Go.Proofs.YtjikmjhpmkakoaaGreatDoor
open Go.RowKit

def szTwo (n m : Nat) : Int := if 1048576 < n + m then -1 else 1048576 - n - m




end Go.Proofs.YtjikmjhpmkakoaaGreatDoor

namespace Go.Proofs.YtjikmjhpmkakoaaGreatDoor
open Go.RowKit

/-- The marks a, a + 1, .. -/
def marksF (a : Int) (n : Nat) : List Int := (List.range n).map fun i : Nat => a + (i : Int)
theorem marksF_len (a : Int) (n : Nat) : (marksF a n).length = n := by simp [marksF]
theorem marksF_at {a : Int} {n k : Nat} (h : k < n) : gi (marksF a n) k = a + (k : Int) := by simp [marksF, gi, h]
theorem Only.monoX {X Y : Nat → Prop} {B : Nat} {w w' : World} (h : Only X B w w') (hX : ∀ b, X b → Y b) : Only Y B w w' := h.mono (Nat.le_refl _) fun b _ => hX b



/-- The block that a list lies in, where it has elements. -/
def XR (ao : Option Addr) (xs : List Int) (b : Nat) : Prop := 0 < xs.length ∧ ∃ off, ao = some ⟨b, off, none⟩
theorem OwnE.xr {w : World} {base cap b : Nat} {ao : Option Addr} {xs : List Int} (h : OwnE w base ao cap xs) (hb : XR ao xs b) : base ≤ b ∧ b < w.heap.size := by
  obtain ⟨h0, off, e⟩ := hb
  obtain ⟨g, e2, hg, hR⟩ := h.row h0
  rw [e2] at e
  simp only [Option.some.injEq, Addr.mk.injEq] at e
  obtain ⟨rfl, -⟩ := e
  exact ⟨hg, hR.lt⟩
theorem OwnE.onlyX {w w' : World} {base cap : Nat} {ao : Option Addr} {xs : List Int} {X : Nat → Prop} (h : OwnE w base ao cap xs) (k : Only X w.heap.size w w') (hX : ∀ b, X b → b < base) : OwnE w' base ao cap xs := by
  rcases h with ⟨hl, h1 | ⟨g, cp, cur, hv, hg, hb, hr⟩⟩ | h
  · exact .inl ⟨hl, .inl h1⟩
  · exact .inl ⟨hl, .inr ⟨g, cp, cur, hv, hg, by rw [k.block g (Array.getElem?_eq_some_iff.1 hb).1 (fun e => by have := hX g e; omega)]; exact hb, hr⟩⟩
  · exact .inr h

theorem IntsAt.onlyD {w w' : World} {ao : Option Addr} {xs : List Int} {X : Nat → Prop} (h : IntsAt w ao xs) (k : Only X w.heap.size w w') (hX : ∀ b, X b → ¬XR ao xs b) : IntsAt w' ao xs := fun h0 => by
  obtain ⟨b, off, e, hlt, hc⟩ := h h0
  exact ⟨b, off, e, Nat.lt_of_lt_of_le hlt k.size, fun j hj => by rw [k.cell (p := ⟨b, off + j, none⟩) hlt (fun hx => hX b hx ⟨h0, off, e⟩)]; exact hc j hj⟩
theorem OwnE.onlyD {w w' : World} {base cap : Nat} {ao : Option Addr} {xs : List Int} {X : Nat → Prop} (h : OwnE w base ao cap xs) (k : Only X w.heap.size w w') (hX : ∀ b, X b → ¬XR ao xs b) (h0 : 0 < xs.length) : OwnE w' base ao cap xs := by
  obtain ⟨g, rfl, hg, cur, hb, hr⟩ := h.row h0
  exact RowAt.own ⟨cur, k.blk hb hb.lt (fun hx => hX g hx ⟨h0, 0, rfl⟩), hr⟩ hg








end Go.Proofs.YtjikmjhpmkakoaaGreatDoor

namespace Go.Proofs.YtjikmjhpmkakoaaGreatDoor
open Go.RowKit

/-- Two lists of the call's own, from block base on, in blocks of their own each. -/
structure TwoL (w : World) (base : Nat) (v1 v2 : Value) (L R : List Int) : Prop where
  o1 : OwnL w base v1 L
  o2 : OwnL w base v2 R
  ne : v1.ownBlock = none ∨ v1.ownBlock ≠ v2.ownBlock
theorem OwnL.lt {w : World} {base : Nat} {v : Value} {xs : List Int} (h : OwnL w base v xs) {k : Nat} (hk : v.ownBlock = some k) : base ≤ k ∧ k < w.heap.size := by
  obtain ⟨h0, ⟨rfl, -⟩ | ⟨g, cap, cur, rfl, hg, hh, -⟩⟩ := h
  · cases hk
  · simp only [Value.ownBlock, Option.some.injEq] at hk
    subst hk
    exact ⟨hg, (Array.getElem?_eq_some_iff.1 hh).1⟩
theorem OwnL.kept {w w' : World} {base : Nat} {v : Value} {xs : List Int} {row : Option Nat} (h : OwnL w base v xs) (hg : w.grownBy w' row) (hne : v.ownBlock = none ∨ v.ownBlock ≠ row) : OwnL w' base v xs :=
  World.ownsRow.kept h hg hne
theorem TwoL.alloc {w : World} {base : Nat} {v1 v2 : Value} {L R : List Int} (h : TwoL w base v1 v2 L R) (o : Obj) : TwoL (w.alloc o) base v1 v2 L R := ⟨h.o1.alloc o, h.o2.alloc o, h.ne⟩
theorem TwoL.below {w w' : World} {base : Nat} {v1 v2 : Value} {L R : List Int} (h : TwoL w base v1 v2 L R) (hb : Below w.heap.size w w') : TwoL w' base v1 v2 L R := ⟨h.o1.below hb, h.o2.below hb, h.ne⟩
theorem TwoL.drew {w : World} {base : Nat} {v1 v2 : Value} {L R : List Int} (h : TwoL w base v1 v2 L R) : TwoL w.drew base v1 v2 L R := h.below (Below.refl _ _).drew
theorem TwoL.store {w : World} {base : Nat} {v1 v2 : Value} {L R : List Int} (h : TwoL w base v1 v2 L R) {a : Addr} (ha : a.block < base) (u : Value) : TwoL (w.setCell a u) base v1 v2 L R := by
  have hg : w.grownBy (w.setCell a u) (some a.block) := ⟨rfl, rfl, rfl, by simp [World.setCell], fun k _ hk => Below.heap_setCell _ _ _ _ (fun e => hk (by rw [e]))⟩
  have key : ∀ v xs, OwnL w base v xs → OwnL (w.setCell a u) base v xs := fun v xs ho => by
    refine ho.kept hg ?_
    cases hv : v.ownBlock with
    | none => exact .inl rfl
    | some k => exact .inr fun e => by have := (ho.lt hv).1; simp only [Option.some.injEq] at e; omega
  exact ⟨key _ _ h.o1, key _ _ h.o2, h.ne⟩
theorem TwoL.nil (w : World) (base : Nat) : TwoL w base (.slice none 0 0) (.slice none 0 0) [] [] := ⟨OwnL.nil _ _, OwnL.nil _ _, .inl rfl⟩

theorem news_one {w : World} {B : Nat} {y : Int} (hc : w.cell? ⟨B, 0, none⟩ = some (.int .i64 y)) : ∀ j u, [Value.int .i64 y][j]? = some u → w.cell? ((⟨B, 0, none⟩ : Addr).add j) = some u := by
  intro j u hj
  match j, hj with
  | 0, hj => simp at hj; subst hj; simpa [Addr.add] using hc

theorem wp_append_L {o : Oper} {a : Act} {K : Act → World → Prop} {Q : Exit → Act → World → Prop} {w : World} (s x : Operand)
    (ho : o.op = .call { callee := .builtin .append, args := #[s, x], argTypes := #[24, 24] })
    (base : Nat) (v : Value) (xs : List Int) (y : Int) (B : Nat) (hs : a.eval s = v) (hown : OwnL w base v xs) (hx : a.eval x = .slice (some ⟨B, 0, none⟩) 1 1)
    (hc : w.cell? ⟨B, 0, none⟩ = some (.int .i64 y)) (hbase : base ≤ w.heap.size) (hlen : xs.length ≤ 1048576)
    (n : Nat) (hn : xs.length = n) (h : ∀ g cap w', OwnL w' base (.slice (some ⟨g, 0, none⟩) (n + 1) cap) (xs ++ [y]) → w.grownBy w' v.ownBlock → (v.ownBlock = some g ∨ g = w.heap.size) → K (a.put o.dst (.slice (some ⟨g, 0, none⟩) (n + 1) cap)) w') : o.wp Tryz.prog a w K Q := by
  subst hn
  obtain ⟨i0, hi, hz0, hz1, hz2⟩ := info_parts info_int
  refine wp_append_lies w s x 24 ho base 3 i0 (.int .i64 0) 1 8 Tryz.underlying24 hi hz0 hz1 hz2 rfl (by decide) v xs.length (xs.map (Value.int .i64)) hs hown
    ⟨B, 0, none⟩ 1 1 [.int .i64 y] hx rfl (news_one hc) (by intro u hu; simp at hu; subst hu; rfl) (by omega) (by unfold maxLen; omega) (by omega) hbase w.heap.size rfl ?_
  intro g cap w' h1 h2 h3 _
  refine h g cap w' ?_ h2 h3
  unfold OwnL
  simpa using h1
theorem grown_below {w w' : World} {base : Nat} {v : Value} {xs : List Int} (ho : OwnL w base v xs) (hg : w.grownBy w' v.ownBlock) (hbase : base ≤ w.heap.size) : Below base w w' :=
  (Below.refl base w).grown hg hbase fun _ hk => (ho.lt hk).1

/-- The first of two is appended to. -/
theorem wp_append_1 {o : Oper} {a : Act} {K : Act → World → Prop} {Q : Exit → Act → World → Prop} {w : World} (s x : Operand)
    (ho : o.op = .call { callee := .builtin .append, args := #[s, x], argTypes := #[24, 24] })
    (base : Nat) (v1 v2 : Value) (L R : List Int) (y : Int) (B : Nat) (hs : a.eval s = v1) (hown : TwoL w base v1 v2 L R) (hx : a.eval x = .slice (some ⟨B, 0, none⟩) 1 1)
    (hc : w.cell? ⟨B, 0, none⟩ = some (.int .i64 y)) (hbase : base ≤ w.heap.size) (hlen : L.length ≤ 1048576)
    (n : Nat) (hn : L.length = n) (h : ∀ g cap w', TwoL w' base (.slice (some ⟨g, 0, none⟩) (n + 1) cap) v2 (L ++ [y]) R → Below base w w' → (∀ b, b < w.heap.size → v1.ownBlock ≠ some b → w'.heap[b]? = w.heap[b]?) → K (a.put o.dst (.slice (some ⟨g, 0, none⟩) (n + 1) cap)) w') : o.wp Tryz.prog a w K Q := by
  refine wp_append_L s x ho base v1 L y B hs hown.o1 hx hc hbase hlen n hn fun g cap w' h1 hg hgg => h g cap w' ⟨h1, hown.o2.kept hg ?_, .inr fun e2 => ?_⟩ (grown_below hown.o1 hg hbase) fun b hb hne => hg.block b hb (fun e => hne e.symm)
  · rcases hown.ne with h | h
    · rw [h]; cases v2.ownBlock
      · exact .inl rfl
      · exact .inr (by simp)
    · exact .inr fun e => h e.symm
  · have e2 : some g = v2.ownBlock := e2
    rcases hgg with hgg | rfl
    · rcases hown.ne with h | h
      · rw [hgg] at h; cases h
      · exact h (hgg.trans e2)
    · have := (hown.o2.lt e2.symm).2; omega
/-- The second of two. -/
theorem wp_append_2 {o : Oper} {a : Act} {K : Act → World → Prop} {Q : Exit → Act → World → Prop} {w : World} (s x : Operand)
    (ho : o.op = .call { callee := .builtin .append, args := #[s, x], argTypes := #[24, 24] })
    (base : Nat) (v1 v2 : Value) (L R : List Int) (y : Int) (B : Nat) (hs : a.eval s = v2) (hown : TwoL w base v1 v2 L R) (hx : a.eval x = .slice (some ⟨B, 0, none⟩) 1 1)
    (hc : w.cell? ⟨B, 0, none⟩ = some (.int .i64 y)) (hbase : base ≤ w.heap.size) (hlen : R.length ≤ 1048576)
    (n : Nat) (hn : R.length = n) (h : ∀ g cap w', TwoL w' base v1 (.slice (some ⟨g, 0, none⟩) (n + 1) cap) L (R ++ [y]) → Below base w w' → K (a.put o.dst (.slice (some ⟨g, 0, none⟩) (n + 1) cap)) w') : o.wp Tryz.prog a w K Q := by
  refine wp_append_L s x ho base v2 R y B hs hown.o2 hx hc hbase hlen n hn fun g cap w' h1 hg hgg => h g cap w' ⟨hown.o1.kept hg hown.ne, h1, ?_⟩ (grown_below hown.o2 hg hbase)
  rcases hown.ne with h | h
  · exact .inl h
  · refine .inr fun e2 => ?_
    have e2 : v1.ownBlock = some g := e2
    rcases hgg with hgg | rfl
    · exact h (e2.trans hgg.symm)
    · have := (hown.o1.lt e2).2; omega

theorem step_append_1 {ops : Array Oper} {o : Oper} {a : Act} {K : Act → World → Prop} {Q : Exit → Act → World → Prop} {E : Prop} {w : World} (hgd : o.guard = none) (s x : Operand)
    (ho : o.op = .call { callee := .builtin .append, args := #[s, x], argTypes := #[24, 24] })
    (base : Nat) (v1 v2 : Value) (L R : List Int) (y : Int) (B : Nat) (hs : a.eval s = v1) (hown : TwoL w base v1 v2 L R) (hx : a.eval x = .slice (some ⟨B, 0, none⟩) 1 1)
    (hc : w.cell? ⟨B, 0, none⟩ = some (.int .i64 y)) (hbase : base ≤ w.heap.size) (hlen : L.length ≤ 1048576)
    (n : Nat) (hn : L.length = n) (h : ∀ g cap w', TwoL w' base (.slice (some ⟨g, 0, none⟩) (n + 1) cap) v2 (L ++ [y]) R → Below base w w' → (∀ b, b < w.heap.size → v1.ownBlock ≠ some b → w'.heap[b]? = w.heap[b]?) → K (a.put o.dst (.slice (some ⟨g, 0, none⟩) (n + 1) cap)) w') :
    if Region.wanted o (yielded ops a.tmps) = true then Oper.wp Tryz.prog o a w K Q else E := by
  rw [if_pos (by simp [Region.wanted, hgd])]
  exact wp_append_1 s x ho base v1 v2 L R y B hs hown hx hc hbase hlen n hn h
theorem step_append_2 {ops : Array Oper} {o : Oper} {a : Act} {K : Act → World → Prop} {Q : Exit → Act → World → Prop} {E : Prop} {w : World} (hgd : o.guard = none) (s x : Operand)
    (ho : o.op = .call { callee := .builtin .append, args := #[s, x], argTypes := #[24, 24] })
    (base : Nat) (v1 v2 : Value) (L R : List Int) (y : Int) (B : Nat) (hs : a.eval s = v2) (hown : TwoL w base v1 v2 L R) (hx : a.eval x = .slice (some ⟨B, 0, none⟩) 1 1)
    (hc : w.cell? ⟨B, 0, none⟩ = some (.int .i64 y)) (hbase : base ≤ w.heap.size) (hlen : R.length ≤ 1048576)
    (n : Nat) (hn : R.length = n) (h : ∀ g cap w', TwoL w' base v1 (.slice (some ⟨g, 0, none⟩) (n + 1) cap) L (R ++ [y]) → Below base w w' → K (a.put o.dst (.slice (some ⟨g, 0, none⟩) (n + 1) cap)) w') :
    if Region.wanted o (yielded ops a.tmps) = true then Oper.wp Tryz.prog o a w K Q else E := by
  rw [if_pos (by simp [Region.wanted, hgd])]
  exact wp_append_2 s x ho base v1 v2 L R y B hs hown hx hc hbase hlen n hn h

theorem wpList_append_1 {ops : Array Oper} {rest : List Oper} {o : Oper} {a : Act} {Q : Exit → Act → World → Prop} {w : World} (hgd : o.guard = none) (s x : Operand)
    (ho : o.op = .call { callee := .builtin .append, args := #[s, x], argTypes := #[24, 24] })
    (base : Nat) (v1 v2 : Value) (L R : List Int) (y : Int) (hs : a.eval s = v1) (hown : TwoL w base v1 v2 L R) (hx : a.eval x = .slice (some ⟨w.heap.size, 0, none⟩) 1 1) (hbase : base ≤ w.heap.size) (hlen : L.length ≤ 1048576) (n : Nat) (hn : L.length = n)
    (h : ∀ g cap w', TwoL w' base (.slice (some ⟨g, 0, none⟩) (n + 1) cap) v2 (L ++ [y]) R → Below base w w' → wpList Tryz.prog ops Q rest (a.put o.dst (.slice (some ⟨g, 0, none⟩) (n + 1) cap)) w') : wpList Tryz.prog ops Q (o :: rest) a (w.alloc (.cells #[.int .i64 y] 3)) :=
  wpList_plain hgd fun _ hK => wp_append_1 s x ho base v1 v2 L R y w.heap.size hs (hown.alloc _) hx (cell_new rfl) (by simp; omega) hlen n hn fun g cap w' h1 h2 _ => hK _ _ (h g cap w' h1 (((Below.refl _ _).alloc hbase _).trans h2))
theorem wpList_append_2 {ops : Array Oper} {rest : List Oper} {o : Oper} {a : Act} {Q : Exit → Act → World → Prop} {w : World} (hgd : o.guard = none) (s x : Operand)
    (ho : o.op = .call { callee := .builtin .append, args := #[s, x], argTypes := #[24, 24] })
    (base : Nat) (v1 v2 : Value) (L R : List Int) (y : Int) (hs : a.eval s = v2) (hown : TwoL w base v1 v2 L R) (hx : a.eval x = .slice (some ⟨w.heap.size, 0, none⟩) 1 1) (hbase : base ≤ w.heap.size) (hlen : R.length ≤ 1048576) (n : Nat) (hn : R.length = n)
    (h : ∀ g cap w', TwoL w' base v1 (.slice (some ⟨g, 0, none⟩) (n + 1) cap) L (R ++ [y]) → Below base w w' → wpList Tryz.prog ops Q rest (a.put o.dst (.slice (some ⟨g, 0, none⟩) (n + 1) cap)) w') : wpList Tryz.prog ops Q (o :: rest) a (w.alloc (.cells #[.int .i64 y] 3)) :=
  wpList_plain hgd fun _ hK => wp_append_2 s x ho base v1 v2 L R y w.heap.size hs (hown.alloc _) hx (cell_new rfl) (by simp; omega) hlen n hn fun g cap w' h1 h2 => hK _ _ (h g cap w' h1 (((Below.refl _ _).alloc hbase _).trans h2))

/-- What the two read as at the end. -/
theorem TwoL.parts {w : World} {base : Nat} {v1 v2 : Value} {L R : List Int} (h : TwoL w base v1 v2 L R) : ∃ ao bo c d, v1 = .slice ao L.length c ∧ v2 = .slice bo R.length d ∧ OwnE w base ao c L ∧ OwnE w base bo d R ∧ ∀ b, XR ao L b → ¬XR bo R b := by
  obtain ⟨ao, c, rfl⟩ := h.o1.form
  obtain ⟨bo, d, rfl⟩ := h.o2.form
  refine ⟨ao, bo, c, d, rfl, rfl, .inl h.o1, .inl h.o2, fun b ⟨h1, o1, e1⟩ ⟨h2, o2, e2⟩ => ?_⟩
  subst e1 e2
  rcases h.ne with e | e
  · simp [Value.ownBlock] at e
  · exact e (by simp [Value.ownBlock])

theorem TwoL.only {w w' : World} {base cb : Nat} {v1 v2 : Value} {L R : List Int} (h : TwoL w base v1 v2 L R) (hO : Only (fun b => b = cb) w.heap.size w w') (hc : cb < base) : TwoL w' base v1 v2 L R := by
  have hg : w.grownBy w' (some cb) := ⟨hO.os, hO.tape, hO.output, hO.size, fun k hk hne => hO.block k hk fun e => hne (by rw [show k = cb from e])⟩
  have key : ∀ v xs, OwnL w base v xs → OwnL w' base v xs := fun v xs ho => by
    refine ho.kept hg ?_
    cases hv : v.ownBlock with
    | none => exact .inl rfl
    | some k => exact .inr fun e => by have := (ho.lt hv).1; simp only [Option.some.injEq] at e; omega
  exact ⟨key _ _ h.o1, key _ _ h.o2, h.ne⟩

end Go.Proofs.YtjikmjhpmkakoaaGreatDoor
