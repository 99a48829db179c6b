/-
  What a drawing leaves as it was. No conditions.
  The walks of the laws' helpers on Arcs: szArcs, toArcs, eqArcs. The lists have at most 2^20 elements where copies are made.
  The walks of the laws' helpers that write into results and read them again, from whatever number on: markIntS, heldIntS; markArcs, markGraph, heldGraph, markIntervals, heldIntervals over them. For lists of at most 2^20 elements.
  Two lists of integers that a call makes side by side, each appended to in turn. For at most 2^20 elements.
-/
import Derived.Test.YtfkehmpckhmkbaaDoorPkCardArcs13
import Derived.Test.YtfkehmpckhmkbaaDoorPkCardArcs07
import Derived.Test.YtfkehmpckhmkbaaDoorPkCardArcs02
import Derived.Test.YtfkehmpckhmkbaaDoorPkCardArcs08
import Derived.Deep.AppendLies
namespace Go.Proofs.YtfkehmpckhmkbaaDoor
open Go.RowKit

theorem DrewC.below {cb n c : Nat} {bo : Option Addr} {w w1 w2 : World} (h : DrewC cb bo n c w w1) (hb : Below w1.heap.size w1 w2) : DrewC cb bo n c w w2 := ⟨h.only.more hb h.only.size, h.cur.below hb⟩
theorem DrewC.refl {cb n c : Nat} {bo : Option Addr} {w : World} (h : CurAt w cb bo n c) : DrewC cb bo n c w w := ⟨Only.refl _ _ _, h⟩
theorem DrewC.front {cb n c : Nat} {bo : Option Addr} {w w1 w2 : World} (h : DrewC cb bo n c w1 w2) (hb : Below w.heap.size w w1) : DrewC cb bo n c w w2 := ⟨(Only.of hb).trans (h.only.mono hb.size fun _ _ e => e), h.cur⟩
theorem DrewC.store {cb n c : Nat} {bo : Option Addr} {w w1 : World} (h : DrewC cb bo n c w w1) {a : Addr} (ha : w.heap.size ≤ a.block) (hc : cb < a.block) (u : Value) : DrewC cb bo n c w (w1.setCell a u) :=
  ⟨h.only.setCell (.inr ha) u, h.cur.only (X := fun b => b = a.block) ((Only.refl (fun b => b = a.block) _ _).setCell (p := a) (.inl rfl) u) fun b hb e => by have e2 : b = a.block := e; omega⟩
theorem DrewC.row {cb n c g cap : Nat} {bo : Option Addr} {w w1 : World} {xs : List Int} (h : DrewC cb bo n c w w1) (hR : RowAt w g cap xs) (hg : cb ≠ g) : RowAt w1 g cap xs := hR.onlyB h.only fun e => hg e.symm
theorem DrewC.blk {cb n c b : Nat} {bo : Option Addr} {w w1 : World} {cs : Array Value} {T : TypeId} (h : DrewC cb bo n c w w1) (hb : Blk w b cs T) (hg : cb ≠ b) : Blk w1 b cs T := h.only.blk hb hb.lt fun e => hg e.symm

theorem Only.from {base : Nat} {w w' : World} (h : Below base w w') : Only (fun b => base ≤ b) w.heap.size w w' := ⟨h.os, h.tape, h.output, h.size, fun k _ hx => h.block k (by omega)⟩
theorem DrewC.grow {cb n c base : Nat} {bo : Option Addr} {w w1 w2 : World} (h : DrewC cb bo n c w w1) (hb : Below base w1 w2) (h1 : w.heap.size ≤ base) (h2 : cb < base) : DrewC cb bo n c w w2 :=
  ⟨h.only.more hb h1, h.cur.only (Only.from hb) fun b hb e => by have e2 : base ≤ b := e; omega⟩

theorem l1BelowI_any (z : Int) (cb n c : Nat) (bo : Option Addr) (w : World) (h : CurAt w cb bo n c) (h1 : 1 ≤ z) (h2 : z ≤ 256) :
    Calls Tryd.prog 44 #[.pointer (some ⟨cb, 0, none⟩), .int .i64 z] w (RetN cb bo n c z.toNat w) := by
  obtain ⟨k, rfl⟩ := Int.eq_ofNat_of_zero_le (show 0 ≤ z by omega)
  exact l1Below_any k cb n c bo w h (by omega) (by omega)

end Go.Proofs.YtfkehmpckhmkbaaDoor

namespace Go.Proofs.YtfkehmpckhmkbaaDoor
open Go.RowKit

def szTwo (n m : Nat) : Int := if 1048576 < n + m then -1 else 1048576 - n - m




end Go.Proofs.YtfkehmpckhmkbaaDoor

namespace Go.Proofs.YtfkehmpckhmkbaaDoor
open Go.RowKit

/-- The marks a, a + 1, .. -/
def marksF (a : Int) (n : Nat) : List Int := (List.range n).map fun i : Nat => a + (i : Int)
theorem marksF_len (a : Int) (n : Nat) : (marksF a n).length = n := by simp [marksF]
theorem marksF_at {a : Int} {n k : Nat} (h : k < n) : gi (marksF a n) k = a + (k : Int) := by simp [marksF, gi, h]
theorem Only.monoX {X Y : Nat → Prop} {B : Nat} {w w' : World} (h : Only X B w w') (hX : ∀ b, X b → Y b) : Only Y B w w' := h.mono (Nat.le_refl _) fun b _ => hX b



/-- The block that a list lies in, where it has elements. -/
def XR (ao : Option Addr) (xs : List Int) (b : Nat) : Prop := 0 < xs.length ∧ ∃ off, ao = some ⟨b, off, none⟩
theorem OwnE.xr {w : World} {base cap b : Nat} {ao : Option Addr} {xs : List Int} (h : OwnE w base ao cap xs) (hb : XR ao xs b) : base ≤ b ∧ b < w.heap.size := by
  obtain ⟨h0, off, e⟩ := hb
  obtain ⟨g, e2, hg, hR⟩ := h.row h0
  rw [e2] at e
  simp only [Option.some.injEq, Addr.mk.injEq] at e
  obtain ⟨rfl, -⟩ := e
  exact ⟨hg, hR.lt⟩
theorem OwnE.onlyX {w w' : World} {base cap : Nat} {ao : Option Addr} {xs : List Int} {X : Nat → Prop} (h : OwnE w base ao cap xs) (k : Only X w.heap.size w w') (hX : ∀ b, X b → b < base) : OwnE w' base ao cap xs := by
  rcases h with ⟨hl, h1 | ⟨g, cp, cur, hv, hg, hb, hr⟩⟩ | h
  · exact .inl ⟨hl, .inl h1⟩
  · exact .inl ⟨hl, .inr ⟨g, cp, cur, hv, hg, by rw [k.block g (Array.getElem?_eq_some_iff.1 hb).1 (fun e => by have := hX g e; omega)]; exact hb, hr⟩⟩
  · exact .inr h

theorem IntsAt.onlyD {w w' : World} {ao : Option Addr} {xs : List Int} {X : Nat → Prop} (h : IntsAt w ao xs) (k : Only X w.heap.size w w') (hX : ∀ b, X b → ¬XR ao xs b) : IntsAt w' ao xs := fun h0 => by
  obtain ⟨b, off, e, hlt, hc⟩ := h h0
  exact ⟨b, off, e, Nat.lt_of_lt_of_le hlt k.size, fun j hj => by rw [k.cell (p := ⟨b, off + j, none⟩) hlt (fun hx => hX b hx ⟨h0, off, e⟩)]; exact hc j hj⟩
theorem OwnE.onlyD {w w' : World} {base cap : Nat} {ao : Option Addr} {xs : List Int} {X : Nat → Prop} (h : OwnE w base ao cap xs) (k : Only X w.heap.size w w') (hX : ∀ b, X b → ¬XR ao xs b) (h0 : 0 < xs.length) : OwnE w' base ao cap xs := by
  obtain ⟨g, rfl, hg, cur, hb, hr⟩ := h.row h0
  exact RowAt.own ⟨cur, k.blk hb hb.lt (fun hx => hX g hx ⟨h0, 0, rfl⟩), hr⟩ hg








end Go.Proofs.YtfkehmpckhmkbaaDoor

namespace Go.Proofs.YtfkehmpckhmkbaaDoor
open Go.RowKit

/-- Two lists of the call's own, from block base on, in blocks of their own each. -/
structure TwoL (w : World) (base : Nat) (v1 v2 : Value) (L R : List Int) : Prop where
  o1 : OwnL w base v1 L
  o2 : OwnL w base v2 R
  ne : v1.ownBlock = none ∨ v1.ownBlock ≠ v2.ownBlock
theorem OwnL.lt {w : World} {base : Nat} {v : Value} {xs : List Int} (h : OwnL w base v xs) {k : Nat} (hk : v.ownBlock = some k) : base ≤ k ∧ k < w.heap.size := by
  obtain ⟨h0, ⟨rfl, -⟩ | ⟨g, cap, cur, rfl, hg, hh, -⟩⟩ := h
  · cases hk
  · simp only [Value.ownBlock, Option.some.injEq] at hk
    subst hk
    exact ⟨hg, (Array.getElem?_eq_some_iff.1 hh).1⟩
theorem OwnL.kept {w w' : World} {base : Nat} {v : Value} {xs : List Int} {row : Option Nat} (h : OwnL w base v xs) (hg : w.grownBy w' row) (hne : v.ownBlock = none ∨ v.ownBlock ≠ row) : OwnL w' base v xs :=
  World.ownsRow.kept h hg hne
theorem TwoL.alloc {w : World} {base : Nat} {v1 v2 : Value} {L R : List Int} (h : TwoL w base v1 v2 L R) (o : Obj) : TwoL (w.alloc o) base v1 v2 L R := ⟨h.o1.alloc o, h.o2.alloc o, h.ne⟩
theorem TwoL.below {w w' : World} {base : Nat} {v1 v2 : Value} {L R : List Int} (h : TwoL w base v1 v2 L R) (hb : Below w.heap.size w w') : TwoL w' base v1 v2 L R := ⟨h.o1.below hb, h.o2.below hb, h.ne⟩
theorem TwoL.drew {w : World} {base : Nat} {v1 v2 : Value} {L R : List Int} (h : TwoL w base v1 v2 L R) : TwoL w.drew base v1 v2 L R := h.below (Below.refl _ _).drew
theorem TwoL.store {w : World} {base : Nat} {v1 v2 : Value} {L R : List Int} (h : TwoL w base v1 v2 L R) {a : Addr} (ha : a.block < base) (u : Value) : TwoL (w.setCell a u) base v1 v2 L R := by
  have hg : w.grownBy (w.setCell a u) (some a.block) := ⟨rfl, rfl, rfl, by simp [World.setCell], fun k _ hk => Below.heap_setCell _ _ _ _ (fun e => hk (by rw [e]))⟩
  have key : ∀ v xs, OwnL w base v xs → OwnL (w.setCell a u) base v xs := fun v xs ho => by
    refine ho.kept hg ?_
    cases hv : v.ownBlock with
    | none => exact .inl rfl
    | some k => exact .inr fun e => by have := (ho.lt hv).1; simp only [Option.some.injEq] at e; omega
  exact ⟨key _ _ h.o1, key _ _ h.o2, h.ne⟩
theorem TwoL.nil (w : World) (base : Nat) : TwoL w base (.slice none 0 0) (.slice none 0 0) [] [] := ⟨OwnL.nil _ _, OwnL.nil _ _, .inl rfl⟩

theorem news_one {w : World} {B : Nat} {y : Int} (hc : w.cell? ⟨B, 0, none⟩ = some (.int .i64 y)) : ∀ j u, [Value.int .i64 y][j]? = some u → w.cell? ((⟨B, 0, none⟩ : Addr).add j) = some u := by
  intro j u hj
  match j, hj with
  | 0, hj => simp at hj; subst hj; simpa [Addr.add] using hc

theorem wp_append_L {o : Oper} {a : Act} {K : Act → World → Prop} {Q : Exit → Act → World → Prop} {w : World} (s x : Operand)
    (ho : o.op = .call { callee := .builtin .append, args := #[s, x], argTypes := #[24, 24] })
    (base : Nat) (v : Value) (xs : List Int) (y : Int) (B : Nat) (hs : a.eval s = v) (hown : OwnL w base v xs) (hx : a.eval x = .slice (some ⟨B, 0, none⟩) 1 1)
    (hc : w.cell? ⟨B, 0, none⟩ = some (.int .i64 y)) (hbase : base ≤ w.heap.size) (hlen : xs.length ≤ 1048576)
    (n : Nat) (hn : xs.length = n) (h : ∀ g cap w', OwnL w' base (.slice (some ⟨g, 0, none⟩) (n + 1) cap) (xs ++ [y]) → w.grownBy w' v.ownBlock → (v.ownBlock = some g ∨ g = w.heap.size) → K (a.put o.dst (.slice (some ⟨g, 0, none⟩) (n + 1) cap)) w') : o.wp Tryd.prog a w K Q := by
  subst hn
  obtain ⟨i0, hi, hz0, hz1, hz2⟩ := info_parts info_int
  refine wp_append_lies w s x 24 ho base 3 i0 (.int .i64 0) 1 8 Tryd.underlying24 hi hz0 hz1 hz2 rfl (by decide) v xs.length (xs.map (Value.int .i64)) hs hown
    ⟨B, 0, none⟩ 1 1 [.int .i64 y] hx rfl (news_one hc) (by intro u hu; simp at hu; subst hu; rfl) (by omega) (by unfold maxLen; omega) (by omega) hbase w.heap.size rfl ?_
  intro g cap w' h1 h2 h3 _
  refine h g cap w' ?_ h2 h3
  unfold OwnL
  simpa using h1
theorem grown_below {w w' : World} {base : Nat} {v : Value} {xs : List Int} (ho : OwnL w base v xs) (hg : w.grownBy w' v.ownBlock) (hbase : base ≤ w.heap.size) : Below base w w' :=
  (Below.refl base w).grown hg hbase fun _ hk => (ho.lt hk).1

/-- The first of two is appended to. -/
theorem wp_append_1 {o : Oper} {a : Act} {K : Act → World → Prop} {Q : Exit → Act → World → Prop} {w : World} (s x : Operand)
    (ho : o.op = .call { callee := .builtin .append, args := #[s, x], argTypes := #[24, 24] })
    (base : Nat) (v1 v2 : Value) (L R : List Int) (y : Int) (B : Nat) (hs : a.eval s = v1) (hown : TwoL w base v1 v2 L R) (hx : a.eval x = .slice (some ⟨B, 0, none⟩) 1 1)
    (hc : w.cell? ⟨B, 0, none⟩ = some (.int .i64 y)) (hbase : base ≤ w.heap.size) (hlen : L.length ≤ 1048576)
    (n : Nat) (hn : L.length = n) (h : ∀ g cap w', TwoL w' base (.slice (some ⟨g, 0, none⟩) (n + 1) cap) v2 (L ++ [y]) R → Below base w w' → (∀ b, b < w.heap.size → v1.ownBlock ≠ some b → w'.heap[b]? = w.heap[b]?) → K (a.put o.dst (.slice (some ⟨g, 0, none⟩) (n + 1) cap)) w') : o.wp Tryd.prog a w K Q := by
  refine wp_append_L s x ho base v1 L y B hs hown.o1 hx hc hbase hlen n hn fun g cap w' h1 hg hgg => h g cap w' ⟨h1, hown.o2.kept hg ?_, .inr fun e2 => ?_⟩ (grown_below hown.o1 hg hbase) fun b hb hne => hg.block b hb (fun e => hne e.symm)
  · rcases hown.ne with h | h
    · rw [h]; cases v2.ownBlock
      · exact .inl rfl
      · exact .inr (by simp)
    · exact .inr fun e => h e.symm
  · have e2 : some g = v2.ownBlock := e2
    rcases hgg with hgg | rfl
    · rcases hown.ne with h | h
      · rw [hgg] at h; cases h
      · exact h (hgg.trans e2)
    · have := (hown.o2.lt e2.symm).2; omega
/-- The second of two. -/
theorem wp_append_2 {o : Oper} {a : Act} {K : Act → World → Prop} {Q : Exit → Act → World → Prop} {w : World} (s x : Operand)
    (ho : o.op = .call { callee := .builtin .append, args := #[s, x], argTypes := #[24, 24] })
    (base : Nat) (v1 v2 : Value) (L R : List Int) (y : Int) (B : Nat) (hs : a.eval s = v2) (hown : TwoL w base v1 v2 L R) (hx : a.eval x = .slice (some ⟨B, 0, none⟩) 1 1)
    (hc : w.cell? ⟨B, 0, none⟩ = some (.int .i64 y)) (hbase : base ≤ w.heap.size) (hlen : R.length ≤ 1048576)
    (n : Nat) (hn : R.length = n) (h : ∀ g cap w', TwoL w' base v1 (.slice (some ⟨g, 0, none⟩) (n + 1) cap) L (R ++ [y]) → Below base w w' → K (a.put o.dst (.slice (some ⟨g, 0, none⟩) (n + 1) cap)) w') : o.wp Tryd.prog a w K Q := by
  refine wp_append_L s x ho base v2 R y B hs hown.o2 hx hc hbase hlen n hn fun g cap w' h1 hg hgg => h g cap w' ⟨hown.o1.kept hg hown.ne, h1, ?_⟩ (grown_below hown.o2 hg hbase)
  rcases hown.ne with h | h
  · exact .inl h
  · refine .inr fun e2 => ?_
    have e2 : v1.ownBlock = some g := e2
    rcases hgg with hgg | rfl
    · exact h (e2.trans hgg.symm)
    · have := (hown.o1.lt e2).2; omega

theorem step_append_1 {ops : Array Oper} {o : Oper} {a : Act} {K : Act → World → Prop} {Q : Exit → Act → World → Prop} {E : Prop} {w : World} (hgd : o.guard = none) (s x : Operand)
    (ho : o.op = .call { callee := .builtin .append, args := #[s, x], argTypes := #[24, 24] })
    (base : Nat) (v1 v2 : Value) (L R : List Int) (y : Int) (B : Nat) (hs : a.eval s = v1) (hown : TwoL w base v1 v2 L R) (hx : a.eval x = .slice (some ⟨B, 0, none⟩) 1 1)
    (hc : w.cell? ⟨B, 0, none⟩ = some (.int .i64 y)) (hbase : base ≤ w.heap.size) (hlen : L.length ≤ 1048576)
    (n : Nat) (hn : L.length = n) (h : ∀ g cap w', TwoL w' base (.slice (some ⟨g, 0, none⟩) (n + 1) cap) v2 (L ++ [y]) R → Below base w w' → (∀ b, b < w.heap.size → v1.ownBlock ≠ some b → w'.heap[b]? = w.heap[b]?) → K (a.put o.dst (.slice (some ⟨g, 0, none⟩) (n + 1) cap)) w') :
    if Region.wanted o (yielded ops a.tmps) = true then Oper.wp Tryd.prog o a w K Q else E := by
  rw [if_pos (by simp [Region.wanted, hgd])]
  exact wp_append_1 s x ho base v1 v2 L R y B hs hown hx hc hbase hlen n hn h
theorem step_append_2 {ops : Array Oper} {o : Oper} {a : Act} {K : Act → World → Prop} {Q : Exit → Act → World → Prop} {E : Prop} {w : World} (hgd : o.guard = none) (s x : Operand)
    (ho : o.op = .call { callee := .builtin .append, args := #[s, x], argTypes := #[24, 24] })
    (base : Nat) (v1 v2 : Value) (L R : List Int) (y : Int) (B : Nat) (hs : a.eval s = v2) (hown : TwoL w base v1 v2 L R) (hx : a.eval x = .slice (some ⟨B, 0, none⟩) 1 1)
    (hc : w.cell? ⟨B, 0, none⟩ = some (.int .i64 y)) (hbase : base ≤ w.heap.size) (hlen : R.length ≤ 1048576)
    (n : Nat) (hn : R.length = n) (h : ∀ g cap w', TwoL w' base v1 (.slice (some ⟨g, 0, none⟩) (n + 1) cap) L (R ++ [y]) → Below base w w' → K (a.put o.dst (.slice (some ⟨g, 0, none⟩) (n + 1) cap)) w') :
    if Region.wanted o (yielded ops a.tmps) = true then Oper.wp Tryd.prog o a w K Q else E := by
  rw [if_pos (by simp [Region.wanted, hgd])]
  exact wp_append_2 s x ho base v1 v2 L R y B hs hown hx hc hbase hlen n hn h

/-- What the two read as at the end. -/
theorem TwoL.parts {w : World} {base : Nat} {v1 v2 : Value} {L R : List Int} (h : TwoL w base v1 v2 L R) : ∃ ao bo c d, v1 = .slice ao L.length c ∧ v2 = .slice bo R.length d ∧ OwnE w base ao c L ∧ OwnE w base bo d R ∧ ∀ b, XR ao L b → ¬XR bo R b := by
  obtain ⟨ao, c, rfl⟩ := h.o1.form
  obtain ⟨bo, d, rfl⟩ := h.o2.form
  refine ⟨ao, bo, c, d, rfl, rfl, .inl h.o1, .inl h.o2, fun b ⟨h1, o1, e1⟩ ⟨h2, o2, e2⟩ => ?_⟩
  subst e1 e2
  rcases h.ne with e | e
  · simp [Value.ownBlock] at e
  · exact e (by simp [Value.ownBlock])

end Go.Proofs.YtfkehmpckhmkbaaDoor
