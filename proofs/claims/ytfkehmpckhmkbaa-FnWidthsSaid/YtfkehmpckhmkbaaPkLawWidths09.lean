/-
  What a drawing leaves as it was. No conditions.
  Lists in fresh memory. No conditions.
  The walks of the laws' helpers on Arcs: szArcs, toArcs, eqArcs. The lists have at most 2^20 elements where copies are made.
  The walks of the laws' helpers that write into results and read them again, from whatever number on: markIntS, heldIntS; markArcs, markGraph, heldGraph, markIntervals, heldIntervals over them. For lists of at most 2^20 elements.
  Two lists of integers that a call makes side by side, each appended to in turn. For at most 2^20 elements.
  Lists of slices ([][]int) that a call itself makes and appends to.
  The walks of IsClique and IsCliqueCover on both sides. For at most 2^20 rows and sets.
-/
import Derived.Test.YtfkehmpckhmkbaaPkLawWidths08
import Derived.Test.YtfkehmpckhmkbaaPkLawWidths05
import Derived.Test.YtfkehmpckhmkbaaPkLawWidths07
import Derived.Test.YtfkehmpckhmkbaaPkLawWidths01
import Derived.Deep.AppendLies
import Derived.Test.YtfkehmpckhmkbaaPkLawWidths03
namespace Go.Proofs.Ytfkehmpckhmkbaa
open Go.RowKit

theorem DrewC.below {cb n c : Nat} {bo : Option Addr} {w w1 w2 : World} (h : DrewC cb bo n c w w1) (hb : Below w1.heap.size w1 w2) : DrewC cb bo n c w w2 := ⟨h.only.more hb h.only.size, h.cur.below hb⟩
theorem DrewC.refl {cb n c : Nat} {bo : Option Addr} {w : World} (h : CurAt w cb bo n c) : DrewC cb bo n c w w := ⟨Only.refl _ _ _, h⟩
theorem DrewC.front {cb n c : Nat} {bo : Option Addr} {w w1 w2 : World} (h : DrewC cb bo n c w1 w2) (hb : Below w.heap.size w w1) : DrewC cb bo n c w w2 := ⟨(Only.of hb).trans (h.only.mono hb.size fun _ _ e => e), h.cur⟩
theorem DrewC.store {cb n c : Nat} {bo : Option Addr} {w w1 : World} (h : DrewC cb bo n c w w1) {a : Addr} (ha : w.heap.size ≤ a.block) (hc : cb < a.block) (u : Value) : DrewC cb bo n c w (w1.setCell a u) :=
  ⟨h.only.setCell (.inr ha) u, h.cur.only (X := fun b => b = a.block) ((Only.refl (fun b => b = a.block) _ _).setCell (p := a) (.inl rfl) u) fun b hb e => by have e2 : b = a.block := e; omega⟩
theorem DrewC.row {cb n c g cap : Nat} {bo : Option Addr} {w w1 : World} {xs : List Int} (h : DrewC cb bo n c w w1) (hR : RowAt w g cap xs) (hg : cb ≠ g) : RowAt w1 g cap xs := hR.onlyB h.only fun e => hg e.symm
theorem DrewC.blk {cb n c b : Nat} {bo : Option Addr} {w w1 : World} {cs : Array Value} {T : TypeId} (h : DrewC cb bo n c w w1) (hb : Blk w b cs T) (hg : cb ≠ b) : Blk w1 b cs T := h.only.blk hb hb.lt fun e => hg e.symm

theorem Only.from {base : Nat} {w w' : World} (h : Below base w w') : Only (fun b => base ≤ b) w.heap.size w w' := ⟨h.os, h.tape, h.output, h.size, fun k _ hx => h.block k (by omega)⟩
theorem DrewC.grow {cb n c base : Nat} {bo : Option Addr} {w w1 w2 : World} (h : DrewC cb bo n c w w1) (hb : Below base w1 w2) (h1 : w.heap.size ≤ base) (h2 : cb < base) : DrewC cb bo n c w w2 :=
  ⟨h.only.more hb h1, h.cur.only (Only.from hb) fun b hb e => by have e2 : base ≤ b := e; omega⟩

theorem l1BelowI_any (z : Int) (cb n c : Nat) (bo : Option Addr) (w : World) (h : CurAt w cb bo n c) (h1 : 1 ≤ z) (h2 : z ≤ 256) :
    Calls Try.prog 60 #[.pointer (some ⟨cb, 0, none⟩), .int .i64 z] w (RetN cb bo n c z.toNat w) := by
  obtain ⟨k, rfl⟩ := Int.eq_ofNat_of_zero_le (show 0 ≤ z by omega)
  exact l1Below_any k cb n c bo w h (by omega) (by omega)

end Go.Proofs.Ytfkehmpckhmkbaa

namespace Go.Proofs.Ytfkehmpckhmkbaa
open Go.RowKit

/-- A list in fresh memory. -/
def FrI (w : World) (base : Nat) (ao : Option Addr) (xs : List Int) : Prop := IntsAt w ao xs ∧ ∀ a, ao = some a → base ≤ a.block
theorem FrI.only {X : Nat → Prop} {w w' : World} {base : Nat} {ao : Option Addr} {xs : List Int} (h : FrI w base ao xs) (hO : Only X w.heap.size w w') (hX : ∀ b, base ≤ b → ¬X b) : FrI w' base ao xs :=
  ⟨h.1.only hO fun b off e => hX b (h.2 _ e), h.2⟩
theorem FrI.below {w w' : World} {base : Nat} {ao : Option Addr} {xs : List Int} (h : FrI w base ao xs) (hb : Below w.heap.size w w') : FrI w' base ao xs := ⟨h.1.below hb, h.2⟩
theorem FrI.mono {w : World} {base base' : Nat} {ao : Option Addr} {xs : List Int} (h : FrI w base ao xs) (hb : base' ≤ base) : FrI w base' ao xs := ⟨h.1, fun a e => Nat.le_trans hb (h.2 a e)⟩
theorem FrI.store {w : World} {base : Nat} {ao : Option Addr} {xs : List Int} (h : FrI w base ao xs) {a : Addr} (ha : a.block < base) (u : Value) : FrI (w.setCell a u) base ao xs :=
  h.only (X := fun b => b = a.block) (Only.setCell (X := fun b => b = a.block) (Only.refl _ _ _) (p := a) (.inl rfl) u) fun b hb e => by have e2 : b = a.block := e; omega
theorem OwnE.fr {w : World} {base cap : Nat} {ao : Option Addr} {xs : List Int} (h : OwnE w base ao cap xs) (h0 : 0 < xs.length) : FrI w base ao xs := by
  obtain ⟨g, rfl, hg, hR⟩ := h.row h0
  exact ⟨hR.ints, fun a e => by cases e; exact hg⟩

end Go.Proofs.Ytfkehmpckhmkbaa

namespace Go.Proofs.Ytfkehmpckhmkbaa
open Go.RowKit

def szTwo (n m : Nat) : Int := if 1048576 < n + m then -1 else 1048576 - n - m




end Go.Proofs.Ytfkehmpckhmkbaa

namespace Go.Proofs.Ytfkehmpckhmkbaa
open Go.RowKit

/-- The marks a, a + 1, .. -/
def marksF (a : Int) (n : Nat) : List Int := (List.range n).map fun i : Nat => a + (i : Int)
theorem marksF_len (a : Int) (n : Nat) : (marksF a n).length = n := by simp [marksF]
theorem marksF_at {a : Int} {n k : Nat} (h : k < n) : gi (marksF a n) k = a + (k : Int) := by simp [marksF, gi, h]
theorem Only.monoX {X Y : Nat → Prop} {B : Nat} {w w' : World} (h : Only X B w w') (hX : ∀ b, X b → Y b) : Only Y B w w' := h.mono (Nat.le_refl _) fun b _ => hX b



/-- The block that a list lies in, where it has elements. -/
def XR (ao : Option Addr) (xs : List Int) (b : Nat) : Prop := 0 < xs.length ∧ ∃ off, ao = some ⟨b, off, none⟩
theorem OwnE.xr {w : World} {base cap b : Nat} {ao : Option Addr} {xs : List Int} (h : OwnE w base ao cap xs) (hb : XR ao xs b) : base ≤ b ∧ b < w.heap.size := by
  obtain ⟨h0, off, e⟩ := hb
  obtain ⟨g, e2, hg, hR⟩ := h.row h0
  rw [e2] at e
  simp only [Option.some.injEq, Addr.mk.injEq] at e
  obtain ⟨rfl, -⟩ := e
  exact ⟨hg, hR.lt⟩
theorem OwnE.onlyX {w w' : World} {base cap : Nat} {ao : Option Addr} {xs : List Int} {X : Nat → Prop} (h : OwnE w base ao cap xs) (k : Only X w.heap.size w w') (hX : ∀ b, X b → b < base) : OwnE w' base ao cap xs := by
  rcases h with ⟨hl, h1 | ⟨g, cp, cur, hv, hg, hb, hr⟩⟩ | h
  · exact .inl ⟨hl, .inl h1⟩
  · exact .inl ⟨hl, .inr ⟨g, cp, cur, hv, hg, by rw [k.block g (Array.getElem?_eq_some_iff.1 hb).1 (fun e => by have := hX g e; omega)]; exact hb, hr⟩⟩
  · exact .inr h

theorem IntsAt.onlyD {w w' : World} {ao : Option Addr} {xs : List Int} {X : Nat → Prop} (h : IntsAt w ao xs) (k : Only X w.heap.size w w') (hX : ∀ b, X b → ¬XR ao xs b) : IntsAt w' ao xs := fun h0 => by
  obtain ⟨b, off, e, hlt, hc⟩ := h h0
  exact ⟨b, off, e, Nat.lt_of_lt_of_le hlt k.size, fun j hj => by rw [k.cell (p := ⟨b, off + j, none⟩) hlt (fun hx => hX b hx ⟨h0, off, e⟩)]; exact hc j hj⟩
theorem OwnE.onlyD {w w' : World} {base cap : Nat} {ao : Option Addr} {xs : List Int} {X : Nat → Prop} (h : OwnE w base ao cap xs) (k : Only X w.heap.size w w') (hX : ∀ b, X b → ¬XR ao xs b) (h0 : 0 < xs.length) : OwnE w' base ao cap xs := by
  obtain ⟨g, rfl, hg, cur, hb, hr⟩ := h.row h0
  exact RowAt.own ⟨cur, k.blk hb hb.lt (fun hx => hX g hx ⟨h0, 0, rfl⟩), hr⟩ hg








end Go.Proofs.Ytfkehmpckhmkbaa

namespace Go.Proofs.Ytfkehmpckhmkbaa
open Go.RowKit

/-- Two lists of the call's own, from block base on, in blocks of their own each. -/
structure TwoL (w : World) (base : Nat) (v1 v2 : Value) (L R : List Int) : Prop where
  o1 : OwnL w base v1 L
  o2 : OwnL w base v2 R
  ne : v1.ownBlock = none ∨ v1.ownBlock ≠ v2.ownBlock
theorem OwnL.lt {w : World} {base : Nat} {v : Value} {xs : List Int} (h : OwnL w base v xs) {k : Nat} (hk : v.ownBlock = some k) : base ≤ k ∧ k < w.heap.size := by
  obtain ⟨h0, ⟨rfl, -⟩ | ⟨g, cap, cur, rfl, hg, hh, -⟩⟩ := h
  · cases hk
  · simp only [Value.ownBlock, Option.some.injEq] at hk
    subst hk
    exact ⟨hg, (Array.getElem?_eq_some_iff.1 hh).1⟩
theorem OwnL.kept {w w' : World} {base : Nat} {v : Value} {xs : List Int} {row : Option Nat} (h : OwnL w base v xs) (hg : w.grownBy w' row) (hne : v.ownBlock = none ∨ v.ownBlock ≠ row) : OwnL w' base v xs :=
  World.ownsRow.kept h hg hne
theorem TwoL.alloc {w : World} {base : Nat} {v1 v2 : Value} {L R : List Int} (h : TwoL w base v1 v2 L R) (o : Obj) : TwoL (w.alloc o) base v1 v2 L R := ⟨h.o1.alloc o, h.o2.alloc o, h.ne⟩
theorem TwoL.below {w w' : World} {base : Nat} {v1 v2 : Value} {L R : List Int} (h : TwoL w base v1 v2 L R) (hb : Below w.heap.size w w') : TwoL w' base v1 v2 L R := ⟨h.o1.below hb, h.o2.below hb, h.ne⟩
theorem TwoL.drew {w : World} {base : Nat} {v1 v2 : Value} {L R : List Int} (h : TwoL w base v1 v2 L R) : TwoL w.drew base v1 v2 L R := h.below (Below.refl _ _).drew
theorem TwoL.store {w : World} {base : Nat} {v1 v2 : Value} {L R : List Int} (h : TwoL w base v1 v2 L R) {a : Addr} (ha : a.block < base) (u : Value) : TwoL (w.setCell a u) base v1 v2 L R := by
  have hg : w.grownBy (w.setCell a u) (some a.block) := ⟨rfl, rfl, rfl, by simp [World.setCell], fun k _ hk => Below.heap_setCell _ _ _ _ (fun e => hk (by rw [e]))⟩
  have key : ∀ v xs, OwnL w base v xs → OwnL (w.setCell a u) base v xs := fun v xs ho => by
    refine ho.kept hg ?_
    cases hv : v.ownBlock with
    | none => exact .inl rfl
    | some k => exact .inr fun e => by have := (ho.lt hv).1; simp only [Option.some.injEq] at e; omega
  exact ⟨key _ _ h.o1, key _ _ h.o2, h.ne⟩
theorem TwoL.nil (w : World) (base : Nat) : TwoL w base (.slice none 0 0) (.slice none 0 0) [] [] := ⟨OwnL.nil _ _, OwnL.nil _ _, .inl rfl⟩

theorem news_one {w : World} {B : Nat} {y : Int} (hc : w.cell? ⟨B, 0, none⟩ = some (.int .i64 y)) : ∀ j u, [Value.int .i64 y][j]? = some u → w.cell? ((⟨B, 0, none⟩ : Addr).add j) = some u := by
  intro j u hj
  match j, hj with
  | 0, hj => simp at hj; subst hj; simpa [Addr.add] using hc

theorem wp_append_L {o : Oper} {a : Act} {K : Act → World → Prop} {Q : Exit → Act → World → Prop} {w : World} (s x : Operand)
    (ho : o.op = .call { callee := .builtin .append, args := #[s, x], argTypes := #[24, 24] })
    (base : Nat) (v : Value) (xs : List Int) (y : Int) (B : Nat) (hs : a.eval s = v) (hown : OwnL w base v xs) (hx : a.eval x = .slice (some ⟨B, 0, none⟩) 1 1)
    (hc : w.cell? ⟨B, 0, none⟩ = some (.int .i64 y)) (hbase : base ≤ w.heap.size) (hlen : xs.length ≤ 1048576)
    (n : Nat) (hn : xs.length = n) (h : ∀ g cap w', OwnL w' base (.slice (some ⟨g, 0, none⟩) (n + 1) cap) (xs ++ [y]) → w.grownBy w' v.ownBlock → (v.ownBlock = some g ∨ g = w.heap.size) → K (a.put o.dst (.slice (some ⟨g, 0, none⟩) (n + 1) cap)) w') : o.wp Try.prog a w K Q := by
  subst hn
  obtain ⟨i0, hi, hz0, hz1, hz2⟩ := info_parts info_int
  refine wp_append_lies w s x 24 ho base 3 i0 (.int .i64 0) 1 8 Try.underlying24 hi hz0 hz1 hz2 rfl (by decide) v xs.length (xs.map (Value.int .i64)) hs hown
    ⟨B, 0, none⟩ 1 1 [.int .i64 y] hx rfl (news_one hc) (by intro u hu; simp at hu; subst hu; rfl) (by omega) (by unfold maxLen; omega) (by omega) hbase w.heap.size rfl ?_
  intro g cap w' h1 h2 h3 _
  refine h g cap w' ?_ h2 h3
  unfold OwnL
  simpa using h1
theorem grown_below {w w' : World} {base : Nat} {v : Value} {xs : List Int} (ho : OwnL w base v xs) (hg : w.grownBy w' v.ownBlock) (hbase : base ≤ w.heap.size) : Below base w w' :=
  (Below.refl base w).grown hg hbase fun _ hk => (ho.lt hk).1

/-- The first of two is appended to. -/
theorem wp_append_1 {o : Oper} {a : Act} {K : Act → World → Prop} {Q : Exit → Act → World → Prop} {w : World} (s x : Operand)
    (ho : o.op = .call { callee := .builtin .append, args := #[s, x], argTypes := #[24, 24] })
    (base : Nat) (v1 v2 : Value) (L R : List Int) (y : Int) (B : Nat) (hs : a.eval s = v1) (hown : TwoL w base v1 v2 L R) (hx : a.eval x = .slice (some ⟨B, 0, none⟩) 1 1)
    (hc : w.cell? ⟨B, 0, none⟩ = some (.int .i64 y)) (hbase : base ≤ w.heap.size) (hlen : L.length ≤ 1048576)
    (n : Nat) (hn : L.length = n) (h : ∀ g cap w', TwoL w' base (.slice (some ⟨g, 0, none⟩) (n + 1) cap) v2 (L ++ [y]) R → Below base w w' → (∀ b, b < w.heap.size → v1.ownBlock ≠ some b → w'.heap[b]? = w.heap[b]?) → K (a.put o.dst (.slice (some ⟨g, 0, none⟩) (n + 1) cap)) w') : o.wp Try.prog a w K Q := by
  refine wp_append_L s x ho base v1 L y B hs hown.o1 hx hc hbase hlen n hn fun g cap w' h1 hg hgg => h g cap w' ⟨h1, hown.o2.kept hg ?_, .inr fun e2 => ?_⟩ (grown_below hown.o1 hg hbase) fun b hb hne => hg.block b hb (fun e => hne e.symm)
  · rcases hown.ne with h | h
    · rw [h]; cases v2.ownBlock
      · exact .inl rfl
      · exact .inr (by simp)
    · exact .inr fun e => h e.symm
  · have e2 : some g = v2.ownBlock := e2
    rcases hgg with hgg | rfl
    · rcases hown.ne with h | h
      · rw [hgg] at h; cases h
      · exact h (hgg.trans e2)
    · have := (hown.o2.lt e2.symm).2; omega
/-- The second of two. -/
theorem wp_append_2 {o : Oper} {a : Act} {K : Act → World → Prop} {Q : Exit → Act → World → Prop} {w : World} (s x : Operand)
    (ho : o.op = .call { callee := .builtin .append, args := #[s, x], argTypes := #[24, 24] })
    (base : Nat) (v1 v2 : Value) (L R : List Int) (y : Int) (B : Nat) (hs : a.eval s = v2) (hown : TwoL w base v1 v2 L R) (hx : a.eval x = .slice (some ⟨B, 0, none⟩) 1 1)
    (hc : w.cell? ⟨B, 0, none⟩ = some (.int .i64 y)) (hbase : base ≤ w.heap.size) (hlen : R.length ≤ 1048576)
    (n : Nat) (hn : R.length = n) (h : ∀ g cap w', TwoL w' base v1 (.slice (some ⟨g, 0, none⟩) (n + 1) cap) L (R ++ [y]) → Below base w w' → K (a.put o.dst (.slice (some ⟨g, 0, none⟩) (n + 1) cap)) w') : o.wp Try.prog a w K Q := by
  refine wp_append_L s x ho base v2 R y B hs hown.o2 hx hc hbase hlen n hn fun g cap w' h1 hg hgg => h g cap w' ⟨hown.o1.kept hg hown.ne, h1, ?_⟩ (grown_below hown.o2 hg hbase)
  rcases hown.ne with h | h
  · exact .inl h
  · refine .inr fun e2 => ?_
    have e2 : v1.ownBlock = some g := e2
    rcases hgg with hgg | rfl
    · exact h (e2.trans hgg.symm)
    · have := (hown.o1.lt e2).2; omega

theorem step_append_1 {ops : Array Oper} {o : Oper} {a : Act} {K : Act → World → Prop} {Q : Exit → Act → World → Prop} {E : Prop} {w : World} (hgd : o.guard = none) (s x : Operand)
    (ho : o.op = .call { callee := .builtin .append, args := #[s, x], argTypes := #[24, 24] })
    (base : Nat) (v1 v2 : Value) (L R : List Int) (y : Int) (B : Nat) (hs : a.eval s = v1) (hown : TwoL w base v1 v2 L R) (hx : a.eval x = .slice (some ⟨B, 0, none⟩) 1 1)
    (hc : w.cell? ⟨B, 0, none⟩ = some (.int .i64 y)) (hbase : base ≤ w.heap.size) (hlen : L.length ≤ 1048576)
    (n : Nat) (hn : L.length = n) (h : ∀ g cap w', TwoL w' base (.slice (some ⟨g, 0, none⟩) (n + 1) cap) v2 (L ++ [y]) R → Below base w w' → (∀ b, b < w.heap.size → v1.ownBlock ≠ some b → w'.heap[b]? = w.heap[b]?) → K (a.put o.dst (.slice (some ⟨g, 0, none⟩) (n + 1) cap)) w') :
    if Region.wanted o (yielded ops a.tmps) = true then Oper.wp Try.prog o a w K Q else E := by
  rw [if_pos (by simp [Region.wanted, hgd])]
  exact wp_append_1 s x ho base v1 v2 L R y B hs hown hx hc hbase hlen n hn h
theorem step_append_2 {ops : Array Oper} {o : Oper} {a : Act} {K : Act → World → Prop} {Q : Exit → Act → World → Prop} {E : Prop} {w : World} (hgd : o.guard = none) (s x : Operand)
    (ho : o.op = .call { callee := .builtin .append, args := #[s, x], argTypes := #[24, 24] })
    (base : Nat) (v1 v2 : Value) (L R : List Int) (y : Int) (B : Nat) (hs : a.eval s = v2) (hown : TwoL w base v1 v2 L R) (hx : a.eval x = .slice (some ⟨B, 0, none⟩) 1 1)
    (hc : w.cell? ⟨B, 0, none⟩ = some (.int .i64 y)) (hbase : base ≤ w.heap.size) (hlen : R.length ≤ 1048576)
    (n : Nat) (hn : R.length = n) (h : ∀ g cap w', TwoL w' base v1 (.slice (some ⟨g, 0, none⟩) (n + 1) cap) L (R ++ [y]) → Below base w w' → K (a.put o.dst (.slice (some ⟨g, 0, none⟩) (n + 1) cap)) w') :
    if Region.wanted o (yielded ops a.tmps) = true then Oper.wp Try.prog o a w K Q else E := by
  rw [if_pos (by simp [Region.wanted, hgd])]
  exact wp_append_2 s x ho base v1 v2 L R y B hs hown hx hc hbase hlen n hn h

theorem wpList_append_1 {ops : Array Oper} {rest : List Oper} {o : Oper} {a : Act} {Q : Exit → Act → World → Prop} {w : World} (hgd : o.guard = none) (s x : Operand)
    (ho : o.op = .call { callee := .builtin .append, args := #[s, x], argTypes := #[24, 24] })
    (base : Nat) (v1 v2 : Value) (L R : List Int) (y : Int) (hs : a.eval s = v1) (hown : TwoL w base v1 v2 L R) (hx : a.eval x = .slice (some ⟨w.heap.size, 0, none⟩) 1 1) (hbase : base ≤ w.heap.size) (hlen : L.length ≤ 1048576) (n : Nat) (hn : L.length = n)
    (h : ∀ g cap w', TwoL w' base (.slice (some ⟨g, 0, none⟩) (n + 1) cap) v2 (L ++ [y]) R → Below base w w' → wpList Try.prog ops Q rest (a.put o.dst (.slice (some ⟨g, 0, none⟩) (n + 1) cap)) w') : wpList Try.prog ops Q (o :: rest) a (w.alloc (.cells #[.int .i64 y] 3)) :=
  wpList_plain hgd fun _ hK => wp_append_1 s x ho base v1 v2 L R y w.heap.size hs (hown.alloc _) hx (cell_new rfl) (by simp; omega) hlen n hn fun g cap w' h1 h2 _ => hK _ _ (h g cap w' h1 (((Below.refl _ _).alloc hbase _).trans h2))
theorem wpList_append_2 {ops : Array Oper} {rest : List Oper} {o : Oper} {a : Act} {Q : Exit → Act → World → Prop} {w : World} (hgd : o.guard = none) (s x : Operand)
    (ho : o.op = .call { callee := .builtin .append, args := #[s, x], argTypes := #[24, 24] })
    (base : Nat) (v1 v2 : Value) (L R : List Int) (y : Int) (hs : a.eval s = v2) (hown : TwoL w base v1 v2 L R) (hx : a.eval x = .slice (some ⟨w.heap.size, 0, none⟩) 1 1) (hbase : base ≤ w.heap.size) (hlen : R.length ≤ 1048576) (n : Nat) (hn : R.length = n)
    (h : ∀ g cap w', TwoL w' base v1 (.slice (some ⟨g, 0, none⟩) (n + 1) cap) L (R ++ [y]) → Below base w w' → wpList Try.prog ops Q rest (a.put o.dst (.slice (some ⟨g, 0, none⟩) (n + 1) cap)) w') : wpList Try.prog ops Q (o :: rest) a (w.alloc (.cells #[.int .i64 y] 3)) :=
  wpList_plain hgd fun _ hK => wp_append_2 s x ho base v1 v2 L R y w.heap.size hs (hown.alloc _) hx (cell_new rfl) (by simp; omega) hlen n hn fun g cap w' h1 h2 => hK _ _ (h g cap w' h1 (((Below.refl _ _).alloc hbase _).trans h2))

/-- What the two read as at the end. -/
theorem TwoL.parts {w : World} {base : Nat} {v1 v2 : Value} {L R : List Int} (h : TwoL w base v1 v2 L R) : ∃ ao bo c d, v1 = .slice ao L.length c ∧ v2 = .slice bo R.length d ∧ OwnE w base ao c L ∧ OwnE w base bo d R ∧ ∀ b, XR ao L b → ¬XR bo R b := by
  obtain ⟨ao, c, rfl⟩ := h.o1.form
  obtain ⟨bo, d, rfl⟩ := h.o2.form
  refine ⟨ao, bo, c, d, rfl, rfl, .inl h.o1, .inl h.o2, fun b ⟨h1, o1, e1⟩ ⟨h2, o2, e2⟩ => ?_⟩
  subst e1 e2
  rcases h.ne with e | e
  · simp [Value.ownBlock] at e
  · exact e (by simp [Value.ownBlock])

theorem TwoL.only {w w' : World} {base cb : Nat} {v1 v2 : Value} {L R : List Int} (h : TwoL w base v1 v2 L R) (hO : Only (fun b => b = cb) w.heap.size w w') (hc : cb < base) : TwoL w' base v1 v2 L R := by
  have hg : w.grownBy w' (some cb) := ⟨hO.os, hO.tape, hO.output, hO.size, fun k hk hne => hO.block k hk fun e => hne (by rw [show k = cb from e])⟩
  have key : ∀ v xs, OwnL w base v xs → OwnL w' base v xs := fun v xs ho => by
    refine ho.kept hg ?_
    cases hv : v.ownBlock with
    | none => exact .inl rfl
    | some k => exact .inr fun e => by have := (ho.lt hv).1; simp only [Option.some.injEq] at e; omega
  exact ⟨key _ _ h.o1, key _ _ h.o2, h.ne⟩

end Go.Proofs.Ytfkehmpckhmkbaa

namespace Go.Proofs.Ytfkehmpckhmkbaa
open Go.RowKit

theorem info_row : (Try.prog.info? 24).map (fun i => (i.zero, i.size, i.bytes)) = some (some (.slice none 0 0), 1, 24) := by kernel_rfl

/-- The slice value v owns the slices xs in a row of the call's own, from block 'base' on. -/
def OwnV (w : World) (base : Nat) (v : Value) (xs : List Value) : Prop := w.ownsRow base 24 1 v xs.length xs

theorem OwnV.cells {w : World} {base n cap : Nat} {ao : Option Addr} {xs : List Value} (h : OwnV w base (.slice ao n cap) xs) (h0 : 0 < xs.length) : ∃ g, ao = some ⟨g, 0, none⟩ ∧ base ≤ g ∧ g < w.heap.size ∧ ∀ k u, xs[k]? = some u → w.cell? ⟨g, k, none⟩ = some u := by
  obtain ⟨hl, h1 | ⟨g, cp, cur, hv, hg, hb, hn, hm, hsz, ht⟩⟩ := h
  · omega
  · simp only [Value.slice.injEq] at hv
    obtain ⟨rfl, -, -⟩ := hv
    refine ⟨g, rfl, hg, (Array.getElem?_eq_some_iff.1 hb).1, fun k u hk => ?_⟩
    obtain ⟨hkl, -⟩ := List.getElem?_eq_some_iff.1 hk
    have : cur[k]? = some u := by
      have e : (cur.toList.take (xs.length * 1))[k]? = xs[k]? := by rw [ht]
      rw [List.getElem?_take, if_pos (by omega), Array.getElem?_toList] at e
      rw [e]; exact hk
    simp only [World.cell?, hb]
    simpa using this

theorem OwnV.form {w : World} {base : Nat} {v : Value} {xs : List Value} (h : OwnV w base v xs) : ∃ ao cap, v = .slice ao xs.length cap := by
  obtain ⟨hl, ⟨h1, h2⟩ | ⟨g, cp, cur, hv, -⟩⟩ := h
  · exact ⟨none, 0, by rw [h1, h2]⟩
  · exact ⟨_, _, hv⟩

theorem OwnV.alloc {w : World} {base : Nat} {v : Value} {xs : List Value} (h : OwnV w base v xs) (o : Obj) : OwnV (w.alloc o) base v xs := World.ownsRow.alloc h o

theorem OwnV.below {w w' : World} {base : Nat} {v : Value} {xs : List Value} (h : OwnV w base v xs) (hb : Below w.heap.size w w') : OwnV w' base v xs := by
  obtain ⟨h0, h1 | ⟨g, cap, cur, hv, hg, hh, r⟩⟩ := h
  · exact ⟨h0, .inl h1⟩
  · exact ⟨h0, .inr ⟨g, cap, cur, hv, hg, by rw [hb.block g (Array.getElem?_eq_some_iff.1 hh).1]; exact hh, r⟩⟩

/-- '[][]int{}' -/
theorem OwnV.empty (w : World) : OwnV (w.alloc (.cells #[] 24)) w.heap.size (.slice (some ⟨w.heap.size, 0, none⟩) 0 0) [] :=
  ⟨by simp, .inr ⟨w.heap.size, 0, #[], rfl, Nat.le_refl _, by show (w.heap.push _)[w.heap.size]? = _; simp, Nat.le_refl _, by simp, by simp, by simp⟩⟩

theorem OwnV.own {w : World} {base : Nat} {v : Value} {xs : List Value} (h : OwnV w base v xs) : ∀ k, v.ownBlock = some k → base ≤ k := by
  intro k hk
  obtain ⟨hl, ⟨h1, h2⟩ | ⟨g, cp, cur, hv, hg, -⟩⟩ := h
  · rw [h1] at hk; cases hk
  · rw [hv] at hk
    simp only [Value.ownBlock, Option.some.injEq] at hk
    omega

/-- 'out = append(out, y)', out the call's own, y a slice. -/
theorem wpList_append_row {ops : Array Oper} {rest : List Oper} {o : Oper} {a : Act} {Q : Exit → Act → World → Prop} {w : World} (hgd : o.guard = none) (s x : Operand)
    (ho : o.op = .call { callee := .builtin .append, args := #[s, x], argTypes := #[46, 46] })
    (base : Nat) (v : Value) (xs : List Value) (y : Value) (hy : y.oneCell' = true) (hs : a.eval s = v) (hown : OwnV w base v xs) (hx : a.eval x = .slice (some ⟨w.heap.size, 0, none⟩) 1 1) (hbase : base ≤ w.heap.size) (hlen : xs.length ≤ 1048576)
    (h : ∀ ao cap w', OwnV w' base (.slice ao (xs.length + 1) cap) (xs ++ [y]) → Below base w w' → (w.alloc (.cells #[y] 24)).grownBy w' v.ownBlock → wpList Try.prog ops Q rest (a.put o.dst (.slice ao (xs.length + 1) cap)) w') :
    wpList Try.prog ops Q (o :: rest) a (w.alloc (.cells #[y] 24)) := by
  obtain ⟨i0, hi, hz0, hz1, hz2⟩ := info_parts info_row
  refine wpList_append_own (w.alloc (.cells #[y] 24)) hgd s x 46 ho base 24 i0 (.slice none 0 0) 1 24 Try.underlying46 hi hz0 hz1 hz2 rfl (by decide) v xs.length xs hs (hown.alloc _)
    ⟨w.heap.size, 0, none⟩ 1 1 [y] hx rfl ?_ ?_ (by unfold maxLen; omega) (by omega) (by simp; omega) ?_
  · intro j u hj
    match j, hj with
    | 0, hj => simp at hj; subst hj; simp [Addr.add]
  · intro u hu; simp at hu; subst hu; exact hy
  · intro v' w' h1 h2 _
    have h3 : OwnV w' base v' (xs ++ [y]) := by unfold OwnV; simpa using h1
    obtain ⟨ao, cap, rfl⟩ := h3.form
    have e : (xs ++ [y]).length = xs.length + 1 := by simp
    rw [e] at h3 ⊢
    refine h ao cap w' h3 ?_ ?_
    · have hb : Below base w (w.alloc (.cells #[y] 24)) := (Below.refl _ _).alloc hbase _
      exact hb.grown h2 (by simp; omega) hown.own
    · exact h2

end Go.Proofs.Ytfkehmpckhmkbaa

namespace Go.Proofs.Ytfkehmpckhmkbaa
open Go.RowKit

/-- Vertex v of S lacks a neighbour in S. -/
def cliqueBad (rs : List Int) (S v : Nat) : Bool := S.testBit v && decide (¬ gn rs v &&& S = S - 2 ^ v)
def cliqueN (rs : List Int) (S : Nat) : Bool := decide (∀ v, v < rs.length → cliqueBad rs S v = false)
def cliqueB (n : Int) (rs : List Int) (s : Int) : Bool := isSetB n rs s && cliqueN rs s.toNat
theorem cliqueB_no {n : Int} {rs : List Int} {s : Int} (h : isSetB n rs s = false) : cliqueB n rs s = false := by unfold cliqueB; rw [h]; rfl
theorem cliqueN_bad {rs : List Int} {S v : Nat} (hv : v < rs.length) (h : cliqueBad rs S v = true) : cliqueN rs S = false := by
  unfold cliqueN; rw [decide_eq_false_iff_not]; intro a; rw [a v hv] at h; cases h
theorem cliqueN_ok {rs : List Int} {S : Nat} (h : ∀ v, v < rs.length → cliqueBad rs S v = false) : cliqueN rs S = true := by unfold cliqueN; rw [decide_eq_true_eq]; exact h
theorem cliqueB_nat {n : Int} {rs : List Int} {S : Nat} (h : isSetB n rs S = true) : cliqueB n rs S = cliqueN rs S := by unfold cliqueB; rw [h, Bool.true_and, Int.toNat_natCast]

set_option maxHeartbeats 1000000 in
theorem specIsClique_any (n : Int) (rs : List Int) (s : Int) (ro : Option Addr) (rc : Nat) (w : World) (hr : IntsAt w ro rs) (hrl : rs.length ≤ 1048576) :
    Calls Try.prog 68 #[.agg #[.int .i64 n, .slice ro rs.length rc], .int .i64 s] w fun e w' => e = .returned (.bool (cliqueB n rs s)) ∧ Below w.heap.size w w' := by
  go_enter Try.func68, Try.ntmps68
  go_wp2_with fail
  generalize hW : w.alloc _ = W1
  obtain ⟨hB, -, k0⟩ := alloc1 hW
  replace hr := hr.below hB
  have hb0 := k0.lt
  have hc0 := k0.cell 0
  have hc1 := k0.cell 1
  simp at hc0 hc1
  clear hW k0
  have HhB := Lib.hid hB
  clear hB
  obtain ⟨m, hm0⟩ : ∃ m : Later W1, m.w = W1 := ⟨Later.refl _, rfl⟩
  refine (fun h => hm0 ▸ h) ?_
  clear hm0
  cases hv : isSetB n rs s
  · have HE := Lib.hid (cliqueB_no hv)
    go_wp2_with (first | (go_at_call 66; refine (Calls.later m (specIsSet_any _ _ _ _ _ _ (hr.later m) hrl)).mono ?_; rintro e w' ⟨rfl, m, rfl⟩))
    go_ret
    exact ⟨retB (by rw [HE.out]), below_later HhB.out m⟩
  · obtain ⟨rfl, g, S, rfl, hS⟩ := isSetB_true hv
    have HE := Lib.hid (cliqueB_nat hv)
    have hg1 := g.pos
    have hg2 := g.le
    have hp := g.pow.1
    go_wp2_with (first | (go_at_call 66; refine (Calls.later m (specIsSet_any _ _ _ _ _ _ (hr.later m) hrl)).mono ?_; rintro e w' ⟨rfl, m, rfl⟩))
    go_loopw [5] (fun i wr => (∃ m : Later W1, wr = m.w) ∧ ∃ k : Nat, k ≤ rs.length ∧ i = .int .i64 k ∧ ∀ v, v < k → cliqueBad rs S v = false) (fun i _ => rs.length - (intOf i).toNat)
    case atStart => exact ⟨⟨m, rfl⟩, 0, by omega, rfl, fun v h => by omega⟩
    case round =>
      obtain ⟨⟨m, rfl⟩, k, hk, rfl, hP⟩ := hrel
      have HhP := Lib.hid hP
      clear hP
      by_cases hlt : k < rs.length
      · obtain ⟨rb, rofs, rfl, hrb, hrc⟩ := hr.graph g
        have hl := g.lt k hlt
        have q1 : pwN k = ((2 ^ k : Nat) : Int) := pwN_small _ (by omega)
        have q2 : bits .and .i64 (gn rs k : Int) (S : Int) = ((gn rs k &&& S : Nat) : Int) := bits_and_nat _ _ (by omega) (by omega)
        have q3 : 2 ^ k ≤ 2 ^ rs.length := Nat.pow_le_pow_right (by decide) (by omega)
        have q4 : gn rs k &&& S ≤ S := Nat.and_le_right
        go_wp2_with fail
        cases hb : S.testBit k
        · have hb' : hasN (S : Int) k = false := by rw [hasN_nat]; exact hb
          have HQ : Hid (cliqueBad rs S k = false) := by show cliqueBad rs S k = false; unfold cliqueBad; rw [hb]; rfl
          clear hb q1 q2 q4
          refine wp_region_later m rfl (by kernel_rfl) (by kernel_rfl) ?_
          repeat (go_big_quiet_step (fail))
          refine wpQuiet_nil ?_
          rintro _ ⟨m, rfl⟩
          go_wp2_with fail
          go_roundw
          case rel => exact ⟨⟨m, rfl⟩, k + 1, by omega, by go_num, all_succ HhP.out HQ.out⟩
          case measure => simp [intOf]; omega
        · have hb' : hasN (S : Int) k = true := by rw [hasN_nat]; exact hb
          have hle := pow_le_of_testBit hb
          have HQ : Hid (∀ b, (((gn rs k &&& S : Nat) : Int) != (S : Int) - ((2 ^ k : Nat) : Int)) = b → cliqueBad rs S k = b) := fun b h => by
            unfold cliqueBad; rw [hb, Bool.true_and, ← h, Bool.eq_iff_iff, decide_eq_true_eq, bne_iff_ne]
            constructor <;> intro h1 h2 <;> apply h1 <;> omega
          clear hb
          generalize gn rs k &&& S = A at *
          generalize 2 ^ k = C at *
          cases hc : ((A : Int) != (S : Int) - (C : Int))
          all_goals
            refine wp_region_later m rfl (by kernel_rfl) (by kernel_rfl) ?_
            repeat (go_big_quiet_step (fail))
            refine wpQuiet_nil ?_
            rintro _ ⟨m, rfl⟩
            go_wp2_with fail
          · go_roundw
            case rel => exact ⟨⟨m, rfl⟩, k + 1, by omega, by go_num, all_succ HhP.out (HQ.out _ hc)⟩
            case measure => simp [intOf]; omega
          · go_ret
            exact ⟨retB (by rw [HE.out, cliqueN_bad hlt (HQ.out _ hc)]), below_later HhB.out m⟩
      · go_wp2_with fail
        go_ret
        exact ⟨retB (by rw [HE.out, cliqueN_ok (fun v h => HhP.out v (by omega))]), below_later HhB.out m⟩



/-! ### IsCliqueCover -/
/-- The first k sets together. -/
def accTo (l : List Int) : Nat → Nat
  | 0 => 0
  | k + 1 => accTo l k ||| (gi l k).toNat
def coverAt (n : Int) (rs l : List Int) (j : Nat) : Bool := cliqueB n rs (gi l j) && decide (accTo l j &&& (gi l j).toNat = 0)
def coverB (n : Int) (rs l : List Int) : Bool := isGraphB n rs && decide ((∀ j, j < l.length → coverAt n rs l j = true) ∧ accTo l l.length = 2 ^ rs.length - 1)
theorem coverB_no {n : Int} {rs l : List Int} (h : isGraphB n rs = false) : coverB n rs l = false := by unfold coverB; rw [h]; rfl
theorem coverB_bad {n : Int} {rs l : List Int} {j : Nat} (hj : j < l.length) (h : coverAt n rs l j = false) : coverB n rs l = false := by
  unfold coverB; rw [decide_eq_false, Bool.and_false]; rintro ⟨a, _⟩; rw [a j hj] at h; cases h
theorem coverB_end {n : Int} {rs l : List Int} (hg : isGraphB n rs = true) (h : ∀ j, j < l.length → coverAt n rs l j = true) : coverB n rs l = (((accTo l l.length : Nat) : Int) == ((2 ^ rs.length - 1 : Nat) : Int)) := by
  unfold coverB; rw [hg, Bool.true_and, Bool.eq_iff_iff, decide_eq_true_eq, beq_iff_eq]
  exact ⟨fun ⟨_, b⟩ => by rw [b], fun b => ⟨h, Int.ofNat_inj.1 b⟩⟩
theorem cliqueB_graph {n : Int} {rs : List Int} {s : Int} (h : cliqueB n rs s = true) : isSetB n rs s = true := by unfold cliqueB at h; simp only [Bool.and_eq_true] at h; exact h.1
theorem cliqueB_inv {n : Int} {rs : List Int} {s : Int} (h : isGraphB n rs = false) : cliqueB n rs s = false := by unfold cliqueB isSetB; rw [h]; rfl
theorem accTo_lt {rs l : List Int} {k : Nat} (h : ∀ j, j < k → coverAt rs.length rs l j = true) : accTo l k < 2 ^ rs.length := by
  induction k with
  | zero => exact Nat.two_pow_pos _
  | succ k ih =>
    have := h k (by omega)
    unfold coverAt at this
    simp only [Bool.and_eq_true] at this
    obtain ⟨_, _, S, h1, h2⟩ := isSetB_true (cliqueB_graph this.1)
    unfold accTo
    exact Nat.or_lt_two_pow (ih fun j hj => h j (by omega)) (by rw [h1]; simpa using h2)

/-- What the walks want of set k, where it is a clique. -/
theorem cover_facts {rs l : List Int} {k : Nat} (g : VG rs) (h : ∀ j, j < k → coverAt rs.length rs l j = true) (hc : cliqueB rs.length rs (gi l k) = true) :
    bits .and .i64 (accTo l k : Int) (gi l k) = ((accTo l k &&& (gi l k).toNat : Nat) : Int) ∧ bits .or .i64 (accTo l k : Int) (gi l k) = ((accTo l (k + 1) : Nat) : Int) := by
  obtain ⟨_, _, S, h1, h2⟩ := isSetB_true (cliqueB_graph hc)
  have h3 := accTo_lt h
  have h4 := g.pow.1
  rw [h1, Int.toNat_natCast]
  exact ⟨bits_and_nat _ _ (by omega) (by omega), by rw [bits_or_nat _ _ (by omega) (by omega)]; show _ = ((accTo l k ||| (gi l k).toNat : Nat) : Int); rw [h1, Int.toNat_natCast]⟩



end Go.Proofs.Ytfkehmpckhmkbaa
