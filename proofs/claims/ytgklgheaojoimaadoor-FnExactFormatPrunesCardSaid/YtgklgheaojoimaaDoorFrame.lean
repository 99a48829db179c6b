/-
  Worlds that have grown from another one in which some blocks may be written: what stays as it was. No conditions.
-/
import Derived.Test.YtgklgheaojoimaaDoorBase
namespace Go.Proofs.YtgklgheaojoimaaDoor
open Go.RowKit

/-- Below block B the world w' is as w was, but for the blocks of X. -/
structure Only (X : Nat → Prop) (B : Nat) (w w' : World) : Prop where
  os : w'.os = w.os
  tape : w'.tape = w.tape
  output : w'.output = w.output
  size : w.heap.size ≤ w'.heap.size
  block : ∀ k, k < B → ¬X k → w'.heap[k]? = w.heap[k]?
theorem Only.refl (X : Nat → Prop) (B : Nat) (w : World) : Only X B w w := ⟨rfl, rfl, rfl, Nat.le_refl _, fun _ _ _ => rfl⟩
theorem Only.trans {X : Nat → Prop} {B : Nat} {a b c : World} (h : Only X B a b) (k : Only X B b c) : Only X B a c :=
  ⟨k.os.trans h.os, k.tape.trans h.tape, k.output.trans h.output, Nat.le_trans h.size k.size, fun i hi hx => (k.block i hi hx).trans (h.block i hi hx)⟩
theorem Only.mono {X Y : Nat → Prop} {B B' : Nat} {w w' : World} (h : Only X B w w') (hB : B' ≤ B) (hX : ∀ b, b < B' → X b → Y b) : Only Y B' w w' :=
  ⟨h.os, h.tape, h.output, h.size, fun k hk hx => h.block k (Nat.lt_of_lt_of_le hk hB) fun h' => hx (hX k hk h')⟩
theorem Only.of {X : Nat → Prop} {B : Nat} {w w' : World} (h : Below B w w') : Only X B w w' := ⟨h.os, h.tape, h.output, h.size, fun k hk _ => h.block k hk⟩
theorem Only.below {X : Nat → Prop} {B B' : Nat} {w w' : World} (h : Only X B w w') (hB : B' ≤ B) (hX : ∀ b, b < B' → ¬X b) : Below B' w w' :=
  ⟨h.os, h.tape, h.output, h.size, fun k hk => h.block k (Nat.lt_of_lt_of_le hk hB) (hX k hk)⟩
theorem Only.more {X : Nat → Prop} {B B' : Nat} {a w w' : World} (h : Only X B a w) (k : Below B' w w') (hB : B ≤ B') : Only X B a w' := h.trans (Only.of (k.mono hB))
theorem Only.setCell {X : Nat → Prop} {B : Nat} {a w : World} (h : Only X B a w) {p : Addr} (hp : X p.block ∨ B ≤ p.block) (u : Value) : Only X B a (w.setCell p u) :=
  h.trans ⟨rfl, rfl, rfl, by simp [World.setCell], fun k hk hx => Below.heap_setCell _ _ _ _ (fun e => by subst e; rcases hp with h | h; exact hx h; omega)⟩
theorem Only.cell {X : Nat → Prop} {B : Nat} {w w' : World} (h : Only X B w w') {p : Addr} (hp : p.block < B) (hx : ¬X p.block) : w'.cell? p = w.cell? p := World.cell?_of_block (w := w) (h.block p.block hp hx)
theorem Only.frozen {X : Nat → Prop} {B : Nat} {w w' : World} (h : Only X B w w') {p : Addr} (hp : p.block < B) (hx : ¬X p.block) : w'.frozen? p = w.frozen? p := World.frozen?_of_block (w := w) (h.block p.block hp hx)
theorem Only.blk {X : Nat → Prop} {B : Nat} {w w' : World} (h : Only X B w w') {b : Nat} {cs : Array Value} {T : TypeId} (hb : Blk w b cs T) (hB : b < B) (hx : ¬X b) : Blk w' b cs T := by
  unfold Blk; rw [h.block b hB hx]; exact hb

/-- A world that has grown from W, the blocks of X aside. -/
structure LateX (X : Nat → Prop) (W : World) where
  w : World
  only : Only X W.heap.size W w
@[go_sem] theorem LateX.cell {X : Nat → Prop} {W : World} (m : LateX X W) (b o : Nat) (h : b < W.heap.size) (hx : ¬X b) : m.w.cell? ⟨b, o, none⟩ = W.cell? ⟨b, o, none⟩ := m.only.cell (p := ⟨b, o, none⟩) h hx
@[go_sem] theorem LateX.frozen {X : Nat → Prop} {W : World} (m : LateX X W) (b o : Nat) (h : b < W.heap.size) (hx : ¬X b) : m.w.frozen? ⟨b, o, none⟩ = W.frozen? ⟨b, o, none⟩ := m.only.frozen (p := ⟨b, o, none⟩) h hx
theorem LateX.size {X : Nat → Prop} {W : World} (m : LateX X W) : W.heap.size ≤ m.w.heap.size := m.only.size
def LateX.refl (X : Nat → Prop) (W : World) : LateX X W := ⟨W, Only.refl _ _ _⟩
instance (X : Nat → Prop) (W : World) : Nonempty (LateX X W) := ⟨LateX.refl X W⟩
theorem LateX.blk {X : Nat → Prop} {W : World} (m : LateX X W) {b : Nat} {cs : Array Value} {T : TypeId} (hb : Blk W b cs T) (hx : ¬X b) : Blk m.w b cs T := m.only.blk hb hb.lt hx

end Go.Proofs.YtgklgheaojoimaaDoor
