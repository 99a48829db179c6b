/-
  Words and laws on worlds that the walks of this seat share: a world that has grown from another, slices that read as lists of integers, boxes of structs. No conditions.
-/
import Derived.Test.YtfkehmpckhmkbaaDoorRows
import Derived.WalkKit
import Derived.WalkSpells
import Derived.WalkLawsBesides
import Derived.Lib.Hide
import Derived.BigQuiet
namespace Go.Proofs.YtfkehmpckhmkbaaDoor
open Go.RowKit

/-- A world that has grown from W: every block of W is there as it was. -/
structure Later (W : World) where
  w : World
  below : Below W.heap.size W w

@[go_sem] theorem Later.cell {W : World} (m : Later W) (b o : Nat) (h : b < W.heap.size) : m.w.cell? ⟨b, o, none⟩ = W.cell? ⟨b, o, none⟩ :=
  m.below.cell (p := ⟨b, o, none⟩) h
@[go_sem] theorem Later.frozen {W : World} (m : Later W) (b o : Nat) (h : b < W.heap.size) : m.w.frozen? ⟨b, o, none⟩ = W.frozen? ⟨b, o, none⟩ :=
  m.below.frozen (p := ⟨b, o, none⟩) h

def Later.refl (W : World) : Later W := ⟨W, Below.refl _ _⟩
instance (W : World) : Nonempty (Later W) := ⟨Later.refl W⟩
def Later.on {W : World} (m : Later W) {w' : World} (h : Below m.w.heap.size m.w w') : Later W := ⟨w', m.below.trans (h.mono m.below.size)⟩
theorem Later.size {W : World} (m : Later W) : W.heap.size ≤ m.w.heap.size := m.below.size
/-- What began below W and came to a world that has grown from W. -/
theorem below_later {w W : World} (h : Below w.heap.size w W) (m : Later W) : Below w.heap.size w m.w := h.trans (m.below.mono h.size)

theorem below_more {W w w' : World} (h : Below W.heap.size W w) (h' : Below w.heap.size w w') : Below W.heap.size W w' := h.trans (h'.mono h.size)
theorem below_more' {v W w : World} (h : Below v.heap.size v W) (h' : Below W.heap.size W w) : Below v.heap.size v w := h.trans (h'.mono h.size)

theorem Calls.later {W : World} {P : Program} {f : FuncId} {args : Array Value} {v : Value} (m : Later W)
    (h : Calls P f args m.w fun e w' => e = .returned v ∧ Below m.w.heap.size m.w w') :
    Calls P f args m.w fun e w'' => e = .returned v ∧ ∃ m' : Later W, w'' = m'.w :=
  h.mono fun _ _ ⟨he, hb⟩ => ⟨he, m.on hb, rfl⟩
theorem Calls.later_same {W : World} {P : Program} {f : FuncId} {args : Array Value} {v : Value} (m : Later W)
    (h : Calls P f args m.w fun e w' => e = .returned v ∧ m.w = w') :
    Calls P f args m.w fun e w'' => e = .returned v ∧ ∃ m' : Later W, w'' = m'.w :=
  h.mono fun _ _ ⟨he, hb⟩ => ⟨he, m, hb.symm⟩

/-- A drawn region that only reads, in any world that has grown from W. -/
theorem wp_region_later {P : Program} {id : Nat} {Q : Exit → Act → World → Prop} {a : Act} {W w : World} {l : List Oper} (m : Later W) (hm : m.w = w) (hP : P.follows .mixedOrders = true) (hB : Region.lexB .any l.toArray = true)
    (h : wpQuiet P l.toArray (fun w' => ∃ m : Later W, w' = m.w) (fun a' => ∀ w', (∃ m : Later W, w' = m.w) → Q .normal a' w') l a) : (Code.region id l.toArray true).wp P Q a w :=
  wp_region_quiet (C := fun w' => ∃ m : Later W, w' = m.w) hP hB ⟨⟨_, m.below.drew⟩, by rw [← hm]; rfl⟩ (by simpa using h)

/-- What holds below k and at k holds below k + 1. -/
theorem all_succ {p : Nat → Prop} {k : Nat} (h : ∀ j, j < k → p j) (hk : p k) : ∀ j, j < k + 1 → p j := fun j hj => by
  rcases Nat.lt_succ_iff_lt_or_eq.1 hj with hj | rfl
  · exact h j hj
  · exact hk

/-- Element k of a list of integers (no rule of simp looks into it). -/
def gi (xs : List Int) (k : Nat) : Int := xs.getD k 0

/-- The slice address ao reads as the integers xs. -/
def IntsAt (w : World) (ao : Option Addr) (xs : List Int) : Prop :=
  0 < xs.length → ∃ b off, ao = some ⟨b, off, none⟩ ∧ b < w.heap.size ∧ ∀ k, k < xs.length → w.cell? ⟨b, off + k, none⟩ = some (.int .i64 (gi xs k))

theorem IntsAt.below {w w' : World} {ao : Option Addr} {xs : List Int} (h : IntsAt w ao xs) (hb : Below w.heap.size w w') : IntsAt w' ao xs := fun h0 => by
  obtain ⟨b, off, rfl, hlt, hc⟩ := h h0
  exact ⟨b, off, rfl, Nat.lt_of_lt_of_le hlt hb.size, fun k hk => by rw [hb.cell (p := ⟨b, off + k, none⟩) hlt]; exact hc k hk⟩
theorem IntsAt.later {W : World} {ao : Option Addr} {xs : List Int} (h : IntsAt W ao xs) (m : Later W) : IntsAt m.w ao xs := h.below m.below

theorem retB {a b : Bool} (h : a = b) : Ending.returned (.bool a) = .returned (.bool b) := by rw [h]
theorem retI {a b : Int} (h : a = b) : Ending.returned (.int .i64 a) = .returned (.int .i64 b) := by rw [h]

/-- Block b of the world holds these cells and no others, nothing frozen. -/
def Blk (w : World) (b : Nat) (cs : Array Value) (T : TypeId) : Prop := w.heap[b]? = some (.cells cs T (0, 0))
theorem Blk.cell {w : World} {b : Nat} {cs : Array Value} {T : TypeId} (h : Blk w b cs T) (i : Nat) : w.cell? ⟨b, i, none⟩ = cs[i]? := by
  unfold Blk at h; simp only [World.cell?, h]; rfl
theorem Blk.frozen {w : World} {b : Nat} {cs : Array Value} {T : TypeId} (h : Blk w b cs T) (i : Nat) : w.frozen? ⟨b, i, none⟩ = false := by
  unfold Blk at h; simp only [World.frozen?, h]; simp
theorem Blk.lt {w : World} {b : Nat} {cs : Array Value} {T : TypeId} (h : Blk w b cs T) : b < w.heap.size := (Array.getElem?_eq_some_iff.1 h).1
theorem Blk.below {w w' : World} {b B : Nat} {cs : Array Value} {T : TypeId} (h : Blk w b cs T) (hb : Below B w w') (hB : b < B) : Blk w' b cs T := by
  unfold Blk; rw [hb.block b hB]; exact h
theorem Blk.later {W : World} {b : Nat} {cs : Array Value} {T : TypeId} (h : Blk W b cs T) (m : Later W) : Blk m.w b cs T := h.below m.below h.lt
theorem Blk.made (w : World) (cs : Array Value) (T : TypeId) {b : Nat} (hb : b = w.heap.size) : Blk (w.alloc (.cells cs T)) b cs T := by
  subst hb
  show (w.heap.push _)[w.heap.size]? = _
  simp
theorem Blk.alloc {w : World} {b : Nat} {cs : Array Value} {T : TypeId} (h : Blk w b cs T) (o : Obj) : Blk (w.alloc o) b cs T := by
  have := h.lt
  unfold Blk; rw [Below.heap_alloc _ _ _ h.lt]; exact h
theorem Blk.store {w : World} {b : Nat} {cs : Array Value} {T : TypeId} (h : Blk w b cs T) (i : Nat) (v : Value) : Blk (w.setCell ⟨b, i, none⟩ v) b (cs.setIfInBounds i v) T := by
  unfold Blk at *
  simp only [World.setCell, Array.getElem?_modify, h]
  simp
theorem Blk.other {w : World} {b : Nat} {cs : Array Value} {T : TypeId} (h : Blk w b cs T) {a : Addr} (v : Value) (hne : b ≠ a.block) : Blk (w.setCell a v) b cs T := by
  unfold Blk at *; rw [Below.heap_setCell _ _ _ _ hne]; exact h
theorem Blk.otherW {w W : World} {b : Nat} {cs : Array Value} {T : TypeId} (h : Blk w b cs T) {a : Addr} {v : Value} (hW : w.setCell a v = W) (hne : b ≠ a.block) : Blk W b cs T := hW ▸ h.other v hne
theorem Blk.storeW {w W : World} {b : Nat} {cs : Array Value} {T : TypeId} (h : Blk w b cs T) {i : Nat} {v : Value} (hW : w.setCell ⟨b, i, none⟩ v = W) : Blk W b (cs.setIfInBounds i v) T := hW ▸ h.store i v
theorem below_setCellW {w w1 W : World} {B : Nat} (h : Below B w w1) {a : Addr} {v : Value} (hW : w1.setCell a v = W) (hB : B ≤ a.block) : Below B w W := hW ▸ h.setCell hB v
theorem size_setCellW {w W : World} {a : Addr} {v : Value} (hW : w.setCell a v = W) : W.heap.size = w.heap.size := by rw [← hW]; simp [World.setCell]
theorem Blk.drew {w : World} {b : Nat} {cs : Array Value} {T : TypeId} (h : Blk w b cs T) : Blk w.drew b cs T := h

theorem alloc1 {w W1 : World} {c0 : Array Value} {T0 : TypeId} (h : w.alloc (.cells c0 T0) = W1) :
    Below w.heap.size w W1 ∧ W1.heap.size = w.heap.size + 1 ∧ Blk W1 w.heap.size c0 T0 := by
  subst h
  exact ⟨(Below.refl _ _).alloc (Nat.le_refl _) _, by simp, Blk.made _ _ _ rfl⟩
theorem alloc2 {w W1 : World} {c0 c1 : Array Value} {T0 T1 : TypeId} (h : (w.alloc (.cells c0 T0)).alloc (.cells c1 T1) = W1) :
    Below w.heap.size w W1 ∧ W1.heap.size = w.heap.size + 2 ∧ Blk W1 w.heap.size c0 T0 ∧ Blk W1 (w.heap.size + 1) c1 T1 := by
  subst h
  exact ⟨((Below.refl _ _).alloc (Nat.le_refl _) _).alloc (by simp) _, by simp, (Blk.made _ _ _ rfl).alloc _, Blk.made _ _ _ (by simp)⟩
theorem alloc3 {w W1 : World} {c0 c1 c2 : Array Value} {T0 T1 T2 : TypeId} (h : ((w.alloc (.cells c0 T0)).alloc (.cells c1 T1)).alloc (.cells c2 T2) = W1) :
    Below w.heap.size w W1 ∧ W1.heap.size = w.heap.size + 3 ∧ Blk W1 w.heap.size c0 T0 ∧ Blk W1 (w.heap.size + 1) c1 T1 ∧ Blk W1 (w.heap.size + 1 + 1) c2 T2 := by
  subst h
  exact ⟨(((Below.refl _ _).alloc (Nat.le_refl _) _).alloc (by simp) _).alloc (by simp; omega) _, by simp, ((Blk.made _ _ _ rfl).alloc _).alloc _, (Blk.made _ _ _ (by simp)).alloc _, Blk.made _ _ _ (by simp)⟩

/-- A struct that has been boxed: its cells, and that the world has grown. -/
theorem box_facts {w W1 : World} {cs : Array Value} {T : TypeId} (h : w.alloc (.cells cs T) = W1) :
    Below w.heap.size w W1 ∧ w.heap.size < W1.heap.size ∧ (∀ i, W1.cell? ⟨w.heap.size, i, none⟩ = cs[i]?) ∧ (∀ i, W1.frozen? ⟨w.heap.size, i, none⟩ = false) := by
  subst h
  have hh : (w.alloc (.cells cs T)).heap[w.heap.size]? = some (.cells cs T (0, 0)) := by
    show (w.heap.push _)[w.heap.size]? = _
    simp
  refine ⟨(Below.refl _ _).alloc (Nat.le_refl _) _, by simp, fun i => ?_, fun i => ?_⟩
  · simp only [World.cell?, hh]; rfl
  · simp only [World.frozen?, hh]; simp

end Go.Proofs.YtfkehmpckhmkbaaDoor
