/-
  The walks of the laws' own helpers on lists of integers: szIntS, toIntS, eqIntS. The lists have at most 2^20 elements where a copy is made.
-/
import Derived.Test.YtgklgheaojoimaaDoorNum
namespace Go.Proofs.YtgklgheaojoimaaDoor
open Go.RowKit

theorem info_int : (Tryd.prog.info? 3).map (fun i => (i.zero, i.size, i.bytes)) = some (some (.int .i64 0), 1, 8) := by kernel_rfl

/-- A row of integers as a block's cells. -/
def intRow (xs : List Int) : Array Value := (xs.map (Value.int .i64)).toArray
theorem intRow_size (xs : List Int) : (intRow xs).size = xs.length := by simp [intRow]
theorem intRow_get (xs : List Int) (k : Nat) (hk : k < xs.length) : (intRow xs)[k]? = some (.int .i64 (gi xs k)) := by simp [intRow, gi, hk]
theorem intRow_set (xs : List Int) (k : Nat) (x : Int) : (intRow xs).setIfInBounds k (.int .i64 x) = intRow (xs.set k x) := by simp [intRow]

/-- Block b of the world is a row of integers, all of it, nothing frozen. -/
def OwnInts (w : World) (b : Nat) (xs : List Int) : Prop := Blk w b (intRow xs) 3
theorem OwnInts.cell {w : World} {b : Nat} {xs : List Int} (h : OwnInts w b xs) (k : Nat) (hk : k < xs.length) : w.cell? ⟨b, k, none⟩ = some (.int .i64 (gi xs k)) := by
  rw [Blk.cell h, intRow_get _ _ hk]
theorem OwnInts.frozen {w : World} {b : Nat} {xs : List Int} (h : OwnInts w b xs) (k : Nat) : w.frozen? ⟨b, k, none⟩ = false := Blk.frozen h k
theorem OwnInts.lt {w : World} {b : Nat} {xs : List Int} (h : OwnInts w b xs) : b < w.heap.size := Blk.lt h
theorem OwnInts.ints {w : World} {b : Nat} {xs : List Int} (h : OwnInts w b xs) : IntsAt w (some ⟨b, 0, none⟩) xs := fun _ =>
  ⟨b, 0, rfl, h.lt, fun k hk => by rw [Nat.zero_add]; exact h.cell k hk⟩
theorem OwnInts.below {w w' : World} {b B : Nat} {xs : List Int} (h : OwnInts w b xs) (hb : Below B w w') (hB : b < B) : OwnInts w' b xs := Blk.below h hb hB
theorem OwnInts.later {W : World} {b : Nat} {xs : List Int} (h : OwnInts W b xs) (m : Later W) : OwnInts m.w b xs := Blk.later h m
theorem OwnInts.made (w : World) (xs : List Int) : OwnInts (w.alloc (.cells (intRow xs) 3)) w.heap.size xs := Blk.made _ _ _ rfl
theorem OwnInts.store {w : World} {b : Nat} {xs : List Int} (h : OwnInts w b xs) (k : Nat) (x : Int) : OwnInts (w.setCell ⟨b, k, none⟩ (.int .i64 x)) b (xs.set k x) := by
  have := Blk.store h k (.int .i64 x)
  rw [intRow_set] at this; exact this
/-- A store into another block. -/
theorem OwnInts.other {w : World} {b : Nat} {xs : List Int} (h : OwnInts w b xs) {a : Addr} (v : Value) (hne : b ≠ a.block) : OwnInts (w.setCell a v) b xs := Blk.other h v hne

theorem OwnInts.otherW {w W : World} {b : Nat} {xs : List Int} (h : OwnInts w b xs) {a : Addr} {v : Value} (hW : w.setCell a v = W) (hne : b ≠ a.block) : OwnInts W b xs := hW ▸ h.other v hne
theorem run_make_ints (n : Nat) (hn : n ≤ 35184372088832) (w : World) : (Instr.makeSlice 24 (.int .i64 n) (.int .i64 n)).run Tryd.prog w = .ok (.slice (some ⟨w.heap.size, 0, none⟩) n n) (w.alloc (.cells (intRow (List.replicate n 0)) 3)) := by
  obtain ⟨i0, hi, hz0, hz1, hz2⟩ := info_parts info_int
  rw [run_make (P := Tryd.prog) w 24 3 i0 (.int .i64 0) Tryd.underlying24 hi hz0 .i64 .i64 n n (by omega) (by omega) (by rw [hz2]; omega) (by omega), hz1]
  have e : madeCells (Value.cells (.int .i64 0)) ((n : Int).toNat * 1) = intRow (List.replicate n 0) := by
    apply Array.ext
    · simp [madeCells, intRow]
    · intro i h1 h2
      simp only [madeCells, intRow, Value.cells] at h1 h2 ⊢
      simp [Nat.mod_one]
  rw [e]
  simp



def sameInts (xs ys : List Int) : Bool := decide (xs = ys)
theorem sameInts_len {xs ys : List Int} (h : ¬ xs.length = ys.length) : sameInts xs ys = false := by
  simp only [sameInts, decide_eq_false_iff_not]; intro e; exact h (by rw [e])
theorem sameInts_at {xs ys : List Int} {k : Nat} (h : ¬ gi xs k = gi ys k) : sameInts xs ys = false := by
  simp only [sameInts, decide_eq_false_iff_not]; intro e; exact h (by rw [e])
theorem gi_ext {xs ys : List Int} (hl : xs.length = ys.length) (h : ∀ j, j < xs.length → gi xs j = gi ys j) : xs = ys := by
  apply List.ext_getElem hl
  intro j h1 h2
  have := h j h1
  simpa [gi, h1, h2] using this
theorem sameInts_all {xs ys : List Int} (hl : xs.length = ys.length) (h : ∀ j, j < xs.length → gi xs j = gi ys j) : sameInts xs ys = true := by
  simp only [sameInts, decide_eq_true_eq]; exact gi_ext hl h
theorem sameInts_refl (xs : List Int) : sameInts xs xs = true := by simp [sameInts]


end Go.Proofs.YtgklgheaojoimaaDoor
