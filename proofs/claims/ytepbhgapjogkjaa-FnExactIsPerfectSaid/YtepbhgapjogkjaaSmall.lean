/-
  Graphs of at most four vertices need no more colours than a largest clique has vertices. No conditions.
-/
import Derived.Test.YtepbhgapjogkjaaColorS
import Derived.Test.YtepbhgapjogkjaaCliqueN
namespace Go.Proofs.Ytepbhgapjogkjaa
open Go.RowKit

def smallOk (rs : List Int) : Bool := decide (chromV rs.length rs ≤ clqN rs.length rs)
def chk1 : Bool := (List.range 2).all fun a => a.testBit 0 || smallOk [(a : Int)]
def chk2 : Bool := (List.range 4).all fun a => a.testBit 0 || (List.range 4).all fun b => b.testBit 1 || (a.testBit 1 != b.testBit 0 || smallOk [(a : Int), (b : Int)])
def chk3 : Bool := (List.range 8).all fun a => a.testBit 0 || (List.range 8).all fun b => b.testBit 1 || (a.testBit 1 != b.testBit 0 || (List.range 8).all fun c => c.testBit 2 || (a.testBit 2 != c.testBit 0 || (b.testBit 2 != c.testBit 1 || smallOk [(a : Int), (b : Int), (c : Int)])))
def chk4 : Bool := (List.range 16).all fun a => a.testBit 0 || (List.range 16).all fun b => b.testBit 1 || (a.testBit 1 != b.testBit 0 || (List.range 16).all fun c => c.testBit 2 || (a.testBit 2 != c.testBit 0 || (b.testBit 2 != c.testBit 1 || (List.range 16).all fun d => d.testBit 3 || (a.testBit 3 != d.testBit 0 || (b.testBit 3 != d.testBit 1 || (c.testBit 3 != d.testBit 2 || smallOk [(a : Int), (b : Int), (c : Int), (d : Int)])))))) 
theorem chk1_ok : chk1 = true := by decide +kernel
theorem chk2_ok : chk2 = true := by decide +kernel
theorem chk3_ok : chk3 = true := by decide +kernel
theorem chk4_ok : chk4 = true := by decide +kernel
theorem all_range {n a : Nat} {p : Nat → Bool} (h : (List.range n).all p = true) (ha : a < n) : p a = true := by rw [List.all_eq_true] at h; exact h a (by simpa using ha)
theorem or_false {a b : Bool} (h : (a || b) = true) (ha : a = false) : b = true := by rw [ha] at h; exact h
theorem ne_false {a b : Bool} (h : a = b) : (a != b) = false := by rw [h]; simp

theorem small_any {rs : List Int} (hv : isGraphB rs.length rs = true) (h4 : rs.length ≤ 4) : chromV rs.length rs ≤ clqN rs.length rs := by
  have g := (VG.of hv).2
  suffices h : smallOk rs = true by unfold smallOk at h; exact of_decide_eq_true h
  clear hv
  match rs, g, h4 with
  | [], g, _ => have := g.pos; simp at this
  | [x], g, _ =>
    have e0 : x = (gn [x] 0 : Int) := g.row 0 (by simp)
    have l0 : gn [x] 0 < 2 := g.lt 0 (by simp)
    have i0 := g.irr 0 (by simp)
    generalize gn [x] 0 = a at *
    rw [e0]
    exact or_false (all_range chk1_ok l0) i0
  | [x, y], g, _ =>
    have e0 : x = (gn [x, y] 0 : Int) := g.row 0 (by simp)
    have e1 : y = (gn [x, y] 1 : Int) := g.row 1 (by simp)
    have l0 : gn [x, y] 0 < 4 := g.lt 0 (by simp)
    have l1 : gn [x, y] 1 < 4 := g.lt 1 (by simp)
    have i0 := g.irr 0 (by simp)
    have i1 := g.irr 1 (by simp)
    have s01 := g.sym 0 (by simp) 1 (by simp)
    generalize gn [x, y] 0 = a at *
    generalize gn [x, y] 1 = b at *
    rw [e0, e1]
    exact or_false (or_false (all_range (or_false (all_range chk2_ok l0) i0) l1) i1) (ne_false s01)
  | [x, y, z], g, _ =>
    have e0 : x = (gn [x, y, z] 0 : Int) := g.row 0 (by simp)
    have e1 : y = (gn [x, y, z] 1 : Int) := g.row 1 (by simp)
    have e2 : z = (gn [x, y, z] 2 : Int) := g.row 2 (by simp)
    have l0 : gn [x, y, z] 0 < 8 := g.lt 0 (by simp)
    have l1 : gn [x, y, z] 1 < 8 := g.lt 1 (by simp)
    have l2 : gn [x, y, z] 2 < 8 := g.lt 2 (by simp)
    have i0 := g.irr 0 (by simp)
    have i1 := g.irr 1 (by simp)
    have i2 := g.irr 2 (by simp)
    have s01 := g.sym 0 (by simp) 1 (by simp)
    have s02 := g.sym 0 (by simp) 2 (by simp)
    have s12 := g.sym 1 (by simp) 2 (by simp)
    generalize gn [x, y, z] 0 = a at *
    generalize gn [x, y, z] 1 = b at *
    generalize gn [x, y, z] 2 = c at *
    rw [e0, e1, e2]
    have k1 := or_false (or_false (all_range (or_false (all_range chk3_ok l0) i0) l1) i1) (ne_false s01)
    exact or_false (or_false (or_false (all_range k1 l2) i2) (ne_false s02)) (ne_false s12)
  | [x, y, z, u], g, _ =>
    have e0 : x = (gn [x, y, z, u] 0 : Int) := g.row 0 (by simp)
    have e1 : y = (gn [x, y, z, u] 1 : Int) := g.row 1 (by simp)
    have e2 : z = (gn [x, y, z, u] 2 : Int) := g.row 2 (by simp)
    have e3 : u = (gn [x, y, z, u] 3 : Int) := g.row 3 (by simp)
    have l0 : gn [x, y, z, u] 0 < 16 := g.lt 0 (by simp)
    have l1 : gn [x, y, z, u] 1 < 16 := g.lt 1 (by simp)
    have l2 : gn [x, y, z, u] 2 < 16 := g.lt 2 (by simp)
    have l3 : gn [x, y, z, u] 3 < 16 := g.lt 3 (by simp)
    have i0 := g.irr 0 (by simp)
    have i1 := g.irr 1 (by simp)
    have i2 := g.irr 2 (by simp)
    have i3 := g.irr 3 (by simp)
    have s01 := g.sym 0 (by simp) 1 (by simp)
    have s02 := g.sym 0 (by simp) 2 (by simp)
    have s12 := g.sym 1 (by simp) 2 (by simp)
    have s03 := g.sym 0 (by simp) 3 (by simp)
    have s13 := g.sym 1 (by simp) 3 (by simp)
    have s23 := g.sym 2 (by simp) 3 (by simp)
    generalize gn [x, y, z, u] 0 = a at *
    generalize gn [x, y, z, u] 1 = b at *
    generalize gn [x, y, z, u] 2 = c at *
    generalize gn [x, y, z, u] 3 = d at *
    rw [e0, e1, e2, e3]
    have k1 := or_false (or_false (all_range (or_false (all_range chk4_ok l0) i0) l1) i1) (ne_false s01)
    have k2 := or_false (or_false (or_false (all_range k1 l2) i2) (ne_false s02)) (ne_false s12)
    exact or_false (or_false (or_false (or_false (all_range k2 l3) i3) (ne_false s03)) (ne_false s13)) (ne_false s23)
  | _ :: _ :: _ :: _ :: _ :: _, _, h => simp at h

end Go.Proofs.Ytepbhgapjogkjaa
