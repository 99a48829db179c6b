/-
  The walks of the laws' helpers that write into results and read them again, from whatever number on: markIntS, heldIntS; markArcs, markGraph, heldGraph, markIntervals, heldIntervals over them. For lists of at most 2^20 elements.
-/
import Derived.Test.YtfjljfjnooieoaaMark
import Derived.Test.YtfjljfjnooieoaaConvGraph
import Derived.Test.YtfjljfjnooieoaaConvArcs
namespace Go.Proofs.Ytfjljfjnooieoaa
open Go.RowKit

/-- The marks a, a + 1, .. -/
def marksF (a : Int) (n : Nat) : List Int := (List.range n).map fun i : Nat => a + (i : Int)
theorem marksF_len (a : Int) (n : Nat) : (marksF a n).length = n := by simp [marksF]
theorem marksF_at {a : Int} {n k : Nat} (h : k < n) : gi (marksF a n) k = a + (k : Int) := by simp [marksF, gi, h]
theorem Only.monoX {X Y : Nat → Prop} {B : Nat} {w w' : World} (h : Only X B w w') (hX : ∀ b, X b → Y b) : Only Y B w w' := h.mono (Nat.le_refl _) fun b _ => hX b

set_option maxHeartbeats 400000 in
theorem markFrom_any (a : Int) (g cap : Nat) (xs : List Int) (w : World) (h : RowAt w g cap xs) (h0 : 0 < xs.length) (hn : xs.length ≤ 1048576) (ha : 0 ≤ a) (ha2 : a ≤ 1073741824) :
    Calls Try.prog 32 #[.slice (some ⟨g, 0, none⟩) xs.length cap, .int .i64 a] w fun e w' => e = .returned (.int .i64 (a + xs.length)) ∧ RowAt w' g cap (marksF a xs.length) ∧ Only (fun b => b = g) w.heap.size w w' := by
  have Hh := Lib.hid h
  clear h
  go_enter Try.func32, Try.ntmps32
  go_wp2_with fail
  go_loopw [1, 5] (fun c i wr => ∃ k : Nat, k ≤ xs.length ∧ i = .int .i64 k ∧ c = .int .i64 (a + (k : Int)) ∧ Only (fun b => b = g) w.heap.size w wr ∧ ∃ ys, RowAt wr g cap ys ∧ ys.length = xs.length ∧ ∀ j, j < k → gi ys j = a + (j : Int)) (fun _ i _ => xs.length - (intOf i).toNat)
  case atStart => exact ⟨0, by omega, rfl, by go_num, Only.refl _ _ _, xs, Hh.out, rfl, fun j h => by omega⟩
  case round =>
    obtain ⟨k, hk, rfl, rfl, hO, ys, hR, hl, hP⟩ := hrel
    have HhO := Lib.hid hO
    clear hO
    have Hhl := Lib.hid hl
    clear hl
    have HhP := Lib.hid hP
    clear hP
    by_cases hlt : k < xs.length
    · have z1 := hR.cell k (by have := Hhl.out; omega)
      have z2 := hR.frozen k
      have HhR := Lib.hid hR
      clear hR
      go_wp2_with fail
      go_roundw
      case rel =>
        refine ⟨k + 1, by omega, by go_num, by go_num, HhO.out.setCell (p := ⟨g, k, none⟩) (.inl rfl) _, ys.set k (a + (k : Int)), HhR.out.store k _, by rw [List.length_set]; exact Hhl.out, fun j hj => ?_⟩
        by_cases e : j = k
        · subst e; simp [gi, Hhl.out, hlt]
        · have e' : k ≠ j := fun h => e h.symm
          rw [← HhP.out j (by omega)]; simp [gi, e']
      case measure => simp [intOf]; omega
    · obtain rfl : k = xs.length := by omega
      have HhR := Lib.hid hR
      clear hR
      go_wp2_with fail
      go_ret
      have e : ys = marksF a xs.length := by
        refine gi_ext (by rw [marksF_len]; exact Hhl.out) fun j hj => ?_
        have hj' : j < xs.length := by rw [← Hhl.out]; exact hj
        rw [HhP.out j hj', marksF_at hj']
      exact ⟨rfl, e ▸ HhR.out, HhO.out⟩

theorem markNilF_any (a : Int) (ao : Option Addr) (cap : Nat) (w : World) : Calls Try.prog 32 #[.slice ao 0 cap, .int .i64 a] w fun e w' => e = .returned (.int .i64 a) ∧ w = w' := by
  go_enter Try.func32, Try.ntmps32
  go_wp2_with fail
  go_loopw [1, 5] (fun c i wr => wr = w ∧ c = .int .i64 a ∧ i = .int .i64 0) (fun _ _ _ => 0)
  case atStart => exact ⟨rfl, rfl, rfl⟩
  case round =>
    obtain ⟨rfl, rfl, rfl⟩ := hrel
    go_wp2_with fail
    go_ret
    exact ⟨rfl, rfl⟩

/-- The block that a list lies in, where it has elements. -/
def XR (ao : Option Addr) (xs : List Int) (b : Nat) : Prop := 0 < xs.length ∧ ∃ off, ao = some ⟨b, off, none⟩
theorem OwnE.xr {w : World} {base cap b : Nat} {ao : Option Addr} {xs : List Int} (h : OwnE w base ao cap xs) (hb : XR ao xs b) : base ≤ b ∧ b < w.heap.size := by
  obtain ⟨h0, off, e⟩ := hb
  obtain ⟨g, e2, hg, hR⟩ := h.row h0
  rw [e2] at e
  simp only [Option.some.injEq, Addr.mk.injEq] at e
  obtain ⟨rfl, -⟩ := e
  exact ⟨hg, hR.lt⟩
theorem OwnE.onlyX {w w' : World} {base cap : Nat} {ao : Option Addr} {xs : List Int} {X : Nat → Prop} (h : OwnE w base ao cap xs) (k : Only X w.heap.size w w') (hX : ∀ b, X b → b < base) : OwnE w' base ao cap xs := by
  rcases h with ⟨hl, h1 | ⟨g, cp, cur, hv, hg, hb, hr⟩⟩ | h
  · exact .inl ⟨hl, .inl h1⟩
  · exact .inl ⟨hl, .inr ⟨g, cp, cur, hv, hg, by rw [k.block g (Array.getElem?_eq_some_iff.1 hb).1 (fun e => by have := hX g e; omega)]; exact hb, hr⟩⟩
  · exact .inr h

theorem IntsAt.onlyD {w w' : World} {ao : Option Addr} {xs : List Int} {X : Nat → Prop} (h : IntsAt w ao xs) (k : Only X w.heap.size w w') (hX : ∀ b, X b → ¬XR ao xs b) : IntsAt w' ao xs := fun h0 => by
  obtain ⟨b, off, e, hlt, hc⟩ := h h0
  exact ⟨b, off, e, Nat.lt_of_lt_of_le hlt k.size, fun j hj => by rw [k.cell (p := ⟨b, off + j, none⟩) hlt (fun hx => hX b hx ⟨h0, off, e⟩)]; exact hc j hj⟩
theorem OwnE.onlyD {w w' : World} {base cap : Nat} {ao : Option Addr} {xs : List Int} {X : Nat → Prop} (h : OwnE w base ao cap xs) (k : Only X w.heap.size w w') (hX : ∀ b, X b → ¬XR ao xs b) (h0 : 0 < xs.length) : OwnE w' base ao cap xs := by
  obtain ⟨g, rfl, hg, cur, hb, hr⟩ := h.row h0
  exact RowAt.own ⟨cur, k.blk hb hb.lt (fun hx => hX g hx ⟨h0, 0, rfl⟩), hr⟩ hg

/-- markIntS over a list of the call's own, from whatever number on. -/
theorem markEF_any (a : Int) (base cap : Nat) (ao : Option Addr) (xs : List Int) (w : World) (h : OwnE w base ao cap xs) (hn : xs.length ≤ 1048576) (ha : 0 ≤ a) (ha2 : a ≤ 1073741824) :
    Calls Try.prog 32 #[.slice ao xs.length cap, .int .i64 a] w fun e w' => e = .returned (.int .i64 (a + xs.length)) ∧ IntsAt w' ao (marksF a xs.length) ∧ Only (XR ao xs) w.heap.size w w' := by
  by_cases h0 : 0 < xs.length
  · obtain ⟨g, rfl, hg, hR⟩ := h.row h0
    refine (markFrom_any a g cap xs w hR h0 hn ha ha2).mono fun e w' ⟨h1, h2, h3⟩ => ⟨h1, (h2.own hg).ints, h3.monoX fun b e => ?_⟩
    subst e; exact ⟨h0, 0, rfl⟩
  · obtain rfl : xs = [] := List.eq_nil_of_length_eq_zero (by omega)
    refine (markNilF_any a ao cap w).mono fun e w' ⟨h1, h2⟩ => ⟨by rw [h1]; simp, fun h => absurd h (by simp [marksF]), by rw [← h2]; exact Only.refl _ _ _⟩

set_option maxHeartbeats 400000 in
theorem heldF_any (a : Int) (cap n : Nat) (ao : Option Addr) (w : World) (h : IntsAt w ao (marksF a n)) (hn : n ≤ 1048576) (ha : 0 ≤ a) (ha2 : a ≤ 1073741824) :
    Calls Try.prog 33 #[.slice ao n cap, .int .i64 a] w fun e w' => e = .returned (.int .i64 (a + n)) ∧ w = w' := by
  have hl := marksF_len a n
  have Hhl := Lib.hid hl
  clear hl
  go_enter Try.func33, Try.ntmps33
  go_wp2_with fail
  go_loopw [1, 5] (fun c i wr => wr = w ∧ ∃ k : Nat, k ≤ n ∧ i = .int .i64 k ∧ c = .int .i64 (a + (k : Int))) (fun _ i _ => n - (intOf i).toNat)
  case atStart => exact ⟨rfl, 0, by omega, rfl, by go_num⟩
  case round =>
    obtain ⟨rfl, k, hk, rfl, rfl⟩ := hrel
    by_cases hlt : k < n
    · obtain ⟨b, off, rfl, hb, hc⟩ := h (by rw [Hhl.out]; omega)
      have z := hc k (by rw [Hhl.out]; omega)
      rw [marksF_at hlt] at z
      clear hc
      go_wp2_with fail
      go_roundw
      case rel => exact ⟨by trivial, k + 1, by omega, by go_num, by go_num⟩
      case measure => simp [intOf]; omega
    · obtain rfl : k = n := by omega
      go_wp2_with fail
      go_ret
      exact ⟨rfl, rfl⟩

set_option maxHeartbeats 400000 in
theorem markGraphE_any (x : Int) (base cap : Nat) (ao : Option Addr) (xs : List Int) (w : World) (h : OwnE w base ao cap xs) (hn : xs.length ≤ 1048576) :
    Calls Try.prog 21 #[.agg #[.int .i64 x, .slice ao xs.length cap], .int .i64 1] w fun e w' => e = .returned (.int .i64 (1 + xs.length)) ∧ IntsAt w' ao (marksF 1 xs.length) ∧ Only (XR ao xs) w.heap.size w w' := by
  go_enter Try.func21, Try.ntmps21
  go_wp2_with fail
  generalize hW : w.alloc _ = W1
  obtain ⟨hB, -, k0⟩ := alloc1 hW
  replace h := h.below hB
  clear hW k0
  refine (markEF_any 1 base cap ao xs W1 h hn (by omega) (by omega)).mono ?_
  rintro e w3 ⟨rfl, hI, hO⟩
  have hO3 : Only (XR ao xs) w.heap.size w w3 := (Only.of hB).trans (hO.mono hB.size fun b _ h => h)
  have HhO3 := Lib.hid hO3
  clear hO3
  have HhI := Lib.hid hI
  clear hI
  clear hO h
  go_wp2_with fail
  go_ret
  exact ⟨rfl, HhI.out, HhO3.out⟩

set_option maxHeartbeats 400000 in
theorem heldGraphE_any (x : Int) (cap n : Nat) (ao : Option Addr) (w : World) (h : IntsAt w ao (marksF 1 n)) (hn : n ≤ 1048576) :
    Calls Try.prog 22 #[.agg #[.int .i64 x, .slice ao n cap], .int .i64 1] w fun e w' => e = .returned (.int .i64 (1 + n)) ∧ Below w.heap.size w w' := by
  go_enter Try.func22, Try.ntmps22
  go_wp2_with fail
  generalize hW : w.alloc _ = W1
  obtain ⟨hB, -, k0⟩ := alloc1 hW
  replace h := h.below hB
  clear hW k0
  refine (heldF_any 1 cap n ao W1 h hn (by omega) (by omega)).mono ?_
  rintro e w3 ⟨rfl, rfl⟩
  have HhB := Lib.hid hB
  clear hB
  go_wp2_with fail
  go_ret
  exact ⟨rfl, HhB.out⟩

set_option maxHeartbeats 400000 in
theorem markIvlE_any (base cap cap2 : Nat) (ao bo : Option Addr) (xs ys : List Int) (w : World) (h : OwnE w base ao cap xs) (h2 : OwnE w base bo cap2 ys) (hd : ∀ b, XR ao xs b → ¬XR bo ys b) (hn : xs.length ≤ 1048576) (hm : ys.length ≤ 1048576) :
    Calls Try.prog 12 #[.agg #[.slice ao xs.length cap, .slice bo ys.length cap2], .int .i64 1] w fun e w' => e = .returned (.int .i64 (1 + xs.length + ys.length)) ∧ IntsAt w' ao (marksF 1 xs.length) ∧ IntsAt w' bo (marksF (1 + xs.length) ys.length) ∧ Only (fun b => XR ao xs b ∨ XR bo ys b) w.heap.size w w' := by
  go_enter Try.func12, Try.ntmps12
  go_wp2_with fail
  generalize hW : w.alloc _ = W1
  obtain ⟨hB, -, k0⟩ := alloc1 hW
  have hxr := fun b (e : XR ao xs b) => (h.xr e).2
  replace h := h.below hB
  replace h2 := h2.below hB
  have b0 := k0.lt
  have c1 := k0.cell 1
  simp at c1
  clear hW k0
  refine (markEF_any 1 base cap ao xs W1 h hn (by omega) (by omega)).mono ?_
  rintro e w3 ⟨rfl, hI, hO⟩
  have c3 := (hO.cell (p := ⟨w.heap.size, 1, none⟩) b0 (fun e => by have := hxr _ e; simp at this)).trans c1
  have b3 := Nat.lt_of_lt_of_le b0 hO.size
  have hO3 : Only (fun b => XR ao xs b ∨ XR bo ys b) w.heap.size w w3 := (Only.of hB).trans (hO.mono hB.size fun b _ h => .inl h)
  have hxl := marksF_len 1 xs.length
  by_cases h0 : 0 < ys.length
  · have h3 := h2.onlyD hO hd h0
    clear c1 b0 hO h h2
    have HhO3 := Lib.hid hO3
    clear hO3
    have HhI := Lib.hid hI
    clear hI
    have Hhxl := Lib.hid hxl
    clear hxl
    have HhB := Lib.hid hB
    clear hB
    go_wp2_with fail
    refine (markEF_any (1 + xs.length) base cap2 bo ys w3 h3 hm (by omega) (by omega)).mono ?_
    rintro e w4 ⟨rfl, hI2, hO⟩
    have hI1 := HhI.out.onlyD hO (fun b h1 ⟨q0, q⟩ => hd b ⟨by rw [Hhxl.out] at q0; exact q0, q⟩ h1)
    have hO4 : Only (fun b => XR ao xs b ∨ XR bo ys b) w.heap.size w w4 := HhO3.out.trans (hO.mono HhO3.out.size fun b _ h => .inr h)
    have HhO4 := Lib.hid hO4
    clear hO4
    have HhI1 := Lib.hid hI1
    clear hI1
    have HhI2 := Lib.hid hI2
    clear hI2
    clear hO h3 c3
    go_wp2_with fail
    go_ret
    exact ⟨rfl, HhI1.out, HhI2.out, HhO4.out⟩
  · obtain rfl : ys = [] := List.eq_nil_of_length_eq_zero (by omega)
    clear c1 b0 hO h h2
    have HhO3 := Lib.hid hO3
    clear hO3
    have HhI := Lib.hid hI
    clear hI
    have Hhxl := Lib.hid hxl
    clear hxl
    have HhB := Lib.hid hB
    clear hB
    go_wp2_with fail
    refine (markNilF_any (1 + xs.length) bo cap2 w3).mono ?_
    rintro e w4 ⟨rfl, rfl⟩
    go_wp2_with fail
    go_ret
    exact ⟨by simp, HhI.out, fun h => absurd h (by simp [marksF]), HhO3.out⟩

set_option maxHeartbeats 400000 in
theorem heldIvlE_any (cap cap2 n n2 : Nat) (ao bo : Option Addr) (w : World) (h : IntsAt w ao (marksF 1 n)) (h2 : IntsAt w bo (marksF (1 + n) n2)) (hn : n ≤ 1048576) (hm : n2 ≤ 1048576) :
    Calls Try.prog 13 #[.agg #[.slice ao n cap, .slice bo n2 cap2], .int .i64 1] w fun e w' => e = .returned (.int .i64 (1 + n + n2)) ∧ Below w.heap.size w w' := by
  go_enter Try.func13, Try.ntmps13
  go_wp2_with fail
  generalize hW : w.alloc _ = W1
  obtain ⟨hB, -, k0⟩ := alloc1 hW
  replace h := h.below hB
  replace h2 := h2.below hB
  have b0 := k0.lt
  have c0 := k0.cell 0
  have c1 := k0.cell 1
  simp at c0 c1
  clear hW k0
  have HhB := Lib.hid hB
  clear hB
  refine (heldF_any 1 cap n ao W1 h hn (by omega) (by omega)).mono ?_
  rintro e w3 ⟨rfl, rfl⟩
  go_wp2_with fail
  refine (heldF_any (1 + n) cap2 n2 bo W1 h2 hm (by omega) (by omega)).mono ?_
  rintro e w3 ⟨rfl, rfl⟩
  go_wp2_with fail
  go_ret
  exact ⟨rfl, HhB.out⟩

set_option maxHeartbeats 400000 in
theorem markArcs_any (x : Int) (f l : List Int) (b1 b2 : Nat) (w : World) (h1 : OwnInts w b1 f) (h2 : OwnInts w b2 l) (hne : b1 ≠ b2) (hn : f.length ≤ 1048576) (hm : l.length ≤ 1048576) :
    Calls Try.prog 11 #[.agg #[.int .i64 x, .slice (some ⟨b1, 0, none⟩) f.length f.length, .slice (some ⟨b2, 0, none⟩) l.length l.length], .int .i64 1] w fun e w' => e = .returned (.int .i64 (1 + f.length + l.length)) ∧ Only (fun b => b = b1 ∨ b = b2) w.heap.size w w' := by
  have hlt1 := h1.lt
  have hlt2 := h2.lt
  go_enter Try.func11, Try.ntmps11
  go_wp2_with fail
  generalize hW : w.alloc _ = W1
  obtain ⟨hB, -, k0⟩ := alloc1 hW
  replace h1 := h1.below hB hlt1
  replace h2 := h2.below hB hlt2
  have b0 := k0.lt
  have c2 := k0.cell 2
  simp at c2
  clear hW k0
  have e1 : OwnE W1 0 (some ⟨b1, 0, none⟩) f.length f := (RowAt.of h1 hn).own (Nat.zero_le _)
  refine (markEF_any 1 0 f.length (some ⟨b1, 0, none⟩) f W1 e1 hn (by omega) (by omega)).mono ?_
  rintro e w3 ⟨rfl, -, hO⟩
  replace hO : Only (fun b => b = b1) W1.heap.size W1 w3 := hO.monoX fun b ⟨_, off, e⟩ => by simp at e; exact e.1.symm
  have h3 : OwnInts w3 b2 l := hO.blk h2 h2.lt (fun e => hne e.symm)
  have c3 := (hO.cell (p := ⟨w.heap.size, 2, none⟩) b0 (fun e => by have e2 : w.heap.size = b1 := e; omega)).trans c2
  have b3 := Nat.lt_of_lt_of_le b0 hO.size
  have hO3 : Only (fun b => b = b1 ∨ b = b2) w.heap.size w w3 := (Only.of hB).trans (hO.mono hB.size fun b _ h => .inl h)
  clear c2 b0 hO h1 h2 e1
  have HhO3 := Lib.hid hO3
  clear hO3
  have HhB := Lib.hid hB
  clear hB
  go_wp2_with fail
  have e3 : OwnE w3 0 (some ⟨b2, 0, none⟩) l.length l := (RowAt.of h3 hm).own (Nat.zero_le _)
  refine (markEF_any (1 + f.length) 0 l.length (some ⟨b2, 0, none⟩) l w3 e3 hm (by omega) (by omega)).mono ?_
  rintro e w4 ⟨rfl, -, hO⟩
  have hO4 : Only (fun b => b = b1 ∨ b = b2) w.heap.size w w4 := HhO3.out.trans ((hO.monoX fun b ⟨_, off, e⟩ => by simp at e; exact .inr e.1.symm).mono HhO3.out.size fun b _ h => h)
  have HhO4 := Lib.hid hO4
  clear hO4
  clear hO e3 c3
  go_wp2_with fail
  go_ret
  exact ⟨rfl, HhO4.out⟩

end Go.Proofs.Ytfjljfjnooieoaa
