/-
  The drawing of graphs that often have a hole: l4Holey, and the functions that draw for colours. For texts of at most 2^20 bytes.
  The drawing of a list: l4List. For texts of at most 2^20 bytes.
  The walk of IsSimple of the reference, and what both sides say. For at most 2^20 rows.
  SimpleOrder of the reference. For at most 2^20 rows.
  What searches hand back: the list fits its room. No conditions.
  l6Simplicial, EliminationOf and IsChordal of the reference. For at most 2^20 rows.
-/
import Derived.Test.YtfkehmpckhmkbaaPkLawWidths19
import Derived.Test.YtfkehmpckhmkbaaPkLawWidths05
import Derived.StillTailTactics
import Derived.Test.YtfkehmpckhmkbaaPkLawWidths06
import Derived.Test.YtfkehmpckhmkbaaPkLawWidths13
import Derived.Deep.RegionHeld3
import Derived.Test.YtfkehmpckhmkbaaPkLawWidths09
namespace Go.Proofs.Ytfkehmpckhmkbaa
open Go.RowKit







end Go.Proofs.Ytfkehmpckhmkbaa

namespace Go.Proofs.Ytfkehmpckhmkbaa
open Go.RowKit

/-- A list of numbers has been drawn. -/
def RetLi (cb : Nat) (bo : Option Addr) (n c : Nat) (w : World) (e : Ending) (w' : World) : Prop :=
  ∃ (l : List Int) (ao : Option Addr) (cap : Nat), l.length ≤ 8 ∧ e = .returned (.slice ao l.length cap) ∧ OwnE w' w.heap.size ao cap l ∧ DrewC cb bo n c w w'

set_option maxRecDepth 100000 in
set_option maxHeartbeats 4000000 in
theorem l4List_any (cb n c : Nat) (bo : Option Addr) (x : Int) (v : Value) (w : World) (h : CurAt w cb bo n c) :
    Calls Try.prog 79 #[.pointer (some ⟨cb, 0, none⟩), .agg #[.int .i64 x, v]] w (RetLi cb bo n c w) := by
  have hcw := h.lt
  go_enter Try.func79, Try.ntmps79
  go_wp2_with fail
  generalize hW : World.alloc _ _ = W1
  obtain ⟨hB, hs, k0, -⟩ := alloc2 hW
  have hD := DrewC.refl (h.below hB)
  have hs1 : w.heap.size + 2 = W1.heap.size := by omega
  clear hW hs
  generalize (⟨w.heap.size + 1, 0, none⟩ : Addr) = na
  have hO : OwnE W1 W1.heap.size (some na) 0 [] := OwnE.empty _ _ _
  have HhB := Lib.hid hB
  clear hB
  have Hk0 := Lib.hid k0
  clear k0
  have HhO := Lib.hid hO
  clear hO
  refine (l1Below_any 6 cb n c bo W1 hD.cur (by omega) (by omega)).mono ?_
  rintro e w1 ⟨u, hu, rfl, hD1⟩
  have hO := HhO.out.onlyOne hD1.only (by omega)
  replace hD := hD.trans hD1
  clear hD1 HhO
  have HhD := Lib.hid hD
  clear hD
  have HhO := Lib.hid hO
  clear hO
  go_wp2_with fail
  go_loopw [5, 6] (fun l i wr => ∃ (xs : List Int) (ao : Option Addr) (cap u : Nat), u + xs.length ≤ 5 ∧ l = .slice ao xs.length cap ∧ i = .int .i64 u ∧ DrewC cb bo n c W1 wr ∧ OwnE wr W1.heap.size ao cap xs) (fun _ i _ => (intOf i).toNat)
  case atStart => exact ⟨[], _, _, u, by simp; omega, rfl, rfl, HhD.out, HhO.out⟩
  case round =>
    clear HhD HhO hu
    obtain ⟨xs, ao, cap, k, hu, rfl, rfl, hD, hO⟩ := hrel
    have k1 := hD.blk Hk0.out (by omega)
    have x0 := k1.cell 0
    have x4 := k1.lt
    simp at x0
    have hcl := hD.cur.lt
    have hsz := hD.only.size
    by_cases h0 : 0 < k
    · have d0 : decide (0 < (k : Int)) = true := decide_eq_true (by omega)
      have hxs : xs.length ≤ 1048576 := by omega
      have hq : (k : Int) - 1 = ((k - 1 : Nat) : Int) := by omega
      have hW : ∀ y : Int, 1 ≤ y → y ≤ 256 → Calls Try.prog 60 #[.pointer (some ⟨cb, 0, none⟩), .int .i64 y] wr fun e w2 => ∃ u : Nat, e = .returned (.int .i64 (u : Int)) ∧ DrewC cb bo n c W1 w2 ∧ OwnE w2 W1.heap.size ao cap xs := fun y h1 h2 =>
        (l1BelowI_any y cb n c bo wr hD.cur h1 h2).mono fun e w2 ⟨u, hu, he, hD1⟩ => ⟨u, he, hD.trans hD1, hO.onlyOne hD1.only (by omega)⟩
      clear hD hO k1
      by_cases hx7 : x < 7 <;> by_cases hx1 : 1 < x <;> try (exfalso; omega)
      all_goals
        go_wp2_with fail
        refine (hW _ (by omega) (by omega)).mono ?_
        rintro e w2 ⟨z, rfl, hD2, hO2⟩
        have hs2 := hD2.only.size
        have HD2 := Lib.hid hD2
        have HO2 := Lib.hid hO2
        clear hD2 hO2 hW
        go_wp2_with (at_builtin; go_must (refine wpList_append_e rfl _ _ rfl W1.heap.size cap ao xs (z : Int) rfl HO2.out rfl hs2 hxs ?_); intro ao' cap' w3 hown3 hB3)
        go_roundw
        case rel => exact ⟨xs ++ [(z : Int)], ao', cap', k - 1, by simp; omega, by simp, rfl, HD2.out.grow hB3 (Nat.le_refl _) (by omega), hown3⟩
        case measure => simp [intOf]; omega
    · have d0 : decide (0 < (k : Int)) = false := decide_eq_false (by omega)
      have hxs : xs.length ≤ 1048576 := by omega
      have hxs5 : xs.length ≤ 5 := by omega
      have HhD := Lib.hid hD
      clear hD
      have HhO := Lib.hid hO
      clear hO
      have Hk1 := Lib.hid k1
      clear k1
      go_wp2_with fail
      refine (l1Once_any 14 cb n c bo wr HhD.out.cur (by omega) (by omega)).mono ?_
      rintro e w2 ⟨bb, rfl, hD2⟩
      have hO2 := HhO.out.onlyOne hD2.only (by omega)
      replace hD2 := HhD.out.trans hD2
      clear HhD HhO Hk1 x0 x4
      cases bb
      · have HhD2 := Lib.hid hD2
        clear hD2
        have HhO2 := Lib.hid hO2
        clear hO2
        go_wp2_with fail
        go_ret
        exact ⟨xs, ao, cap, by omega, rfl, HhO2.out.mono' (by omega), HhD2.out.front HhB.out⟩
      · have hs2 := hD2.only.size
        have hcl2 := hD2.cur.lt
        have HD2 := Lib.hid hD2
        have HO2 := Lib.hid hO2
        clear hD2 hO2
        go_wp2_with fail
        generalize hW3 : World.alloc _ _ = W3
        obtain ⟨hB3, hs3, k3⟩ := alloc1 hW3
        have hcell : ∀ j, j < [(-1 : Int), 7].length → W3.cell? ⟨w2.heap.size, j, none⟩ = some (.int .i64 (gi [-1, 7] j)) := fun j hj => by
          rw [k3.cell]
          match j, hj with
          | 0, _ => rfl
          | 1, _ => rfl
        have hD3 := HD2.out.below hB3
        have hO3 := HO2.out.below hB3
        have hP := l1PickInt_any [-1, 7] w2.heap.size 2 cb n c bo W3 hD3.cur (by decide) (by decide) (by omega) k3.lt hcell
        clear hW3 k3 hcell hB3 HD2 HO2
        refine hP.mono ?_
        rintro e w4 ⟨j, hj, rfl, hD4⟩
        have hO4 := hO3.onlyOne hD4.only (by omega)
        have hD5 := hD3.trans hD4
        have hs4 := hD5.only.size
        have HD5 := Lib.hid hD5
        have HO4 := Lib.hid hO4
        clear hP hD3 hO3 hD4 hO4 hD5
        generalize gi [-1, 7] j = z
        go_wp2_with (at_builtin; go_must (refine wpList_append_e rfl _ _ rfl W1.heap.size cap ao xs z rfl HO4.out rfl hs4 hxs ?_); intro ao' cap' w5 hown5 hB5)
        go_ret
        exact ⟨xs ++ [z], ao', cap', by simp; omega, by simp, hown5.mono' (by omega), (HD5.out.grow hB5 (Nat.le_refl _) (by omega)).front HhB.out⟩

theorem list_of {P : Nat → Int → Prop} : ∀ n, (∀ k, k < n → ∃ z, P k z) → ∃ l : List Int, l.length = n ∧ ∀ k, k < n → P k (gi l k)
  | 0, _ => ⟨[], rfl, fun k h => by omega⟩
  | n + 1, h => by
    obtain ⟨l, h1, h2⟩ := list_of n fun k hk => h k (by omega)
    obtain ⟨z, hz⟩ := h n (by omega)
    refine ⟨l ++ [z], by simp [h1], fun k hk => ?_⟩
    by_cases e : k < n
    · rw [show gi (l ++ [z]) k = gi l k by simp [gi, List.getElem?_append, h1, e]]; exact h2 k e
    · obtain rfl : k = n := by omega
      rw [show gi (l ++ [z]) k = z by simp [gi, ← h1]]; exact hz
/-- A list of numbers stays one when the cursor moves and a graph is stored. -/
theorem IntsAt.moved {w w' : World} {cb r n c n1 c1 n2 c2 : Nat} {lo a a1 a2 : Option Addr} {l : List Int} {i j i' j' u u' : Int} {T T1 : TypeId} (h : IntsAt w lo l) (hO : Only (fun b => b = cb ∨ b = r) w.heap.size w w')
    (kc : Blk w cb #[.slice a n c, .int .i64 i, .int .i64 j] T) (kc' : Blk w' cb #[.slice a n c, .int .i64 i', .int .i64 j'] T) (kr : Blk w r #[.int .i64 u, .slice a1 n1 c1] T1) (kr' : Blk w' r #[.int .i64 u', .slice a2 n2 c2] T1) : ∃ l' : List Int, l'.length = l.length ∧ IntsAt w' lo l' := by
  by_cases h0 : 0 < l.length
  · obtain ⟨b, off, rfl, hb, hc⟩ := h h0
    have hv : ∀ k, k < l.length → ∃ z : Int, w'.cell? ⟨b, off + k, none⟩ = some (.int .i64 z) := fun k hk => by
      have h1 := hc k hk
      by_cases e1 : b = cb
      · subst e1
        rw [kc.cell] at h1
        rw [kc'.cell]
        generalize off + k = m at *
        match m, h1 with
        | 0, h1 => simp at h1
        | 1, h1 => exact ⟨_, rfl⟩
        | 2, h1 => exact ⟨_, rfl⟩
        | m + 3, h1 => simp at h1
      · by_cases e2 : b = r
        · subst e2
          rw [kr.cell] at h1
          rw [kr'.cell]
          generalize off + k = m at *
          match m, h1 with
          | 0, h1 => exact ⟨_, rfl⟩
          | 1, h1 => simp at h1
          | m + 2, h1 => simp at h1
        · exact ⟨_, (hO.cell (p := ⟨b, off + k, none⟩) hb (fun e => e.elim e1 e2)).trans h1⟩
    obtain ⟨l', h1, h2⟩ := list_of l.length hv
    exact ⟨l', h1, fun _ => ⟨b, off, rfl, Nat.lt_of_lt_of_le hb hO.size, fun k hk => h2 k (by omega)⟩⟩
  · exact ⟨l, rfl, fun h => absurd h h0⟩

/-- A graph and a list have been drawn. -/
def RetGLC (w : World) (e : Ending) (w' : World) : Prop :=
  ∃ (x : Int) (f l : List Int) (g cap : Nat) (lo : Option Addr) (lc : Nat), (1 ≤ f.length ∧ f.length ≤ 6) ∧ l.length ≤ 1048576 ∧ l.length ≤ lc ∧ e = .returned (.tuple #[.agg #[.int .i64 x, .slice (some ⟨g, 0, none⟩) f.length cap], .slice lo l.length lc]) ∧ RowAt w' g cap f ∧ IntsAt w' lo l ∧ Below w.heap.size w w'

end Go.Proofs.Ytfkehmpckhmkbaa

namespace Go.Proofs.Ytfkehmpckhmkbaa
open Go.RowKit

theorem wpList_later_drew {W : World} {P : Program} {ops : Array Oper} {Q : Exit → Act → World → Prop} {rest : List Oper} {a : Act} (m : Later W) (h : ∀ m' : Later W, wpList P ops Q rest a m'.w) : wpList P ops Q rest a m.w.drew :=
  h ⟨m.w.drew, m.below.drew⟩

/-- The closed hood of u in a set. -/
def hood (rs : List Int) (S u : Nat) : Nat := (gn rs u ||| 2 ^ u) &&& S
def nestB (a b : Nat) : Bool := decide (a &&& b = a ∨ a &&& b = b)
def nestAt (rs : List Int) (S : Nat) (L : List Nat) (i j : Nat) : Bool := nestB (hood rs S (eln L i)) (hood rs S (eln L j))
def simpleN (rs : List Int) (S v : Nat) : Bool := decide (∀ i, i < cnt (hood rs S v) → ∀ j, j < i → nestAt rs S (els (hood rs S v)) i j = true)
def simpleB (n : Int) (rs : List Int) (v s : Int) : Bool := isSetB n rs s && ((decide (0 ≤ v) && decide (v ≤ n - 1)) && (hasN s v.toNat && simpleN rs s.toNat v.toNat))
theorem simpleB_no {n : Int} {rs : List Int} {v s : Int} (h : isSetB n rs s = false) : simpleB n rs v s = false := by unfold simpleB; rw [h]; rfl
theorem simpleB_out {n : Int} {rs : List Int} {v s : Int} (h : (decide (0 ≤ v) && decide (v ≤ n - 1)) = false) : simpleB n rs v s = false := by unfold simpleB; rw [h]; simp
theorem simpleB_not {n : Int} {rs : List Int} {S v : Nat} (h : hasN (S : Int) v = false) : simpleB n rs v S = false := by unfold simpleB; rw [Int.toNat_natCast, Int.toNat_natCast, h]; simp
theorem simpleB_yes {n : Int} {rs : List Int} {S v : Nat} (h : isSetB n rs S = true) (h1 : (decide (0 ≤ (v : Int)) && decide ((v : Int) ≤ n - 1)) = true) (h2 : hasN (S : Int) v = true) : simpleB n rs v S = simpleN rs S v := by
  unfold simpleB; rw [Int.toNat_natCast, Int.toNat_natCast, h, h1, h2]; rfl
theorem simpleN_bad {rs : List Int} {S v i j : Nat} (hi : i < cnt (hood rs S v)) (hj : j < i) (h : nestAt rs S (els (hood rs S v)) i j = false) : simpleN rs S v = false := by
  unfold simpleN; rw [decide_eq_false_iff_not]; intro a; rw [a i hi j hj] at h; cases h
theorem simpleN_ok {rs : List Int} {S v : Nat} (h : ∀ i, i < cnt (hood rs S v) → ∀ j, j < i → nestAt rs S (els (hood rs S v)) i j = true) : simpleN rs S v = true := by unfold simpleN; rw [decide_eq_true h]

theorem hood_lt {rs : List Int} {S : Nat} (hS : S < 2 ^ rs.length) (u : Nat) : hood rs S u < 2 ^ rs.length := Nat.lt_of_le_of_lt Nat.and_le_right hS
/-- What the walks want of vertex u. -/
theorem hood_facts {rs : List Int} (g : VG rs) {S u : Nat} (hS : S < 2 ^ rs.length) (hu : u < rs.length) :
    pwN u = ((2 ^ u : Nat) : Int) ∧ bits .or .i64 (gn rs u : Int) ((2 ^ u : Nat) : Int) = ((gn rs u ||| 2 ^ u : Nat) : Int) ∧ bits .and .i64 ((gn rs u ||| 2 ^ u : Nat) : Int) (S : Int) = ((hood rs S u : Nat) : Int) := by
  have h1 := g.lt u hu
  have h2 := g.pow.1
  have h3 : 2 ^ u < 2 ^ rs.length := Nat.pow_lt_pow_right (by decide) hu
  have h4 : gn rs u ||| 2 ^ u < 2 ^ rs.length := Nat.or_lt_two_pow h1 h3
  have h6 := g.le
  exact ⟨pwN_small _ (by omega), bits_or_nat _ _ (by omega) (by omega), bits_and_nat _ _ (by omega) (by omega)⟩


end Go.Proofs.Ytfkehmpckhmkbaa

namespace Go.Proofs.Ytfkehmpckhmkbaa
open Go.RowKit

/-- The least simple vertex of what is left. -/
def leastB (rs : List Int) (S : Nat) : Option Nat := firstB (fun v => simpleB rs.length rs v S) rs.length
/-- The simple vertices, taken away one by one. -/
def ordF (rs : List Int) : Nat → Nat → List Int → Option (List Int)
  | 0, _, out => some out
  | f + 1, S, out => if S = 0 then some out else match leastB rs S with | none => none | some v => ordF rs f (S - 2 ^ v) (out ++ [(v : Int)])
def ordV (n : Int) (rs : List Int) : Option (List Int) := if isGraphB n rs = true then ordF rs (2 ^ rs.length - 1) (2 ^ rs.length - 1) [] else none
theorem ordV_no {n : Int} {rs : List Int} (h : isGraphB n rs = false) : ordV n rs = none := by unfold ordV; rw [h]; rfl
theorem ordV_of {n : Int} {rs : List Int} (h : isGraphB n rs = true) : ordV n rs = ordF rs (2 ^ rs.length - 1) (2 ^ rs.length - 1) [] := by unfold ordV; rw [if_pos h]
theorem ordF_zero {rs : List Int} (f : Nat) (out : List Int) : ordF rs f 0 out = some out := by cases f <;> rfl
theorem ordF_none {rs : List Int} {f S : Nat} {out : List Int} (hS : S ≤ f) (h0 : 0 < S) (h : leastB rs S = none) : ordF rs f S out = none := by
  obtain ⟨f, rfl⟩ : ∃ f', f = f' + 1 := ⟨f - 1, by omega⟩
  show (if S = 0 then some out else _) = none
  rw [if_neg (by omega), h]
theorem ordF_some {rs : List Int} {f S v : Nat} {out : List Int} (hS : S ≤ f) (h0 : 0 < S) (h : leastB rs S = some v) : ordF rs f S out = ordF rs (f - 1) (S - 2 ^ v) (out ++ [(v : Int)]) := by
  obtain ⟨f, rfl⟩ : ∃ f', f = f' + 1 := ⟨f - 1, by omega⟩
  show (if S = 0 then some out else _) = _
  rw [if_neg (by omega), h]; rfl
theorem ordF_len {rs : List Int} : ∀ (f S : Nat) (out : List Int), ((ordF rs f S out).getD []).length ≤ out.length + f := by
  intro f
  induction f with
  | zero => intro S out; simp [ordF]
  | succ f ih =>
    intro S out
    show ((if S = 0 then some out else (match leastB rs S with | none => none | some v => ordF rs f (S - 2 ^ v) (out ++ [(v : Int)]))).getD []).length ≤ _
    split
    · simp
    · split
      · simp
      · rename_i v _
        have := ih (S - 2 ^ v) (out ++ [(v : Int)])
        simp at this; omega
theorem ordV_len (n : Int) (rs : List Int) : ((ordV n rs).getD []).length ≤ 1048576 := by
  unfold ordV; split
  · rename_i h
    have := ordF_len (rs := rs) (2 ^ rs.length - 1) (2 ^ rs.length - 1) []
    have := (VG.of h).2.pow.1
    simp at *; omega
  · simp
/-- A simple vertex is left. -/
theorem simple_left {rs : List Int} {S v : Nat} (h : simpleB rs.length rs v S = true) : S.testBit v = true ∧ 2 ^ v ≤ S := by
  unfold simpleB at h
  rw [Int.toNat_natCast, Int.toNat_natCast, hasN_nat] at h
  simp only [Bool.and_eq_true] at h
  exact ⟨h.2.2.1, Nat.ge_two_pow_of_testBit h.2.2.1⟩
theorem leastB_left {rs : List Int} {S v : Nat} (h : leastB rs S = some v) : v < rs.length ∧ S.testBit v = true ∧ 2 ^ v ≤ S ∧ 0 < 2 ^ v := by
  unfold leastB firstB at h
  have h1 := List.find?_some h
  have h2 := List.mem_of_find?_eq_some h
  exact ⟨by simpa using h2, (simple_left h1).1, (simple_left h1).2, Nat.two_pow_pos _⟩
/-- The least so far, from the top down to j. -/
def DownTo (p : Nat → Bool) (n j : Nat) (b : Int) : Prop := (b = -1 ∧ ∀ v, j ≤ v → v < n → p v = false) ∨ ∃ k : Nat, b = k ∧ j ≤ k ∧ k < n ∧ p k = true ∧ ∀ v, j ≤ v → v < k → p v = false
theorem DownTo.no {p : Nat → Bool} {n j : Nat} {b : Int} (h : DownTo p n (j + 1) b) (hp : p j = false) : DownTo p n j b := by
  have e : ∀ v, j ≤ v → v = j ∨ j + 1 ≤ v := fun v h => by omega
  rcases h with ⟨h1, h2⟩ | ⟨k, h1, h2, h3, h4, h5⟩
  · exact .inl ⟨h1, fun v a b => (e v a).elim (fun q => q ▸ hp) fun q => h2 v q b⟩
  · exact .inr ⟨k, h1, by omega, h3, h4, fun v a b => (e v a).elim (fun q => q ▸ hp) fun q => h5 v q b⟩
theorem DownTo.yes {p : Nat → Bool} {n j : Nat} (hj : j < n) (hp : p j = true) : DownTo p n j j := .inr ⟨j, rfl, Nat.le_refl _, hj, hp, fun v a b => by omega⟩
theorem DownTo.start (p : Nat → Bool) (n : Nat) : DownTo p n n (-1) := .inl ⟨rfl, fun v a b => by omega⟩
theorem DownTo.least {rs : List Int} {S : Nat} {b : Int} (h : DownTo (fun v => simpleB rs.length rs v S) rs.length 0 b) : (b = -1 ∧ leastB rs S = none) ∨ ∃ k : Nat, b = k ∧ leastB rs S = some k := by
  rcases h with ⟨h1, h2⟩ | ⟨k, h1, h2, h3, h4, h5⟩
  · exact .inl ⟨h1, firstB_none fun j hj => h2 j (by omega) hj⟩
  · exact .inr ⟨k, h1, firstB_hit h3 (fun j hj => h5 j (by omega) hj) h4⟩
theorem DownTo.lo {p : Nat → Bool} {n j : Nat} {b : Int} (h : DownTo p n j b) : -1 ≤ b ∧ b < n + 1 := by
  rcases h with ⟨h1, -⟩ | ⟨k, h1, -, h3, -⟩ <;> omega


end Go.Proofs.Ytfkehmpckhmkbaa

namespace Go.Proofs.Ytfkehmpckhmkbaa
open Go.RowKit

theorem OwnE.cap_le {w : World} {base cap : Nat} {ao : Option Addr} {xs : List Int} (h : OwnE w base ao cap xs) : xs.length ≤ cap := by
  by_cases h0 : 0 < xs.length
  · obtain ⟨g, -, -, cur, -, hn, -⟩ := h.row h0
    exact hn
  · omega
/-- As RetD, RetI; and the list fits its room. -/
def RetDC (w : World) (f : Nat) (s : Option (List Int)) (e : Ending) (w' : World) : Prop := ∃ ao cap xs, e = .returned (.tuple #[.slice ao xs.length cap, .bool s.isSome]) ∧ Below w.heap.size w w' ∧ IntsAt w' ao xs ∧ (∀ x, s = some x → xs = x) ∧ (1 ≤ f → s = none → xs = []) ∧ xs.length ≤ cap
def RetIC (w : World) (s : Option (List Int)) (e : Ending) (w' : World) : Prop := ∃ ao cap, e = .returned (.tuple #[.slice ao (s.getD []).length cap, .bool s.isSome]) ∧ Below w.heap.size w w' ∧ IntsAt w' ao (s.getD []) ∧ (s.getD []).length ≤ cap
theorem RetDC.top {w w' : World} {f : Nat} {s : Option (List Int)} {e : Ending} (h : RetDC w f s e w') (hf : 1 ≤ f) : RetIC w s e w' := by
  obtain ⟨ao, cap, xs, rfl, h1, h2, h3, h4, h5⟩ := h
  cases s with
  | none => obtain rfl := h4 hf rfl; exact ⟨ao, cap, rfl, h1, h2, h5⟩
  | some x => obtain rfl := h3 x rfl; exact ⟨ao, cap, rfl, h1, h2, h5⟩
theorem RetIC.ret {w w' : World} {s : Option (List Int)} {e : Ending} (h : RetIC w s e w') : RetI w s e w' := by
  obtain ⟨ao, cap, h1, h2, h3, -⟩ := h
  exact ⟨ao, cap, h1, h2, h3⟩

end Go.Proofs.Ytfkehmpckhmkbaa

namespace Go.Proofs.Ytfkehmpckhmkbaa
open Go.RowKit

/-- The least vertex of a set of which something holds. -/
def leastP (p : Nat → Nat → Bool) (N S : Nat) : Option Nat := firstB (fun v => p S v) N
/-- Such vertices, taken away one by one. -/
def takeF (p : Nat → Nat → Bool) (N : Nat) : Nat → Nat → List Int → Option (List Int)
  | 0, _, out => some out
  | f + 1, S, out => if S = 0 then some out else match leastP p N S with | none => none | some v => takeF p N f (S - 2 ^ v) (out ++ [(v : Int)])
theorem takeF_zero {p : Nat → Nat → Bool} {N : Nat} (f : Nat) (out : List Int) : takeF p N f 0 out = some out := by cases f <;> rfl
theorem takeF_none {p : Nat → Nat → Bool} {N f S : Nat} {out : List Int} (hS : S ≤ f) (h0 : 0 < S) (h : leastP p N S = none) : takeF p N f S out = none := by
  obtain ⟨f, rfl⟩ : ∃ f', f = f' + 1 := ⟨f - 1, by omega⟩
  show (if S = 0 then some out else _) = none
  rw [if_neg (by omega), h]
theorem takeF_some {p : Nat → Nat → Bool} {N f S v : Nat} {out : List Int} (hS : S ≤ f) (h0 : 0 < S) (h : leastP p N S = some v) : takeF p N f S out = takeF p N (f - 1) (S - 2 ^ v) (out ++ [(v : Int)]) := by
  obtain ⟨f, rfl⟩ : ∃ f', f = f' + 1 := ⟨f - 1, by omega⟩
  show (if S = 0 then some out else _) = _
  rw [if_neg (by omega), h]; rfl
theorem takeF_len {p : Nat → Nat → Bool} {N : Nat} : ∀ (f S : Nat) (out : List Int), ((takeF p N f S out).getD []).length ≤ out.length + f := by
  intro f
  induction f with
  | zero => intro S out; simp [takeF]
  | succ f ih =>
    intro S out
    show ((if S = 0 then some out else (match leastP p N S with | none => none | some v => takeF p N f (S - 2 ^ v) (out ++ [(v : Int)]))).getD []).length ≤ _
    split
    · simp
    · split
      · simp
      · rename_i v _
        have := ih (S - 2 ^ v) (out ++ [(v : Int)])
        simp at this; omega
theorem DownTo.leastP {p : Nat → Nat → Bool} {N S : Nat} {b : Int} (h : DownTo (fun v => p S v) N 0 b) : (b = -1 ∧ leastP p N S = none) ∨ ∃ k : Nat, b = k ∧ leastP p N S = some k := by
  rcases h with ⟨h1, h2⟩ | ⟨k, h1, h2, h3, h4, h5⟩
  · exact .inl ⟨h1, firstB_none fun j hj => h2 j (by omega) hj⟩
  · exact .inr ⟨k, h1, firstB_hit h3 (fun j hj => h5 j (by omega) hj) h4⟩

/-- A vertex whose neighbours within a set are a clique. -/
def splB (rs : List Int) (S v : Nat) : Bool := S.testBit v && cliqueN rs (gn rs v &&& S)
def elimV (n : Int) (rs : List Int) : Option (List Int) := if isGraphB n rs = true then takeF (splB rs) rs.length (2 ^ rs.length - 1) (2 ^ rs.length - 1) [] else none
theorem elimV_no {n : Int} {rs : List Int} (h : isGraphB n rs = false) : elimV n rs = none := by unfold elimV; rw [h]; rfl
theorem elimV_of {n : Int} {rs : List Int} (h : isGraphB n rs = true) : elimV n rs = takeF (splB rs) rs.length (2 ^ rs.length - 1) (2 ^ rs.length - 1) [] := by unfold elimV; rw [if_pos h]
theorem elimV_len (n : Int) (rs : List Int) : ((elimV n rs).getD []).length ≤ 1048576 := by
  unfold elimV; split
  · rename_i h
    have := takeF_len (p := splB rs) (N := rs.length) (2 ^ rs.length - 1) (2 ^ rs.length - 1) []
    have := (VG.of h).2.pow.1
    simp at *; omega
  · simp
theorem splB_left {rs : List Int} {S v : Nat} (h : leastP (splB rs) rs.length S = some v) : v < rs.length ∧ S.testBit v = true ∧ 2 ^ v ≤ S ∧ 0 < 2 ^ v := by
  unfold leastP firstB at h
  have h1 := List.find?_some h
  have h2 := List.mem_of_find?_eq_some h
  unfold splB at h1
  rw [Bool.and_eq_true] at h1
  exact ⟨by simpa using h2, h1.1, Nat.ge_two_pow_of_testBit h1.1, Nat.two_pow_pos _⟩
def chordalB (n : Int) (rs : List Int) : Bool := (elimV n rs).isSome

set_option maxRecDepth 100000 in
set_option maxHeartbeats 1000000 in
theorem l6Simplicial_any (rs : List Int) (S v : Nat) (ro : Option Addr) (rc : Nat) (w : World) (hr : IntsAt w ro rs) (hv : isGraphB rs.length rs = true) (hS : S < 2 ^ rs.length) (hlt : v < rs.length) :
    Calls Try.prog 72 #[.agg #[.int .i64 rs.length, .slice ro rs.length rc], .int .i64 v, .int .i64 S] w fun e w' => e = .returned (.bool (cliqueN rs (gn rs v &&& S))) ∧ Below w.heap.size w w' := by
  obtain ⟨-, g⟩ := VG.of hv
  have hg2 := g.le
  have hp := g.pow.1
  have hl := g.lt v hlt
  have q4 : gn rs v &&& S < 2 ^ rs.length := Nat.lt_of_le_of_lt Nat.and_le_right hS
  have hI := isSetB_mk hv q4
  have HC := fun w ro rc hr => specIsClique_any rs.length rs ((gn rs v &&& S : Nat) : Int) ro rc w hr (by omega)
  rw [cliqueB_nat hI] at HC
  have q2 : bits .and .i64 (gn rs v : Int) (S : Int) = ((gn rs v &&& S : Nat) : Int) := bits_and_nat _ _ (by omega) (by omega)
  obtain ⟨rb, rofs, rfl, hrb, hrc⟩ := hr.graph g
  have hvc := hrc v hlt
  clear hrc hI hv
  go_enter Try.func72, Try.ntmps72
  go_wp2_with fail
  generalize hW : w.alloc _ = W1
  obtain ⟨hB, -, k0⟩ := alloc1 hW
  replace hr := hr.below hB
  have hvc1 : W1.cell? ⟨rb, rofs + v, none⟩ = _ := (hB.cell hrb).trans hvc
  have hrb1 : rb < W1.heap.size := Nat.lt_of_lt_of_le hrb hB.size
  have hb0 := k0.lt
  have hc0 := k0.cell 0
  have hc1 := k0.cell 1
  simp at hc0 hc1
  have HhB := Lib.hid hB
  clear hB hW k0 hvc hrb
  generalize hCC : cliqueN rs (gn rs v &&& S) = C at HC
  generalize gn rs v &&& S = A at HC q2
  have hcl := fun m : Later W1 => HC m.w _ rc (hr.later m)
  clear HC
  obtain ⟨m, hm0⟩ : ∃ m : Later W1, m.w = W1 := ⟨Later.refl _, rfl⟩
  refine (fun h => hm0 ▸ h) ?_
  clear hm0
  refine wp_region_later m rfl (by kernel_rfl) (by kernel_rfl) ?_
  repeat (go_big_quiet_step ((first | (go_at_call 68; exact Calls.later _ (hcl _)))))
  refine wpQuiet_nil ?_
  rintro _ ⟨m, rfl⟩
  go_wp2_with fail
  go_ret
  exact ⟨by simp [hCC], below_later HhB.out m⟩

set_option maxRecDepth 100000 in
set_option maxHeartbeats 2000000 in
theorem specElimC_any (n : Int) (rs : List Int) (ro : Option Addr) (rc : Nat) (w : World) (hr : IntsAt w ro rs) (hrl : rs.length ≤ 1048576) :
    Calls Try.prog 42 #[.agg #[.int .i64 n, .slice ro rs.length rc]] w (RetIC w (elimV n rs)) := by
  go_enter Try.func42, Try.ntmps42
  go_wp2_with fail
  generalize hW : w.alloc _ = W1
  obtain ⟨hB, -, k0⟩ := alloc1 hW
  replace hr := hr.below hB
  have hb0 := k0.lt
  have hc0 := k0.cell 0
  have hc1 := k0.cell 1
  simp at hc0 hc1
  clear hW k0
  have HhB := Lib.hid hB
  clear hB
  generalize hW2 : W1.alloc _ = W2
  obtain ⟨hB2, -, -⟩ := alloc1 hW2
  replace hr := hr.below hB2
  replace hc0 := (hB2.cell (p := ⟨w.heap.size, 0, none⟩) hb0).trans hc0
  replace hc1 := (hB2.cell (p := ⟨w.heap.size, 1, none⟩) hb0).trans hc1
  replace hb0 := Nat.lt_of_lt_of_le hb0 hB2.size
  replace HhB := Lib.hid (below_more' HhB.out hB2)
  clear hB2 hW2
  have hO := OwnE.empty W2 W2.heap.size ⟨w.heap.size + 1, 0, none⟩
  generalize (⟨w.heap.size + 1, 0, none⟩ : Addr) = na at *
  obtain ⟨m, hm0⟩ : ∃ m : Later W2, m.w = W2 := ⟨Later.refl _, rfl⟩
  refine (fun h => hm0 ▸ h) ?_
  clear hm0
  cases hv : isGraphB n rs
  · have HE := Lib.hid (elimV_no hv)
    go_wp2_with (first | (go_at_call 12; refine (Calls.later m (specIsGraph_any _ _ _ _ _ (hr.later m) hrl)).mono ?_; rintro e w' ⟨rfl, m, rfl⟩))
    go_ret2
    exact ⟨_, _, by rw [HE.out]; rfl, below_later HhB.out m, by rw [HE.out]; exact ⟨fun h => absurd h (by simp), by simp⟩⟩
  · have HE := Lib.hid (elimV_of hv)
    have Hhv := Lib.hid hv
    obtain ⟨rfl, g⟩ := VG.of hv
    have hg1 := g.pos
    have hg2 := g.le
    obtain ⟨hp1, hp2⟩ := g.pow
    have hp4 : 2 ^ rs.length - 1 < 2 ^ rs.length := by omega
    generalize hFull : 2 ^ rs.length - 1 = full at *
    have hp3 : wrap64 (pwN rs.length - 1) = (full : Int) := by
      rw [pwN_small _ (by omega), show ((2 ^ rs.length : Nat) : Int) - 1 = (full : Int) by omega]
      simp only [wrap64]
      omega
    have HhO := Lib.hid hO
    clear hO
    have Hhp4 := Lib.hid hp4
    clear hp4
    go_wp2_with (first | (go_at_call 12; refine (Calls.later m (specIsGraph_any _ _ _ _ _ (hr.later m) hrl)).mono ?_; rintro e w' ⟨rfl, m, rfl⟩))
    simp only [hp3]
    clear hp3
    go_loopw [4, 5] (fun o l wr => ∃ m : Later W2, wr = m.w ∧ ∃ (f S : Nat) (xs : List Int) (ao : Option Addr) (cap : Nat), S ≤ f ∧ S < 2 ^ rs.length ∧ xs.length + f ≤ 128 ∧ l = .int .i64 S ∧ o = .slice ao xs.length cap ∧ OwnE m.w W2.heap.size ao cap xs ∧ takeF (splB rs) rs.length full full [] = takeF (splB rs) rs.length f S xs) (fun _ l _ => (intOf l).toNat)
    case atStart => exact ⟨m, rfl, full, full, [], _, _, Nat.le_refl _, Hhp4.out, by simp; omega, rfl, rfl, HhO.out.later m, rfl⟩
    case round =>
      obtain ⟨m, rfl, f, S, xs, ao, cap, hSf, hS, hlen, rfl, rfl, hO, hV⟩ := hrel
      by_cases h0 : 0 < S
      · have d0 : decide (0 < (S : Int)) = true := decide_eq_true (by omega)
        have HW : ∀ m2 : Later m.w, ∃ m' : Later W2, m'.w = m2.w := fun m2 => ⟨m.on m2.below, rfl⟩
        have hms := m.size
        have HhO := Lib.hid hO
        clear hO
        have HhV := Lib.hid hV
        clear hV
        have HhSf := Lib.hid hSf
        clear hSf
        have Hhlen := Lib.hid hlen
        clear hlen
        have HHW := Lib.hid HW
        clear HW
        replace hr := hr.later m
        replace hc0 : m.w.cell? _ = _ := (m.cell _ _ hb0).trans hc0
        replace hc1 : m.w.cell? _ = _ := (m.cell _ _ hb0).trans hc1
        replace hb0 := Nat.lt_of_lt_of_le hb0 m.size
        replace HhB := Lib.hid (below_later HhB.out m)
        generalize m.w = W3 at *
        clear m
        obtain ⟨m, hm0⟩ : ∃ m : Later W3, m.w = W3 := ⟨Later.refl _, rfl⟩
        refine (fun h => hm0 ▸ h) ?_
        clear hm0
        go_wp2_with fail
        go_loopw [6, 7] (fun b i wr => (∃ m : Later W3, wr = m.w) ∧ ∃ (j : Nat) (bi : Int), j ≤ rs.length ∧ i = .int .i64 ((j : Int) - 1) ∧ b = .int .i64 bi ∧ DownTo (fun v => splB rs S v) rs.length j bi) (fun _ i _ => (intOf i + 1).toNat)
        case atStart => exact ⟨⟨m, rfl⟩, rs.length, -1, Nat.le_refl _, by go_num, rfl, DownTo.start _ _⟩
        case round =>
          obtain ⟨⟨m, rfl⟩, j, bi, hj, rfl, rfl, hD⟩ := hrel
          have hb1 := hD.lo
          rcases j with _ | j
          · rcases hD.leastP with ⟨rfl, hL⟩ | ⟨k, rfl, hL⟩
            · have HE2 := Lib.hid (HE.out.trans (HhV.out.trans (takeF_none HhSf.out h0 hL)))
              clear hD hL
              go_wp2_with fail
              go_ret2
              exact ⟨_, _, by rw [HE2.out]; rfl, (below_later HhB.out m).alloc (below_later HhB.out m).size _, by rw [HE2.out]; exact ⟨fun h => absurd h (by simp), by simp⟩⟩
            · obtain ⟨hk1, hk2, hk3, hk4⟩ := splB_left hL
              have HN := Lib.hid (HhV.out.trans (takeF_some HhSf.out h0 hL))
              have hl7 : xs.length ≤ 1048576 := by have := Hhlen.out; omega
              have hms3 := m.size
              have hq : wrap64 ((S : Int) - pwN k) = ((S - 2 ^ k : Nat) : Int) := by
                rw [pwN_small _ (by omega), show (S : Int) - ((2 ^ k : Nat) : Int) = ((S - 2 ^ k : Nat) : Int) by omega]
                simp only [wrap64]
                omega
              have hS2 : S - 2 ^ k < S := by omega
              generalize S - 2 ^ k = S2 at *
              clear hD hL hk2
              go_wp2_with (at_builtin; go_must (refine wpList_append_e rfl _ _ rfl W2.heap.size cap ao xs (k : Int) rfl (HhO.out.later m) rfl (by omega) (by omega) ?_); intro ao' cap' w1 hown1 hB1)
              go_roundw
              case rel =>
                obtain ⟨m', e⟩ := HHW.out m
                exact ⟨⟨w1, m'.below.trans (e.symm ▸ hB1)⟩, rfl, f - 1, S2, xs ++ [(k : Int)], ao', cap', by have := HhSf.out; omega, by omega, by have := Hhlen.out; have := HhSf.out; simp; omega, by rw [hq], by simp, hown1, HN.out⟩
              case measure => simp [intOf]; omega
          · have hjl : j < rs.length := by omega
            have HNo := Lib.hid (fun h => DownTo.no hD h)
            have HYes := Lib.hid (fun h => DownTo.yes (p := fun v => splB rs S v) hjl h)
            have HSpl : Hid (splB rs S j = (S.testBit j && cliqueN rs (gn rs j &&& S))) := Lib.hid rfl
            have hq : ((j + 1 : Nat) : Int) - 1 = (j : Int) := by omega
            have hq2 : IntKind.i64.wrap ((j : Int) - 1) = (j : Int) - 1 := IntKind_i64_in _ (by omega) (by omega)
            simp only [hq]
            clear hD
            cases hb : S.testBit j
            · have hb' : hasN (S : Int) j = false := by rw [hasN_nat]; exact hb
              rw [hb] at HSpl
              clear hb
              go_wp2_with fail
              go_roundw
              case rel => exact ⟨⟨m, rfl⟩, j, bi, by omega, by go_num, rfl, HNo.out HSpl.out⟩
              case measure => simp [intOf]
            · have hb' : hasN (S : Int) j = true := by rw [hasN_nat]; exact hb
              have hC := fun m : Later W3 => l6Simplicial_any rs S j ro rc m.w (hr.later m) Hhv.out hS hjl
              rw [hb, Bool.true_and] at HSpl
              clear hb
              cases hc : cliqueN rs (gn rs j &&& S)
              · rw [hc] at hC HSpl
                go_wp2_with (first | (go_at_call 72; refine (Calls.later m (hC m)).mono ?_; rintro e w' ⟨rfl, m, rfl⟩))
                go_roundw
                case rel => exact ⟨⟨m, rfl⟩, j, bi, by omega, by go_num, rfl, HNo.out HSpl.out⟩
                case measure => simp [intOf]
              · rw [hc] at hC HSpl
                go_wp2_with (first | (go_at_call 72; refine (Calls.later m (hC m)).mono ?_; rintro e w' ⟨rfl, m, rfl⟩))
                go_roundw
                case rel => exact ⟨⟨m, rfl⟩, j, (j : Int), by omega, by go_num, rfl, HYes.out HSpl.out⟩
                case measure => simp [intOf]
      · obtain rfl : S = 0 := by omega
        have HE2 := Lib.hid (HE.out.trans (hV.trans (takeF_zero f xs)))
        have hX := And.intro hO.ints hO.cap_le
        clear hV hO
        go_wp2_with fail
        go_ret2
        exact ⟨ao, cap, by rw [HE2.out]; rfl, below_later HhB.out m, by rw [HE2.out]; exact hX⟩
theorem specElim_any (n : Int) (rs : List Int) (ro : Option Addr) (rc : Nat) (w : World) (hr : IntsAt w ro rs) (hrl : rs.length ≤ 1048576) :
    Calls Try.prog 42 #[.agg #[.int .i64 n, .slice ro rs.length rc]] w (RetI w (elimV n rs)) :=
  (specElimC_any n rs ro rc w hr hrl).mono fun _ _ h => h.ret

set_option maxHeartbeats 1000000 in
theorem specChordal_any (n : Int) (rs : List Int) (ro : Option Addr) (rc : Nat) (w : World) (hr : IntsAt w ro rs) (hrl : rs.length ≤ 1048576) :
    Calls Try.prog 16 #[.agg #[.int .i64 n, .slice ro rs.length rc]] w fun e w' => e = .returned (.bool (chordalB n rs)) ∧ Below w.heap.size w w' := by
  go_enter Try.func16, Try.ntmps16
  go_wp2_with fail
  generalize hW : w.alloc _ = W1
  obtain ⟨hB, -, k0⟩ := alloc1 hW
  replace hr := hr.below hB
  have hb0 := k0.lt
  have hc0 := k0.cell 0
  have hc1 := k0.cell 1
  simp at hc0 hc1
  clear hW k0
  have HhB := Lib.hid hB
  clear hB
  refine (specElim_any n rs ro rc W1 hr hrl).mono ?_
  rintro e w2 ⟨ao, cap, rfl, hB2, -⟩
  have HE : Hid (chordalB n rs = (elimV n rs).isSome) := rfl
  have hBB := below_more' HhB.out hB2
  clear hB2
  generalize elimV n rs = O at *
  have HhBB := Lib.hid hBB
  clear hBB
  go_wp2_with fail
  go_ret
  exact ⟨retB HE.out.symm, HhBB.out⟩

end Go.Proofs.Ytfkehmpckhmkbaa
