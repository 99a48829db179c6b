/-
  CutArcs: the two lists that come of cutting a circle of arcs at a point; what a call that makes them returns; eqIntervals. For at most 2^20 elements.
-/
import Derived.Test.YtfjljfjnooieoaaArcsAt
import Derived.Test.YtfjljfjnooieoaaMarkX
import Derived.Test.YtfjljfjnooieoaaTwo
import Derived.Test.YtfjljfjnooieoaaArcG
import Derived.StillTailTactics
namespace Go.Proofs.Ytfjljfjnooieoaa
open Go.RowKit

def cutT (c : Int) (f : List Int) (x : Int) (i : Nat) : Int := (gi f i - x) % c
def cutLs (c : Int) (f : List Int) (x : Int) (k : Nat) : List Int := (List.range k).map (cutT c f x)
def cutRs (c : Int) (f l : List Int) (x : Int) (k : Nat) : List Int := (List.range k).map fun i => cutT c f x i + gi l i - 1
theorem cutLs_succ (c : Int) (f : List Int) (x : Int) (k : Nat) : cutLs c f x (k + 1) = cutLs c f x k ++ [cutT c f x k] := by simp [cutLs, List.range_succ]
theorem cutRs_succ (c : Int) (f l : List Int) (x : Int) (k : Nat) : cutRs c f l x (k + 1) = cutRs c f l x k ++ [cutT c f x k + gi l k - 1] := by simp [cutRs, List.range_succ]
theorem cutLs_len (c : Int) (f : List Int) (x : Int) (k : Nat) : (cutLs c f x k).length = k := by simp [cutLs]
theorem cutRs_len (c : Int) (f l : List Int) (x : Int) (k : Nat) : (cutRs c f l x k).length = k := by simp [cutRs]
theorem cutT_lo (c : Int) (f : List Int) (x : Int) (k : Nat) (h : 0 < c) : 0 ≤ cutT c f x k ∧ cutT c f x k < c := ⟨Int.emod_nonneg _ (by omega), Int.emod_lt_of_pos _ h⟩
def cutOk (c : Int) (f l : List Int) (x : Int) : Bool := isArcsB c f l && ((decide (0 ≤ x) && decide (x ≤ c - 1)) && (arcsAtV c f l x == 0))
def cutLV (c : Int) (f l : List Int) (x : Int) : List Int := if cutOk c f l x = true then cutLs c f x f.length else []
def cutRV (c : Int) (f l : List Int) (x : Int) : List Int := if cutOk c f l x = true then cutRs c f l x f.length else []
theorem cutV_len (c : Int) (f l : List Int) (x : Int) : (cutLV c f l x).length ≤ 1048576 ∧ (cutRV c f l x).length ≤ 1048576 := by
  unfold cutLV cutRV
  by_cases h : cutOk c f l x = true
  · rw [if_pos h, if_pos h, cutLs_len, cutRs_len]
    unfold cutOk at h
    rw [Bool.and_eq_true] at h
    have := (isArcsB_true h.1).2.2.2.1
    omega
  · rw [if_neg h, if_neg h]; simp
theorem cutOk_no {c : Int} {f l : List Int} {x : Int} (h : isArcsB c f l = false) : cutOk c f l x = false := by unfold cutOk; rw [h]; rfl
theorem cutOk_out {c : Int} {f l : List Int} {x : Int} (h : (decide (0 ≤ x) && decide (x ≤ c - 1)) = false) : cutOk c f l x = false := by unfold cutOk; rw [h]; simp
theorem cutOk_hit {c : Int} {f l : List Int} {x : Int} (h : ¬arcsAtV c f l x = 0) : cutOk c f l x = false := by unfold cutOk; rw [beq_false_of_ne h]; simp
theorem cutOk_yes {c : Int} {f l : List Int} {x : Int} (h : isArcsB c f l = true) (h1 : (decide (0 ≤ x) && decide (x ≤ c - 1)) = true) (h2 : arcsAtV c f l x = 0) : cutOk c f l x = true := by unfold cutOk; rw [h, h1, h2]; rfl

/-- What a call that makes intervals returns. -/
def RetIv (w : World) (R R2 : List Int) (ok : Bool) (e : Ending) (w' : World) : Prop :=
  ∃ ao bo c d, e = .returned (.tuple #[.agg #[.slice ao R.length c, .slice bo R2.length d], .bool ok]) ∧ Below w.heap.size w w' ∧ OwnE w' w.heap.size ao c R ∧ OwnE w' w.heap.size bo d R2 ∧ ∀ b, XR ao R b → ¬XR bo R2 b
theorem RetIv.no {c : Int} {f l : List Int} {x : Int} (h : cutOk c f l x = false) {w w' : World} {e : Ending} (he : e = .returned (.tuple #[.agg #[.slice none 0 0, .slice none 0 0], .bool false])) (hB : Below w.heap.size w w') :
    RetIv w (cutLV c f l x) (cutRV c f l x) (cutOk c f l x) e w' := by
  unfold cutLV cutRV
  rw [h]
  exact ⟨none, none, 0, 0, he, hB, .inl (OwnL.nil _ _), .inl (OwnL.nil _ _), fun b h => absurd h.1 (by simp)⟩
theorem RetIv.yes {c : Int} {f l : List Int} {x : Int} (h : cutOk c f l x = true) {w w' : World} {e : Ending} {base : Nat} {v1 v2 : Value} (he : e = .returned (.tuple #[.agg #[v1, v2], .bool true])) (hB : Below w.heap.size w w')
    (ht : TwoL w' base v1 v2 (cutLs c f x f.length) (cutRs c f l x f.length)) (hb : w.heap.size ≤ base) : RetIv w (cutLV c f l x) (cutRV c f l x) (cutOk c f l x) e w' := by
  unfold cutLV cutRV
  rw [h, if_pos rfl, if_pos rfl]
  obtain ⟨ao, bo, p, q, rfl, rfl, h1, h2, h3⟩ := ht.parts
  exact ⟨ao, bo, p, q, he, hB, h1.mono' hb, h2.mono' hb, h3⟩

set_option maxHeartbeats 400000 in
theorem eqIvl_same (xs ys : List Int) (fc lc fc' lc' : Nat) (fo lo fo' lo' : Option Addr) (w : World) (hf : IntsAt w fo xs) (hl : IntsAt w lo ys) (hf' : IntsAt w fo' xs) (hl' : IntsAt w lo' ys) (hn : xs.length ≤ 1048576) (hm : ys.length ≤ 1048576) :
    Calls Try.prog 9 #[.agg #[.slice fo xs.length fc, .slice lo ys.length lc], .agg #[.slice fo' xs.length fc', .slice lo' ys.length lc']] w fun e w' => e = .returned (.bool true) ∧ Below w.heap.size w w' := by
  go_enter Try.func9, Try.ntmps9
  go_wp2_with fail
  generalize hW : (w.alloc _).alloc _ = W1
  obtain ⟨hB, hS, k0, k1⟩ := alloc2 hW
  have b0 := k0.lt
  have b1 := k1.lt
  have c00 := k0.cell 0
  have c01 := k0.cell 1
  have c10 := k1.cell 0
  have c11 := k1.cell 1
  simp at c00 c01 c10 c11
  replace hf := Lib.hid (hf.below hB)
  replace hl := Lib.hid (hl.below hB)
  replace hf' := Lib.hid (hf'.below hB)
  replace hl' := Lib.hid (hl'.below hB)
  have HhB := Lib.hid hB
  clear hB
  have HhS := Lib.hid hS
  clear hS
  clear k0 k1 hW
  have hr1 := sameInts_refl xs
  have hr2 := sameInts_refl ys
  obtain ⟨m, hm0⟩ : ∃ m : Later W1, m.w = W1 := ⟨Later.refl _, rfl⟩
  refine (fun h => hm0 ▸ h) ?_
  clear hm0
  refine (Calls.later m (eqIntS_any _ _ _ _ _ _ _ (hf.out.later m) (hf'.out.later m) (by omega) (by omega))).mono ?_
  rintro e w' ⟨rfl, m, rfl⟩
  go_wp2_with fail
  refine (Calls.later m (eqIntS_any _ _ _ _ _ _ _ (hl.out.later m) (hl'.out.later m) (by omega) (by omega))).mono ?_
  rintro e w' ⟨rfl, m, rfl⟩
  go_wp2_with fail
  go_ret
  exact ⟨rfl, below_later HhB.out m⟩

end Go.Proofs.Ytfjljfjnooieoaa
