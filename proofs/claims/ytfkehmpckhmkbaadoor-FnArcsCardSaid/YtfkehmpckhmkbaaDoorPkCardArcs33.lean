/-
  CutArcs: the two lists that come of cutting a circle of arcs at a point; what a call that makes them returns; eqIntervals. For at most 2^20 elements.
  A circle that is cut at a free point leaves intervals that meet as the arcs did; the arcs at a point meet. No conditions.
  GraphOfArcs on both sides, as the law wants it: a list of rows and whether it is a graph.
  The laws' own test that two lists are the same. The lists have at most 2^47 elements.
-/
import Derived.Test.YtfkehmpckhmkbaaDoorPkCardArcs26
import Derived.Test.YtfkehmpckhmkbaaDoorPkCardArcs14
import Derived.Test.YtfkehmpckhmkbaaDoorPkCardArcs32
import Derived.StillTailTactics
import Derived.Test.YtfkehmpckhmkbaaDoorPkCardArcs27
import Derived.Test.YtfkehmpckhmkbaaDoorPkCardArcs15
import Derived.Test.YtfkehmpckhmkbaaDoorPkCardArcs02
namespace Go.Proofs.YtfkehmpckhmkbaaDoor
open Go.RowKit

def cutT (c : Int) (f : List Int) (x : Int) (i : Nat) : Int := (gi f i - x) % c
def cutLs (c : Int) (f : List Int) (x : Int) (k : Nat) : List Int := (List.range k).map (cutT c f x)
def cutRs (c : Int) (f l : List Int) (x : Int) (k : Nat) : List Int := (List.range k).map fun i => cutT c f x i + gi l i - 1
theorem cutLs_succ (c : Int) (f : List Int) (x : Int) (k : Nat) : cutLs c f x (k + 1) = cutLs c f x k ++ [cutT c f x k] := by simp [cutLs, List.range_succ]
theorem cutRs_succ (c : Int) (f l : List Int) (x : Int) (k : Nat) : cutRs c f l x (k + 1) = cutRs c f l x k ++ [cutT c f x k + gi l k - 1] := by simp [cutRs, List.range_succ]
theorem cutLs_len (c : Int) (f : List Int) (x : Int) (k : Nat) : (cutLs c f x k).length = k := by simp [cutLs]
theorem cutRs_len (c : Int) (f l : List Int) (x : Int) (k : Nat) : (cutRs c f l x k).length = k := by simp [cutRs]
theorem cutT_lo (c : Int) (f : List Int) (x : Int) (k : Nat) (h : 0 < c) : 0 ≤ cutT c f x k ∧ cutT c f x k < c := ⟨Int.emod_nonneg _ (by omega), Int.emod_lt_of_pos _ h⟩
def cutOk (c : Int) (f l : List Int) (x : Int) : Bool := isArcsB c f l && ((decide (0 ≤ x) && decide (x ≤ c - 1)) && (arcsAtV c f l x == 0))
def cutLV (c : Int) (f l : List Int) (x : Int) : List Int := if cutOk c f l x = true then cutLs c f x f.length else []
def cutRV (c : Int) (f l : List Int) (x : Int) : List Int := if cutOk c f l x = true then cutRs c f l x f.length else []
theorem cutV_len (c : Int) (f l : List Int) (x : Int) : (cutLV c f l x).length ≤ 1048576 ∧ (cutRV c f l x).length ≤ 1048576 := by
  unfold cutLV cutRV
  by_cases h : cutOk c f l x = true
  · rw [if_pos h, if_pos h, cutLs_len, cutRs_len]
    unfold cutOk at h
    rw [Bool.and_eq_true] at h
    have := (isArcsB_true h.1).2.2.2.1
    omega
  · rw [if_neg h, if_neg h]; simp
theorem cutOk_no {c : Int} {f l : List Int} {x : Int} (h : isArcsB c f l = false) : cutOk c f l x = false := by unfold cutOk; rw [h]; rfl
theorem cutOk_out {c : Int} {f l : List Int} {x : Int} (h : (decide (0 ≤ x) && decide (x ≤ c - 1)) = false) : cutOk c f l x = false := by unfold cutOk; rw [h]; simp
theorem cutOk_hit {c : Int} {f l : List Int} {x : Int} (h : ¬arcsAtV c f l x = 0) : cutOk c f l x = false := by unfold cutOk; rw [beq_false_of_ne h]; simp
theorem cutOk_yes {c : Int} {f l : List Int} {x : Int} (h : isArcsB c f l = true) (h1 : (decide (0 ≤ x) && decide (x ≤ c - 1)) = true) (h2 : arcsAtV c f l x = 0) : cutOk c f l x = true := by unfold cutOk; rw [h, h1, h2]; rfl

/-- What a call that makes intervals returns. -/
def RetIv (w : World) (R R2 : List Int) (ok : Bool) (e : Ending) (w' : World) : Prop :=
  ∃ ao bo c d, e = .returned (.tuple #[.agg #[.slice ao R.length c, .slice bo R2.length d], .bool ok]) ∧ Below w.heap.size w w' ∧ OwnE w' w.heap.size ao c R ∧ OwnE w' w.heap.size bo d R2 ∧ ∀ b, XR ao R b → ¬XR bo R2 b
theorem RetIv.no {c : Int} {f l : List Int} {x : Int} (h : cutOk c f l x = false) {w w' : World} {e : Ending} (he : e = .returned (.tuple #[.agg #[.slice none 0 0, .slice none 0 0], .bool false])) (hB : Below w.heap.size w w') :
    RetIv w (cutLV c f l x) (cutRV c f l x) (cutOk c f l x) e w' := by
  unfold cutLV cutRV
  rw [h]
  exact ⟨none, none, 0, 0, he, hB, .inl (OwnL.nil _ _), .inl (OwnL.nil _ _), fun b h => absurd h.1 (by simp)⟩
theorem RetIv.yes {c : Int} {f l : List Int} {x : Int} (h : cutOk c f l x = true) {w w' : World} {e : Ending} {base : Nat} {v1 v2 : Value} (he : e = .returned (.tuple #[.agg #[v1, v2], .bool true])) (hB : Below w.heap.size w w')
    (ht : TwoL w' base v1 v2 (cutLs c f x f.length) (cutRs c f l x f.length)) (hb : w.heap.size ≤ base) : RetIv w (cutLV c f l x) (cutRV c f l x) (cutOk c f l x) e w' := by
  unfold cutLV cutRV
  rw [h, if_pos rfl, if_pos rfl]
  obtain ⟨ao, bo, p, q, rfl, rfl, h1, h2, h3⟩ := ht.parts
  exact ⟨ao, bo, p, q, he, hB, h1.mono' hb, h2.mono' hb, h3⟩


end Go.Proofs.YtfkehmpckhmkbaaDoor

namespace Go.Proofs.YtfkehmpckhmkbaaDoor
open Go.RowKit

theorem cyc {c p q : Int} (hp : 0 ≤ p) (hp2 : p < c) (hq : 0 ≤ q) (hq2 : q < c) : (q - p) % c = if p ≤ q then q - p else q - p + c := by
  split
  · exact Int.emod_eq_of_lt (by omega) (by omega)
  · rw [← Int.add_emod_right]; exact Int.emod_eq_of_lt (by omega) (by omega)
theorem mod_shift {c : Int} (a b x : Int) : (b - a) % c = ((b - x) % c - (a - x) % c) % c := by
  rw [show b - a = (b - x) - (a - x) by omega, Int.sub_emod]
theorem mod_shift2 {c : Int} (a b x : Int) : (b - a) % c = ((x - a) % c - (x - b) % c) % c := by
  rw [show b - a = (x - a) - (x - b) by omega, Int.sub_emod]
theorem arcsUpto_bit (c : Int) (f l : List Int) (x : Int) (i : Nat) : ∀ k, (arcsUpto c f l x k).testBit i = (decide (i < k) && onB c f l i x)
  | 0 => by simp [arcsUpto]
  | k + 1 => by
    have h := arcsUpto_bit c f l x i k
    have hlt := arcsUpto_lt c f l x k
    unfold arcsUpto
    by_cases e : i = k
    · subst e
      cases ho : onB c f l i x
      · rw [if_neg (by decide), Nat.add_zero, h, ho]; simp
      · rw [if_pos rfl, Nat.add_comm, Nat.testBit_two_pow_add_eq, h]; simp
    · have e2 : decide (i < k + 1) = decide (i < k) := decide_eq_decide.2 (by omega)
      rw [e2]
      split
      · rcases Nat.lt_or_ge i k with hi | hi
        · rw [Nat.add_comm, Nat.testBit_two_pow_add_gt hi, h]
        · rw [decide_eq_false (by omega), Bool.false_and]
          refine Nat.testBit_lt_two_pow ?_
          have h2 : 2 ^ (k + 1) ≤ 2 ^ i := Nat.pow_le_pow_right (by decide) (by omega)
          have h3 : 2 ^ (k + 1) = 2 ^ k + 2 ^ k := by rw [Nat.pow_succ]; omega
          omega
      · rw [Nat.add_zero, h]
/-- At a free point no arc lies. -/
theorem free_on {c : Int} {f l : List Int} {x : Int} (hv : isArcsB c f l = true) (h0 : 0 ≤ x) (h1 : x ≤ c - 1) (h : arcsAtV c f l x = 0) {i : Nat} (hi : i < f.length) : onB c f l i x = false := by
  unfold arcsAtV at h
  rw [if_pos ⟨hv, h0, h1⟩] at h
  have := arcsUpto_bit c f l x i f.length
  rw [show arcsUpto c f l x f.length = 0 by omega, decide_eq_true hi, Bool.true_and, Nat.zero_testBit] at this
  exact this.symm
/-- The arcs that are cut: they begin behind the free point and end ahead of it. -/
theorem cut_ends {c : Int} {f l : List Int} {x : Int} (hv : isArcsB c f l = true) (h0 : 0 ≤ x) (h1 : x ≤ c - 1) (h : arcsAtV c f l x = 0) {i : Nat} (hi : i < f.length) :
    1 ≤ cutT c f x i ∧ cutT c f x i < c ∧ 1 ≤ gi l i ∧ cutT c f x i + gi l i ≤ c := by
  obtain ⟨a1, a2, a3, a4, a5, a6⟩ := isArcsB_true hv
  have hk := a6 i hi
  have ho := free_on hv h0 h1 h hi
  unfold onB at ho
  rw [decide_eq_false_iff_not] at ho
  obtain ⟨l1, l2⟩ := cutT_lo c f x i (by omega)
  have hm := mod_shift (c := c) (gi f i) x x
  have e := cyc (c := c) (p := (gi f i - x) % c) (q := 0) l1 l2 (by omega) (by omega)
  rw [Int.sub_self, Int.zero_emod, e] at hm
  unfold cutT at *
  generalize (gi f i - x) % c = p at *
  split at hm <;> omega
def ivlMeet (ls rs : List Int) (i j : Nat) : Bool := decide (gi ls i ≤ gi rs j) && decide (gi ls j ≤ gi rs i)
theorem cutLs_at {c : Int} {f : List Int} {x : Int} {k i : Nat} (h : i < k) : gi (cutLs c f x k) i = cutT c f x i := by simp [cutLs, gi, h]
theorem cutRs_at {c : Int} {f l : List Int} {x : Int} {k i : Nat} (h : i < k) : gi (cutRs c f l x k) i = cutT c f x i + gi l i - 1 := by simp [cutRs, gi, h]
theorem cut_meet {c : Int} {f l : List Int} {x : Int} (hv : isArcsB c f l = true) (h0 : 0 ≤ x) (h1 : x ≤ c - 1) (h : arcsAtV c f l x = 0) {i j : Nat} (hi : i < f.length) (hj : j < f.length) :
    ivlMeet (cutLs c f x f.length) (cutRs c f l x f.length) i j = arcP c f l i j := by
  obtain ⟨p1, p2, p3, p4⟩ := cut_ends hv h0 h1 h hi
  obtain ⟨q1, q2, q3, q4⟩ := cut_ends hv h0 h1 h hj
  unfold ivlMeet arcP onB
  rw [cutLs_at hi, cutLs_at hj, cutRs_at hi, cutRs_at hj, mod_shift (gi f j) (gi f i) x, mod_shift (gi f i) (gi f j) x]
  have e1 := cyc (c := c) (p := (gi f j - x) % c) (q := (gi f i - x) % c) (by unfold cutT at *; omega) (by unfold cutT at *; omega) (by unfold cutT at *; omega) (by unfold cutT at *; omega)
  have e2 := cyc (c := c) (p := (gi f i - x) % c) (q := (gi f j - x) % c) (by unfold cutT at *; omega) (by unfold cutT at *; omega) (by unfold cutT at *; omega) (by unfold cutT at *; omega)
  rw [e1, e2]
  unfold cutT at *
  generalize (gi f i - x) % c = p at *
  generalize (gi f j - x) % c = q at *
  rw [Bool.eq_iff_iff]
  simp only [Bool.and_eq_true, Bool.or_eq_true, decide_eq_true_eq]
  split <;> split <;> omega
theorem cut_graph {c : Int} {f l : List Int} {x : Int} (hv : isArcsB c f l = true) (h0 : 0 ≤ x) (h1 : x ≤ c - 1) (h : arcsAtV c f l x = 0) :
    gOf f.length (ivlMeet (cutLs c f x f.length) (cutRs c f l x f.length)) = arcG c f l := by
  unfold arcG gOf
  exact rowsOf_congr fun i hi j hj => by unfold gE; rw [cut_meet hv h0 h1 h hi hj, cut_meet hv h0 h1 h hj hi]
/-- The arcs at a point meet. -/
theorem at_meet {c : Int} {f l : List Int} {x : Int} (hv : isArcsB c f l = true) {i j : Nat} (hi : onB c f l i x = true) (hj : onB c f l j x = true) : arcP c f l i j = true := by
  obtain ⟨a1, -⟩ := isArcsB_true hv
  unfold onB at hi hj
  unfold arcP onB
  rw [mod_shift2 (gi f j) (gi f i) x, mod_shift2 (gi f i) (gi f j) x]
  rw [decide_eq_true_eq] at hi hj
  have p1 := Int.emod_nonneg (x - gi f i) (show c ≠ 0 by omega)
  have p2 := Int.emod_lt_of_pos (x - gi f i) (show 0 < c by omega)
  have q1 := Int.emod_nonneg (x - gi f j) (show c ≠ 0 by omega)
  have q2 := Int.emod_lt_of_pos (x - gi f j) (show 0 < c by omega)
  generalize (x - gi f i) % c = p at *
  generalize (x - gi f j) % c = q at *
  rw [cyc p1 p2 q1 q2, cyc q1 q2 p1 p2, Bool.or_eq_true, decide_eq_true_eq, decide_eq_true_eq]
  split <;> split <;> omega
theorem free_covers {c : Int} {f l : List Int} {k : Nat} {s : Int} (hk : (k : Int) < c) (h : arcsAtV c f l k = 0) : coversB c f l s = false :=
  coversB_hit hk (by unfold notCov; rw [h]; simp [bits]; rfl)

end Go.Proofs.YtfkehmpckhmkbaaDoor

namespace Go.Proofs.YtfkehmpckhmkbaaDoor
open Go.RowKit

/-- What a call that makes a graph returns. -/
def RetG (w : World) (R : List Int) (ok : Bool) (e : Ending) (w' : World) : Prop :=
  ∃ ao cap, e = .returned (.tuple #[.agg #[.int .i64 R.length, .slice ao R.length cap], .bool ok]) ∧ Below w.heap.size w w' ∧ OwnE w' w.heap.size ao cap R
theorem RetG.of {w w' : World} {R : List Int} {ok : Bool} {e : Ending} {N g1 cap : Nat} (hN : R.length = N) (h : e = .returned (.tuple #[.agg #[.int .i64 N, .slice (some ⟨g1, 0, none⟩) N cap], .bool ok])) (hB : Below w.heap.size w w') (hg : w.heap.size ≤ g1) (hR : RowAt w' g1 cap R) : RetG w R ok e w' :=
  ⟨_, cap, by rw [h, hN], hB, hR.own hg⟩
theorem RetG.no {w w' : World} {e : Ending} (h : e = .returned (.tuple #[.agg #[.int .i64 0, .slice none 0 0], .bool false])) (hB : Below w.heap.size w w') : RetG w [] false e w' :=
  ⟨none, 0, h, hB, .inl (OwnL.nil _ _)⟩

def arcGV (c : Int) (f l : List Int) : List Int := if isArcsB c f l = true then arcG c f l else []
theorem arcGV_len (c : Int) (f l : List Int) : (arcGV c f l).length ≤ 1048576 := by
  unfold arcGV
  split
  · rename_i h
    have := (isArcsB_true h).2.2.2.1
    rw [arcG, gOf_len]; omega
  · simp
theorem specArcG_ret (c : Int) (f l : List Int) (fa la : Option Addr) (fc lc : Nat) (w : World) (hf : IntsAt w fa f) (hl : IntsAt w la l) (hfl : f.length ≤ 1048576) (hll : l.length ≤ 1048576) :
    Calls Tryd.prog 7 #[.agg #[.int .i64 c, .slice fa f.length fc, .slice la l.length lc]] w (RetG w (arcGV c f l) (isArcsB c f l)) := by
  cases hv : isArcsB c f l
  · rw [show arcGV c f l = [] by unfold arcGV; rw [if_neg (by rw [hv]; decide)]]
    exact (specArcG_bad c f l fa la fc lc w hv hf hl hfl hll).mono fun e w' ⟨h1, h2⟩ => RetG.no h1 h2
  · rw [show arcGV c f l = arcG c f l by unfold arcGV; rw [if_pos hv]]
    exact (specArcG_any c f l fa la fc lc w hv hf hl).mono fun e w' ⟨g1, cap, h1, h2, h3, h4⟩ => RetG.of (gOf_len _ _) h1 h2 h3 h4
theorem implArcG_ret (c : Int) (f l : List Int) (fa la : Option Addr) (fc lc : Nat) (w : World) (hf : IntsAt w fa f) (hl : IntsAt w la l) (hfl : f.length ≤ 1048576) (hll : l.length ≤ 1048576) :
    Calls Tryd.prog 6 #[.agg #[.int .i64 c, .slice fa f.length fc, .slice la l.length lc]] w (RetG w (arcGV c f l) (isArcsB c f l)) := by
  cases hv : isArcsB c f l
  · rw [show arcGV c f l = [] by unfold arcGV; rw [if_neg (by rw [hv]; decide)]]
    exact (implArcG_bad c f l fa la fc lc w hv hf hl hfl hll).mono fun e w' ⟨h1, h2⟩ => RetG.no h1 h2
  · rw [show arcGV c f l = arcG c f l by unfold arcGV; rw [if_pos hv]]
    exact (implArcG_any c f l fa la fc lc w hv hf hl).mono fun e w' ⟨g1, cap, h1, h2, h3, h4⟩ => RetG.of (gOf_len _ _) h1 h2 h3 h4

end Go.Proofs.YtfkehmpckhmkbaaDoor

namespace Go.Proofs.YtfkehmpckhmkbaaDoor
open Go.RowKit

set_option maxHeartbeats 400000 in
theorem lawSameInts_any (ao bo : Option Addr) (xs ys : List Int) (c d : Nat) (w : World) (hx : IntsAt w ao xs) (hy : IntsAt w bo ys) (hn : xs.length ≤ 140737488351232) (hm : ys.length ≤ 140737488351232) :
    Calls Tryd.prog 43 #[.slice ao xs.length c, .slice bo ys.length d] w fun e w' => e = .returned (.bool (sameInts xs ys)) ∧ Below w.heap.size w w' := by
  by_cases hl : xs.length = ys.length
  · have hb : ((xs.length : Int) != ys.length) = false := by rw [hl]; simp
    have HL := Lib.hid hl
    clear hl
    go_enter Tryd.func43, Tryd.ntmps43
    go_wp2_with fail
    go_loopw [5] (fun i wr => (∃ m : Later w, wr = m.w) ∧ ∃ k : Nat, k ≤ xs.length ∧ i = .int .i64 k ∧ ∀ j, j < k → gi xs j = gi ys j) (fun i _ => xs.length - (intOf i).toNat)
    case atStart => exact ⟨⟨Later.refl _, rfl⟩, 0, by omega, rfl, fun j h => by omega⟩
    case round =>
      obtain ⟨⟨m, rfl⟩, k, hk, rfl, hP⟩ := hrel
      have HP := Lib.hid hP
      clear hP
      by_cases hlt : k < xs.length
      · have hlt' : k < ys.length := by rw [← HL.out]; exact hlt
        obtain ⟨b, off, rfl, hbl, hc⟩ := hx (by omega)
        obtain ⟨b2, off2, rfl, hbl2, hc2⟩ := hy (by omega)
        go_wp2_with fail
        cases he : (gi xs k != gi ys k)
        all_goals
          refine wp_region_later m rfl (by kernel_rfl) (by kernel_rfl) ?_
          repeat (go_big_quiet_step (fail))
          refine wpQuiet_nil ?_
          rintro _ ⟨m, rfl⟩
          go_wp2_with fail
        · go_roundw
          case rel =>
            refine ⟨⟨m, rfl⟩, k + 1, by omega, by go_num, fun j hj => ?_⟩
            rcases Nat.lt_succ_iff_lt_or_eq.1 hj with hj | rfl
            · exact HP.out j hj
            · simpa using he
          case measure => simp [intOf]; omega
        · go_ret
          exact ⟨retB (by rw [sameInts_at (by simpa using he)]), m.below⟩
      · go_wp2_with fail
        go_ret
        exact ⟨retB (by rw [sameInts_all HL.out (fun j hj => HP.out j (by omega))]), m.below⟩
  · have hb : ((xs.length : Int) != ys.length) = true := by simp; omega
    have HL := Lib.hid hl
    clear hl
    go_enter Tryd.func43, Tryd.ntmps43
    go_wp2_with fail
    go_ret
    exact ⟨retB (by rw [sameInts_len HL.out]), Below.refl _ _⟩

end Go.Proofs.YtfkehmpckhmkbaaDoor
