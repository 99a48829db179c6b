/-
  StrongObstacle on both sides. For at most 2^20 rows.
  The walk of IsSimple of the reference, and what both sides say. For at most 2^20 rows.
-/
import Derived.Test.YtgklgheaojoimaaPkLawStrong39
import Derived.Test.YtgklgheaojoimaaPkLawStrong33
import Derived.Test.YtgklgheaojoimaaPkLawStrong09
import Derived.StillTailTactics
namespace Go.Proofs.Ytgklgheaojoimaa
open Go.RowKit

def obst2V (n : Int) (rs : List Int) : Option (List Int) := match holeV n rs with | some x => some x | none => sunV n rs
theorem obst2V_len (n : Int) (rs : List Int) : ((obst2V n rs).getD []).length ≤ 1048576 := by
  unfold obst2V; split
  · rename_i x h; have := holeV_len n rs; rw [h] at this; exact this
  · exact sunV_len n rs

set_option maxRecDepth 100000 in
set_option maxHeartbeats 1000000 in
theorem implObst2_any (n : Int) (rs : List Int) (ro : Option Addr) (rc : Nat) (w : World) (hr : IntsAt w ro rs) (hrl : rs.length ≤ 1048576) :
    Calls Try.prog 33 #[.agg #[.int .i64 n, .slice ro rs.length rc]] w (RetO w (obst2V n rs)) := by
  go_enter Try.func33, Try.ntmps33
  go_wp2_with fail
  generalize hW : w.alloc _ = W1
  obtain ⟨hB, -, k0⟩ := alloc1 hW
  replace hr := hr.below hB
  have hb0 := k0.lt
  have hc0 := k0.cell 0
  have hc1 := k0.cell 1
  simp at hc0 hc1
  clear hW k0
  have HhB := Lib.hid hB
  clear hB
  have HE : Hid (obst2V n rs = match holeV n rs with | some x => some x | none => sunV n rs) := rfl
  refine (implHole_any n rs ro rc W1 hr hrl).mono ?_
  rintro e w2 ⟨ao, cap, rfl, hB2, hO⟩
  obtain ⟨m, rfl⟩ : ∃ m2 : Later W1, m2.w = w2 := ⟨⟨w2, hB2⟩, rfl⟩
  generalize holeV n rs = O at *
  rcases O with _ | x
  · clear hO hB2
    go_wp2_with fail
    refine (implFindSun_any n rs ro rc m.w (hr.later m) hrl).mono ?_
    rintro e w4 ⟨ao, cap, rfl, hB4, hO⟩
    have hBB : Below w.heap.size w w4 := below_more' (below_later HhB.out m) hB4
    have hEE := hO.mono' (below_later HhB.out m).size
    clear hB4 hO
    have HhBB := Lib.hid hBB
    clear hBB
    have HhEE := Lib.hid hEE
    clear hEE
    go_wp2_with fail
    go_ret2
    exact ⟨ao, cap, by rw [HE.out]; rfl, HhBB.out, by rw [HE.out]; exact HhEE.out⟩
  · have hEE := hO.mono' HhB.out.size
    clear hO hB2
    have HhEE := Lib.hid hEE
    clear hEE
    go_wp2_with fail
    go_ret2
    exact ⟨ao, cap, by rw [HE.out]; rfl, below_later HhB.out m, by rw [HE.out]; exact HhEE.out⟩

set_option maxRecDepth 100000 in
set_option maxHeartbeats 1000000 in
theorem specObst2_any (n : Int) (rs : List Int) (ro : Option Addr) (rc : Nat) (w : World) (hr : IntsAt w ro rs) (hrl : rs.length ≤ 1048576) :
    Calls Try.prog 34 #[.agg #[.int .i64 n, .slice ro rs.length rc]] w (RetI w (obst2V n rs)) := by
  go_enter Try.func34, Try.ntmps34
  go_wp2_with fail
  generalize hW : w.alloc _ = W1
  obtain ⟨hB, -, k0⟩ := alloc1 hW
  replace hr := hr.below hB
  have hb0 := k0.lt
  have hc0 := k0.cell 0
  have hc1 := k0.cell 1
  simp at hc0 hc1
  clear hW k0
  have HhB := Lib.hid hB
  clear hB
  have HE : Hid (obst2V n rs = match holeV n rs with | some x => some x | none => sunV n rs) := rfl
  refine (specHole_any n rs ro rc W1 hr hrl).mono ?_
  rintro e w2 ⟨ao, cap, rfl, hB2, hO⟩
  obtain ⟨m, rfl⟩ : ∃ m2 : Later W1, m2.w = w2 := ⟨⟨w2, hB2⟩, rfl⟩
  generalize holeV n rs = O at *
  rcases O with _ | x
  · clear hO hB2
    go_wp2_with fail
    refine (specFindSun_any n rs ro rc m.w (hr.later m) hrl).mono ?_
    rintro e w4 ⟨ao, cap, rfl, hB4, hO⟩
    have hBB : Below w.heap.size w w4 := below_more' (below_later HhB.out m) hB4
    clear hB4
    have HhBB := Lib.hid hBB
    clear hBB
    have HhO := Lib.hid hO
    clear hO
    go_wp2_with fail
    go_ret2
    exact ⟨ao, cap, by rw [HE.out]; rfl, HhBB.out, by rw [HE.out]; exact HhO.out⟩
  · clear hB2
    have HhO := Lib.hid hO
    clear hO
    go_wp2_with fail
    go_ret2
    exact ⟨ao, cap, by rw [HE.out]; rfl, below_later HhB.out m, by rw [HE.out]; exact HhO.out⟩

end Go.Proofs.Ytgklgheaojoimaa

namespace Go.Proofs.Ytgklgheaojoimaa
open Go.RowKit

theorem wpList_later_drew {W : World} {P : Program} {ops : Array Oper} {Q : Exit → Act → World → Prop} {rest : List Oper} {a : Act} (m : Later W) (h : ∀ m' : Later W, wpList P ops Q rest a m'.w) : wpList P ops Q rest a m.w.drew :=
  h ⟨m.w.drew, m.below.drew⟩

/-- The closed hood of u in a set. -/
def hood (rs : List Int) (S u : Nat) : Nat := (gn rs u ||| 2 ^ u) &&& S
def nestB (a b : Nat) : Bool := decide (a &&& b = a ∨ a &&& b = b)
def nestAt (rs : List Int) (S : Nat) (L : List Nat) (i j : Nat) : Bool := nestB (hood rs S (eln L i)) (hood rs S (eln L j))
def simpleN (rs : List Int) (S v : Nat) : Bool := decide (∀ i, i < cnt (hood rs S v) → ∀ j, j < i → nestAt rs S (els (hood rs S v)) i j = true)
def simpleB (n : Int) (rs : List Int) (v s : Int) : Bool := isSetB n rs s && ((decide (0 ≤ v) && decide (v ≤ n - 1)) && (hasN s v.toNat && simpleN rs s.toNat v.toNat))
theorem simpleB_no {n : Int} {rs : List Int} {v s : Int} (h : isSetB n rs s = false) : simpleB n rs v s = false := by unfold simpleB; rw [h]; rfl
theorem simpleB_out {n : Int} {rs : List Int} {v s : Int} (h : (decide (0 ≤ v) && decide (v ≤ n - 1)) = false) : simpleB n rs v s = false := by unfold simpleB; rw [h]; simp
theorem simpleB_not {n : Int} {rs : List Int} {S v : Nat} (h : hasN (S : Int) v = false) : simpleB n rs v S = false := by unfold simpleB; rw [Int.toNat_natCast, Int.toNat_natCast, h]; simp
theorem simpleB_yes {n : Int} {rs : List Int} {S v : Nat} (h : isSetB n rs S = true) (h1 : (decide (0 ≤ (v : Int)) && decide ((v : Int) ≤ n - 1)) = true) (h2 : hasN (S : Int) v = true) : simpleB n rs v S = simpleN rs S v := by
  unfold simpleB; rw [Int.toNat_natCast, Int.toNat_natCast, h, h1, h2]; rfl
theorem simpleN_bad {rs : List Int} {S v i j : Nat} (hi : i < cnt (hood rs S v)) (hj : j < i) (h : nestAt rs S (els (hood rs S v)) i j = false) : simpleN rs S v = false := by
  unfold simpleN; rw [decide_eq_false_iff_not]; intro a; rw [a i hi j hj] at h; cases h
theorem simpleN_ok {rs : List Int} {S v : Nat} (h : ∀ i, i < cnt (hood rs S v) → ∀ j, j < i → nestAt rs S (els (hood rs S v)) i j = true) : simpleN rs S v = true := by unfold simpleN; rw [decide_eq_true h]

theorem hood_lt {rs : List Int} {S : Nat} (hS : S < 2 ^ rs.length) (u : Nat) : hood rs S u < 2 ^ rs.length := Nat.lt_of_le_of_lt Nat.and_le_right hS
/-- What the walks want of vertex u. -/
theorem hood_facts {rs : List Int} (g : VG rs) {S u : Nat} (hS : S < 2 ^ rs.length) (hu : u < rs.length) :
    pwN u = ((2 ^ u : Nat) : Int) ∧ bits .or .i64 (gn rs u : Int) ((2 ^ u : Nat) : Int) = ((gn rs u ||| 2 ^ u : Nat) : Int) ∧ bits .and .i64 ((gn rs u ||| 2 ^ u : Nat) : Int) (S : Int) = ((hood rs S u : Nat) : Int) := by
  have h1 := g.lt u hu
  have h2 := g.pow.1
  have h3 : 2 ^ u < 2 ^ rs.length := Nat.pow_lt_pow_right (by decide) hu
  have h4 : gn rs u ||| 2 ^ u < 2 ^ rs.length := Nat.or_lt_two_pow h1 h3
  have h6 := g.le
  exact ⟨pwN_small _ (by omega), bits_or_nat _ _ (by omega) (by omega), bits_and_nat _ _ (by omega) (by omega)⟩

set_option maxRecDepth 100000 in
set_option maxHeartbeats 400000 in
theorem specIsSimple_any (n : Int) (rs : List Int) (v s : Int) (ro : Option Addr) (rc : Nat) (w : World) (hr : IntsAt w ro rs) (hrl : rs.length ≤ 1048576) :
    Calls Try.prog 45 #[.agg #[.int .i64 n, .slice ro rs.length rc], .int .i64 v, .int .i64 s] w fun e w' => e = .returned (.bool (simpleB n rs v s)) ∧ Below w.heap.size w w' := by
  go_enter Try.func45, Try.ntmps45
  go_wp2_with fail
  generalize hW : w.alloc _ = W1
  obtain ⟨hB, -, k0⟩ := alloc1 hW
  replace hr := hr.below hB
  have hb0 := k0.lt
  have hc0 := k0.cell 0
  have hc1 := k0.cell 1
  simp at hc0 hc1
  clear hW k0
  have HhB := Lib.hid hB
  clear hB
  obtain ⟨m, hm0⟩ : ∃ m : Later W1, m.w = W1 := ⟨Later.refl _, rfl⟩
  refine (fun h => hm0 ▸ h) ?_
  clear hm0
  cases hv : isSetB n rs s
  · have HE := Lib.hid (simpleB_no (v := v) hv)
    go_wp2_with (first | (go_at_call 101; refine (Calls.later m (specIsSet_any _ _ _ _ _ _ (hr.later m) hrl)).mono ?_; rintro e w' ⟨rfl, m, rfl⟩))
    go_ret
    exact ⟨retB (by rw [HE.out]), below_later HhB.out m⟩
  obtain ⟨rfl, g, S, rfl, hS⟩ := isSetB_true hv
  have hg1 := g.pos
  have hg2 := g.le
  cases hw : (decide (0 ≤ v) && decide (v ≤ (rs.length : Int) - 1))
  · have HE := Lib.hid (simpleB_out (rs := rs) (s := S) hw)
    go_wp2_with (first | (go_at_call 101; refine (Calls.later m (specIsSet_any _ _ _ _ _ _ (hr.later m) hrl)).mono ?_; rintro e w' ⟨rfl, m, rfl⟩) | (go_at_call 84; refine (l1In_any _ _ _ _).mono ?_; rintro e w' ⟨rfl, rfl⟩))
    go_ret
    exact ⟨retB (by rw [HE.out]), below_later HhB.out m⟩
  have hw' := hw
  simp only [Bool.and_eq_true, decide_eq_true_eq] at hw'
  obtain ⟨v, rfl⟩ : ∃ v' : Nat, v = v' := ⟨v.toNat, by omega⟩
  have hvl : v < rs.length := by omega
  clear hw'
  cases hb : hasN (S : Int) v
  · have HE := Lib.hid (simpleB_not (n := rs.length) (rs := rs) hb)
    go_wp2_with (first | (go_at_call 101; refine (Calls.later m (specIsSet_any _ _ _ _ _ _ (hr.later m) hrl)).mono ?_; rintro e w' ⟨rfl, m, rfl⟩) | (go_at_call 84; refine (l1In_any _ _ _ _).mono ?_; rintro e w' ⟨rfl, rfl⟩))
    go_ret
    exact ⟨retB (by rw [HE.out]), below_later HhB.out m⟩
  · have HE := Lib.hid (simpleB_yes hv hw hb)
    obtain ⟨q1, q2, q3⟩ := hood_facts g hS hvl
    have hp := g.pow.1
    have hH := hood_lt hS v
    obtain ⟨rb, rofs, rfl, hrb, hrc⟩ := hr.graph g
    go_wp2_with (first | (go_at_call 101; refine (Calls.later m (specIsSet_any _ _ _ _ _ _ (hr.later m) hrl)).mono ?_; rintro e w' ⟨rfl, m, rfl⟩) | (go_at_call 84; refine (l1In_any _ _ _ _).mono ?_; rintro e w' ⟨rfl, rfl⟩))
    have q4 : bits .and .i64 (bits .or .i64 (gn rs v : Int) ((2 : Int) ^ v)) (S : Int) = ((hood rs S v : Nat) : Int) := by rw [show ((2 : Int) ^ v) = ((2 ^ v : Nat) : Int) by simp, q2, q3]
    go_still_tail 10, (by kernel_rfl)
    refine wpList_later_drew m fun m => ?_
    generalize hHd : hood rs S v = H at *
    have HhHd := Lib.hid hHd
    clear hHd
    go_wp2_with fail
    refine (specListN_any _ (by omega) _).mono ?_
    rintro e w2 ⟨lo, lc, rfl, hB2, hL⟩
    obtain ⟨m, rfl⟩ : ∃ m2 : Later W1, m2.w = w2 := ⟨m.on hB2, rfl⟩
    clear hB2 hc0 q1 q2 q3 q4 hrc hrb
    have hc7 := cnt_le H
    replace hr := hr.later m
    replace hc1 : m.w.cell? _ = _ := (m.cell _ _ hb0).trans hc1
    replace hb0 := Nat.lt_of_lt_of_le hb0 m.size
    replace HhB := Lib.hid (below_later HhB.out m)
    generalize m.w = W2 at *
    clear m
    go_wp2_with fail
    go_loopw [8] (fun i wr => (∃ m : Later W2, wr = m.w) ∧ ∃ k : Nat, k ≤ cnt H ∧ i = .int .i64 k ∧ ∀ i, i < k → ∀ j, j < i → nestAt rs S (els H) i j = true) (fun i _ => cnt H - (intOf i).toNat)
    case atStart => exact ⟨⟨Later.refl _, rfl⟩, 0, by omega, rfl, fun j h => by omega⟩
    case round =>
      obtain ⟨⟨m, rfl⟩, k, hk, rfl, hP⟩ := hrel
      have HhP := Lib.hid hP
      clear hP
      by_cases hlt : k < cnt H
      · go_wp2_with fail
        go_loopw [9] (fun i wr => (∃ m : Later W2, wr = m.w) ∧ ∃ t : Nat, t ≤ k ∧ i = .int .i64 t ∧ ∀ j, j < t → nestAt rs S (els H) k j = true) (fun i _ => k - (intOf i).toNat)
        case atStart => exact ⟨⟨m, rfl⟩, 0, by omega, rfl, fun j h => by omega⟩
        case round =>
          obtain ⟨⟨m, rfl⟩, t, ht, rfl, hR⟩ := hrel
          have HhR := Lib.hid hR
          clear hR
          by_cases htt : t < k
          · obtain ⟨rb', rofs', e', hrb, hrc⟩ := hr.graph g
            obtain ⟨rfl, rfl⟩ : rb = rb' ∧ rofs = rofs' := by simpa using e'
            obtain ⟨lb, lofs, rfl, hlb, hlc⟩ := hL (by unfold cnt at hlt; omega)
            have htl : t < cnt H := by omega
            have hx1 := (els_at hH hg2 hlt).1
            have hy1 := (els_at hH hg2 htl).1
            have hxc := hlc k hlt
            have hyc := hlc t htl
            have HQ : Hid (nestAt rs S (els H) k t = nestB (hood rs S (eln (els H) k)) (hood rs S (eln (els H) t))) := rfl
            clear hlc e'
            generalize eln (els H) k = x at *
            generalize eln (els H) t = y at *
            obtain ⟨a1, a2, a3⟩ := hood_facts g hS hx1
            obtain ⟨b1, b2, b3⟩ := hood_facts g hS hy1
            have a4 : bits .and .i64 (bits .or .i64 (gn rs x : Int) ((2 : Int) ^ x)) (S : Int) = ((hood rs S x : Nat) : Int) := by rw [show ((2 : Int) ^ x) = ((2 ^ x : Nat) : Int) by simp, a2, a3]
            have b4 : bits .and .i64 (bits .or .i64 (gn rs y : Int) ((2 : Int) ^ y)) (S : Int) = ((hood rs S y : Nat) : Int) := by rw [show ((2 : Int) ^ y) = ((2 ^ y : Nat) : Int) by simp, b2, b3]
            have hA := hood_lt hS x
            have hB := hood_lt hS y
            have q := bits_and_nat (hood rs S x) (hood rs S y) (by omega) (by omega)
            generalize hood rs S x = A at *
            generalize hood rs S y = B at *
            have HQ' : Hid (∀ b1 b2, (((A &&& B : Nat) : Int) != (A : Int)) = b1 → (((A &&& B : Nat) : Int) != (B : Int)) = b2 → nestAt rs S (els H) k t = !(b1 && b2)) := fun b1 b2 h1 h2 => by
              rw [HQ.out, ← h1, ← h2]; unfold nestB; rw [Bool.eq_iff_iff, decide_eq_true_eq]; simp only [Bool.not_eq_true', Bool.and_eq_false_iff, bne_eq_false_iff_eq]; omega
            generalize A &&& B = C at *
            go_wp2_with fail
            refine wp_region_later m rfl (by kernel_rfl) (by kernel_rfl) ?_
            repeat (go_big_quiet_step (fail))
            refine wpQuiet_nil ?_
            rintro _ ⟨m, rfl⟩
            go_wp2_with fail
            refine wp_region_later m rfl (by kernel_rfl) (by kernel_rfl) ?_
            repeat (go_big_quiet_step (fail))
            refine wpQuiet_nil ?_
            rintro _ ⟨m, rfl⟩
            clear a1 a2 a3 a4 b1 b2 b3 b4 hxc hyc hrc
            cases c1 : ((C : Int) != (A : Int))
            · go_wp2_with fail
              go_roundw
              case rel => exact ⟨⟨m, rfl⟩, t + 1, by omega, by go_num, all_succ HhR.out (by rw [HQ'.out _ _ c1 rfl]; rfl)⟩
              case measure => simp [intOf]; omega
            · cases c2 : ((C : Int) != (B : Int))
              all_goals go_wp2_with fail
              · go_roundw
                case rel => exact ⟨⟨m, rfl⟩, t + 1, by omega, by go_num, all_succ HhR.out (by rw [HQ'.out _ _ c1 c2]; rfl)⟩
                case measure => simp [intOf]; omega
              · go_ret
                have HJ := simpleN_bad (v := v) (by rw [HhHd.out]; exact hlt) htt (by rw [HhHd.out, HQ'.out _ _ c1 c2]; rfl)
                exact ⟨retB (by rw [HE.out, HJ]), below_later HhB.out m⟩
          · go_wp2_with fail
            go_roundw
            case rel => exact ⟨⟨m, rfl⟩, k + 1, by omega, by go_num, all_succ HhP.out (fun j h => HhR.out j (by omega))⟩
            case measure => simp [intOf]; omega
      · have HJ : Hid (simpleN rs S v = true) := simpleN_ok (by rw [HhHd.out]; exact fun i h => HhP.out i (by omega))
        go_wp2_with fail
        go_ret
        exact ⟨retB (by rw [HE.out, HJ.out]), below_later HhB.out m⟩

end Go.Proofs.Ytgklgheaojoimaa
