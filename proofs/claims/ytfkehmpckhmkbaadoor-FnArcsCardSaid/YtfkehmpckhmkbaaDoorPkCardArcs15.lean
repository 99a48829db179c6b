/-
  Lists of slices ([][]int) that a call itself makes and appends to.
  The walks of IsClique and IsCliqueCover on both sides. For at most 2^20 rows and sets.
-/
import Derived.Test.YtfkehmpckhmkbaaDoorPkCardArcs04
import Derived.Test.YtfkehmpckhmkbaaDoorPkCardArcs08
namespace Go.Proofs.YtfkehmpckhmkbaaDoor
open Go.RowKit

theorem info_row : (Tryd.prog.info? 24).map (fun i => (i.zero, i.size, i.bytes)) = some (some (.slice none 0 0), 1, 24) := by kernel_rfl

/-- The slice value v owns the slices xs in a row of the call's own, from block 'base' on. -/
def OwnV (w : World) (base : Nat) (v : Value) (xs : List Value) : Prop := w.ownsRow base 24 1 v xs.length xs

theorem OwnV.cells {w : World} {base n cap : Nat} {ao : Option Addr} {xs : List Value} (h : OwnV w base (.slice ao n cap) xs) (h0 : 0 < xs.length) : ∃ g, ao = some ⟨g, 0, none⟩ ∧ base ≤ g ∧ g < w.heap.size ∧ ∀ k u, xs[k]? = some u → w.cell? ⟨g, k, none⟩ = some u := by
  obtain ⟨hl, h1 | ⟨g, cp, cur, hv, hg, hb, hn, hm, hsz, ht⟩⟩ := h
  · omega
  · simp only [Value.slice.injEq] at hv
    obtain ⟨rfl, -, -⟩ := hv
    refine ⟨g, rfl, hg, (Array.getElem?_eq_some_iff.1 hb).1, fun k u hk => ?_⟩
    obtain ⟨hkl, -⟩ := List.getElem?_eq_some_iff.1 hk
    have : cur[k]? = some u := by
      have e : (cur.toList.take (xs.length * 1))[k]? = xs[k]? := by rw [ht]
      rw [List.getElem?_take, if_pos (by omega), Array.getElem?_toList] at e
      rw [e]; exact hk
    simp only [World.cell?, hb]
    simpa using this

theorem OwnV.form {w : World} {base : Nat} {v : Value} {xs : List Value} (h : OwnV w base v xs) : ∃ ao cap, v = .slice ao xs.length cap := by
  obtain ⟨hl, ⟨h1, h2⟩ | ⟨g, cp, cur, hv, -⟩⟩ := h
  · exact ⟨none, 0, by rw [h1, h2]⟩
  · exact ⟨_, _, hv⟩

theorem OwnV.alloc {w : World} {base : Nat} {v : Value} {xs : List Value} (h : OwnV w base v xs) (o : Obj) : OwnV (w.alloc o) base v xs := World.ownsRow.alloc h o

theorem OwnV.below {w w' : World} {base : Nat} {v : Value} {xs : List Value} (h : OwnV w base v xs) (hb : Below w.heap.size w w') : OwnV w' base v xs := by
  obtain ⟨h0, h1 | ⟨g, cap, cur, hv, hg, hh, r⟩⟩ := h
  · exact ⟨h0, .inl h1⟩
  · exact ⟨h0, .inr ⟨g, cap, cur, hv, hg, by rw [hb.block g (Array.getElem?_eq_some_iff.1 hh).1]; exact hh, r⟩⟩

/-- '[][]int{}' -/
theorem OwnV.empty (w : World) : OwnV (w.alloc (.cells #[] 24)) w.heap.size (.slice (some ⟨w.heap.size, 0, none⟩) 0 0) [] :=
  ⟨by simp, .inr ⟨w.heap.size, 0, #[], rfl, Nat.le_refl _, by show (w.heap.push _)[w.heap.size]? = _; simp, Nat.le_refl _, by simp, by simp, by simp⟩⟩

theorem OwnV.own {w : World} {base : Nat} {v : Value} {xs : List Value} (h : OwnV w base v xs) : ∀ k, v.ownBlock = some k → base ≤ k := by
  intro k hk
  obtain ⟨hl, ⟨h1, h2⟩ | ⟨g, cp, cur, hv, hg, -⟩⟩ := h
  · rw [h1] at hk; cases hk
  · rw [hv] at hk
    simp only [Value.ownBlock, Option.some.injEq] at hk
    omega


end Go.Proofs.YtfkehmpckhmkbaaDoor

namespace Go.Proofs.YtfkehmpckhmkbaaDoor
open Go.RowKit

/-- Vertex v of S lacks a neighbour in S. -/
def cliqueBad (rs : List Int) (S v : Nat) : Bool := S.testBit v && decide (¬ gn rs v &&& S = S - 2 ^ v)
def cliqueN (rs : List Int) (S : Nat) : Bool := decide (∀ v, v < rs.length → cliqueBad rs S v = false)
def cliqueB (n : Int) (rs : List Int) (s : Int) : Bool := isSetB n rs s && cliqueN rs s.toNat
theorem cliqueB_no {n : Int} {rs : List Int} {s : Int} (h : isSetB n rs s = false) : cliqueB n rs s = false := by unfold cliqueB; rw [h]; rfl
theorem cliqueN_bad {rs : List Int} {S v : Nat} (hv : v < rs.length) (h : cliqueBad rs S v = true) : cliqueN rs S = false := by
  unfold cliqueN; rw [decide_eq_false_iff_not]; intro a; rw [a v hv] at h; cases h
theorem cliqueN_ok {rs : List Int} {S : Nat} (h : ∀ v, v < rs.length → cliqueBad rs S v = false) : cliqueN rs S = true := by unfold cliqueN; rw [decide_eq_true_eq]; exact h
theorem cliqueB_nat {n : Int} {rs : List Int} {S : Nat} (h : isSetB n rs S = true) : cliqueB n rs S = cliqueN rs S := by unfold cliqueB; rw [h, Bool.true_and, Int.toNat_natCast]

set_option maxHeartbeats 1000000 in
theorem specIsClique_any (n : Int) (rs : List Int) (s : Int) (ro : Option Addr) (rc : Nat) (w : World) (hr : IntsAt w ro rs) (hrl : rs.length ≤ 1048576) :
    Calls Tryd.prog 17 #[.agg #[.int .i64 n, .slice ro rs.length rc], .int .i64 s] w fun e w' => e = .returned (.bool (cliqueB n rs s)) ∧ Below w.heap.size w w' := by
  go_enter Tryd.func17, Tryd.ntmps17
  go_wp2_with fail
  generalize hW : w.alloc _ = W1
  obtain ⟨hB, -, k0⟩ := alloc1 hW
  replace hr := hr.below hB
  have hb0 := k0.lt
  have hc0 := k0.cell 0
  have hc1 := k0.cell 1
  simp at hc0 hc1
  clear hW k0
  have HhB := Lib.hid hB
  clear hB
  obtain ⟨m, hm0⟩ : ∃ m : Later W1, m.w = W1 := ⟨Later.refl _, rfl⟩
  refine (fun h => hm0 ▸ h) ?_
  clear hm0
  cases hv : isSetB n rs s
  · have HE := Lib.hid (cliqueB_no hv)
    go_wp2_with (first | (go_at_call 39; refine (Calls.later m (specIsSet_any _ _ _ _ _ _ (hr.later m) hrl)).mono ?_; rintro e w' ⟨rfl, m, rfl⟩))
    go_ret
    exact ⟨retB (by rw [HE.out]), below_later HhB.out m⟩
  · obtain ⟨rfl, g, S, rfl, hS⟩ := isSetB_true hv
    have HE := Lib.hid (cliqueB_nat hv)
    have hg1 := g.pos
    have hg2 := g.le
    have hp := g.pow.1
    go_wp2_with (first | (go_at_call 39; refine (Calls.later m (specIsSet_any _ _ _ _ _ _ (hr.later m) hrl)).mono ?_; rintro e w' ⟨rfl, m, rfl⟩))
    go_loopw [5] (fun i wr => (∃ m : Later W1, wr = m.w) ∧ ∃ k : Nat, k ≤ rs.length ∧ i = .int .i64 k ∧ ∀ v, v < k → cliqueBad rs S v = false) (fun i _ => rs.length - (intOf i).toNat)
    case atStart => exact ⟨⟨m, rfl⟩, 0, by omega, rfl, fun v h => by omega⟩
    case round =>
      obtain ⟨⟨m, rfl⟩, k, hk, rfl, hP⟩ := hrel
      have HhP := Lib.hid hP
      clear hP
      by_cases hlt : k < rs.length
      · obtain ⟨rb, rofs, rfl, hrb, hrc⟩ := hr.graph g
        have hl := g.lt k hlt
        have q1 : pwN k = ((2 ^ k : Nat) : Int) := pwN_small _ (by omega)
        have q2 : bits .and .i64 (gn rs k : Int) (S : Int) = ((gn rs k &&& S : Nat) : Int) := bits_and_nat _ _ (by omega) (by omega)
        have q3 : 2 ^ k ≤ 2 ^ rs.length := Nat.pow_le_pow_right (by decide) (by omega)
        have q4 : gn rs k &&& S ≤ S := Nat.and_le_right
        go_wp2_with fail
        cases hb : S.testBit k
        · have hb' : hasN (S : Int) k = false := by rw [hasN_nat]; exact hb
          have HQ : Hid (cliqueBad rs S k = false) := by show cliqueBad rs S k = false; unfold cliqueBad; rw [hb]; rfl
          clear hb q1 q2 q4
          refine wp_region_later m rfl (by kernel_rfl) (by kernel_rfl) ?_
          repeat (go_big_quiet_step (fail))
          refine wpQuiet_nil ?_
          rintro _ ⟨m, rfl⟩
          go_wp2_with fail
          go_roundw
          case rel => exact ⟨⟨m, rfl⟩, k + 1, by omega, by go_num, all_succ HhP.out HQ.out⟩
          case measure => simp [intOf]; omega
        · have hb' : hasN (S : Int) k = true := by rw [hasN_nat]; exact hb
          have hle := pow_le_of_testBit hb
          have HQ : Hid (∀ b, (((gn rs k &&& S : Nat) : Int) != (S : Int) - ((2 ^ k : Nat) : Int)) = b → cliqueBad rs S k = b) := fun b h => by
            unfold cliqueBad; rw [hb, Bool.true_and, ← h, Bool.eq_iff_iff, decide_eq_true_eq, bne_iff_ne]
            constructor <;> intro h1 h2 <;> apply h1 <;> omega
          clear hb
          generalize gn rs k &&& S = A at *
          generalize 2 ^ k = C at *
          cases hc : ((A : Int) != (S : Int) - (C : Int))
          all_goals
            refine wp_region_later m rfl (by kernel_rfl) (by kernel_rfl) ?_
            repeat (go_big_quiet_step (fail))
            refine wpQuiet_nil ?_
            rintro _ ⟨m, rfl⟩
            go_wp2_with fail
          · go_roundw
            case rel => exact ⟨⟨m, rfl⟩, k + 1, by omega, by go_num, all_succ HhP.out (HQ.out _ hc)⟩
            case measure => simp [intOf]; omega
          · go_ret
            exact ⟨retB (by rw [HE.out, cliqueN_bad hlt (HQ.out _ hc)]), below_later HhB.out m⟩
      · go_wp2_with fail
        go_ret
        exact ⟨retB (by rw [HE.out, cliqueN_ok (fun v h => HhP.out v (by omega))]), below_later HhB.out m⟩



/-! ### IsCliqueCover -/
/-- The first k sets together. -/
def accTo (l : List Int) : Nat → Nat
  | 0 => 0
  | k + 1 => accTo l k ||| (gi l k).toNat
def coverAt (n : Int) (rs l : List Int) (j : Nat) : Bool := cliqueB n rs (gi l j) && decide (accTo l j &&& (gi l j).toNat = 0)
def coverB (n : Int) (rs l : List Int) : Bool := isGraphB n rs && decide ((∀ j, j < l.length → coverAt n rs l j = true) ∧ accTo l l.length = 2 ^ rs.length - 1)
theorem coverB_no {n : Int} {rs l : List Int} (h : isGraphB n rs = false) : coverB n rs l = false := by unfold coverB; rw [h]; rfl
theorem coverB_bad {n : Int} {rs l : List Int} {j : Nat} (hj : j < l.length) (h : coverAt n rs l j = false) : coverB n rs l = false := by
  unfold coverB; rw [decide_eq_false, Bool.and_false]; rintro ⟨a, _⟩; rw [a j hj] at h; cases h
theorem coverB_end {n : Int} {rs l : List Int} (hg : isGraphB n rs = true) (h : ∀ j, j < l.length → coverAt n rs l j = true) : coverB n rs l = (((accTo l l.length : Nat) : Int) == ((2 ^ rs.length - 1 : Nat) : Int)) := by
  unfold coverB; rw [hg, Bool.true_and, Bool.eq_iff_iff, decide_eq_true_eq, beq_iff_eq]
  exact ⟨fun ⟨_, b⟩ => by rw [b], fun b => ⟨h, Int.ofNat_inj.1 b⟩⟩
theorem cliqueB_graph {n : Int} {rs : List Int} {s : Int} (h : cliqueB n rs s = true) : isSetB n rs s = true := by unfold cliqueB at h; simp only [Bool.and_eq_true] at h; exact h.1
theorem cliqueB_inv {n : Int} {rs : List Int} {s : Int} (h : isGraphB n rs = false) : cliqueB n rs s = false := by unfold cliqueB isSetB; rw [h]; rfl
theorem accTo_lt {rs l : List Int} {k : Nat} (h : ∀ j, j < k → coverAt rs.length rs l j = true) : accTo l k < 2 ^ rs.length := by
  induction k with
  | zero => exact Nat.two_pow_pos _
  | succ k ih =>
    have := h k (by omega)
    unfold coverAt at this
    simp only [Bool.and_eq_true] at this
    obtain ⟨_, _, S, h1, h2⟩ := isSetB_true (cliqueB_graph this.1)
    unfold accTo
    exact Nat.or_lt_two_pow (ih fun j hj => h j (by omega)) (by rw [h1]; simpa using h2)

/-- What the walks want of set k, where it is a clique. -/
theorem cover_facts {rs l : List Int} {k : Nat} (g : VG rs) (h : ∀ j, j < k → coverAt rs.length rs l j = true) (hc : cliqueB rs.length rs (gi l k) = true) :
    bits .and .i64 (accTo l k : Int) (gi l k) = ((accTo l k &&& (gi l k).toNat : Nat) : Int) ∧ bits .or .i64 (accTo l k : Int) (gi l k) = ((accTo l (k + 1) : Nat) : Int) := by
  obtain ⟨_, _, S, h1, h2⟩ := isSetB_true (cliqueB_graph hc)
  have h3 := accTo_lt h
  have h4 := g.pow.1
  rw [h1, Int.toNat_natCast]
  exact ⟨bits_and_nat _ _ (by omega) (by omega), by rw [bits_or_nat _ _ (by omega) (by omega)]; show _ = ((accTo l k ||| (gi l k).toNat : Nat) : Int); rw [h1, Int.toNat_natCast]⟩



end Go.Proofs.YtfkehmpckhmkbaaDoor
