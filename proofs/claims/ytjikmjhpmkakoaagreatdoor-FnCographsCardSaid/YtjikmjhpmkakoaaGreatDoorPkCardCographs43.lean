/-
  has of the laws: a number that is not in a list. For at most 2^20 numbers.
  PruneOrder and IsHereditary of the program. For at most 2^20 rows.
  The walks of IsArcs, of the reference and of the program: both return isArcsB, for lists of at most 2^20 elements.
  The walks of l23On, contains, ArcsAt of the reference and of the program. For lists of at most 2^20 elements.
  graphOf of the program, for whatever test of two vertices: the graph of the pairs that pass. For 1 to 7 vertices.
  GraphOfArcs on both sides. For lists of at most 2^20 elements.
  CutArcs: the two lists that come of cutting a circle of arcs at a point; what a call that makes them returns; eqIntervals. For at most 2^20 elements.
  The walks of CoversCircle and FreePoint of the reference and of the program. For lists of at most 2^20 elements.
  A circle that is cut at a free point leaves intervals that meet as the arcs did; the arcs at a point meet. No conditions.
  GraphOfArcs on both sides, as the law wants it: a list of rows and whether it is a graph.
  What FnArcs calls beside the arcs' own functions: EqualGraphs of both sides, IsModelOf, sameModel. For at most 2^20 elements.
-/
import Derived.Test.YtjikmjhpmkakoaaGreatDoorPkCardCographs03
import Derived.Test.YtjikmjhpmkakoaaGreatDoorPkCardCographs18
import Derived.Test.YtjikmjhpmkakoaaGreatDoorPkCardCographs01
import Derived.Test.YtjikmjhpmkakoaaGreatDoorPkCardCographs17
import Derived.Test.YtjikmjhpmkakoaaGreatDoorPkCardCographs13
import Derived.Laws.EntriesVeiled
import Derived.StillTailTactics
import Derived.Test.YtjikmjhpmkakoaaGreatDoorPkCardCographs11
import Derived.Test.YtjikmjhpmkakoaaGreatDoorPkCardCographs16
import Derived.Deep.CutRange
namespace Go.Proofs.YtjikmjhpmkakoaaGreatDoor
open Go.RowKit

set_option maxHeartbeats 1000000 in
theorem lawHas_none (xs : List Int) (x : Int) (ao : Option Addr) (c : Nat) (w : World) (hx : IntsAt w ao xs) (hl : xs.length ≤ 1048576) (hn : ∀ y ∈ xs, y ≠ x) :
    Calls Tryz.prog 36 #[.slice ao xs.length c, .int .i64 x] w fun e w' => e = .returned (.bool false) ∧ Below w.heap.size w w' := by
  have hno : ∀ k, k < xs.length → (gi xs k == x) = false := fun k hk => by
    rw [beq_eq_false_iff_ne]
    exact hn _ (by unfold gi; simp [hk])
  go_enter Tryz.func36, Tryz.ntmps36
  go_wp2_with fail
  go_loopw [5] (fun i wr => (∃ m : Later w, wr = m.w) ∧ ∃ k : Nat, k ≤ xs.length ∧ i = .int .i64 k) (fun i _ => xs.length - (intOf i).toNat)
  case atStart => exact ⟨⟨Later.refl _, rfl⟩, 0, by omega, rfl⟩
  case round =>
    obtain ⟨⟨m, rfl⟩, k, hk, rfl⟩ := hrel
    by_cases hlt : k < xs.length
    · obtain ⟨b, off, rfl, hbl, hc⟩ := hx (by omega)
      have hkc := hc k hlt
      have hnk := hno k hlt
      clear hc hno hn
      generalize gi xs k = y at *
      go_wp2_with fail
      go_roundw
      case rel => exact ⟨⟨m, rfl⟩, k + 1, by omega, by go_num⟩
      case measure => simp [intOf]; omega
    · go_wp2_with fail
      go_ret
      exact ⟨rfl, m.below⟩

end Go.Proofs.YtjikmjhpmkakoaaGreatDoor

namespace Go.Proofs.YtjikmjhpmkakoaaGreatDoor
open Go.RowKit

theorem testV_set {rs : List Int} {S j : Nat} (h : testV rs S j = true) : S.testBit j = true := by unfold testV at h; simp only [Bool.and_eq_true] at h; exact h.1

set_option maxRecDepth 100000 in
set_option maxHeartbeats 4000000 in
theorem implPrunes_any (n : Int) (rs : List Int) (ro : Option Addr) (rc : Nat) (w : World) (hr : IntsAt w ro rs) (hrl : rs.length ≤ 1048576) :
    Calls Tryz.prog 7 #[.agg #[.int .i64 n, .slice ro rs.length rc]] w (RetPs w (prunesV n rs)) := by
  have hG := fun w0 (h : Below w.heap.size w w0) => implIsGraph_any n rs ro rc w0 (hr.below h) hrl
  have HG := Lib.hid hG
  clear hG
  go_enter Tryz.func7, Tryz.ntmps7
  go_wp2_with fail
  generalize hW : w.alloc _ = W1
  obtain ⟨hB, -, k0⟩ := alloc1 hW
  replace hr := hr.below hB
  have hb0 := k0.lt
  have hc0 := k0.cell 0
  have hc1 := k0.cell 1
  simp at hc0 hc1
  clear hW k0
  have HhB := Lib.hid hB
  clear hB
  have hG := fun m : Later W1 => HG.out m.w (below_later HhB.out m)
  obtain ⟨m, hm0⟩ : ∃ m : Later W1, m.w = W1 := ⟨Later.refl _, rfl⟩
  refine (fun h => hm0 ▸ h) ?_
  clear hm0
  cases hv : isGraphB n rs
  · have HE := Lib.hid (prunesV_no hv)
    rw [hv] at hG
    go_wp2_with (first | (go_at_call 45; refine (Calls.later m (hG _)).mono ?_; rintro e w' ⟨rfl, m, rfl⟩))
    go_ret2
    exact ⟨none, 0, by rw [HE.out]; rfl, below_later HhB.out m, by rw [HE.out]; exact OwnP.nil _ _⟩
  obtain ⟨rfl, g⟩ := VG.of hv
  have HE := Lib.hid (prunesV_of hv)
  rw [hv] at hG
  have hN7 := g.le
  have hp7 := g.pow.1
  have hall : (2 ^ rs.length - 1 : Nat) < 2 ^ rs.length := by have := Nat.two_pow_pos rs.length; omega
  have hcall : cnt (2 ^ rs.length - 1) = rs.length := by
    have h3 : ∀ N : Fin 8, cnt (2 ^ N.val - 1) = N.val := by decide +kernel
    exact h3 ⟨rs.length, by omega⟩
  have Hcall := Lib.hid hcall
  clear hcall
  refine (Calls.later _ (hG m)).mono ?_
  rintro e w' ⟨rfl, m, rfl⟩
  clear hG
  have hms := m.size
  have hbm := Nat.lt_of_lt_of_le hb0 hms
  go_wp2_with fail
  clear hbm
  generalize hW : World.alloc _ _ = W2
  obtain ⟨hB2, -, -⟩ := alloc1 hW
  have hOE : OwnP W2 W1.heap.size (some ⟨m.w.heap.size, 0, none⟩) 0 [] := OwnP.empty _ _ _
  obtain ⟨m2, rfl⟩ : ∃ m2 : Later W1, m2.w = W2 := ⟨m.on hB2, rfl⟩
  clear hW hB2
  refine (implAll_any rs.length (.slice ro rs.length rc) hN7 m2.w).mono ?_
  rintro e w3 ⟨rfl, hB3⟩
  replace hOE := hOE.below hB3
  obtain ⟨m3, rfl⟩ : ∃ m3 : Later W1, m3.w = w3 := ⟨m2.on hB3, rfl⟩
  clear hB3 m2
  generalize m.w.heap.size = eb0 at *
  clear m
  go_wp2_with fail
  go_loopw [4, 5] (fun o l wr => (∃ m : Later W1, wr = m.w) ∧ ∃ (S : Nat) (ps : List Prn) (ao : Option Addr) (cap : Nat), S < 2 ^ rs.length ∧ l = .int .i64 S ∧ o = .slice ao ps.length cap ∧ ps.length + cnt S = rs.length ∧ OwnP wr W1.heap.size ao cap ps ∧ pruneRun rs (cnt S) S ps = prunesV rs.length rs) (fun _ l _ => (intOf l).toNat)
  case atStart => exact ⟨⟨m3, rfl⟩, 2 ^ rs.length - 1, [], _, 0, hall, rfl, rfl, by rw [Hcall.out]; simp, hOE, by rw [Hcall.out, HE.out]⟩
  case round =>
    clear hOE m3
    obtain ⟨⟨m, rfl⟩, S, ps, ao, cap, hS, rfl, rfl, hln, hO, hR⟩ := hrel
    have hln2 : ps.length ≤ 7 := by omega
    have Hln := Lib.hid hln
    clear hln
    have HR := Lib.hid hR
    clear hR
    by_cases h0 : 0 < S
    · have d0 : ((S : Int) != 0) = true := by rw [bne_iff_ne]; omega
      have hS7 : S < 128 := by omega
      have HO := Lib.hid hO
      clear hO
      go_wp2_with fail
      refine (implListB_any S hS7 m.w).mono ?_
      rintro e w4 ⟨lo, lc, rfl, hB4, hL⟩
      replace HO := Lib.hid (HO.out.below hB4)
      have hm4 : W1.heap.size ≤ m.w.heap.size := m.size
      obtain ⟨m4, rfl⟩ : ∃ m4 : Later W1, m4.w = w4 := ⟨m.on hB4, rfl⟩
      clear hB4
      have hC7 := cnt_le S
      have HL := Lib.hid hL
      clear hL
      generalize m.w.heap.size = lb at *
      clear m
      have HW : Hid (∀ m5 : Later m4.w, ∃ m' : Later W1, m'.w = m5.w) := Lib.hid fun m5 => ⟨m4.on m5.below, rfl⟩
      have k0 := (m4.cell _ _ hb0).trans hc0
      have k1 := (m4.cell _ _ hb0).trans hc1
      have kr := hr.later m4
      have kb := Nat.lt_of_lt_of_le hb0 m4.size
      have hWW := m4.size
      have HB12 := Lib.hid m4.below
      generalize m4.w = W2 at *
      clear m4
      have HFull := Lib.hid (fun (hT : ∀ t, t < cnt S → testV rs S (eln (els S) t) = false) => first_none (N := rs.length) (p := testV rs S) hS hN7 (fun j h => testV_set h) hT)
      have HHit := Lib.hid (fun k (hk : k < cnt S) (hT : ∀ t, t < k → testV rs S (eln (els S) t) = false) h => first_els (N := rs.length) (p := testV rs S) hS hN7 (fun j h => testV_set h) hk hT h)
      obtain ⟨m, hm0⟩ : ∃ m : Later W2, m.w = W2 := ⟨Later.refl _, rfl⟩
      refine (fun h => hm0 ▸ h) ?_
      clear hm0
      go_wp2_with fail
      go_loopw [4, 5, 6, 22] (fun o l fd i wr => (∃ m : Later W2, wr = m.w) ∧ fd = .bool false ∧ l = .int .i64 S ∧ o = .slice ao ps.length cap ∧ ∃ j : Nat, j ≤ cnt S ∧ i = .int .i64 j ∧ ∀ t, t < j → testV rs S (eln (els S) t) = false) (fun _ _ _ i _ => cnt S - (intOf i).toNat)
      case atStart => exact ⟨⟨m, rfl⟩, rfl, rfl, rfl, 0, by omega, rfl, fun t h => by omega⟩
      case round =>
        obtain ⟨⟨m, rfl⟩, rfl, rfl, rfl, j, hj, rfl, hT⟩ := hrel
        have HT := Lib.hid hT
        clear hT
        by_cases hjt : j < cnt S
        · obtain ⟨lb2, rfl, -, hlb, hlc⟩ := HL.out (by unfold cnt at hjt; omega)
          have hcj := hlc j (by unfold cnt at hjt; exact hjt)
          obtain ⟨hEl, hb⟩ := els_at hS hN7 hjt
          have hC := fun m : Later W2 => pruneOf_any rs (eln (els S) j) S ro rc m.w g hS hb (kr.later m)
          have HTn := Lib.hid (fun h => all_succ (p := fun t => testV rs S (eln (els S) t) = false) HT.out h)
          have hHit := Lib.hid (fun h => HHit.out j hjt HT.out h)
          clear hlc
          generalize eln (els S) j = u at *
          have Hb := Lib.hid hb
          clear hb
          cases hpv : pruneV rs S u with
          | none =>
            rw [hpv] at hC
            have hf := HTn.out (by unfold testV; rw [hpv]; simp)
            clear hpv
            have Hhf := Lib.hid hf
            clear hf
            go_wp2_with fail
            refine (hC m).mono ?_
            rintro e w3 ⟨rfl, hB3⟩
            obtain ⟨m, rfl⟩ : ∃ m2 : Later W2, m2.w = w3 := ⟨m.on hB3, rfl⟩
            clear hB3 hC
            go_wp2_with fail
            go_roundw
            case rel => exact ⟨⟨m.on ((Below.refl _ _).alloc (Nat.le_refl _) _), rfl⟩, rfl, rfl, rfl, j + 1, by omega, by go_num, Hhf.out⟩
            case measure => simp [intOf]; omega
          | some p =>
            have hnx : nextV rs S = some u := hHit.out (by unfold testV; rw [Hb.out, hpv]; rfl)
            rw [hpv] at hC
            have Hpv := Lib.hid hpv
            have hx : ps.length ≤ 1048576 := by omega
            have hU := minus_facts hN7 hS Hb.out
            have hand : bits .andNot .i64 (S : Int) (pwN u) = ((S - 2 ^ u : Nat) : Int) := by
              have := Nat.pow_le_pow_right (n := 2) (by decide) (show u ≤ 6 by omega)
              rw [pwN_small u (by omega), bits_andNot_nat _ _ (by omega), nDiff_minus hS7 (pow_sub Hb.out)]
            have hR2 : pruneRun rs (cnt (S - 2 ^ u)) (S - 2 ^ u) (ps ++ [p]) = prunesV rs.length rs := by
              rw [← HR.out, hU.2, pruneRun_some (by omega) hnx hpv]
            have hln3 : (ps ++ [p]).length + cnt (S - 2 ^ u) = rs.length := by
              have := Hln.out
              rw [hU.2] at this
              simp; omega
            have hup := Nat.two_pow_pos u
            have hle := (pow_sub Hb.out).le
            have Hl3 := Lib.hid hln3
            have HS2 := Lib.hid hU.1
            have hlt : S - 2 ^ u < S := by omega
            clear hpv hnx hln3 hU hup hle HTn hHit
            obtain ⟨p1, p2, p3⟩ := p
            have HhR2 := Lib.hid hR2
            clear hR2
            go_wp2_with fail
            refine (hC m).mono ?_
            rintro e w3 ⟨rfl, hB3⟩
            obtain ⟨m, rfl⟩ : ∃ m2 : Later W2, m2.w = w3 := ⟨m.on hB3, rfl⟩
            clear hB3 hC
            generalize S - 2 ^ u = S2 at *
            go_wp2_with fail
            generalize hW : World.alloc _ _ = W4
            obtain ⟨hB4, -, k4⟩ := alloc1 hW
            have y0 := k4.cell 0
            have y1 := k4.cell 1
            have y2 := k4.cell 2
            have y3 := k4.lt
            simp at y0 y1 y2
            have hO4 := (HO.out.below m.below).below hB4
            have hB5 := below_more m.below hB4
            have hW4 : W1.heap.size ≤ W4.heap.size := Nat.le_trans hWW hB5.size
            generalize m.w.heap.size = pb at *
            clear hW k4 hB4
            have HB14 := Lib.hid (HB12.out.trans (hB5.mono hWW))
            have HhO4 := Lib.hid hO4
            clear hO4
            have HhB5 := Lib.hid hB5
            clear hB5
            go_region_law (refine step_append_p (by rfl) _ _ (by rfl) W1.heap.size cap ao ps (p1, p2, p3) W4.heap.size (by rfl) (HhO4.out.below (by first | exact ((Below.refl _ _).alloc (Nat.le_refl _) _).drew | exact (Below.refl _ _).drew.alloc (Nat.le_refl _) _)) (by rfl) (by first | exact cell_new3 (by simp) (by rfl) | exact cell_new3 (w := W4) rfl (by rfl)) (by first | exact cell_new3 (by simp) (by rfl) | exact cell_new3 (w := W4) rfl (by rfl)) (by first | exact cell_new3 (by simp) (by rfl) | exact cell_new3 (w := W4) rfl (by rfl)) (by simp; omega) hx ?_; intro ao2 cap2 w6 hown2 hB6; have hB7 : Below W1.heap.size W1 w6 := by first | exact (HB14.out.drew.alloc (by simp; omega) _).trans hB6 | exact (HB14.out.alloc hW4 _).drew.trans hB6)
            all_goals
              have hown3 : OwnP w6 W1.heap.size ao2 cap2 (ps ++ [(p1, p2, p3)]) := hown2
              have Hhown3 := Lib.hid hown3
              clear hown3
              have HhB7 := Lib.hid hB7
              clear hB7
              clear hown2 hB6
              go_wp2_with fail
              go_roundw
              case rel => exact ⟨⟨⟨w6, HhB7.out⟩, rfl⟩, S2, ps ++ [(p1, p2, p3)], ao2, cap2, HS2.out, rfl, by simp, Hl3.out, by simpa using Hhown3.out, HhR2.out⟩
              case measure => simp [intOf]; omega
        · obtain rfl : j = cnt S := by omega
          have hO : prunesV rs.length rs = none := by
            rw [← HR.out]
            obtain ⟨f, hf⟩ : ∃ f, cnt S = f + 1 := ⟨cnt S - 1, by have := cnt_zero (S := S) hS7 (by omega); omega⟩
            rw [hf]; exact pruneRun_none (by omega) (HFull.out HT.out)
          have HhO := Lib.hid hO
          clear hO
          obtain ⟨m', hm'⟩ := HW.out m
          have hFB := below_later HhB.out m'
          rw [hm'] at hFB
          clear hm' m'
          have HhFB := Lib.hid hFB
          clear hFB
          go_wp2_with fail
          go_ret2
          exact ⟨none, 0, by rw [HhO.out]; rfl, HhFB.out, by rw [HhO.out]; exact OwnP.nil _ _⟩
    · obtain rfl : S = 0 := by omega
      have d0 : (((0 : Nat) : Int) != 0) = false := rfl
      have hO2 : prunesV rs.length rs = some ps := by rw [← HR.out]; exact pruneRun_zero _ _ _
      have hOw := hO.mono (base' := w.heap.size) HhB.out.size
      have HhO2 := Lib.hid hO2
      clear hO2
      have HhOw := Lib.hid hOw
      clear hOw
      clear hO
      go_wp2_with fail
      go_ret2
      exact ⟨ao, cap, by rw [HhO2.out]; rfl, below_later HhB.out m, by rw [HhO2.out]; exact HhOw.out⟩

theorem implHered_any (n : Int) (rs : List Int) (ro : Option Addr) (rc : Nat) (w : World) (hr : IntsAt w ro rs) (hrl : rs.length ≤ 1048576) :
    Calls Tryz.prog 11 #[.agg #[.int .i64 n, .slice ro rs.length rc]] w fun e w' => e = .returned (.bool (prunesV n rs).isSome) ∧ Below w.heap.size w w' := by
  go_enter Tryz.func11, Tryz.ntmps11
  go_wp2_with fail
  generalize hW : w.alloc _ = W1
  obtain ⟨hB, -, k0⟩ := alloc1 hW
  replace hr := hr.below hB
  have hb0 := k0.lt
  have hc0 := k0.cell 0
  have hc1 := k0.cell 1
  simp at hc0 hc1
  clear hW k0
  have HhB := Lib.hid hB
  clear hB
  refine (implPrunes_any n rs ro rc W1 hr hrl).mono ?_
  rintro e w2 ⟨ao, cap, rfl, hB2, -⟩
  have hBB := below_more' HhB.out hB2
  clear hB2
  have HhBB := Lib.hid hBB
  clear hBB
  go_wp2_with fail
  go_ret
  exact ⟨rfl, HhBB.out⟩

end Go.Proofs.YtjikmjhpmkakoaaGreatDoor

namespace Go.Proofs.YtjikmjhpmkakoaaGreatDoor
open Go.RowKit

def arcOk (c : Int) (f l : List Int) (j : Nat) : Bool := (decide (0 ≤ gi f j) && decide (gi f j ≤ wrap64 (c - 1))) && (decide (1 ≤ gi l j) && decide (gi l j ≤ wrap64 (c - 1)))

def isArcsB (c : Int) (f l : List Int) : Bool := decide (3 ≤ c ∧ c ≤ 30 ∧ 1 ≤ f.length ∧ f.length ≤ 7 ∧ l.length = f.length ∧ ∀ j, j < f.length → arcOk c f l j = true)

end Go.Proofs.YtjikmjhpmkakoaaGreatDoor

namespace Go.Proofs.YtjikmjhpmkakoaaGreatDoor
open Go.RowKit

def onB (c : Int) (f l : List Int) (i : Nat) (x : Int) : Bool := decide ((x - gi f i) % c < gi l i)
def arcsUpto (c : Int) (f l : List Int) (x : Int) : Nat → Nat
  | 0 => 0
  | k + 1 => arcsUpto c f l x k + (if onB c f l k x = true then 2 ^ k else 0)
def arcsAtV (c : Int) (f l : List Int) (x : Int) : Int := if isArcsB c f l = true ∧ 0 ≤ x ∧ x ≤ c - 1 then (arcsUpto c f l x f.length : Int) else 0





end Go.Proofs.YtjikmjhpmkakoaaGreatDoor

namespace Go.Proofs.YtjikmjhpmkakoaaGreatDoor
open Go.RowKit

end Go.Proofs.YtjikmjhpmkakoaaGreatDoor

namespace Go.Proofs.YtjikmjhpmkakoaaGreatDoor
open Go.RowKit

end Go.Proofs.YtjikmjhpmkakoaaGreatDoor

namespace Go.Proofs.YtjikmjhpmkakoaaGreatDoor
open Go.RowKit

def cutT (c : Int) (f : List Int) (x : Int) (i : Nat) : Int := (gi f i - x) % c
def cutLs (c : Int) (f : List Int) (x : Int) (k : Nat) : List Int := (List.range k).map (cutT c f x)
def cutRs (c : Int) (f l : List Int) (x : Int) (k : Nat) : List Int := (List.range k).map fun i => cutT c f x i + gi l i - 1
def cutOk (c : Int) (f l : List Int) (x : Int) : Bool := isArcsB c f l && ((decide (0 ≤ x) && decide (x ≤ c - 1)) && (arcsAtV c f l x == 0))
def cutLV (c : Int) (f l : List Int) (x : Int) : List Int := if cutOk c f l x = true then cutLs c f x f.length else []
def cutRV (c : Int) (f l : List Int) (x : Int) : List Int := if cutOk c f l x = true then cutRs c f l x f.length else []
/-- What a call that makes intervals returns. -/
def RetIv (w : World) (R R2 : List Int) (ok : Bool) (e : Ending) (w' : World) : Prop :=
  ∃ ao bo c d, e = .returned (.tuple #[.agg #[.slice ao R.length c, .slice bo R2.length d], .bool ok]) ∧ Below w.heap.size w w' ∧ OwnE w' w.heap.size ao c R ∧ OwnE w' w.heap.size bo d R2 ∧ ∀ b, XR ao R b → ¬XR bo R2 b
theorem RetIv.no {c : Int} {f l : List Int} {x : Int} (h : cutOk c f l x = false) {w w' : World} {e : Ending} (he : e = .returned (.tuple #[.agg #[.slice none 0 0, .slice none 0 0], .bool false])) (hB : Below w.heap.size w w') :
    RetIv w (cutLV c f l x) (cutRV c f l x) (cutOk c f l x) e w' := by
  unfold cutLV cutRV
  rw [h]
  exact ⟨none, none, 0, 0, he, hB, .inl (OwnL.nil _ _), .inl (OwnL.nil _ _), fun b h => absurd h.1 (by simp)⟩
theorem RetIv.yes {c : Int} {f l : List Int} {x : Int} (h : cutOk c f l x = true) {w w' : World} {e : Ending} {base : Nat} {v1 v2 : Value} (he : e = .returned (.tuple #[.agg #[v1, v2], .bool true])) (hB : Below w.heap.size w w')
    (ht : TwoL w' base v1 v2 (cutLs c f x f.length) (cutRs c f l x f.length)) (hb : w.heap.size ≤ base) : RetIv w (cutLV c f l x) (cutRV c f l x) (cutOk c f l x) e w' := by
  unfold cutLV cutRV
  rw [h, if_pos rfl, if_pos rfl]
  obtain ⟨ao, bo, p, q, rfl, rfl, h1, h2, h3⟩ := ht.parts
  exact ⟨ao, bo, p, q, he, hB, h1.mono' hb, h2.mono' hb, h3⟩


end Go.Proofs.YtjikmjhpmkakoaaGreatDoor

namespace Go.Proofs.YtjikmjhpmkakoaaGreatDoor
open Go.RowKit

end Go.Proofs.YtjikmjhpmkakoaaGreatDoor

namespace Go.Proofs.YtjikmjhpmkakoaaGreatDoor
open Go.RowKit

end Go.Proofs.YtjikmjhpmkakoaaGreatDoor

namespace Go.Proofs.YtjikmjhpmkakoaaGreatDoor
open Go.RowKit

/-- What a call that makes a graph returns. -/
def RetG (w : World) (R : List Int) (ok : Bool) (e : Ending) (w' : World) : Prop :=
  ∃ ao cap, e = .returned (.tuple #[.agg #[.int .i64 R.length, .slice ao R.length cap], .bool ok]) ∧ Below w.heap.size w w' ∧ OwnE w' w.heap.size ao cap R
theorem RetG.of {w w' : World} {R : List Int} {ok : Bool} {e : Ending} {N g1 cap : Nat} (hN : R.length = N) (h : e = .returned (.tuple #[.agg #[.int .i64 N, .slice (some ⟨g1, 0, none⟩) N cap], .bool ok])) (hB : Below w.heap.size w w') (hg : w.heap.size ≤ g1) (hR : RowAt w' g1 cap R) : RetG w R ok e w' :=
  ⟨_, cap, by rw [h, hN], hB, hR.own hg⟩
theorem RetG.no {w w' : World} {e : Ending} (h : e = .returned (.tuple #[.agg #[.int .i64 0, .slice none 0 0], .bool false])) (hB : Below w.heap.size w w') : RetG w [] false e w' :=
  ⟨none, 0, h, hB, .inl (OwnL.nil _ _)⟩


end Go.Proofs.YtjikmjhpmkakoaaGreatDoor

namespace Go.Proofs.YtjikmjhpmkakoaaGreatDoor
open Go.RowKit

set_option maxHeartbeats 1000000 in
theorem specEqG_any (x : Int) (xs : List Int) (ao bo : Option Addr) (c d : Nat) (w : World) (hx : IntsAt w ao xs) (hy : IntsAt w bo xs) (hn : xs.length ≤ 1048576) :
    Calls Tryz.prog 15 #[.agg #[.int .i64 x, .slice ao xs.length c], .agg #[.int .i64 x, .slice bo xs.length d]] w fun e w' => e = .returned (.bool true) ∧ Below w.heap.size w w' := by
  go_enter Tryz.func15, Tryz.ntmps15
  go_wp2_with fail
  generalize hW : (w.alloc _).alloc _ = W1
  obtain ⟨hB, hS, k0, k1⟩ := alloc2 hW
  have b0 := k0.lt
  have b1 := k1.lt
  have c00 := k0.cell 0
  have c01 := k0.cell 1
  have c10 := k1.cell 0
  have c11 := k1.cell 1
  simp at c00 c01 c10 c11
  replace hx := hx.below hB
  replace hy := hy.below hB
  have HhB := Lib.hid hB
  clear hB
  have HhS := Lib.hid hS
  clear hS
  clear k0 k1 hW
  go_loopw [5] (fun i wr => (∃ m : Later W1, wr = m.w) ∧ ∃ k : Nat, k ≤ xs.length ∧ i = .int .i64 k) (fun i _ => xs.length - (intOf i).toNat)
  case atStart => exact ⟨⟨Later.refl _, rfl⟩, 0, by omega, rfl⟩
  case round =>
    obtain ⟨⟨m, rfl⟩, k, hk, rfl⟩ := hrel
    by_cases hlt : k < xs.length
    · obtain ⟨b, off, rfl, hbl, hc⟩ := hx (by omega)
      obtain ⟨b2, off2, rfl, hbl2, hc2⟩ := hy (by omega)
      have hb : (gi xs k != gi xs k) = false := by simp
      go_wp2_with fail
      refine wp_region_later m rfl (by kernel_rfl) (by kernel_rfl) ?_
      repeat (go_big_quiet_step (fail))
      refine wpQuiet_nil ?_
      rintro _ ⟨m, rfl⟩
      go_wp2_with fail
      go_roundw
      case rel => exact ⟨⟨m, rfl⟩, k + 1, by omega, by go_num⟩
      case measure => simp [intOf]; omega
    · go_wp2_with fail
      go_ret
      exact ⟨rfl, below_later HhB.out m⟩

end Go.Proofs.YtjikmjhpmkakoaaGreatDoor
