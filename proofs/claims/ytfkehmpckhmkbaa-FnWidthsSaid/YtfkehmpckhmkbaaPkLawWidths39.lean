/-
  MaximalCliques, l10Consecutive, l10Search (for one result), CliqueOrderOf and IsInterval of the reference. For at most 2^20 rows.
  l10Consecutive of the reference; what it says. For lists of at most 2^20 sets.
-/
import Derived.Test.YtfkehmpckhmkbaaPkLawWidths33
import Derived.Test.YtfkehmpckhmkbaaPkLawWidths25
import Derived.Test.YtfkehmpckhmkbaaPkLawWidths27
import Derived.Deep.RegionHeld3
namespace Go.Proofs.Ytfkehmpckhmkbaa
open Go.RowKit

/-! ### Maximal cliques -/
def mcTo (rs : List Int) (k : Nat) : List Nat := (List.range k).filter fun S => decide (1 ≤ S) && maxcB rs S
theorem mcTo_all (rs : List Int) : mcTo rs (2 ^ rs.length) = mcN rs := rfl
theorem mcTo_yes {rs : List Int} {k : Nat} (h1 : 1 ≤ k) (h : maxcB rs k = true) : (mcTo rs (k + 1)).map Int.ofNat = (mcTo rs k).map Int.ofNat ++ [(k : Int)] := by
  unfold mcTo; rw [List.range_succ, List.filter_append]; simp [h, h1]
theorem mcTo_no {rs : List Int} {k : Nat} (h : maxcB rs k = false) : mcTo rs (k + 1) = mcTo rs k := by
  unfold mcTo; rw [List.range_succ, List.filter_append]; simp [h]
theorem mcTo_one (rs : List Int) : mcTo rs 1 = [] := by
  unfold mcTo; rw [show List.range 1 = [0] from rfl]; simp
theorem mcTo_len (rs : List Int) (k : Nat) : ((mcTo rs k).map Int.ofNat).length ≤ k := by
  unfold mcTo; rw [List.length_map]; exact Nat.le_trans (List.length_filter_le _ _) (by simp)
def wholeTo (rs : List Int) (S : Nat) : Nat → Bool
  | 0 => true
  | j + 1 => wholeTo rs S j && (S.testBit j || decide (gn rs j &&& S ≠ S))
theorem wholeTo_all {rs : List Int} {S : Nat} : ∀ j, wholeTo rs S j = decide (∀ v, v < j → S.testBit v = true ∨ gn rs v &&& S ≠ S)
  | 0 => by simp [wholeTo]
  | j + 1 => by
    show (wholeTo rs S j && _) = _
    rw [wholeTo_all j, Bool.eq_iff_iff, Bool.and_eq_true, Bool.or_eq_true, decide_eq_true_eq, decide_eq_true_eq, decide_eq_true_eq]
    constructor
    · rintro ⟨h1, h2⟩ v hv
      by_cases e : v = j
      · subst e; exact h2
      · exact h1 v (by omega)
    · intro h; exact ⟨fun v hv => h v (by omega), h j (by omega)⟩
theorem maxc_end {rs : List Int} {S : Nat} (h : cliqueN rs S = true) : maxcB rs S = wholeTo rs S rs.length := by unfold maxcB; rw [h, Bool.true_and, wholeTo_all]
theorem maxc_no {rs : List Int} {S : Nat} (h : cliqueN rs S = false) : maxcB rs S = false := by unfold maxcB; rw [h]; rfl
def mcV (n : Int) (rs : List Int) : List Int := if isGraphB n rs = true then (mcN rs).map Int.ofNat else []
theorem mcV_len (n : Int) (rs : List Int) : (mcV n rs).length ≤ 128 := by
  unfold mcV; split
  · rename_i h
    have := mcTo_len rs (2 ^ rs.length)
    rw [mcTo_all] at this
    have := (VG.of h).2.pow.1
    omega
  · simp
/-- A list of the call's own. -/
def RetOw (w : World) (xs : List Int) (e : Ending) (w' : World) : Prop := ∃ ao cap, e = .returned (.slice ao xs.length cap) ∧ Below w.heap.size w w' ∧ IntsAt w' ao xs

set_option maxRecDepth 100000 in
set_option maxHeartbeats 2000000 in
theorem specMaxCl_any (n : Int) (rs : List Int) (ro : Option Addr) (rc : Nat) (w : World) (hr : IntsAt w ro rs) (hrl : rs.length ≤ 1048576) :
    Calls Try.prog 74 #[.agg #[.int .i64 n, .slice ro rs.length rc]] w (RetOw w (mcV n rs)) := by
  go_enter Try.func74, Try.ntmps74
  go_wp2_with fail
  generalize hW : w.alloc _ = W1
  obtain ⟨hB, -, k0⟩ := alloc1 hW
  replace hr := hr.below hB
  have hb0 := k0.lt
  have hc0 := k0.cell 0
  have hc1 := k0.cell 1
  simp at hc0 hc1
  clear hW k0
  have HhB := Lib.hid hB
  clear hB
  generalize hW2 : W1.alloc _ = W2
  obtain ⟨hB2, -, -⟩ := alloc1 hW2
  replace hr := hr.below hB2
  replace hc0 := (hB2.cell (p := ⟨w.heap.size, 0, none⟩) hb0).trans hc0
  replace hc1 := (hB2.cell (p := ⟨w.heap.size, 1, none⟩) hb0).trans hc1
  replace hb0 := Nat.lt_of_lt_of_le hb0 hB2.size
  replace HhB := Lib.hid (below_more' HhB.out hB2)
  clear hB2 hW2
  have hO := OwnE.empty W2 W2.heap.size ⟨w.heap.size + 1, 0, none⟩
  generalize (⟨w.heap.size + 1, 0, none⟩ : Addr) = na at *
  cases hv : isGraphB n rs
  · have HE : Hid (mcV n rs = []) := Lib.hid (by unfold mcV; rw [hv]; rfl)
    go_loopw [3, 4] (fun o i wr => (∃ m : Later W2, wr = m.w) ∧ o = .slice (some na) 0 0 ∧ i = .int .i64 1) (fun _ _ _ => 0)
    case atStart => exact ⟨⟨Later.refl _, rfl⟩, rfl, rfl⟩
    case round =>
      obtain ⟨⟨m, rfl⟩, rfl, rfl⟩ := hrel
      go_wp2_with (first | (go_at_call 12; refine (Calls.later m (specIsGraph_any _ _ _ _ _ (hr.later m) hrl)).mono ?_; rintro e w' ⟨rfl, m, rfl⟩))
      go_ret
      exact ⟨some na, 0, by rw [HE.out]; rfl, below_later HhB.out m, by rw [HE.out]; exact fun h => absurd h (by simp)⟩
  · have HE : Hid (mcV n rs = (mcTo rs (2 ^ rs.length)).map Int.ofNat) := Lib.hid (by unfold mcV; rw [if_pos hv]; rfl)
    have Hhv := Lib.hid hv
    obtain ⟨rfl, g⟩ := VG.of hv
    have hg1 := g.pos
    have hg2 := g.le
    obtain ⟨hp1, hp2⟩ := g.pow
    have hq := pwN_small rs.length (by omega)
    have HT : Hid (∀ k : Nat, k < 2 ^ rs.length → isSetB rs.length rs (k : Int) = true) := Lib.hid fun k hk => isSetB_mk Hhv.out hk
    have HTT : Hid (2 ^ rs.length = 2 ^ rs.length) := Lib.hid rfl
    generalize hT : 2 ^ rs.length = T at HT HE hp1 hp2 hq
    have HTe := Lib.hid hT
    clear hT HTT
    have HhO := Lib.hid hO
    clear hO
    go_loopw [3, 4] (fun o i wr => ∃ m : Later W2, wr = m.w ∧ ∃ (k : Nat) (ao : Option Addr) (cap : Nat), 1 ≤ k ∧ k ≤ T ∧ i = .int .i64 k ∧ o = .slice ao ((mcTo rs k).map Int.ofNat).length cap ∧ OwnE m.w W2.heap.size ao cap ((mcTo rs k).map Int.ofNat)) (fun _ i _ => T - (intOf i).toNat)
    case atStart => exact ⟨Later.refl _, rfl, 1, some na, 0, by omega, by omega, rfl, by rw [mcTo_one]; rfl, by rw [mcTo_one]; exact HhO.out⟩
    case round =>
      obtain ⟨m, rfl, k, ao, cap, hk1, hk, rfl, rfl, hO⟩ := hrel
      have hlen := mcTo_len rs k
      by_cases hlt : k < T
      · have HYes := Lib.hid (fun h => mcTo_yes (rs := rs) hk1 h)
        have HNo := Lib.hid (fun h => mcTo_no (rs := rs) (k := k) h)
        have HX := Lib.hid (fun h => maxc_end (rs := rs) (S := k) h)
        have HX2 := Lib.hid (fun h => maxc_no (rs := rs) (S := k) h)
        have HW : ∀ m2 : Later m.w, ∃ m' : Later W2, m'.w = m2.w := fun m2 => ⟨m.on m2.below, rfl⟩
        have hms := m.size
        have hll : ((mcTo rs k).map Int.ofNat).length ≤ 1048576 := by omega
        have hk128 : k < 128 := by omega
        have HXs : Hid ((mcTo rs k).map Int.ofNat = (mcTo rs k).map Int.ofNat) := Lib.hid rfl
        generalize hxs : (mcTo rs k).map Int.ofNat = xs at hO hlen hll HYes
        have Hxs := Lib.hid hxs
        clear hxs HXs
        have HhO := Lib.hid hO
        clear hO
        have HHW := Lib.hid HW
        clear HW
        replace hr := hr.later m
        replace hc0 : m.w.cell? _ = _ := (m.cell _ _ hb0).trans hc0
        replace hc1 : m.w.cell? _ = _ := (m.cell _ _ hb0).trans hc1
        replace hb0 := Nat.lt_of_lt_of_le hb0 m.size
        replace HhB := Lib.hid (below_later HhB.out m)
        generalize m.w = W3 at *
        clear m
        obtain ⟨m, hm0⟩ : ∃ m : Later W3, m.w = W3 := ⟨Later.refl _, rfl⟩
        refine (fun h => hm0 ▸ h) ?_
        clear hm0
        have hIS := fun m : Later W3 => specIsClique_any rs.length rs k ro rc m.w (hr.later m) hrl
        rw [cliqueB_nat (HT.out k hlt)] at hIS
        cases hc : cliqueN rs k
        · rw [hc] at hIS
          have HN := Lib.hid (HNo.out (HX2.out hc))
          clear hc
          go_wp2_with (first | (go_at_call 12; refine (Calls.later m (specIsGraph_any _ _ _ _ _ (hr.later m) hrl)).mono ?_; rintro e w' ⟨rfl, m, rfl⟩) | (go_at_call 68; refine (Calls.later m (hIS m)).mono ?_; rintro e w' ⟨rfl, m, rfl⟩))
          go_roundw
          case rel =>
            obtain ⟨m', e⟩ := HHW.out m
            exact ⟨⟨m.w, e ▸ m'.below⟩, rfl, k + 1, ao, cap, by omega, by omega, by go_num, by rw [HN.out, Hxs.out], by rw [HN.out, Hxs.out]; exact HhO.out.later m⟩
          case measure => simp [intOf]; omega
        · rw [hc] at hIS
          have HM := Lib.hid (HX.out hc)
          clear hc
          go_wp2_with (first | (go_at_call 12; refine (Calls.later m (specIsGraph_any _ _ _ _ _ (hr.later m) hrl)).mono ?_; rintro e w' ⟨rfl, m, rfl⟩) | (go_at_call 68; refine (Calls.later m (hIS m)).mono ?_; rintro e w' ⟨rfl, m, rfl⟩))
          clear hIS
          go_loopw [5, 6] (fun b i wr => (∃ m : Later W3, wr = m.w) ∧ ∃ j : Nat, j ≤ rs.length ∧ i = .int .i64 j ∧ b = .bool (wholeTo rs k j)) (fun _ i _ => rs.length - (intOf i).toNat)
          case atStart => exact ⟨⟨m, rfl⟩, 0, by omega, rfl, rfl⟩
          case round =>
            obtain ⟨⟨m, rfl⟩, j, hj, rfl, rfl⟩ := hrel
            by_cases hjl : j < rs.length
            · have HS : Hid (wholeTo rs k (j + 1) = (wholeTo rs k j && (k.testBit j || decide (gn rs j &&& k ≠ k)))) := rfl
              obtain ⟨rb, rofs, rfl, hrb, hrc⟩ := hr.graph g
              have hrj := hrc j hjl
              have hl := g.lt j hjl
              clear hrc
              have q2 : bits .and .i64 (gn rs j : Int) (k : Int) = ((gn rs j &&& k : Nat) : Int) := bits_and_nat _ _ (by have := g.pow.1; omega) (by omega)
              clear hl
              cases hw : wholeTo rs k j
              · rw [hw] at HS
                go_wp2_with fail
                go_roundw
                case rel => exact ⟨⟨m, rfl⟩, j + 1, by omega, by go_num, congrArg Value.bool (by rw [HS.out]; rfl)⟩
                case measure => simp [intOf]; omega
              · rw [hw, Bool.true_and] at HS
                have hb' := hasN_nat k j
                cases hb : k.testBit j
                · rw [hb] at hb'
                  rw [hb, Bool.false_or] at HS
                  have HQ : Hid (∀ c, (((gn rs j &&& k : Nat) : Int) != (k : Int)) = c → decide (gn rs j &&& k ≠ k) = c) := Lib.hid fun c h => by
                    rw [← h, Bool.eq_iff_iff, decide_eq_true_eq, bne_iff_ne]
                    constructor <;> intro h1 h2 <;> apply h1 <;> omega
                  clear hb
                  generalize gn rs j &&& k = A at *
                  cases hne : ((A : Int) != (k : Int))
                  all_goals
                    go_wp2_with fail
                    go_roundw
                    case rel => exact ⟨⟨m, rfl⟩, j + 1, by omega, by go_num, congrArg Value.bool (by rw [HS.out, HQ.out _ hne])⟩
                    case measure => simp [intOf]; omega
                · rw [hb] at hb'
                  rw [hb, Bool.true_or] at HS
                  clear hb
                  go_wp2_with fail
                  go_roundw
                  case rel => exact ⟨⟨m, rfl⟩, j + 1, by omega, by go_num, congrArg Value.bool (by rw [HS.out])⟩
                  case measure => simp [intOf]; omega
            · obtain rfl : j = rs.length := by omega
              have hms3 := m.size
              cases hw : wholeTo rs k rs.length
              · have HN := Lib.hid (HNo.out (HM.out.trans hw))
                go_wp2_with fail
                go_roundw
                case rel =>
                  obtain ⟨m', e⟩ := HHW.out m
                  exact ⟨⟨m.w, e ▸ m'.below⟩, rfl, k + 1, ao, cap, by omega, by omega, by go_num, by rw [HN.out, Hxs.out], by rw [HN.out, Hxs.out]; exact HhO.out.later m⟩
                case measure => simp [intOf]; omega
              · have HN := Lib.hid (HYes.out (HM.out.trans hw))
                go_wp2_with (at_builtin; go_must (refine wpList_append_e rfl _ _ rfl W2.heap.size cap ao xs (k : Int) rfl (HhO.out.later m) rfl (by omega) hll ?_); intro ao' cap' w1 hown1 hB1)
                go_roundw
                case rel =>
                  obtain ⟨m', e⟩ := HHW.out m
                  exact ⟨⟨w1, m'.below.trans (e.symm ▸ hB1)⟩, rfl, k + 1, ao', cap', by omega, by omega, by go_num, by rw [HN.out]; simp, by rw [HN.out]; exact hown1⟩
                case measure => simp [intOf]; omega
      · obtain rfl : k = T := by omega
        have hX := hO.ints
        clear hO
        generalize hxs : (mcTo rs k).map Int.ofNat = xs at hX hlen ⊢
        have Hxs := Lib.hid hxs
        clear hxs
        go_wp2_with fail
        refine (specIsGraph_any _ _ _ _ _ (hr.later m) hrl).mono ?_
        rintro e w9 ⟨rfl, hB9⟩
        replace hX := hX.below hB9
        obtain ⟨m, rfl⟩ : ∃ m2 : Later W2, m2.w = w9 := ⟨m.on hB9, rfl⟩
        clear hB9
        go_wp2_with fail
        go_ret
        exact ⟨ao, cap, by rw [HE.out, Hxs.out]; rfl, below_later HhB.out m, by rw [HE.out, Hxs.out]; exact hX⟩

end Go.Proofs.Ytfkehmpckhmkbaa

namespace Go.Proofs.Ytfkehmpckhmkbaa
open Go.RowKit

def startB (l : List Int) (v i : Nat) : Bool := hasN (gi l i) v && (decide (i = 0) || !hasN (gi l (i - 1)) v)
/-- How often a vertex begins in the first sets of a list. -/
def begN (l : List Int) (v : Nat) : Nat → Nat
  | 0 => 0
  | i + 1 => begN l v i + (startB l v i).toNat
def conB (l : List Int) : Bool := (List.range 7).all fun v => decide (begN l v l.length ≤ 1)
theorem conB_iff {l : List Int} : conB l = true ↔ ∀ v, v < 7 → begN l v l.length ≤ 1 := by simp [conB]
theorem begN_le (l : List Int) (v : Nat) : ∀ i, begN l v i ≤ i
  | 0 => Nat.le_refl _
  | i + 1 => by
    have := begN_le l v i
    have := Bool.toNat_le (startB l v i)
    show begN l v i + _ ≤ _
    omega
theorem begN_mono (l : List Int) (v : Nat) {i : Nat} : ∀ j, i ≤ j → begN l v i ≤ begN l v j
  | 0, h => by obtain rfl : i = 0 := by omega
               exact Nat.le_refl _
  | j + 1, h => by
    by_cases e : i = j + 1
    · subst e; exact Nat.le_refl _
    · exact Nat.le_trans (begN_mono l v j (by omega)) (Nat.le_add_right _ _)
theorem begN_one {l : List Int} {v : Nat} : ∀ i, hasN (gi l i) v = true → 1 ≤ begN l v (i + 1)
  | 0, h => by
    show 1 ≤ 0 + (startB l v 0).toNat
    unfold startB; rw [h]; simp
  | i + 1, h => by
    show 1 ≤ begN l v (i + 1) + (startB l v (i + 1)).toNat
    cases h2 : hasN (gi l i) v
    · have : startB l v (i + 1) = true := by unfold startB; rw [h, Nat.add_sub_cancel, h2]; simp
      rw [this]; simp
    · have := begN_one i h2
      omega
theorem begN_more {l : List Int} {v j : Nat} (hj : hasN (gi l j) v = false) : ∀ k, j < k → hasN (gi l k) v = true → begN l v (j + 1) + 1 ≤ begN l v (k + 1)
  | 0, h, _ => by omega
  | k + 1, h, hk => by
    show _ ≤ begN l v (k + 1) + (startB l v (k + 1)).toNat
    cases h2 : hasN (gi l k) v
    · have : startB l v (k + 1) = true := by unfold startB; rw [hk, Nat.add_sub_cancel, h2]; simp
      rw [this]
      have := begN_mono l v (i := j + 1) (k + 1) (by omega)
      simp; omega
    · have hne : j ≠ k := fun e => by subst e; rw [h2] at hj; cases hj
      have := begN_more hj k (by omega) h2
      omega
theorem con_between {l : List Int} (h : conB l = true) {v i j k : Nat} (hv : v < 7) (hij : i < j) (hjk : j < k) (hk : k < l.length) (hi : hasN (gi l i) v = true) (hk2 : hasN (gi l k) v = true) : hasN (gi l j) v = true := by
  cases hj : hasN (gi l j) v
  · have h0 := conB_iff.1 h v hv
    have h1 := begN_one i hi
    have h2 := begN_mono l v (i := i + 1) (j + 1) (by omega)
    have h3 := begN_more hj k hjk hk2
    have h4 := begN_mono l v (i := k + 1) l.length (by omega)
    omega
  · rfl
theorem hasN_zero (x : Int) (v : Nat) {b : Bool} (h : hasN x v = b) : (bits .and .i64 (x / 2 ^ v) 1 == 0) = !b := by
  subst h
  unfold hasN
  rw [bits_one]
  have : x / 2 ^ v % 2 = 0 ∨ x / 2 ^ v % 2 = 1 := by omega
  rcases this with e | e <;> rw [e] <;> rfl

set_option maxRecDepth 100000 in
set_option maxHeartbeats 2000000 in
theorem specCon_any (l : List Int) (lo : Option Addr) (n lc : Nat) (hn : n = l.length) (w : World) (hl : IntsAt w lo l) (hll : l.length ≤ 1048576) :
    Calls Try.prog 93 #[.slice lo n lc] w fun e w' => e = .returned (.bool (conB l)) ∧ w = w' := by
  subst hn
  go_enter Try.func93, Try.ntmps93
  go_wp2_with fail
  go_loopw [3] (fun i wr => wr = w ∧ ∃ v : Nat, v ≤ 7 ∧ i = .int .i64 v ∧ ∀ u, u < v → begN l u l.length ≤ 1) (fun i _ => 7 - (intOf i).toNat)
  case atStart => exact ⟨rfl, 0, by omega, rfl, fun u h => by omega⟩
  case round =>
    obtain ⟨rfl, v, hv, rfl, hP⟩ := hrel
    have HhP := Lib.hid hP
    clear hP
    by_cases hlt : v < 7
    · go_wp2_with fail
      go_loopw [4, 5] (fun b i wr' => wr' = wr ∧ ∃ k : Nat, k ≤ l.length ∧ i = .int .i64 k ∧ b = .int .i64 (begN l v k : Nat)) (fun _ i _ => l.length - (intOf i).toNat)
      case atStart => exact ⟨rfl, 0, by omega, rfl, rfl⟩
      case round =>
        obtain ⟨rfl, k, hk, rfl, rfl⟩ := hrel
        have hbl := begN_le l v k
        by_cases hkl : k < l.length
        · obtain ⟨b, off, rfl, hb, hc⟩ := hl (by omega)
          have hck := hc k hkl
          have HS : Hid (begN l v (k + 1) = begN l v k + (hasN (gi l k) v && (decide (k = 0) || !hasN (gi l (k - 1)) v)).toNat) := rfl
          generalize begN l v k = B at *
          cases h1 : hasN (gi l k) v
          · rw [h1] at HS
            clear hc
            generalize gi l k = x at *
            go_wp2_with fail
            go_roundw
            case rel => exact ⟨by trivial, k + 1, by omega, by go_num, by rw [HS.out]; simp⟩
            case measure => simp [intOf]; omega
          · rw [h1, Bool.true_and] at HS
            by_cases h0 : k = 0
            · subst h0
              clear hc
              simp only [Nat.add_zero] at hck
              generalize gi l 0 = x at *
              go_wp2_with fail
              go_roundw
              case rel => exact ⟨by trivial, 1, by omega, rfl, by rw [HS.out]; simp⟩
              case measure => simp [intOf]; omega
            · have d0 : ((k : Int) == 0) = false := by rw [beq_eq_false_iff_ne]; omega
              have hc1 := hc (k - 1) (by omega)
              have hq : (k : Int) - 1 = ((k - 1 : Nat) : Int) := by omega
              have hk1 : k - 1 < l.length := by omega
              rw [decide_eq_false h0, Bool.false_or] at HS
              clear hc
              cases h2 : hasN (gi l (k - 1)) v
              all_goals
                have hz := hasN_zero _ _ h2
                rw [h2] at HS
                generalize gi l k = x at *
                generalize gi l (k - 1) = y at *
                generalize k - 1 = k1 at *
                go_wp2_with fail
                go_roundw
                case rel => exact ⟨by trivial, k + 1, by omega, by go_num, by rw [HS.out]; simp⟩
                case measure => simp [intOf]; omega
        · obtain rfl : k = l.length := by omega
          by_cases hb1 : begN l v l.length ≤ 1
          · have d1 : decide ((1 : Int) < (begN l v l.length : Nat)) = false := decide_eq_false (by omega)
            go_wp2_with fail
            go_roundw
            case rel => exact ⟨by trivial, v + 1, by omega, by go_num, all_succ HhP.out hb1⟩
            case measure => simp [intOf]; omega
          · have d1 : decide ((1 : Int) < (begN l v l.length : Nat)) = true := decide_eq_true (by omega)
            have HE : Hid (conB l = false) := Lib.hid (Bool.eq_false_iff.2 fun h => hb1 (conB_iff.1 h v hlt))
            go_wp2_with fail
            go_ret
            exact ⟨retB HE.out.symm, rfl⟩
    · have HE : Hid (conB l = true) := Lib.hid (conB_iff.2 fun u hu => HhP.out u (by omega))
      go_wp2_with fail
      go_ret
      exact ⟨retB HE.out.symm, rfl⟩

end Go.Proofs.Ytfkehmpckhmkbaa
