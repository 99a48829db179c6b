/-
  The laws' own test that two lists are the same. The lists have at most 2^47 elements.
  HasEdge on both sides; lists of lists as slices; IsMatching on both sides; the laws' test that two lists of lists are the same. For at most 2^20 rows and lists.
-/
import Derived.Test.YtgklgheaojoimaaPk02
import Derived.Test.YtgklgheaojoimaaMatchG
import Derived.Test.YtgklgheaojoimaaEdgesS
import Derived.Test.YtgklgheaojoimaaPk32
import Derived.Test.YtgklgheaojoimaaDist
namespace Go.Proofs.Ytgklgheaojoimaa
open Go.RowKit

set_option maxHeartbeats 400000 in
theorem lawSameInts_any (ao bo : Option Addr) (xs ys : List Int) (c d : Nat) (w : World) (hx : IntsAt w ao xs) (hy : IntsAt w bo ys) (hn : xs.length ≤ 140737488351232) (hm : ys.length ≤ 140737488351232) :
    Calls Try.prog 12 #[.slice ao xs.length c, .slice bo ys.length d] w fun e w' => e = .returned (.bool (sameInts xs ys)) ∧ Below w.heap.size w w' := by
  by_cases hl : xs.length = ys.length
  · have hb : ((xs.length : Int) != ys.length) = false := by rw [hl]; simp
    have HL := Lib.hid hl
    clear hl
    go_enter Try.func12, Try.ntmps12
    go_wp2_with fail
    go_loopw [5] (fun i wr => (∃ m : Later w, wr = m.w) ∧ ∃ k : Nat, k ≤ xs.length ∧ i = .int .i64 k ∧ ∀ j, j < k → gi xs j = gi ys j) (fun i _ => xs.length - (intOf i).toNat)
    case atStart => exact ⟨⟨Later.refl _, rfl⟩, 0, by omega, rfl, fun j h => by omega⟩
    case round =>
      obtain ⟨⟨m, rfl⟩, k, hk, rfl, hP⟩ := hrel
      have HP := Lib.hid hP
      clear hP
      by_cases hlt : k < xs.length
      · have hlt' : k < ys.length := by rw [← HL.out]; exact hlt
        obtain ⟨b, off, rfl, hbl, hc⟩ := hx (by omega)
        obtain ⟨b2, off2, rfl, hbl2, hc2⟩ := hy (by omega)
        go_wp2_with fail
        cases he : (gi xs k != gi ys k)
        all_goals
          refine wp_region_later m rfl (by kernel_rfl) (by kernel_rfl) ?_
          repeat (go_big_quiet_step (fail))
          refine wpQuiet_nil ?_
          rintro _ ⟨m, rfl⟩
          go_wp2_with fail
        · go_roundw
          case rel =>
            refine ⟨⟨m, rfl⟩, k + 1, by omega, by go_num, fun j hj => ?_⟩
            rcases Nat.lt_succ_iff_lt_or_eq.1 hj with hj | rfl
            · exact HP.out j hj
            · simpa using he
          case measure => simp [intOf]; omega
        · go_ret
          exact ⟨retB (by rw [sameInts_at (by simpa using he)]), m.below⟩
      · go_wp2_with fail
        go_ret
        exact ⟨retB (by rw [sameInts_all HL.out (fun j hj => HP.out j (by omega))]), m.below⟩
  · have hb : ((xs.length : Int) != ys.length) = true := by simp; omega
    have HL := Lib.hid hl
    clear hl
    go_enter Try.func12, Try.ntmps12
    go_wp2_with fail
    go_ret
    exact ⟨retB (by rw [sameInts_len HL.out]), Below.refl _ _⟩

end Go.Proofs.Ytgklgheaojoimaa

namespace Go.Proofs.Ytgklgheaojoimaa
open Go.RowKit

theorem edgB_no {n : Int} {rs : List Int} {v w : Int} (h : isGraphB n rs = false) : edgB n rs v w = false := by unfold edgB; rw [h]; rfl

set_option maxRecDepth 100000 in
set_option maxHeartbeats 1000000 in
theorem specHasEdge_any (n : Int) (rs : List Int) (v v2 : Int) (ro : Option Addr) (rc : Nat) (w : World) (hr : IntsAt w ro rs) (hrl : rs.length ≤ 1048576) :
    Calls Try.prog 100 #[.agg #[.int .i64 n, .slice ro rs.length rc], .int .i64 v, .int .i64 v2] w fun e w' => e = .returned (.bool (edgB n rs v v2)) ∧ Below w.heap.size w w' := by
  have HE : Hid (edgB n rs v v2 = (isGraphB n rs && (decide (0 ≤ v) && (decide (0 ≤ v2) && (decide (v < n) && (decide (v2 < n) && (gn rs v.toNat).testBit v2.toNat)))))) := rfl
  go_enter Try.func100, Try.ntmps100
  go_wp2_with fail
  generalize hW : w.alloc _ = W1
  obtain ⟨hB, -, k0⟩ := alloc1 hW
  replace hr := hr.below hB
  have hb0 := k0.lt
  have hc0 := k0.cell 0
  have hc1 := k0.cell 1
  simp at hc0 hc1
  clear hW k0
  have HhB := Lib.hid hB
  clear hB
  obtain ⟨m, hm0⟩ : ∃ m : Later W1, m.w = W1 := ⟨Later.refl _, rfl⟩
  refine (fun h => hm0 ▸ h) ?_
  clear hm0
  have hG := fun m : Later W1 => specIsGraph_any n rs ro rc m.w (hr.later m) hrl
  cases hv : isGraphB n rs
  · rw [hv] at hG HE
    go_wp2_with (first | (go_at_call 14; refine (Calls.later m (hG _)).mono ?_; rintro e w' ⟨rfl, m, rfl⟩))
    go_ret
    exact ⟨retB (by rw [HE.out]; rfl), below_later HhB.out m⟩
  rw [hv] at hG HE
  cases h1 : decide (0 ≤ v)
  · go_wp2_with (first | (go_at_call 14; refine (Calls.later m (hG _)).mono ?_; rintro e w' ⟨rfl, m, rfl⟩))
    go_ret
    exact ⟨retB (by rw [HE.out, h1]; rfl), below_later HhB.out m⟩
  cases h2 : decide (0 ≤ v2)
  · go_wp2_with (first | (go_at_call 14; refine (Calls.later m (hG _)).mono ?_; rintro e w' ⟨rfl, m, rfl⟩))
    go_ret
    exact ⟨retB (by rw [HE.out, h1, h2]; rfl), below_later HhB.out m⟩
  cases h3 : decide (v < n)
  · go_wp2_with (first | (go_at_call 14; refine (Calls.later m (hG _)).mono ?_; rintro e w' ⟨rfl, m, rfl⟩))
    go_ret
    exact ⟨retB (by rw [HE.out, h1, h2, h3]; rfl), below_later HhB.out m⟩
  cases h4 : decide (v2 < n)
  · go_wp2_with (first | (go_at_call 14; refine (Calls.later m (hG _)).mono ?_; rintro e w' ⟨rfl, m, rfl⟩))
    go_ret
    exact ⟨retB (by rw [HE.out, h1, h2, h3, h4]; rfl), below_later HhB.out m⟩
  obtain ⟨rfl, g⟩ := VG.of hv
  have e1 := of_decide_eq_true h1
  have e2 := of_decide_eq_true h2
  have e3 := of_decide_eq_true h3
  have e4 := of_decide_eq_true h4
  obtain ⟨a, rfl⟩ : ∃ a : Nat, v = a := ⟨v.toNat, by omega⟩
  obtain ⟨b, rfl⟩ : ∃ b : Nat, v2 = b := ⟨v2.toNat, by omega⟩
  have HF : Hid (edgB rs.length rs a b = (gn rs a).testBit b) := Lib.hid (by rw [HE.out, h1, h2, h3, h4]; rfl)
  have hE := fun m : Later W1 => l2Edge_any rs a b ro rc m.w (hr.later m) g (by omega) (by omega)
  generalize (gn rs a).testBit b = c at *
  go_wp2_with (first | (go_at_call 14; refine (Calls.later m (hG _)).mono ?_; rintro e w' ⟨rfl, m, rfl⟩) | (go_at_call 99; refine (Calls.later m (hE _)).mono ?_; rintro e w' ⟨rfl, m, rfl⟩))
  go_ret
  exact ⟨retB (by rw [HF.out]), below_later HhB.out m⟩

set_option maxRecDepth 100000 in
set_option maxHeartbeats 1000000 in
theorem implHasEdge_any (n : Int) (rs : List Int) (v u : Int) (ro : Option Addr) (rc : Nat) (w : World) (hr : IntsAt w ro rs) (hrl : rs.length ≤ 1048576) :
    Calls Try.prog 92 #[.agg #[.int .i64 n, .slice ro rs.length rc], .int .i64 v, .int .i64 u] w fun e w' => e = .returned (.bool (edgB n rs v u)) ∧ Below w.heap.size w w' := by
  have HE : Hid (edgB n rs v u = (isGraphB n rs && (decide (0 ≤ v) && (decide (0 ≤ u) && (decide (v < n) && (decide (u < n) && (gn rs v.toNat).testBit u.toNat)))))) := rfl
  go_enter Try.func92, Try.ntmps92
  go_wp2_with fail
  generalize hW : (w.alloc _).alloc _ = W1
  obtain ⟨hB, hsz, k0, k1⟩ := alloc2 hW
  replace hr := hr.below hB
  have hb0 := k0.lt
  have hc0 := k0.cell 0
  have hc1 := k0.cell 1
  have hI : IntsAt W1 (some ⟨w.heap.size + 1, 0, none⟩) [v, u] := (show OwnInts W1 (w.heap.size + 1) [v, u] from k1).ints
  simp at hc0 hc1
  clear hW k0 k1 hsz
  have HhB := Lib.hid hB
  clear hB
  obtain ⟨m, hm0⟩ : ∃ m : Later W1, m.w = W1 := ⟨Later.refl _, rfl⟩
  refine (fun h => hm0 ▸ h) ?_
  clear hm0
  refine (Calls.later m (isVertex_any n rs [v, u] ro _ rc 2 _ (hr.later m) hrl (hI.later m) (by simp))).mono ?_
  rintro e w' ⟨rfl, m, rfl⟩
  cases hv : isGraphB n rs
  · rw [vtxB_inv hv]
    rw [hv] at HE
    go_wp2_with fail
    go_ret
    exact ⟨retB (by rw [HE.out]; rfl), below_later HhB.out m⟩
  rw [vtxB_of hv, vtx_two]
  rw [hv] at HE
  obtain ⟨rfl, g⟩ := VG.of hv
  have hg2 := g.le
  cases c1 : (decide (0 ≤ v) && decide (v ≤ (rs.length : Int) - 1))
  · have HF : Hid (edgB rs.length rs v u = false) := Lib.hid (by
      rw [HE.out]
      simp only [Bool.and_eq_false_iff, decide_eq_false_iff_not] at c1
      rcases c1 with h | h
      · rw [decide_eq_false h]; rfl
      · rw [decide_eq_false (p := v < (rs.length : Int)) (by omega)]; simp)
    go_wp2_with fail
    go_ret
    exact ⟨retB (by rw [HF.out]), below_later HhB.out m⟩
  cases c2 : (decide (0 ≤ u) && decide (u ≤ (rs.length : Int) - 1))
  · have HF : Hid (edgB rs.length rs v u = false) := Lib.hid (by
      rw [HE.out]
      simp only [Bool.and_eq_false_iff, decide_eq_false_iff_not] at c2
      rcases c2 with h | h
      · rw [decide_eq_false h]; simp
      · rw [decide_eq_false (p := u < (rs.length : Int)) (by omega)]; simp)
    go_wp2_with fail
    go_ret
    exact ⟨retB (by rw [HF.out]), below_later HhB.out m⟩
  simp only [Bool.and_eq_true, decide_eq_true_eq] at c1 c2
  obtain ⟨v, rfl⟩ : ∃ v' : Nat, v = v' := ⟨v.toNat, by omega⟩
  obtain ⟨u, rfl⟩ : ∃ v' : Nat, u = v' := ⟨u.toNat, by omega⟩
  have b1 : v < rs.length := by omega
  have b2 : u < rs.length := by omega
  have HF : Hid (edgB rs.length rs v u = (gn rs v).testBit u) := Lib.hid (by
    rw [HE.out, decide_eq_true c1.1, decide_eq_true c2.1, decide_eq_true (show (v : Int) < (rs.length : Int) by omega), decide_eq_true (show (u : Int) < (rs.length : Int) by omega)]
    rfl)
  obtain ⟨rb, rofs, rfl, hrb, hrc⟩ := hr.graph g
  have hrv := hrc v b1
  have hH := fun w : World => has_any (gn rs v : Int) (u : Int) (by omega) (by omega) w
  rw [Int.toNat_natCast, hasN_nat] at hH
  clear hrc c1 c2
  generalize (gn rs v).testBit u = c at *
  go_wp2_with fail
  refine (hH _).mono ?_
  rintro e w' ⟨rfl, rfl⟩
  go_wp2_with fail
  go_ret
  exact ⟨retB (by rw [HF.out]), below_later HhB.out m⟩

/-! ### Lists of lists -/
/-- The slice at ao reads as the lists ls. -/
def RowsAt (w : World) (ao : Option Addr) (ls : List (List Int)) : Prop :=
  0 < ls.length → ∃ b off, ao = some ⟨b, off, none⟩ ∧ b < w.heap.size ∧ ∀ k, k < ls.length → ∃ ro rc, w.cell? ⟨b, off + k, none⟩ = some (.slice ro (rowL ls k).length rc) ∧ IntsAt w ro (rowL ls k)
theorem RowsAt.below {w w' : World} {ao : Option Addr} {ls : List (List Int)} (h : RowsAt w ao ls) (hb : Below w.heap.size w w') : RowsAt w' ao ls := fun h0 => by
  obtain ⟨b, off, h1, h2, h3⟩ := h h0
  refine ⟨b, off, h1, Nat.lt_of_lt_of_le h2 hb.size, fun k hk => ?_⟩
  obtain ⟨ro, rc, h4, h5⟩ := h3 k hk
  exact ⟨ro, rc, by rw [hb.cell (p := ⟨b, off + k, none⟩) h2]; exact h4, h5.below hb⟩
theorem RowsAt.later {W : World} {ao : Option Addr} {ls : List (List Int)} (h : RowsAt W ao ls) (m : Later W) : RowsAt m.w ao ls := h.below m.below
theorem ValsOf.pair {w : World} {xs : List Value} {es : List (Nat × Nat)} (h : ValsOf w xs es) {k : Nat} (hk : k < es.length) : ∃ g, xs[k]? = some (.slice (some ⟨g, 0, none⟩) 2 2) ∧ IntsAt w (some ⟨g, 0, none⟩) [(es[k].1 : Int), (es[k].2 : Int)] := by
  obtain ⟨g, h1, h2⟩ := h.2 k es[k] (List.getElem?_eq_getElem hk)
  refine ⟨g, h1, ?_⟩
  have : OwnInts w g [(es[k].1 : Int), (es[k].2 : Int)] := h2
  exact this.ints
theorem rowsL_of {w : World} {base cap : Nat} {ao : Option Addr} {xs : List Value} {es : List (Nat × Nat)} (ho : OwnV w base (.slice ao xs.length cap) xs) (hv : ValsOf w xs es) : RowsAt w ao (lsOf es) := fun h0 => by
  rw [lsOf_len] at h0
  obtain ⟨g, rfl, -, hg, hc⟩ := ho.cells (by rw [hv.1]; exact h0)
  refine ⟨g, 0, rfl, hg, fun k hk => ?_⟩
  rw [lsOf_len] at hk
  obtain ⟨g2, h1, h2⟩ := hv.pair hk
  rw [lsOf_at hk, Nat.zero_add]
  exact ⟨some ⟨g2, 0, none⟩, 2, hc k _ h1, h2⟩

set_option maxRecDepth 100000 in
set_option maxHeartbeats 1000000 in
theorem sameLists_eq (ao bo : Option Addr) (ls : List (List Int)) (ac bc : Nat) (w : World) (ha : RowsAt w ao ls) (hb : RowsAt w bo ls) (hl : ls.length ≤ 1048576) (hll : ∀ k, k < ls.length → (rowL ls k).length ≤ 1048576) :
    Calls Try.prog 18 #[.slice ao ls.length ac, .slice bo ls.length bc] w fun e w' => e = .returned (.bool true) ∧ Below w.heap.size w w' := by
  go_enter Try.func18, Try.ntmps18
  go_wp2_with fail
  go_loopw [5] (fun i wr => (∃ m : Later w, wr = m.w) ∧ ∃ k : Nat, k ≤ ls.length ∧ i = .int .i64 k) (fun i _ => ls.length - (intOf i).toNat)
  case atStart => exact ⟨⟨Later.refl _, rfl⟩, 0, by omega, rfl⟩
  case round =>
    obtain ⟨⟨m, rfl⟩, k, hk, rfl⟩ := hrel
    by_cases hlt : k < ls.length
    · obtain ⟨b1, o1, rfl, h1, h2⟩ := ha (by omega)
      obtain ⟨b2, o2, rfl, h3, h4⟩ := hb (by omega)
      obtain ⟨r1, c1, e1, i1⟩ := h2 k hlt
      obtain ⟨r2, c2, e2, i2⟩ := h4 k hlt
      have hx := hll k hlt
      have hS := fun m : Later w => lawSameInts_any r1 r2 (rowL ls k) (rowL ls k) c1 c2 m.w (i1.later m) (i2.later m) (by omega) (by omega)
      simp only [sameInts_refl] at hS
      generalize rowL ls k = l at *
      clear h2 h4 i1 i2
      go_wp2_with fail
      refine wp_region_later m rfl (by kernel_rfl) (by kernel_rfl) ?_
      repeat (go_big_quiet_step ((first | (go_at_call 12; exact Calls.later _ (hS _)))))
      refine wpQuiet_nil ?_
      rintro _ ⟨m, rfl⟩
      go_wp2_with fail
      go_roundw
      case rel => exact ⟨⟨m, rfl⟩, k + 1, by omega, by go_num⟩
      case measure => simp [intOf]; omega
    · go_wp2_with fail
      go_ret
      exact ⟨rfl, m.below⟩

end Go.Proofs.Ytgklgheaojoimaa
