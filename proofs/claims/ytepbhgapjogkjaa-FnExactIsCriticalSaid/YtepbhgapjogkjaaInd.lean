/-
  InducedOn of the reference. For at most 2^20 rows.
-/
import Derived.Test.YtepbhgapjogkjaaMark
import Derived.Test.YtepbhgapjogkjaaSets
import Derived.Test.YtepbhgapjogkjaaDistinct
import Derived.Deep.RegionHeld3
import Derived.Deep.RegionLaw
import Derived.Laws.EntriesVeiled
namespace Go.Proofs.Ytepbhgapjogkjaa
open Go.RowKit

/-- The row of the i-th member among the first k members of a list. -/
def indRow (rs : List Int) (l : List Nat) (i : Nat) : Nat → Nat
  | 0 => 0
  | k + 1 => if (gn rs (eln l i)).testBit (eln l k) = true then indRow rs l i k ||| 2 ^ k else indRow rs l i k
theorem indRow_lt (rs : List Int) (l : List Nat) (i : Nat) : ∀ k, indRow rs l i k < 2 ^ k := by
  intro k
  induction k with
  | zero => simp [indRow]
  | succ k ih =>
    have e : 2 ^ (k + 1) = 2 ^ k + 2 ^ k := by omega
    unfold indRow; split
    · rw [or_pow _ _ ih]; omega
    · omega
theorem indRow_yes {rs : List Int} {l : List Nat} {i k : Nat} (h : (gn rs (eln l i)).testBit (eln l k) = true) : indRow rs l i (k + 1) = indRow rs l i k + 2 ^ k := by
  show (if (gn rs (eln l i)).testBit (eln l k) = true then indRow rs l i k ||| 2 ^ k else indRow rs l i k) = _
  rw [if_pos h, or_pow _ _ (indRow_lt rs l i k)]
theorem indRow_no {rs : List Int} {l : List Nat} {i k : Nat} (h : (gn rs (eln l i)).testBit (eln l k) = false) : indRow rs l i (k + 1) = indRow rs l i k := by
  show (if (gn rs (eln l i)).testBit (eln l k) = true then indRow rs l i k ||| 2 ^ k else indRow rs l i k) = _
  rw [if_neg (by rw [h]; decide)]
/-- The rows of the first i members. -/
def indTo (rs : List Int) (l : List Nat) (i : Nat) : List Int := (List.range i).map fun j => (indRow rs l j l.length : Int)
theorem indTo_succ (rs : List Int) (l : List Nat) (i : Nat) : indTo rs l (i + 1) = indTo rs l i ++ [(indRow rs l i l.length : Int)] := by unfold indTo; rw [List.range_succ, List.map_append]; rfl
theorem indTo_len (rs : List Int) (l : List Nat) (i : Nat) : (indTo rs l i).length = i := by simp [indTo]
/-- The rows of the part of a graph. -/
def ind (rs : List Int) (S : Nat) : List Int := indTo rs (els S) (cnt S)
theorem ind_len (rs : List Int) (S : Nat) : (ind rs S).length = cnt S := indTo_len _ _ _

theorem cnt_pos {S N : Nat} (h : S < 2 ^ N) (hN : N ≤ 7) (h0 : 0 < S) : 0 < (els S).length := by
  rcases Nat.eq_zero_or_pos (els S).length with h1 | h1
  · exfalso
    have h2 : S.testBit S.log2 = true := Nat.testBit_log2 (by omega)
    have h3 := (mem_els h hN).2 h2
    rw [List.length_eq_zero_iff.1 h1] at h3
    simp at h3
  · exact h1
theorem els_lt {S N k : Nat} (h : S < 2 ^ N) (hN : N ≤ 7) (hk : k < cnt S) : eln (els S) k < N := testBit_lt h ((mem_els h hN).1 (eln_mem hk))
theorem wrap_sum {a b : Nat} (ha : a < b) (hb : b ≤ 2 ^ 6) : wrap64 ((a : Int) + (b : Int)) = ((a + b : Nat) : Int) := by
  have e : (2 : Nat) ^ 6 = 64 := by decide
  simp only [wrap64]
  omega
theorem OwnE.setB2 {w : World} {base cap : Nat} {ao : Option Addr} {xs : List Int} (h : OwnE w base ao cap xs) {a : Addr} (ha : a.block < base) (u : Value) : OwnE (w.setCell a u) base ao cap xs :=
  h.imp (fun h => ownsRow_setCell_below h ha u) id

set_option maxRecDepth 100000 in
set_option maxHeartbeats 2000000 in
theorem specInd_any (rs : List Int) (S : Nat) (ro : Option Addr) (rc : Nat) (w : World) (hr : IntsAt w ro rs) (hv : isGraphB rs.length rs = true) (hS : S < 2 ^ rs.length) (h0 : 0 < S) :
    Calls Try.prog 70 #[.agg #[.int .i64 rs.length, .slice ro rs.length rc], .int .i64 S] w fun e w' => ∃ ao cap, e = .returned (.tuple #[.agg #[.int .i64 (cnt S), .slice ao (cnt S) cap], .bool true]) ∧ Below w.heap.size w w' ∧ OwnE w' w.heap.size ao cap (ind rs S) := by
  have g := (VG.of hv).2
  have hg1 := g.pos
  have hg2 := g.le
  have hp1 := g.pow.1
  have hrl : rs.length ≤ 1048576 := by omega
  have hS128 : S < 128 := by omega
  have hI := isSetB_mk hv hS
  have d0 : ((S : Int) == 0) = false := by rw [beq_eq_false_iff_ne]; omega
  have hrw := hr
  go_enter Try.func70, Try.ntmps70
  go_wp2_with fail
  generalize hW : World.alloc _ _ = W1
  obtain ⟨hB, hs1, k0, k1⟩ := alloc2 hW
  replace hr := hr.below hB
  clear hW
  obtain ⟨m, hm0⟩ : ∃ m : Later W1, m.w = W1 := ⟨Later.refl _, rfl⟩
  refine (fun h => hm0 ▸ h) ?_
  clear hm0
  have hb0 := k0.lt
  have hc0 := k0.cell 0
  have hc1 := k0.cell 1
  simp at hc0 hc1
  have HhB := Lib.hid hB
  clear hB
  refine (Calls.later m (specIsSet_any _ _ _ _ _ _ (hr.later m) hrl)).mono ?_
  rintro e w' ⟨rfl, m, rfl⟩
  rw [hI]
  have hbm := Nat.lt_of_lt_of_le hb0 m.size
  go_wp2_with fail
  refine (specListN_any S hS128 _).mono ?_
  rintro e w2 ⟨lo, lc, rfl, hB2, hL⟩
  obtain ⟨m, rfl⟩ : ∃ m2 : Later W1, m2.w = w2 := ⟨m.on hB2, rfl⟩
  clear hB2 hbm
  have hbm := Nat.lt_of_lt_of_le hb0 m.size
  go_wp2_with fail
  obtain ⟨lb, lofs, rfl, hlb, hlc⟩ := hL (cnt_pos hS hg2 h0)
  clear hL
  generalize hW2 : World.alloc _ _ = W2
  obtain ⟨hB2, -, k2⟩ := alloc1 hW2
  have hlb2 : lb < W2.heap.size := Nat.lt_of_lt_of_le hlb hB2.size
  have hlc2 : ∀ k, k < cnt S → W2.cell? ⟨lb, lofs + k, none⟩ = some (.int .i64 (eln (els S) k : Int)) := fun k hk => (hB2.cell (p := ⟨lb, lofs + k, none⟩) hlb).trans (hlc k hk)
  have hlo : lb ≠ m.w.heap.size := by omega
  have hB4 := below_more m.below hB2
  have hoW : W1.heap.size ≤ m.w.heap.size := m.size
  have ho := k2.lt
  have hc0' := (hB4.cell (p := ⟨w.heap.size, 0, none⟩) hb0).trans hc0
  have hc1' := (hB4.cell (p := ⟨w.heap.size, 1, none⟩) hb0).trans hc1
  have kr := k1.below hB4 k1.lt
  have krl := k1.lt
  have hb02 : w.heap.size < W2.heap.size := Nat.lt_of_lt_of_le hb0 hB4.size
  have hBw := below_more' HhB.out hB4
  have hlw : lb < m.w.heap.size := hlb
  have hwo : w.heap.size < m.w.heap.size := Nat.lt_of_lt_of_le hb0 hoW
  clear hW2 hB2 hlc hc0 hc1 hb0 hbm hlb hB4 k0 k1 HhB
  replace hr := hr
  generalize m.w.heap.size = o at *
  clear m
  have hx0 : ¬(fun b => b = o) w.heap.size := fun e => by have e2 : w.heap.size = o := e; omega
  have hxl : ¬(fun b => b = o) lb := fun e => hlo e
  have HR : Hid (∀ m : LateX (fun b => b = o) W2, IntsAt m.w ro rs) := fun m => hrw.below (hBw.trans (m.only.below (Nat.le_of_lt hb02) fun b hb h => by have h2 : b = o := h; omega))
  have hC7 := cnt_le S
  have HhBw := Lib.hid hBw
  clear hBw
  have Hhlc2 := Lib.hid hlc2
  clear hlc2
  have Hkr := Lib.hid kr
  clear kr
  go_wp2_with fail
  go_loopw [8] (fun i wr => ∃ m : LateX (fun b => b = o) W2, wr = m.w ∧ ∃ (k : Nat) (ao : Option Addr) (cap : Nat), k ≤ cnt S ∧ i = .int .i64 k ∧ Blk m.w o #[.int .i64 (cnt S), .slice ao k cap] 28 ∧ OwnE m.w W2.heap.size ao cap (indTo rs (els S) k)) (fun i _ => cnt S - (intOf i).toNat)
  case atStart => exact ⟨LateX.refl _ _, rfl, 0, none, 0, by omega, rfl, k2, .inl (OwnL.nil _ _)⟩
  case round =>
    obtain ⟨m, rfl, k, ao, cap, hk, rfl, hbk, hO⟩ := hrel
    have hms := m.size
    have z1 := hbk.cell 1
    have z0 := hbk.cell 0
    simp at z0 z1
    have zl := hbk.lt
    by_cases hlt : k < cnt S
    · have hr3 := HR.out m
      have hc03 := (m.only.cell (p := ⟨w.heap.size, 0, none⟩) hb02 hx0).trans hc0'
      have hc13 := (m.only.cell (p := ⟨w.heap.size, 1, none⟩) hb02 hx0).trans hc1'
      have hb03 := Nat.lt_of_lt_of_le hb02 hms
      have hlb3 := Nat.lt_of_lt_of_le hlb2 hms
      have HL3 : Hid (∀ k, k < cnt S → m.w.cell? ⟨lb, lofs + k, none⟩ = some (.int .i64 (eln (els S) k : Int))) := fun k hk => (m.only.cell (p := ⟨lb, lofs + k, none⟩) hlb2 hxl).trans (Hhlc2.out k hk)
      have hO3 := m.only
      have hki := HL3.out k hlt
      have hvi := els_lt hS hg2 hlt
      have Hhbk := Lib.hid hbk
      clear hbk
      have HhO := Lib.hid hO
      clear hO
      have HhO3 := Lib.hid hO3
      clear hO3
      generalize m.w = W3 at *
      clear m
      obtain ⟨m, hm0⟩ : ∃ m : Later W3, m.w = W3 := ⟨Later.refl _, rfl⟩
      refine (fun h => hm0 ▸ h) ?_
      clear hm0
      go_wp2_with fail
      go_loopw [9, 10] (fun r i wr => (∃ m : Later W3, wr = m.w) ∧ ∃ t : Nat, t ≤ cnt S ∧ i = .int .i64 t ∧ r = .int .i64 (indRow rs (els S) k t)) (fun _ i _ => cnt S - (intOf i).toNat)
      case atStart => exact ⟨⟨m, rfl⟩, 0, by omega, rfl, rfl⟩
      case round =>
        obtain ⟨⟨m, rfl⟩, t, ht, rfl, rfl⟩ := hrel
        by_cases htt : t < cnt S
        · have hkt := HL3.out t htt
          have hvt := els_lt hS hg2 htt
          have HY := Lib.hid (fun h => indRow_yes (rs := rs) (l := els S) (i := k) (k := t) h)
          have HN := Lib.hid (fun h => indRow_no (rs := rs) (l := els S) (i := k) (k := t) h)
          have hA := fun m : Later W3 => l2Edge_any rs (eln (els S) k) (eln (els S) t) ro rc m.w (hr3.later m) g hvi hvt
          have hRl := indRow_lt rs (els S) k t
          have hp := Nat.pow_le_pow_right (n := 2) (by decide) (show t ≤ 6 by omega)
          have hwr : wrap64 ((indRow rs (els S) k t : Int) + pwN t) = ((indRow rs (els S) k t + 2 ^ t : Nat) : Int) := by
            rw [pwN_small t (by omega)]
            exact wrap_sum hRl hp
          generalize eln (els S) t = u at *
          generalize eln (els S) k = v at *
          go_wp2_with fail
          cases hb : (gn rs v).testBit u
          all_goals
            simp only [hb] at hA
            refine wp_region_later m rfl (by kernel_rfl) (by kernel_rfl) ?_
            repeat (go_big_quiet_step ((first | (go_at_call 110; exact Calls.later _ (hA _)))))
            refine wpQuiet_nil ?_
            rintro _ ⟨m, rfl⟩
            go_wp2_with fail
          · go_roundw
            case rel => exact ⟨⟨m, rfl⟩, t + 1, by omega, by go_num, by rw [HN.out hb]⟩
            case measure => simp [intOf]; omega
          · go_roundw
            case rel => exact ⟨⟨m, rfl⟩, t + 1, by omega, by go_num, by rw [HY.out hb, hwr]⟩
            case measure => simp [intOf]; omega
        · obtain rfl : t = cnt S := by omega
          have HU : Hid (indTo rs (els S) (k + 1) = indTo rs (els S) k ++ [(indRow rs (els S) k (cnt S) : Int)]) := indTo_succ rs (els S) k
          have hln := indTo_len rs (els S) k
          have kb := Hhbk.out.later m
          have y1 := kb.cell 1
          simp at y1
          have hms3 := m.size
          have hE := HhO.out.later m
          have hbase : W2.heap.size ≤ m.w.heap.size := by omega
          have hoo : o < m.w.heap.size := by omega
          generalize indRow rs (els S) k (cnt S) = row at *
          generalize indTo rs (els S) k = xs at *
          subst hln
          have HhE := Lib.hid hE
          clear hE
          have Hkb := Lib.hid kb
          clear kb
          go_wp2_with (first | (at_builtin; go_must (refine wpList_append_e rfl _ _ rfl W2.heap.size cap ao xs (row : Int) rfl HhE.out rfl hbase (by omega) ?_); intro ao2 cap2 w1 hown1 hB1; have kb2 := Hkb.out.below hB1 ho; have y0 := kb2.cell 1; have y2 := kb2.frozen 1))
          have hOF : Only (fun b => b = o) W2.heap.size W2 (w1.setCell ⟨o, 1, none⟩ (.slice ao2 (xs.length + 1) cap2)) := ((HhO3.out.more m.below hms).more hB1 (Nat.le_refl _)).setCell (p := ⟨o, 1, none⟩) (.inl rfl) _
          have hEF := hown1.setB2 (a := ⟨o, 1, none⟩) ho (.slice ao2 (xs.length + 1) cap2)
          have hBF : Blk (w1.setCell ⟨o, 1, none⟩ (.slice ao2 (xs.length + 1) cap2)) o #[.int .i64 (cnt S), .slice ao2 (xs.length + 1) cap2] 28 := by
            have := kb2.store 1 (.slice ao2 (xs.length + 1) cap2)
            simpa using this
          clear hown1 kb2 hB1 y0 y2
          have HhOF := Lib.hid hOF
          clear hOF
          have HhEF := Lib.hid hEF
          clear hEF
          have HhBF := Lib.hid hBF
          clear hBF
          go_wp2_with fail
          go_roundw
          case rel => exact ⟨⟨_, HhOF.out⟩, rfl, xs.length + 1, ao2, cap2, by omega, by go_num, HhBF.out, by rw [HU.out]; exact HhEF.out⟩
          case measure => simp [intOf]; omega
    · obtain rfl : k = cnt S := by omega
      have hI := hO.ints
      have km := m.blk Hkr.out (fun h => by have h2 : w.heap.size + 1 = o := h; omega)
      have y0 := km.cell 0
      have y1 := km.cell 1
      have y2 := km.frozen 0
      have y3 := km.frozen 1
      have kml := km.lt
      simp at y0 y1
      have hF : Below w.heap.size w ((m.w.setCell ⟨w.heap.size + 1, 0, none⟩ (.int .i64 (cnt S))).setCell ⟨w.heap.size + 1, 1, none⟩ (.slice ao (cnt S) cap)) :=
        ((HhBw.out.trans (m.only.below (Nat.le_of_lt hb02) fun b hb h => by have h2 : b = o := h; omega)).setCell (by simp) _).setCell (by simp) _
      have hIF : OwnE ((m.w.setCell ⟨w.heap.size + 1, 0, none⟩ (.int .i64 (cnt S))).setCell ⟨w.heap.size + 1, 1, none⟩ (.slice ao (cnt S) cap)) w.heap.size ao cap (ind rs S) :=
        ((hO.setB2 (a := ⟨w.heap.size + 1, 0, none⟩) (by show w.heap.size + 1 < W2.heap.size; omega) (.int .i64 (cnt S))).setB2 (a := ⟨w.heap.size + 1, 1, none⟩) (by show w.heap.size + 1 < W2.heap.size; omega) (.slice ao (cnt S) cap)).mono' (Nat.le_of_lt hb02)
      clear km hI hO
      have HhF := Lib.hid hF
      clear hF
      have HhIF := Lib.hid hIF
      clear hIF
      go_wp2_with fail
      refine bodyPost_ret (v := .tuple #[.agg #[.int .i64 (cnt S), .slice ao (cnt S) cap], .bool true]) (by simp [results, Try.results70, go_sem, y0, y1]) rfl ?_
      exact ⟨ao, cap, rfl, HhF.out, HhIF.out⟩

set_option maxRecDepth 100000 in
set_option maxHeartbeats 2000000 in
theorem specInd_bad (n : Int) (rs : List Int) (s : Int) (ro : Option Addr) (rc : Nat) (w : World) (hr : IntsAt w ro rs) (hrl : rs.length ≤ 1048576) (hb : isSetB n rs s = false ∨ s = 0) :
    Calls Try.prog 70 #[.agg #[.int .i64 n, .slice ro rs.length rc], .int .i64 s] w fun e w' => e = .returned (.tuple #[.agg #[.int .i64 0, .slice none 0 0], .bool false]) ∧ Below w.heap.size w w' := by
  go_enter Try.func70, Try.ntmps70
  go_wp2_with fail
  generalize hW : World.alloc _ _ = W1
  obtain ⟨hB, -, -, k1⟩ := alloc2 hW
  replace hr := hr.below hB
  clear hW
  obtain ⟨m, hm0⟩ : ∃ m : Later W1, m.w = W1 := ⟨Later.refl _, rfl⟩
  refine (fun h => hm0 ▸ h) ?_
  clear hm0
  refine (Calls.later m (specIsSet_any _ _ _ _ _ _ (hr.later m) hrl)).mono ?_
  rintro e w' ⟨rfl, m, rfl⟩
  have k1' := k1.later m
  have y0 := k1'.cell 0
  have y1 := k1'.cell 1
  have y2 := k1'.frozen 0
  have y3 := k1'.frozen 1
  simp at y0 y1
  have hF : Below w.heap.size w ((m.w.setCell ⟨w.heap.size + 1, 0, none⟩ (.int .i64 0)).setCell ⟨w.heap.size + 1, 1, none⟩ (.slice none 0 0)) := ((below_later hB m).setCell (by simp) _).setCell (by simp) _
  clear k1 k1'
  have HhB := Lib.hid hB
  clear hB
  have HhF := Lib.hid hF
  clear hF
  cases hI : isSetB n rs s
  · clear hb
    go_wp2_with fail
    refine bodyPost_ret (v := .tuple #[.agg #[.int .i64 0, .slice none 0 0], .bool false]) (by simp [results, Try.results70, go_sem, y0, y1]) rfl ?_
    exact ⟨rfl, HhF.out⟩
  · obtain rfl : s = 0 := hb.elim (fun h => by rw [hI] at h; exact absurd h (by decide)) id
    clear hb
    go_wp2_with fail
    refine bodyPost_ret (v := .tuple #[.agg #[.int .i64 0, .slice none 0 0], .bool false]) (by simp [results, Try.results70, go_sem, y0, y1]) rfl ?_
    exact ⟨rfl, HhF.out⟩

end Go.Proofs.Ytepbhgapjogkjaa
