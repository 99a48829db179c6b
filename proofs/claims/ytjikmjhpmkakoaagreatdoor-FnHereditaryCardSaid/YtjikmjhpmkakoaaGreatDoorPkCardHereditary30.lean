/-
  InducedOn of the reference. For at most 2^20 rows.
  induced and InducedOn of the program. For at most 2^20 rows.
-/
import Derived.Test.YtjikmjhpmkakoaaGreatDoorPkCardHereditary05
import Derived.Test.YtjikmjhpmkakoaaGreatDoorPkCardHereditary03
import Derived.Test.YtjikmjhpmkakoaaGreatDoorPkCardHereditary08
import Derived.Deep.RegionHeld3
import Derived.Deep.RegionLaw
import Derived.Laws.EntriesVeiled
namespace Go.Proofs.YtjikmjhpmkakoaaGreatDoor
open Go.RowKit

/-- The row of the i-th member among the first k members of a list. -/
def indRow (rs : List Int) (l : List Nat) (i : Nat) : Nat → Nat
  | 0 => 0
  | k + 1 => if (gn rs (eln l i)).testBit (eln l k) = true then indRow rs l i k ||| 2 ^ k else indRow rs l i k
theorem indRow_lt (rs : List Int) (l : List Nat) (i : Nat) : ∀ k, indRow rs l i k < 2 ^ k := by
  intro k
  induction k with
  | zero => simp [indRow]
  | succ k ih =>
    have e : 2 ^ (k + 1) = 2 ^ k + 2 ^ k := by omega
    unfold indRow; split
    · rw [or_pow _ _ ih]; omega
    · omega
theorem indRow_yes {rs : List Int} {l : List Nat} {i k : Nat} (h : (gn rs (eln l i)).testBit (eln l k) = true) : indRow rs l i (k + 1) = indRow rs l i k + 2 ^ k := by
  show (if (gn rs (eln l i)).testBit (eln l k) = true then indRow rs l i k ||| 2 ^ k else indRow rs l i k) = _
  rw [if_pos h, or_pow _ _ (indRow_lt rs l i k)]
theorem indRow_no {rs : List Int} {l : List Nat} {i k : Nat} (h : (gn rs (eln l i)).testBit (eln l k) = false) : indRow rs l i (k + 1) = indRow rs l i k := by
  show (if (gn rs (eln l i)).testBit (eln l k) = true then indRow rs l i k ||| 2 ^ k else indRow rs l i k) = _
  rw [if_neg (by rw [h]; decide)]
/-- The rows of the first i members. -/
def indTo (rs : List Int) (l : List Nat) (i : Nat) : List Int := (List.range i).map fun j => (indRow rs l j l.length : Int)
theorem indTo_succ (rs : List Int) (l : List Nat) (i : Nat) : indTo rs l (i + 1) = indTo rs l i ++ [(indRow rs l i l.length : Int)] := by unfold indTo; rw [List.range_succ, List.map_append]; rfl
theorem indTo_len (rs : List Int) (l : List Nat) (i : Nat) : (indTo rs l i).length = i := by simp [indTo]
/-- The rows of the part of a graph. -/
def ind (rs : List Int) (S : Nat) : List Int := indTo rs (els S) (cnt S)
theorem ind_len (rs : List Int) (S : Nat) : (ind rs S).length = cnt S := indTo_len _ _ _

theorem cnt_pos {S N : Nat} (h : S < 2 ^ N) (hN : N ≤ 7) (h0 : 0 < S) : 0 < (els S).length := by
  rcases Nat.eq_zero_or_pos (els S).length with h1 | h1
  · exfalso
    have h2 : S.testBit S.log2 = true := Nat.testBit_log2 (by omega)
    have h3 := (mem_els h hN).2 h2
    rw [List.length_eq_zero_iff.1 h1] at h3
    simp at h3
  · exact h1
theorem els_lt {S N k : Nat} (h : S < 2 ^ N) (hN : N ≤ 7) (hk : k < cnt S) : eln (els S) k < N := testBit_lt h ((mem_els h hN).1 (eln_mem hk))
theorem wrap_sum {a b : Nat} (ha : a < b) (hb : b ≤ 2 ^ 6) : wrap64 ((a : Int) + (b : Int)) = ((a + b : Nat) : Int) := by
  have e : (2 : Nat) ^ 6 = 64 := by decide
  simp only [wrap64]
  omega
theorem OwnE.setB2 {w : World} {base cap : Nat} {ao : Option Addr} {xs : List Int} (h : OwnE w base ao cap xs) {a : Addr} (ha : a.block < base) (u : Value) : OwnE (w.setCell a u) base ao cap xs :=
  h.imp (fun h => ownsRow_setCell_below h ha u) id

set_option maxRecDepth 100000 in
set_option maxHeartbeats 2000000 in
theorem specInd_any (rs : List Int) (S : Nat) (ro : Option Addr) (rc : Nat) (w : World) (hr : IntsAt w ro rs) (hv : isGraphB rs.length rs = true) (hS : S < 2 ^ rs.length) (h0 : 0 < S) :
    Calls Tryz.prog 67 #[.agg #[.int .i64 rs.length, .slice ro rs.length rc], .int .i64 S] w fun e w' => ∃ ao cap, e = .returned (.tuple #[.agg #[.int .i64 (cnt S), .slice ao (cnt S) cap], .bool true]) ∧ Below w.heap.size w w' ∧ OwnE w' w.heap.size ao cap (ind rs S) := by
  have g := (VG.of hv).2
  have hg1 := g.pos
  have hg2 := g.le
  have hp1 := g.pow.1
  have hrl : rs.length ≤ 1048576 := by omega
  have hS128 : S < 128 := by omega
  have hI := isSetB_mk hv hS
  have d0 : ((S : Int) == 0) = false := by rw [beq_eq_false_iff_ne]; omega
  have hrw := hr
  go_enter Tryz.func67, Tryz.ntmps67
  go_wp2_with fail
  generalize hW : World.alloc _ _ = W1
  obtain ⟨hB, hs1, k0, k1⟩ := alloc2 hW
  replace hr := hr.below hB
  clear hW
  obtain ⟨m, hm0⟩ : ∃ m : Later W1, m.w = W1 := ⟨Later.refl _, rfl⟩
  refine (fun h => hm0 ▸ h) ?_
  clear hm0
  have hb0 := k0.lt
  have hc0 := k0.cell 0
  have hc1 := k0.cell 1
  simp at hc0 hc1
  have HhB := Lib.hid hB
  clear hB
  refine (Calls.later m (specIsSet_any _ _ _ _ _ _ (hr.later m) hrl)).mono ?_
  rintro e w' ⟨rfl, m, rfl⟩
  rw [hI]
  have hbm := Nat.lt_of_lt_of_le hb0 m.size
  go_wp2_with fail
  refine (specListN_any S hS128 _).mono ?_
  rintro e w2 ⟨lo, lc, rfl, hB2, hL⟩
  obtain ⟨m, rfl⟩ : ∃ m2 : Later W1, m2.w = w2 := ⟨m.on hB2, rfl⟩
  clear hB2 hbm
  have hbm := Nat.lt_of_lt_of_le hb0 m.size
  go_wp2_with fail
  obtain ⟨lb, lofs, rfl, hlb, hlc⟩ := hL (cnt_pos hS hg2 h0)
  clear hL
  generalize hW2 : World.alloc _ _ = W2
  obtain ⟨hB2, -, k2⟩ := alloc1 hW2
  have hlb2 : lb < W2.heap.size := Nat.lt_of_lt_of_le hlb hB2.size
  have hlc2 : ∀ k, k < cnt S → W2.cell? ⟨lb, lofs + k, none⟩ = some (.int .i64 (eln (els S) k : Int)) := fun k hk => (hB2.cell (p := ⟨lb, lofs + k, none⟩) hlb).trans (hlc k hk)
  have hlo : lb ≠ m.w.heap.size := by omega
  have hB4 := below_more m.below hB2
  have hoW : W1.heap.size ≤ m.w.heap.size := m.size
  have ho := k2.lt
  have hc0' := (hB4.cell (p := ⟨w.heap.size, 0, none⟩) hb0).trans hc0
  have hc1' := (hB4.cell (p := ⟨w.heap.size, 1, none⟩) hb0).trans hc1
  have kr := k1.below hB4 k1.lt
  have krl := k1.lt
  have hb02 : w.heap.size < W2.heap.size := Nat.lt_of_lt_of_le hb0 hB4.size
  have hBw := below_more' HhB.out hB4
  have hlw : lb < m.w.heap.size := hlb
  have hwo : w.heap.size < m.w.heap.size := Nat.lt_of_lt_of_le hb0 hoW
  clear hW2 hB2 hlc hc0 hc1 hb0 hbm hlb hB4 k0 k1 HhB
  replace hr := hr
  generalize m.w.heap.size = o at *
  clear m
  have hx0 : ¬(fun b => b = o) w.heap.size := fun e => by have e2 : w.heap.size = o := e; omega
  have hxl : ¬(fun b => b = o) lb := fun e => hlo e
  have HR : Hid (∀ m : LateX (fun b => b = o) W2, IntsAt m.w ro rs) := fun m => hrw.below (hBw.trans (m.only.below (Nat.le_of_lt hb02) fun b hb h => by have h2 : b = o := h; omega))
  have hC7 := cnt_le S
  have HhBw := Lib.hid hBw
  clear hBw
  have Hhlc2 := Lib.hid hlc2
  clear hlc2
  have Hkr := Lib.hid kr
  clear kr
  go_wp2_with fail
  go_loopw [8] (fun i wr => ∃ m : LateX (fun b => b = o) W2, wr = m.w ∧ ∃ (k : Nat) (ao : Option Addr) (cap : Nat), k ≤ cnt S ∧ i = .int .i64 k ∧ Blk m.w o #[.int .i64 (cnt S), .slice ao k cap] 26 ∧ OwnE m.w W2.heap.size ao cap (indTo rs (els S) k)) (fun i _ => cnt S - (intOf i).toNat)
  case atStart => exact ⟨LateX.refl _ _, rfl, 0, none, 0, by omega, rfl, k2, .inl (OwnL.nil _ _)⟩
  case round =>
    obtain ⟨m, rfl, k, ao, cap, hk, rfl, hbk, hO⟩ := hrel
    have hms := m.size
    have z1 := hbk.cell 1
    have z0 := hbk.cell 0
    simp at z0 z1
    have zl := hbk.lt
    by_cases hlt : k < cnt S
    · have hr3 := HR.out m
      have hc03 := (m.only.cell (p := ⟨w.heap.size, 0, none⟩) hb02 hx0).trans hc0'
      have hc13 := (m.only.cell (p := ⟨w.heap.size, 1, none⟩) hb02 hx0).trans hc1'
      have hb03 := Nat.lt_of_lt_of_le hb02 hms
      have hlb3 := Nat.lt_of_lt_of_le hlb2 hms
      have HL3 : Hid (∀ k, k < cnt S → m.w.cell? ⟨lb, lofs + k, none⟩ = some (.int .i64 (eln (els S) k : Int))) := fun k hk => (m.only.cell (p := ⟨lb, lofs + k, none⟩) hlb2 hxl).trans (Hhlc2.out k hk)
      have hO3 := m.only
      have hki := HL3.out k hlt
      have hvi := els_lt hS hg2 hlt
      have Hhbk := Lib.hid hbk
      clear hbk
      have HhO := Lib.hid hO
      clear hO
      have HhO3 := Lib.hid hO3
      clear hO3
      generalize m.w = W3 at *
      clear m
      obtain ⟨m, hm0⟩ : ∃ m : Later W3, m.w = W3 := ⟨Later.refl _, rfl⟩
      refine (fun h => hm0 ▸ h) ?_
      clear hm0
      go_wp2_with fail
      go_loopw [9, 10] (fun r i wr => (∃ m : Later W3, wr = m.w) ∧ ∃ t : Nat, t ≤ cnt S ∧ i = .int .i64 t ∧ r = .int .i64 (indRow rs (els S) k t)) (fun _ i _ => cnt S - (intOf i).toNat)
      case atStart => exact ⟨⟨m, rfl⟩, 0, by omega, rfl, rfl⟩
      case round =>
        obtain ⟨⟨m, rfl⟩, t, ht, rfl, rfl⟩ := hrel
        by_cases htt : t < cnt S
        · have hkt := HL3.out t htt
          have hvt := els_lt hS hg2 htt
          have HY := Lib.hid (fun h => indRow_yes (rs := rs) (l := els S) (i := k) (k := t) h)
          have HN := Lib.hid (fun h => indRow_no (rs := rs) (l := els S) (i := k) (k := t) h)
          have hA := fun m : Later W3 => l2Edge_any rs (eln (els S) k) (eln (els S) t) ro rc m.w (hr3.later m) g hvi hvt
          have hRl := indRow_lt rs (els S) k t
          have hp := Nat.pow_le_pow_right (n := 2) (by decide) (show t ≤ 6 by omega)
          have hwr : wrap64 ((indRow rs (els S) k t : Int) + pwN t) = ((indRow rs (els S) k t + 2 ^ t : Nat) : Int) := by
            rw [pwN_small t (by omega)]
            exact wrap_sum hRl hp
          generalize eln (els S) t = u at *
          generalize eln (els S) k = v at *
          go_wp2_with fail
          cases hb : (gn rs v).testBit u
          all_goals
            simp only [hb] at hA
            refine wp_region_later m rfl (by kernel_rfl) (by kernel_rfl) ?_
            repeat (go_big_quiet_step ((first | (go_at_call 101; exact Calls.later _ (hA _)))))
            refine wpQuiet_nil ?_
            rintro _ ⟨m, rfl⟩
            go_wp2_with fail
          · go_roundw
            case rel => exact ⟨⟨m, rfl⟩, t + 1, by omega, by go_num, by rw [HN.out hb]⟩
            case measure => simp [intOf]; omega
          · go_roundw
            case rel => exact ⟨⟨m, rfl⟩, t + 1, by omega, by go_num, by rw [HY.out hb, hwr]⟩
            case measure => simp [intOf]; omega
        · obtain rfl : t = cnt S := by omega
          have HU : Hid (indTo rs (els S) (k + 1) = indTo rs (els S) k ++ [(indRow rs (els S) k (cnt S) : Int)]) := indTo_succ rs (els S) k
          have hln := indTo_len rs (els S) k
          have kb := Hhbk.out.later m
          have y1 := kb.cell 1
          simp at y1
          have hms3 := m.size
          have hE := HhO.out.later m
          have hbase : W2.heap.size ≤ m.w.heap.size := by omega
          have hoo : o < m.w.heap.size := by omega
          generalize indRow rs (els S) k (cnt S) = row at *
          generalize indTo rs (els S) k = xs at *
          subst hln
          have HhE := Lib.hid hE
          clear hE
          have Hkb := Lib.hid kb
          clear kb
          go_wp2_with (first | (at_builtin; go_must (refine wpList_append_e rfl _ _ rfl W2.heap.size cap ao xs (row : Int) rfl HhE.out rfl hbase (by omega) ?_); intro ao2 cap2 w1 hown1 hB1; have kb2 := Hkb.out.below hB1 ho; have y0 := kb2.cell 1; have y2 := kb2.frozen 1))
          have hOF : Only (fun b => b = o) W2.heap.size W2 (w1.setCell ⟨o, 1, none⟩ (.slice ao2 (xs.length + 1) cap2)) := ((HhO3.out.more m.below hms).more hB1 (Nat.le_refl _)).setCell (p := ⟨o, 1, none⟩) (.inl rfl) _
          have hEF := hown1.setB2 (a := ⟨o, 1, none⟩) ho (.slice ao2 (xs.length + 1) cap2)
          have hBF : Blk (w1.setCell ⟨o, 1, none⟩ (.slice ao2 (xs.length + 1) cap2)) o #[.int .i64 (cnt S), .slice ao2 (xs.length + 1) cap2] 26 := by
            have := kb2.store 1 (.slice ao2 (xs.length + 1) cap2)
            simpa using this
          clear hown1 kb2 hB1 y0 y2
          have HhOF := Lib.hid hOF
          clear hOF
          have HhEF := Lib.hid hEF
          clear hEF
          have HhBF := Lib.hid hBF
          clear hBF
          go_wp2_with fail
          go_roundw
          case rel => exact ⟨⟨_, HhOF.out⟩, rfl, xs.length + 1, ao2, cap2, by omega, by go_num, HhBF.out, by rw [HU.out]; exact HhEF.out⟩
          case measure => simp [intOf]; omega
    · obtain rfl : k = cnt S := by omega
      have hI := hO.ints
      have km := m.blk Hkr.out (fun h => by have h2 : w.heap.size + 1 = o := h; omega)
      have y0 := km.cell 0
      have y1 := km.cell 1
      have y2 := km.frozen 0
      have y3 := km.frozen 1
      have kml := km.lt
      simp at y0 y1
      have hF : Below w.heap.size w ((m.w.setCell ⟨w.heap.size + 1, 0, none⟩ (.int .i64 (cnt S))).setCell ⟨w.heap.size + 1, 1, none⟩ (.slice ao (cnt S) cap)) :=
        ((HhBw.out.trans (m.only.below (Nat.le_of_lt hb02) fun b hb h => by have h2 : b = o := h; omega)).setCell (by simp) _).setCell (by simp) _
      have hIF : OwnE ((m.w.setCell ⟨w.heap.size + 1, 0, none⟩ (.int .i64 (cnt S))).setCell ⟨w.heap.size + 1, 1, none⟩ (.slice ao (cnt S) cap)) w.heap.size ao cap (ind rs S) :=
        ((hO.setB2 (a := ⟨w.heap.size + 1, 0, none⟩) (by show w.heap.size + 1 < W2.heap.size; omega) (.int .i64 (cnt S))).setB2 (a := ⟨w.heap.size + 1, 1, none⟩) (by show w.heap.size + 1 < W2.heap.size; omega) (.slice ao (cnt S) cap)).mono' (Nat.le_of_lt hb02)
      clear km hI hO
      have HhF := Lib.hid hF
      clear hF
      have HhIF := Lib.hid hIF
      clear hIF
      go_wp2_with fail
      refine bodyPost_ret (v := .tuple #[.agg #[.int .i64 (cnt S), .slice ao (cnt S) cap], .bool true]) (by simp [results, Tryz.results67, go_sem, y0, y1]) rfl ?_
      exact ⟨ao, cap, rfl, HhF.out, HhIF.out⟩

set_option maxRecDepth 100000 in
set_option maxHeartbeats 2000000 in
theorem specInd_bad (n : Int) (rs : List Int) (s : Int) (ro : Option Addr) (rc : Nat) (w : World) (hr : IntsAt w ro rs) (hrl : rs.length ≤ 1048576) (hb : isSetB n rs s = false ∨ s = 0) :
    Calls Tryz.prog 67 #[.agg #[.int .i64 n, .slice ro rs.length rc], .int .i64 s] w fun e w' => e = .returned (.tuple #[.agg #[.int .i64 0, .slice none 0 0], .bool false]) ∧ Below w.heap.size w w' := by
  go_enter Tryz.func67, Tryz.ntmps67
  go_wp2_with fail
  generalize hW : World.alloc _ _ = W1
  obtain ⟨hB, -, -, k1⟩ := alloc2 hW
  replace hr := hr.below hB
  clear hW
  obtain ⟨m, hm0⟩ : ∃ m : Later W1, m.w = W1 := ⟨Later.refl _, rfl⟩
  refine (fun h => hm0 ▸ h) ?_
  clear hm0
  refine (Calls.later m (specIsSet_any _ _ _ _ _ _ (hr.later m) hrl)).mono ?_
  rintro e w' ⟨rfl, m, rfl⟩
  have k1' := k1.later m
  have y0 := k1'.cell 0
  have y1 := k1'.cell 1
  have y2 := k1'.frozen 0
  have y3 := k1'.frozen 1
  simp at y0 y1
  have hF : Below w.heap.size w ((m.w.setCell ⟨w.heap.size + 1, 0, none⟩ (.int .i64 0)).setCell ⟨w.heap.size + 1, 1, none⟩ (.slice none 0 0)) := ((below_later hB m).setCell (by simp) _).setCell (by simp) _
  clear k1 k1'
  have HhB := Lib.hid hB
  clear hB
  have HhF := Lib.hid hF
  clear hF
  cases hI : isSetB n rs s
  · clear hb
    go_wp2_with fail
    refine bodyPost_ret (v := .tuple #[.agg #[.int .i64 0, .slice none 0 0], .bool false]) (by simp [results, Tryz.results67, go_sem, y0, y1]) rfl ?_
    exact ⟨rfl, HhF.out⟩
  · obtain rfl : s = 0 := hb.elim (fun h => by rw [hI] at h; exact absurd h (by decide)) id
    clear hb
    go_wp2_with fail
    refine bodyPost_ret (v := .tuple #[.agg #[.int .i64 0, .slice none 0 0], .bool false]) (by simp [results, Tryz.results67, go_sem, y0, y1]) rfl ?_
    exact ⟨rfl, HhF.out⟩

/-- The rows while they are made: row k has its first t places. -/
def indAt (rs : List Int) (l : List Nat) (n k t : Nat) : List Int := (List.range n).map fun j => ((if j < k then indRow rs l j n else if j = k then indRow rs l k t else 0 : Nat) : Int)
theorem indAt_len (rs : List Int) (l : List Nat) (n k t : Nat) : (indAt rs l n k t).length = n := by simp [indAt]
theorem indAt_at {rs : List Int} {l : List Nat} {n k t : Nat} (hk : k < n) : gi (indAt rs l n k t) k = (indRow rs l k t : Int) := by simp [indAt, gi, hk]
theorem indAt_set {rs : List Int} {l : List Nat} {n k t : Nat} : (indAt rs l n k t).set k (indRow rs l k (t + 1) : Int) = indAt rs l n k (t + 1) := by
  apply List.ext_getElem (by simp [indAt])
  intro j h1 h2
  rw [List.getElem_set]
  by_cases e : k = j
  · subst e; simp [indAt]
  · have e' : j ≠ k := fun h => e h.symm
    simp [indAt, e, e']
theorem indAt_same {rs : List Int} {l : List Nat} {n k t : Nat} (h : indRow rs l k (t + 1) = indRow rs l k t) : indAt rs l n k (t + 1) = indAt rs l n k t := by
  unfold indAt; rw [h]
theorem indAt_next (rs : List Int) (l : List Nat) (n k : Nat) : indAt rs l n k n = indAt rs l n (k + 1) 0 := by
  unfold indAt
  apply List.map_congr_left
  intro j _
  by_cases h1 : j < k
  · rw [if_pos h1, if_pos (by omega)]
  · by_cases h2 : j = k
    · subst h2; rw [if_neg h1, if_pos rfl, if_pos (by omega)]
    · rw [if_neg h1, if_neg h2, if_neg (by omega)]; split <;> rfl
theorem indAt_end (rs : List Int) (l : List Nat) : indAt rs l l.length l.length 0 = indTo rs l l.length := by
  unfold indAt indTo
  apply List.map_congr_left
  intro j h
  rw [if_pos (by simpa using h)]
theorem indAt_start (rs : List Int) (l : List Nat) (n : Nat) : indAt rs l n 0 0 = List.replicate n 0 := by
  apply List.ext_getElem (by simp [indAt])
  intro j h1 h2
  by_cases e : j = 0
  · simp [indAt, e, indRow]
  · simp [indAt, e]

set_option maxRecDepth 100000 in
set_option maxHeartbeats 2000000 in
theorem implInduced_any (rs : List Int) (S : Nat) (ro : Option Addr) (rc : Nat) (w : World) (hr : IntsAt w ro rs) (hv : isGraphB rs.length rs = true) (hS : S < 2 ^ rs.length) (h0 : 0 < S) :
    Calls Tryz.prog 106 #[.agg #[.int .i64 rs.length, .slice ro rs.length rc], .int .i64 S] w fun e w' => ∃ b, e = .returned (.agg #[.int .i64 (cnt S), .slice (some ⟨b, 0, none⟩) (cnt S) (cnt S)]) ∧ Below w.heap.size w w' ∧ w.heap.size ≤ b ∧ OwnInts w' b (ind rs S) := by
  have g := (VG.of hv).2
  have hg1 := g.pos
  have hg2 := g.le
  have hp1 := g.pow.1
  have hrl : rs.length ≤ 1048576 := by omega
  have hS128 : S < 128 := by omega
  have hrw := hr
  go_enter Tryz.func106, Tryz.ntmps106
  go_wp2_with fail
  generalize hW : World.alloc _ _ = W1
  obtain ⟨hB, hs1, k0, k1⟩ := alloc2 hW
  replace hr := hr.below hB
  clear hW
  obtain ⟨m, hm0⟩ : ∃ m : Later W1, m.w = W1 := ⟨Later.refl _, rfl⟩
  refine (fun h => hm0 ▸ h) ?_
  clear hm0
  have hb0 := k0.lt
  have hc0 := k0.cell 0
  have hc1 := k0.cell 1
  simp at hc0 hc1
  have HhB := Lib.hid hB
  clear hB
  refine (implListN_any S hS128 _).mono ?_
  rintro e w2 ⟨lo, lc, rfl, hB2, hL⟩
  obtain ⟨m, rfl⟩ : ∃ m2 : Later W1, m2.w = w2 := ⟨m.on hB2, rfl⟩
  clear hB2
  have hC7 := cnt_le S
  have hmk := run_make_ints (cnt S) (by omega)
  go_wp2_with fail
  clear hmk
  obtain ⟨lb, lofs, rfl, hlb, hlc⟩ := hL (cnt_pos hS hg2 h0)
  clear hL
  generalize hW2 : World.alloc _ _ = W2
  obtain ⟨hB2, -, kY, ko⟩ := alloc2 hW2
  have hlb2 : lb < W2.heap.size := Nat.lt_of_lt_of_le hlb hB2.size
  have hlc2 : ∀ k, k < cnt S → W2.cell? ⟨lb, lofs + k, none⟩ = some (.int .i64 (eln (els S) k : Int)) := fun k hk => (hB2.cell (p := ⟨lb, lofs + k, none⟩) hlb).trans (hlc k hk)
  have hly : lb ≠ m.w.heap.size := by omega
  have hB4 := below_more m.below hB2
  have hoW : W1.heap.size ≤ m.w.heap.size := m.size
  have hY : OwnInts W2 m.w.heap.size (indAt rs (els S) (cnt S) 0 0) := by rw [indAt_start]; exact kY
  have hyl := kY.lt
  have hol := ko.lt
  have ho1 := ko.cell 1
  simp at ho1
  have hc0' := (hB4.cell (p := ⟨w.heap.size, 0, none⟩) hb0).trans hc0
  have hc1' := (hB4.cell (p := ⟨w.heap.size, 1, none⟩) hb0).trans hc1
  have kr := k1.below hB4 k1.lt
  have krl := k1.lt
  have hb02 : w.heap.size < W2.heap.size := Nat.lt_of_lt_of_le hb0 hB4.size
  have hBw := below_more' HhB.out hB4
  have hwy : w.heap.size < m.w.heap.size := Nat.lt_of_lt_of_le hb0 hoW
  obtain ⟨rb, rofs, rfl, hrb, hrc⟩ := hrw.graph g
  have hrb2 : rb < W2.heap.size := by omega
  have hrc2 : ∀ k, k < rs.length → W2.cell? ⟨rb, rofs + k, none⟩ = some (.int .i64 (gn rs k : Int)) := fun k hk => (hBw.cell (p := ⟨rb, rofs + k, none⟩) hrb).trans (hrc k hk)
  clear hW2 hB2 hlc hc0 hc1 hb0 hlb hB4 k0 k1 HhB kY hr
  generalize hyb : m.w.heap.size = y at *
  have hoy : (y : Nat) + 1 ≠ y := by omega
  have hx0 : ¬(fun b => b = y) w.heap.size := fun e => by have e2 : w.heap.size = y := e; omega
  have hxl : ¬(fun b => b = y) lb := fun e => hly e
  have hxr : ¬(fun b => b = y) rb := fun e => by have e2 : rb = y := e; omega
  have hxo : ¬(fun b => b = y) (y + 1) := fun e => by have e2 : y + 1 = y := e; omega
  clear hyb m
  have HhBw := Lib.hid hBw
  clear hBw
  have Hhlc2 := Lib.hid hlc2
  clear hlc2
  have Hkr := Lib.hid kr
  clear kr
  have HhY := Lib.hid hY
  clear hY
  have Hhrc2 := Lib.hid hrc2
  clear hrc2
  have hC7' : cnt S ≤ 7 := hC7
  go_wp2_with fail
  go_loopw [21] (fun i wr => ∃ m : LateX (fun b => b = y) W2, wr = m.w ∧ ∃ k : Nat, k ≤ cnt S ∧ i = .int .i64 k ∧ OwnInts m.w y (indAt rs (els S) (cnt S) k 0)) (fun i _ => cnt S - (intOf i).toNat)
  case atStart => exact ⟨LateX.refl _ _, rfl, 0, by omega, rfl, HhY.out⟩
  case round =>
    obtain ⟨m, rfl, k, hk, rfl, hYk⟩ := hrel
    have HhYk := Lib.hid hYk
    clear hYk
    by_cases hlt : k < cnt S
    · have hki := (m.only.cell (p := ⟨lb, lofs + k, none⟩) hlb2 hxl).trans (Hhlc2.out k hlt)
      have hvi := els_lt hS hg2 hlt
      have hmlb := Nat.lt_of_lt_of_le hlb2 m.size
      go_wp2_with fail
      go_loopw [28] (fun i wr => ∃ m : LateX (fun b => b = y) W2, wr = m.w ∧ ∃ t : Nat, t ≤ cnt S ∧ i = .int .i64 t ∧ OwnInts m.w y (indAt rs (els S) (cnt S) k t)) (fun i _ => cnt S - (intOf i).toNat)
      case atStart => exact ⟨m, rfl, 0, by omega, rfl, HhYk.out⟩
      case round =>
        clear hki HhYk
        obtain ⟨m, rfl, t, ht, rfl, hYt⟩ := hrel
        by_cases htt : t < cnt S
        · have hkt := (m.only.cell (p := ⟨lb, lofs + t, none⟩) hlb2 hxl).trans (Hhlc2.out t htt)
          have hvt := els_lt hS hg2 htt
          have hgc := (m.only.cell (p := ⟨rb, rofs + eln (els S) k, none⟩) hrb2 hxr).trans (Hhrc2.out _ hvi)
          have hc13 := (m.only.cell (p := ⟨w.heap.size, 1, none⟩) hb02 hx0).trans hc1'
          have hms := m.size
          have ho3 := (m.only.cell (p := ⟨y + 1, 1, none⟩) hol hxo).trans ho1
          have hyc := hYt.cell k (by rw [indAt_len]; exact hlt)
          rw [indAt_at hlt] at hyc
          have hyf := hYt.frozen k
          have HY := Lib.hid (fun h => indRow_yes (rs := rs) (l := els S) (i := k) (k := t) h)
          have HN := Lib.hid (fun h => indRow_no (rs := rs) (l := els S) (i := k) (k := t) h)
          have hRl := indRow_lt rs (els S) k t
          have hp := Nat.pow_le_pow_right (n := 2) (by decide) (show t ≤ 6 by omega)
          have hA := fun w => has_any (gn rs (eln (els S) k) : Int) (eln (els S) t : Int) (by omega) (by omega) w
          simp only [Int.toNat_natCast, hasN_nat] at hA
          have HS := Lib.hid (indAt_set (rs := rs) (l := els S) (n := cnt S) (k := k) (t := t))
          have HS2 := Lib.hid (fun h => indAt_same (rs := rs) (l := els S) (n := cnt S) (k := k) (t := t) h)
          have hor : bits .or .i64 (indRow rs (els S) k t : Int) (pwN t) = ((indRow rs (els S) k t + 2 ^ t : Nat) : Int) := by
            rw [pwN_small t (by omega), bits_or_nat _ _ (by omega) (by omega), or_pow _ _ hRl]
          have HNg : Hid (∃ N, N = indRow rs (els S) k t + 2 ^ t) := ⟨_, rfl⟩
          obtain ⟨N, hNg⟩ := HNg.out
          rw [← hNg] at hor
          have HhNg := Lib.hid hNg
          clear hNg
          have hmlb := Nat.lt_of_lt_of_le hlb2 m.size
          have hmrb := Nat.lt_of_lt_of_le hrb2 m.size
          have hmyb := Nat.lt_of_lt_of_le hyl m.size
          have HhYt := Lib.hid hYt
          clear hYt
          cases hb : (gn rs (eln (els S) k)).testBit (eln (els S) t)
          all_goals
            simp only [hb] at hA
            go_wp2_with (first | (go_at_call 60; refine (hA _).mono ?_; rintro e w' ⟨rfl, rfl⟩))
          · go_roundw
            case rel => exact ⟨m, rfl, t + 1, by omega, by go_num, by rw [HS2.out (HN.out hb)]; exact HhYt.out⟩
            case measure => simp [intOf]; omega
          · go_region
            all_goals
              have e : indRow rs (els S) k (t + 1) = N := (HY.out hb).trans HhNg.out.symm
              have hOF := (m.only.setCell (p := ⟨y, k, none⟩) (.inl rfl) (.int .i64 (N : Int))).more ((Below.refl _ _).drew) (Nat.le_refl _)
              have hYF : OwnInts (m.w.setCell ⟨y, k, none⟩ (.int .i64 (N : Int))).drew y (indAt rs (els S) (cnt S) k (t + 1)) := by
                have := HhYt.out.store k (N : Int)
                rw [← HS.out, e]
                exact this
              have HhOF := Lib.hid hOF
              clear hOF
              have HhYF := Lib.hid hYF
              clear hYF
              go_wp2_with fail
              go_roundw
              case rel => exact ⟨⟨_, HhOF.out⟩, rfl, t + 1, by omega, by go_num, HhYF.out⟩
              case measure => simp [intOf]; omega
        · obtain rfl : t = cnt S := by omega
          go_wp2_with fail
          go_roundw
          case rel => exact ⟨m, rfl, k + 1, by omega, by go_num, by rw [← indAt_next]; exact hYt⟩
          case measure => simp [intOf]; omega
    · obtain rfl : k = cnt S := by omega
      have km := m.blk Hkr.out (fun h => by have h2 : w.heap.size + 1 = y := h; omega)
      have ko' := m.blk ko hxo
      have x0 := ko'.cell 0
      have x1 := ko'.cell 1
      have xl := ko'.lt
      have y0 := km.cell 0
      have y1 := km.cell 1
      have y2 := km.frozen 0
      have y3 := km.frozen 1
      have kml := km.lt
      simp at y0 y1 x0 x1
      have hYe := HhYk.out
      have hF : Below w.heap.size w ((m.w.setCell ⟨w.heap.size + 1, 0, none⟩ (.int .i64 (cnt S))).setCell ⟨w.heap.size + 1, 1, none⟩ (.slice (some ⟨y, 0, none⟩) (cnt S) (cnt S))) :=
        ((HhBw.out.trans (m.only.below (Nat.le_of_lt hb02) fun b hb h => by have h2 : b = y := h; omega)).setCell (by simp) _).setCell (by simp) _
      have hI : OwnInts ((m.w.setCell ⟨w.heap.size + 1, 0, none⟩ (.int .i64 (cnt S))).setCell ⟨w.heap.size + 1, 1, none⟩ (.slice (some ⟨y, 0, none⟩) (cnt S) (cnt S))) y (ind rs S) := by
        have e : ind rs S = indAt rs (els S) (cnt S) (cnt S) 0 := (indAt_end rs (els S)).symm
        rw [e]
        exact (hYe.other _ (by simp; omega)).other _ (by simp; omega)
      clear km hYe ko'
      have HhF := Lib.hid hF
      clear hF
      have HhI := Lib.hid hI
      clear hI
      go_wp2_with fail
      refine bodyPost_ret (v := .agg #[.int .i64 (cnt S), .slice (some ⟨y, 0, none⟩) (cnt S) (cnt S)]) (by simp [results, Tryz.results106, go_sem, y0, y1]) rfl ?_
      exact ⟨y, rfl, HhF.out, Nat.le_of_lt hwy, HhI.out⟩

set_option maxRecDepth 100000 in
set_option maxHeartbeats 2000000 in
theorem implInd_bad (n : Int) (rs : List Int) (s : Int) (ro : Option Addr) (rc : Nat) (w : World) (hr : IntsAt w ro rs) (hrl : rs.length ≤ 1048576) (hb : isSetB n rs s = false ∨ s = 0) :
    Calls Tryz.prog 55 #[.agg #[.int .i64 n, .slice ro rs.length rc], .int .i64 s] w fun e w' => e = .returned (.tuple #[.agg #[.int .i64 0, .slice none 0 0], .bool false]) ∧ Below w.heap.size w w' := by
  go_enter Tryz.func55, Tryz.ntmps55
  go_wp2_with fail
  generalize hW : World.alloc _ _ = W1
  obtain ⟨hB, -, -, k1⟩ := alloc2 hW
  replace hr := hr.below hB
  clear hW
  obtain ⟨m, hm0⟩ : ∃ m : Later W1, m.w = W1 := ⟨Later.refl _, rfl⟩
  refine (fun h => hm0 ▸ h) ?_
  clear hm0
  refine (Calls.later m (implIsSet_any _ _ _ _ _ _ (hr.later m) hrl)).mono ?_
  rintro e w' ⟨rfl, m, rfl⟩
  have k1' := k1.later m
  have y0 := k1'.cell 0
  have y1 := k1'.cell 1
  have y2 := k1'.frozen 0
  have y3 := k1'.frozen 1
  simp at y0 y1
  have hF : Below w.heap.size w ((m.w.setCell ⟨w.heap.size + 1, 0, none⟩ (.int .i64 0)).setCell ⟨w.heap.size + 1, 1, none⟩ (.slice none 0 0)) := ((below_later hB m).setCell (by simp) _).setCell (by simp) _
  clear k1 k1'
  have HhB := Lib.hid hB
  clear hB
  have HhF := Lib.hid hF
  clear hF
  cases hI : isSetB n rs s
  · clear hb
    go_wp2_with fail
    refine bodyPost_ret (v := .tuple #[.agg #[.int .i64 0, .slice none 0 0], .bool false]) (by simp [results, Tryz.results55, go_sem, y0, y1]) rfl ?_
    exact ⟨rfl, HhF.out⟩
  · obtain rfl : s = 0 := hb.elim (fun h => by rw [hI] at h; exact absurd h (by decide)) id
    clear hb
    go_wp2_with fail
    refine bodyPost_ret (v := .tuple #[.agg #[.int .i64 0, .slice none 0 0], .bool false]) (by simp [results, Tryz.results55, go_sem, y0, y1]) rfl ?_
    exact ⟨rfl, HhF.out⟩

set_option maxRecDepth 100000 in
set_option maxHeartbeats 2000000 in
theorem implInd_any (rs : List Int) (S : Nat) (ro : Option Addr) (rc : Nat) (w : World) (hr : IntsAt w ro rs) (hv : isGraphB rs.length rs = true) (hS : S < 2 ^ rs.length) (h0 : 0 < S) :
    Calls Tryz.prog 55 #[.agg #[.int .i64 rs.length, .slice ro rs.length rc], .int .i64 S] w fun e w' => ∃ ao cap, e = .returned (.tuple #[.agg #[.int .i64 (cnt S), .slice ao (cnt S) cap], .bool true]) ∧ Below w.heap.size w w' ∧ IntsAt w' ao (ind rs S) := by
  have g := (VG.of hv).2
  have hg2 := g.le
  have hrl : rs.length ≤ 1048576 := by omega
  have hI := isSetB_mk hv hS
  have d0 : ((S : Int) == 0) = false := by rw [beq_eq_false_iff_ne]; omega
  go_enter Tryz.func55, Tryz.ntmps55
  go_wp2_with fail
  generalize hW : World.alloc _ _ = W1
  obtain ⟨hB, hs1, k0, k1⟩ := alloc2 hW
  replace hr := hr.below hB
  clear hW
  obtain ⟨m, hm0⟩ : ∃ m : Later W1, m.w = W1 := ⟨Later.refl _, rfl⟩
  refine (fun h => hm0 ▸ h) ?_
  clear hm0
  have hb0 := k0.lt
  have hc0 := k0.cell 0
  have hc1 := k0.cell 1
  simp at hc0 hc1
  have HhB := Lib.hid hB
  clear hB
  refine (Calls.later m (implIsSet_any _ _ _ _ _ _ (hr.later m) hrl)).mono ?_
  rintro e w' ⟨rfl, m, rfl⟩
  rw [hI]
  have hbm := Nat.lt_of_lt_of_le hb0 m.size
  go_wp2_with fail
  refine (implInduced_any rs S _ _ _ (hr.later m) hv hS h0).mono ?_
  rintro e w2 ⟨b, rfl, hB2, hbl, hX⟩
  have hmw := m.size
  have hbw : w.heap.size + 1 < b := by omega
  have k1' := (k1.later m).below hB2 (k1.later m).lt
  have y0 := k1'.cell 0
  have y1 := k1'.cell 1
  have y2 := k1'.frozen 0
  have y3 := k1'.frozen 1
  have yl := k1'.lt
  simp at y0 y1
  have hF : Below w.heap.size w ((w2.setCell ⟨w.heap.size + 1, 0, none⟩ (.int .i64 (cnt S))).setCell ⟨w.heap.size + 1, 1, none⟩ (.slice (some ⟨b, 0, none⟩) (cnt S) (cnt S))) := ((below_more' (below_later HhB.out m) hB2).setCell (by simp) _).setCell (by simp) _
  have hI2 : IntsAt ((w2.setCell ⟨w.heap.size + 1, 0, none⟩ (.int .i64 (cnt S))).setCell ⟨w.heap.size + 1, 1, none⟩ (.slice (some ⟨b, 0, none⟩) (cnt S) (cnt S))) (some ⟨b, 0, none⟩) (ind rs S) :=
    ((hX.other _ (by simp; omega)).other _ (by simp; omega)).ints
  clear hX hB2 k1'
  have HhF := Lib.hid hF
  clear hF
  have HhI2 := Lib.hid hI2
  clear hI2
  go_wp2_with fail
  refine bodyPost_ret (v := .tuple #[.agg #[.int .i64 (cnt S), .slice (some ⟨b, 0, none⟩) (cnt S) (cnt S)], .bool true]) (by simp [results, Tryz.results55, go_sem, y0, y1]) rfl ?_
  exact ⟨_, _, rfl, HhF.out, HhI2.out⟩

end Go.Proofs.YtjikmjhpmkakoaaGreatDoor
