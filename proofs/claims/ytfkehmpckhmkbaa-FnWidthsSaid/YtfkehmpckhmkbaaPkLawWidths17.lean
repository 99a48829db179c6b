/-
  IsModel and GraphOfIntervals of the reference, as far as a drawing needs them: a graph of at most seven rows comes back. For at most 2^20 elements.
-/
import Derived.Test.YtfkehmpckhmkbaaPkLawWidths07
import Derived.Test.YtfkehmpckhmkbaaPkLawWidths09
namespace Go.Proofs.Ytfkehmpckhmkbaa
open Go.RowKit

set_option maxHeartbeats 2000000 in
theorem specIsModel_any (ls rs : List Int) (ao bo : Option Addr) (c d : Nat) (w : World) (hx : IntsAt w ao ls) (hy : IntsAt w bo rs) (hl : ls.length ≤ 1048576) (hr : rs.length ≤ 1048576) :
    Calls Try.prog 88 #[.agg #[.slice ao ls.length c, .slice bo rs.length d]] w fun e w' => ∃ b : Bool, e = .returned (.bool b) ∧ Below w.heap.size w w' ∧ (b = true → 1 ≤ ls.length ∧ ls.length ≤ 7 ∧ rs.length = ls.length) := by
  go_enter Try.func88, Try.ntmps88
  go_wp2_with fail
  generalize hW : w.alloc _ = W1
  obtain ⟨hB, -, k0⟩ := alloc1 hW
  replace hx := hx.below hB
  replace hy := hy.below hB
  have hb0 := k0.lt
  have hc0 := k0.cell 0
  have hc1 := k0.cell 1
  simp at hc0 hc1
  clear hW k0
  have HhB := Lib.hid hB
  clear hB
  go_loopw [3] (fun i wr => (∃ m : Later W1, wr = m.w) ∧ ∃ k : Nat, i = .int .i64 k ∧ k ≤ ls.length ∧ k ≤ rs.length) (fun i _ => ls.length - (intOf i).toNat)
  case atStart => exact ⟨⟨Later.refl _, rfl⟩, 0, rfl, by omega, by omega⟩
  case round =>
    obtain ⟨⟨m, rfl⟩, k, rfl, hk1, hk2⟩ := hrel
    by_cases h12 : k < ls.length ∧ k < rs.length
    · obtain ⟨h1, h2⟩ := h12
      obtain ⟨fb, fo, rfl, hfb, hfc⟩ := hx (by omega)
      obtain ⟨lb, lo, rfl, hlb, hlc⟩ := hy (by omega)
      have z1 := hfc k h1
      have z2 := hlc k h2
      clear hfc hlc
      generalize gi ls k = A at *
      generalize gi rs k = B at *
      go_wp2_with fail
      cases h3 : (decide (0 ≤ A) && decide (A ≤ 99))
      · refine wp_region_later m rfl (by kernel_rfl) (by kernel_rfl) ?_
        repeat (go_big_quiet_step ((first | (go_at_call 37; exact Calls.later_same _ (l1In_any _ _ _ _)))))
        refine wpQuiet_nil ?_
        rintro _ ⟨m, rfl⟩
        go_wp2_with fail
        go_ret
        exact ⟨false, rfl, below_later HhB.out m, fun h => by cases h⟩
      · cases h4 : (decide (A ≤ B) && decide (B ≤ 99))
        all_goals
          refine wp_region_later m rfl (by kernel_rfl) (by kernel_rfl) ?_
          repeat (go_big_quiet_step ((first | (go_at_call 37; exact Calls.later_same _ (l1In_any _ _ _ _)))))
          refine wpQuiet_nil ?_
          rintro _ ⟨m, rfl⟩
          go_wp2_with fail
        · go_ret
          exact ⟨false, rfl, below_later HhB.out m, fun h => by cases h⟩
        · go_roundw
          case rel => exact ⟨⟨m, rfl⟩, k + 1, by go_num, by omega, by omega⟩
          case measure => simp [intOf]; omega
    · cases h3 : (decide ((1 : Int) ≤ (ls.length : Int)) && decide ((ls.length : Int) ≤ 7))
      · by_cases h1 : k < ls.length
        all_goals
          first | (have h2 : ¬ k < rs.length := by omega) | skip
          clear h12
          go_wp2_with (first | (go_at_call 37; refine (l1In_any _ _ _ _).mono ?_; rintro e w' ⟨rfl, rfl⟩))
          go_ret
          exact ⟨false, rfl, below_later HhB.out m, fun h => by cases h⟩
      · cases h5 : ((rs.length : Int) == (ls.length : Int))
        · by_cases h1 : k < ls.length
          all_goals
            first | (have h2 : ¬ k < rs.length := by omega) | skip
            clear h12
            go_wp2_with (first | (go_at_call 37; refine (l1In_any _ _ _ _).mono ?_; rintro e w' ⟨rfl, rfl⟩))
            go_ret
            exact ⟨false, rfl, below_later HhB.out m, fun h => by cases h⟩
        · have H := Lib.hid (show 1 ≤ ls.length ∧ ls.length ≤ 7 ∧ rs.length = ls.length by
            rw [Bool.and_eq_true, decide_eq_true_eq, decide_eq_true_eq] at h3
            rw [beq_iff_eq] at h5
            omega)
          by_cases h1 : k < ls.length
          all_goals
            first | (have h2 : ¬ k < rs.length := by omega) | skip
            clear h12
            go_wp2_with (first | (go_at_call 37; refine (l1In_any _ _ _ _).mono ?_; rintro e w' ⟨rfl, rfl⟩))
            go_ret
            exact ⟨true, rfl, below_later HhB.out m, fun _ => H.out⟩

/-- Some graph of at most seven rows. -/
def RetGi (w : World) (e : Ending) (w' : World) : Prop :=
  ∃ (N : Int) (R : List Int) (ao : Option Addr) (cap : Nat) (ok : Bool), R.length ≤ 7 ∧ e = .returned (.tuple #[.agg #[.int .i64 N, .slice ao R.length cap], .bool ok]) ∧ Below w.heap.size w w' ∧ FrI w' w.heap.size ao R

set_option maxRecDepth 100000 in
set_option maxHeartbeats 4000000 in
theorem specGraphIvl_any (ls rs : List Int) (ao bo : Option Addr) (c d : Nat) (w : World) (hx : IntsAt w ao ls) (hy : IntsAt w bo rs) (hl : ls.length ≤ 1048576) (hr : rs.length ≤ 1048576) :
    Calls Try.prog 61 #[.agg #[.slice ao ls.length c, .slice bo rs.length d]] w (RetGi w) := by
  go_enter Try.func61, Try.ntmps61
  go_wp2_with fail
  generalize hW : World.alloc _ _ = W1
  obtain ⟨hB, hs1, k0, k1⟩ := alloc2 hW
  replace hx := hx.below hB
  replace hy := hy.below hB
  have b0 := k0.lt
  have c0 := k0.cell 0
  have c1 := k0.cell 1
  simp at c0 c1
  have hsW : w.heap.size + 2 ≤ W1.heap.size := by omega
  clear hW hs1 k0
  refine (specIsModel_any ls rs ao bo c d W1 hx hy hl hr).mono ?_
  rintro e w2 ⟨b, rfl, hB2, hb⟩
  obtain ⟨m, rfl⟩ : ∃ m2 : Later W1, m2.w = w2 := ⟨⟨w2, hB2⟩, rfl⟩
  clear hB2
  cases b
  · clear hb
    have k1' := k1.later m
    have y0 := k1'.cell 0
    have y1 := k1'.cell 1
    have y2 := k1'.frozen 0
    have y3 := k1'.frozen 1
    have y4 := k1'.lt
    simp at y0 y1
    have hF : Below w.heap.size w ((m.w.setCell ⟨w.heap.size + 1, 0, none⟩ (.int .i64 0)).setCell ⟨w.heap.size + 1, 1, none⟩ (.slice none 0 0)) := ((below_later hB m).setCell (by simp) _).setCell (by simp) _
    clear k1 k1'
    have HhB := Lib.hid hB
    clear hB
    have HhF := Lib.hid hF
    clear hF
    go_wp2_with fail
    refine bodyPost_ret (v := .tuple #[.agg #[.int .i64 0, .slice none 0 0], .bool false]) (by simp [results, Try.results61, go_sem, y0, y1]) rfl ?_
    exact ⟨0, [], none, 0, false, by simp, rfl, HhF.out, fun h => absurd h (by simp), fun a e => by cases e⟩
  · obtain ⟨h1, h7, hrl⟩ := hb rfl
    have HRl := Lib.hid hrl
    clear hb hrl
    have hmk := run_make_ints ls.length (by omega)
    go_wp2_with fail
    clear hmk
    generalize hW2 : World.alloc _ _ = W2
    obtain ⟨hB2, hs2, kY, k2⟩ := alloc2 hW2
    have hBW := below_more m.below hB2
    have hBw := below_more' hB hBW
    have hR : ∃ R : List Int, R.length = ls.length ∧ RowAt W2 m.w.heap.size ls.length R := ⟨List.replicate ls.length 0, by simp, by
      have := RowAt.of (w := W2) (b := m.w.heap.size) (xs := List.replicate ls.length 0) kY (by simp; omega)
      simpa using this⟩
    have hxu := hx.upto.below hBW (Nat.le_refl _)
    have hyu := hy.upto.below hBW (Nat.le_refl _)
    replace c0 := (hBW.cell (p := ⟨w.heap.size, 0, none⟩) b0).trans c0
    replace c1 := (hBW.cell (p := ⟨w.heap.size, 1, none⟩) b0).trans c1
    replace k1 := k1.below hBW k1.lt
    have b02 := Nat.lt_of_lt_of_le b0 hBW.size
    have hmw := m.size
    have hyw2 : m.w.heap.size ≠ m.w.heap.size + 1 := by omega
    have oz := k2.lt
    have x0 := k2.cell 0
    have x1 := k2.cell 1
    simp at x0 x1
    clear hW2 hB2 hs2 kY hBW hx hy b0
    generalize m.w.heap.size = y at *
    clear m
    have ho0 : ¬ w.heap.size = y + 1 := by omega
    have HhB := Lib.hid hB
    clear hB
    have HhBw := Lib.hid hBw
    clear hBw
    have HhR := Lib.hid hR
    clear hR
    have Hk1 := Lib.hid k1
    clear k1
    have Hk2 := Lib.hid k2
    clear k2
    have Hc0 := Lib.hid c0
    clear c0
    have Hc1 := Lib.hid c1
    clear c1
    have Hho0 := Lib.hid ho0
    clear ho0
    have Hhxu := Lib.hid hxu
    clear hxu
    have Hhyu := Lib.hid hyu
    clear hyu
    have Hhyw2 := Lib.hid hyw2
    clear hyw2
    have Hx0 := Lib.hid x0
    clear x0
    have Hx1 := Lib.hid x1
    clear x1
    go_wp2_with fail
    go_loopw [6] (fun i wr => Only (fun b => b = y + 1) W2.heap.size W2 wr ∧ ∃ (v gb cp : Nat) (R : List Int), v ≤ ls.length ∧ i = .int .i64 v ∧ gb ≠ y + 1 ∧ y ≤ gb ∧ R.length = ls.length ∧ Blk wr (y + 1) #[.int .i64 ls.length, .slice (some ⟨gb, 0, none⟩) ls.length cp] 26 ∧ RowAt wr gb cp R) (fun i _ => ls.length - (intOf i).toNat)
    case atStart =>
      obtain ⟨R, r1, r2⟩ := HhR.out
      exact ⟨Only.refl _ _ _, 0, y, ls.length, R, by omega, rfl, Hhyw2.out, Nat.le_refl _, r1, Hk2.out, r2⟩
    case round =>
      obtain ⟨hO, v, gb, cp, R, hvl, rfl, hne, hgy, hRlen, kb, hRk⟩ := hrel
      by_cases hlt : v < ls.length
      · have HhO := Lib.hid hO
        clear hO
        have Hhne := Lib.hid hne
        clear hne
        have Hkb := Lib.hid kb
        clear kb
        have HhRk := Lib.hid hRk
        clear hRk
        have HhRlen := Lib.hid hRlen
        clear hRlen
        go_wp2_with fail
        go_loopw [7] (fun i wr => Only (fun b => b = y + 1) W2.heap.size W2 wr ∧ ∃ (t gb cp : Nat) (R : List Int), t ≤ v ∧ i = .int .i64 t ∧ gb ≠ y + 1 ∧ y ≤ gb ∧ R.length = ls.length ∧ Blk wr (y + 1) #[.int .i64 ls.length, .slice (some ⟨gb, 0, none⟩) ls.length cp] 26 ∧ RowAt wr gb cp R) (fun i _ => v - (intOf i).toNat)
        case atStart => exact ⟨HhO.out, 0, gb, cp, R, by omega, rfl, Hhne.out, hgy, HhRlen.out, Hkb.out, HhRk.out⟩
        case round =>
          clear HhO Hhne Hkb HhRk HhRlen
          obtain ⟨hO, t, gb, cp, R, ht, rfl, hne, hgy, hRlen, kb, hRk⟩ := hrel
          by_cases htt : t < v
          · have ozr := kb.lt
            have x0 := kb.cell 0
            have x1 := kb.cell 1
            simp at x0 x1
            have y0 := (hO.cell (p := ⟨w.heap.size, 0, none⟩) b02 Hho0.out).trans Hc0.out
            have y1 := (hO.cell (p := ⟨w.heap.size, 1, none⟩) b02 Hho0.out).trans Hc1.out
            have b03 := Nat.lt_of_lt_of_le b02 hO.size
            have hxw := (Hhxu.out.only hO (fun b hb e => by have e2 : b = y + 1 := e; omega)).ints
            have hyw := (Hhyu.out.only hO (fun b hb e => by have e2 : b = y + 1 := e; omega)).ints
            obtain ⟨fb, fo, rfl, hfb, hfc⟩ := hxw (by omega)
            obtain ⟨lb, lo, rfl, hlb, hlc⟩ := hyw (by rw [HRl.out]; omega)
            have hvr : v < rs.length := by rw [HRl.out]; omega
            have htr : t < rs.length := by rw [HRl.out]; omega
            have htl : t < ls.length := by omega
            have z1 := hfc t htl
            have z2 := hfc v hlt
            have z3 := hlc t htr
            have z4 := hlc v hvr
            have hAd : ∀ w5, RowAt w5 gb cp R → Calls Try.prog 84 #[.agg #[.int .i64 ls.length, .slice (some ⟨gb, 0, none⟩) ls.length cp], .int .i64 v, .int .i64 t] w5 fun e w' => ∃ (g1 cap : Nat) (ok : Bool) (R2 : List Int), e = .returned (.tuple #[.agg #[.int .i64 ls.length, .slice (some ⟨g1, 0, none⟩) ls.length cap], .bool ok]) ∧ Below w5.heap.size w5 w' ∧ w5.heap.size ≤ g1 ∧ R2.length = ls.length ∧ RowAt w' g1 cap R2 := fun w5 hR5 => by
              have hA := specAddEdge_any ls.length R v t _ cp w5 hR5.ints (by rw [hRlen]; omega) (by rw [hRlen]; omega)
              rw [hRlen] at hA
              exact hA.mono fun e w' ⟨g1, cap, q1, q2, q3, q4⟩ => ⟨g1, cap, _, _, q1, q2, q3, by rw [addV_len, hRlen], q4⟩
            have HAd := Lib.hid hAd
            clear hAd hfc hlc hxw hyw
            generalize gi ls t = lt at *
            generalize gi ls v = lv at *
            generalize gi rs t = rt at *
            generalize gi rs v = rv at *
            have HhO := Lib.hid hO
            clear hO
            have Hhne := Lib.hid hne
            clear hne
            have Hkb := Lib.hid kb
            clear kb
            have HhRk := Lib.hid hRk
            clear hRk
            have HhRlen := Lib.hid hRlen
            clear hRlen
            obtain ⟨m, hm0⟩ : ∃ m : Later wr, m.w = wr := ⟨Later.refl _, rfl⟩
            refine (fun h => hm0 ▸ h) ?_
            clear hm0
            go_wp2_with fail
            have HW : Hid (∀ m : Later wr, Only (fun b => b = y + 1) W2.heap.size W2 m.w) := Lib.hid fun m => HhO.out.more m.below HhO.out.size
            cases hA : decide (lv ≤ rt)
            · refine wp_region_later m rfl (by kernel_rfl) (by kernel_rfl) ?_
              repeat (go_big_quiet_step (fail))
              refine wpQuiet_nil ?_
              rintro _ ⟨m, rfl⟩
              go_wp2_with fail
              go_roundw
              case rel => exact ⟨HW.out m, t + 1, gb, cp, R, by omega, by go_num, Hhne.out, hgy, HhRlen.out, Hkb.out.later m, HhRk.out.below m.below⟩
              case measure => simp [intOf]; omega
            · cases hA2 : decide (lt ≤ rv)
              · refine wp_region_later m rfl (by kernel_rfl) (by kernel_rfl) ?_
                repeat (go_big_quiet_step (fail))
                refine wpQuiet_nil ?_
                rintro _ ⟨m, rfl⟩
                go_wp2_with fail
                go_roundw
                case rel => exact ⟨HW.out m, t + 1, gb, cp, R, by omega, by go_num, Hhne.out, hgy, HhRlen.out, Hkb.out.later m, HhRk.out.below m.below⟩
                case measure => simp [intOf]; omega
              · refine wp_region_later m rfl (by kernel_rfl) (by kernel_rfl) ?_
                repeat (go_big_quiet_step (fail))
                refine wpQuiet_nil ?_
                rintro _ ⟨m, rfl⟩
                go_wp2_with fail
                refine (HAd.out m.w (HhRk.out.below m.below)).mono ?_
                rintro e w5 ⟨g5, cp5, ok5, R5, rfl, hB5, hg5, hl5, hR5⟩
                have k5 := (Hkb.out.later m).below hB5 (Hkb.out.later m).lt
                have hmz := m.size
                have hwo := HhO.out.size
                have hne6 : g5 ≠ y + 1 := by omega
                have q0 := k5.cell 0
                have q1 := k5.cell 1
                have q2 := k5.frozen 0
                have q3 := k5.frozen 1
                have q4 := k5.lt
                simp at q0 q1
                have hO6 : Only (fun b => b = y + 1) W2.heap.size W2 ((w5.setCell ⟨y + 1, 0, none⟩ (.int .i64 ls.length)).setCell ⟨y + 1, 1, none⟩ (.slice (some ⟨g5, 0, none⟩) ls.length cp5)) :=
                  (((HW.out m).more hB5 (HW.out m).size).setCell (p := ⟨y + 1, 0, none⟩) (.inl rfl) _).setCell (p := ⟨y + 1, 1, none⟩) (.inl rfl) _
                have k6 : Blk ((w5.setCell ⟨y + 1, 0, none⟩ (.int .i64 ls.length)).setCell ⟨y + 1, 1, none⟩ (.slice (some ⟨g5, 0, none⟩) ls.length cp5)) (y + 1) #[.int .i64 ls.length, .slice (some ⟨g5, 0, none⟩) ls.length cp5] 26 := by
                  have := (k5.store 0 (.int .i64 ls.length)).store 1 (.slice (some ⟨g5, 0, none⟩) ls.length cp5)
                  simpa using this
                have hR6 : RowAt ((w5.setCell ⟨y + 1, 0, none⟩ (.int .i64 ls.length)).setCell ⟨y + 1, 1, none⟩ (.slice (some ⟨g5, 0, none⟩) ls.length cp5)) g5 cp5 R5 := (hR5.otherCell (by simp; omega)).otherCell (by simp; omega)
                have hgy6 : y ≤ g5 := by omega
                clear k5 hR5 hB5 hg5 x0 x1 y0 y1 z1 z2 z3 z4
                have HhO6 := Lib.hid hO6
                clear hO6
                have Hk6 := Lib.hid k6
                clear k6
                have HhR6 := Lib.hid hR6
                clear hR6
                have Hhne6 := Lib.hid hne6
                clear hne6
                have Hhl5 := Lib.hid hl5
                clear hl5
                go_wp2_with fail
                go_roundw
                case rel => exact ⟨HhO6.out, t + 1, g5, cp5, R5, by omega, by go_num, Hhne6.out, hgy6, Hhl5.out, Hk6.out, HhR6.out⟩
                case measure => simp [intOf]; omega
          · have HhO := Lib.hid hO
            clear hO
            have Hhne := Lib.hid hne
            clear hne
            have Hkb := Lib.hid kb
            clear kb
            have HhRk := Lib.hid hRk
            clear hRk
            have HhRlen := Lib.hid hRlen
            clear hRlen
            go_wp2_with fail
            go_roundw
            case rel => exact ⟨HhO.out, v + 1, gb, cp, R, by omega, by go_num, Hhne.out, hgy, HhRlen.out, Hkb.out, HhRk.out⟩
            case measure => simp [intOf]; omega
      · have kr := hO.blk Hk1.out Hk1.out.lt (fun e => by have e2 : w.heap.size + 1 = y + 1 := e; omega)
        have z0 := kr.cell 0
        have z1 := kr.cell 1
        have z2 := kr.frozen 0
        have z3 := kr.frozen 1
        have z4 := kr.lt
        have x0 := kb.cell 0
        have x1 := kb.cell 1
        have x4 := kb.lt
        simp at z0 z1 x0 x1
        have hF : Below w.heap.size w ((wr.setCell ⟨w.heap.size + 1, 0, none⟩ (.int .i64 ls.length)).setCell ⟨w.heap.size + 1, 1, none⟩ (.slice (some ⟨gb, 0, none⟩) ls.length cp)) :=
          ((HhBw.out.trans (hO.below HhBw.out.size fun b hb h => by have h2 : b = y + 1 := h; omega)).setCell (by simp) _).setCell (by simp) _
        have hFR : FrI ((wr.setCell ⟨w.heap.size + 1, 0, none⟩ (.int .i64 ls.length)).setCell ⟨w.heap.size + 1, 1, none⟩ (.slice (some ⟨gb, 0, none⟩) ls.length cp)) w.heap.size (some ⟨gb, 0, none⟩) R := ⟨((hRk.otherCell (by simp; omega)).otherCell (by simp; omega)).ints, fun a e => by cases e; show _ ≤ gb; omega⟩
        have hRl7 : R.length ≤ 7 := by omega
        clear kr kb hRk hO
        have HhF := Lib.hid hF
        clear hF
        have HhFR := Lib.hid hFR
        clear hFR
        have HhRlen := Lib.hid hRlen
        clear hRlen
        go_wp2_with fail
        refine bodyPost_ret (v := .tuple #[.agg #[.int .i64 ls.length, .slice (some ⟨gb, 0, none⟩) ls.length cp], .bool true]) (by simp [results, Try.results61, go_sem, z0, z1]) rfl ?_
        exact ⟨_, R, some ⟨gb, 0, none⟩, cp, true, hRl7, by rw [HhRlen.out], HhF.out, HhFR.out⟩

end Go.Proofs.Ytfkehmpckhmkbaa
