/-
  CliqueCoverOf of the program. For at most 2^20 rows.
-/
import Derived.Test.YtkefkmjfjghggaaCoverOf
namespace Go.Proofs.Ytkefkmjfjghggaa
open Go.RowKit

theorem colSets_at {x : List Int} {t k c : Nat} (h : c < k) : gi (colSets x t k) c = (colSet x c t : Int) := by simp [colSets, gi, h]
theorem colSets_start (x : List Int) (k : Nat) : colSets x 0 k = List.replicate k 0 := by
  apply List.ext_getElem
  · simp [colSets]
  · intro i h1 h2
    simp [colSets, colSet, accB]
/-- One vertex more. -/
theorem colSets_set {x : List Int} {t k c : Nat} (h : gi x t = (c : Int)) : (colSets x t k).set c ((colSet x c t ||| 2 ^ t : Nat) : Int) = colSets x (t + 1) k := by
  apply List.ext_getElem
  · simp [colSets]
  · intro i h1 h2
    have hi : i < k := by simpa [colSets] using h2
    rw [List.getElem_set]
    by_cases e : c = i
    · subst e
      have : colSet x c (t + 1) = colSet x c t ||| 2 ^ t := accB_yes (p := fun v => gi x v == (c : Int)) (by rw [h]; simp)
      simp [colSets, this]
    · have : colSet x i (t + 1) = colSet x i t := accB_no (p := fun v => gi x v == (i : Int)) (by rw [h]; simp; omega)
      rw [if_neg e]
      simp [colSets, this]

set_option maxRecDepth 100000 in
set_option maxHeartbeats 2000000 in
theorem implCoverOf_any (n : Int) (rs : List Int) (ro : Option Addr) (rc : Nat) (w : World) (hr : IntsAt w ro rs) (hrl : rs.length ≤ 1048576) :
    Calls Try.prog 15 #[.agg #[.int .i64 n, .slice ro rs.length rc]] w fun e w' => ∃ ao cap, e = .returned (.slice ao (coverOf n rs).length cap) ∧ Below w.heap.size w w' ∧ OwnE w' w.heap.size ao cap (coverOf n rs) := by
  go_enter Try.func15, Try.ntmps15
  go_wp2_with fail
  generalize hW : w.alloc _ = W1
  obtain ⟨hB, -, k0⟩ := alloc1 hW
  replace hr := hr.below hB
  have hb0 := k0.lt
  have hc0 := k0.cell 0
  have hc1 := k0.cell 1
  simp at hc0 hc1
  clear hW k0
  have HhB := Lib.hid hB
  clear hB
  obtain ⟨m, hm0⟩ : ∃ m : Later W1, m.w = W1 := ⟨Later.refl _, rfl⟩
  refine (fun h => hm0 ▸ h) ?_
  clear hm0
  cases hv : isGraphB n rs
  · have HE := Lib.hid (coverOf_no hv)
    go_wp2_with (first | (go_at_call 72; refine (Calls.later m (implIsGraph_any _ _ _ _ _ (hr.later m) hrl)).mono ?_; rintro e w' ⟨rfl, m, rfl⟩))
    go_ret
    exact ⟨none, 0, by rw [HE.out]; rfl, below_later HhB.out m, by rw [HE.out]; exact .inl (OwnL.nil _ _)⟩
  obtain ⟨rfl, g⟩ := VG.of hv
  have hg1 := g.pos
  have hg2 := g.le
  obtain ⟨k, x, f1, f2, f3, f4, f5, f6, f7⟩ := coverOf_facts hv
  have HE := Lib.hid f7
  have hcl := compl_len rs
  clear f7
  refine (Calls.later m (implIsGraph_any _ _ _ _ _ (hr.later m) hrl)).mono ?_
  rintro e w' ⟨rfl, m, rfl⟩
  rw [hv]
  go_wp2_with fail
  refine (implCompl_any rs ro rc m.w (hr.later m) hv).mono ?_
  rintro e w2 ⟨h1, hcap, rfl, hB2, hI⟩
  have hBw := below_more' (below_later HhB.out m) hB2
  clear hB2 HhB hr hb0 hc0 hc1 m
  have HhBw := Lib.hid hBw
  clear hBw
  go_wp2_with fail
  generalize hW3 : World.alloc _ _ = W3
  obtain ⟨hB3, -, k3⟩ := alloc1 hW3
  have x0 := k3.cell 0
  have x1 := k3.cell 1
  have xl := k3.lt
  simp at x0 x1
  replace hI := hI.below hB3
  have HhB := Lib.hid (HhBw.out.trans (hB3.mono HhBw.out.size))
  have hb2 : w.heap.size ≤ w2.heap.size := HhBw.out.size
  clear hW3 k3 hB3 HhBw
  generalize w2.heap.size = b2 at *
  obtain ⟨m, hm0⟩ : ∃ m : Later W3, m.w = W3 := ⟨Later.refl _, rfl⟩
  refine (fun h => hm0 ▸ h) ?_
  clear hm0
  have hCh := fun m : Later W3 => implChrom_any rs.length (compl rs) (some ⟨h1, 0, none⟩) hcap m.w (hI.later m) (by omega)
  have hCo := fun (w : World) (h : IntsAt w (some ⟨h1, 0, none⟩) (compl rs)) => implColW_any rs.length (compl rs) k (some ⟨h1, 0, none⟩) hcap w h (by omega)
  rw [hcl, f1] at hCh
  rw [hcl, f4] at hCo
  have hmk := run_make_ints k (by omega)
  have HhCo := Lib.hid hCo
  clear hCo
  refine (Calls.later m (hCh m)).mono ?_
  rintro e w' ⟨rfl, m, rfl⟩
  have hb2m := Nat.lt_of_lt_of_le xl m.size
  have hz0 : ∀ o, (m.w.alloc o).cell? ⟨b2, 0, none⟩ = some (.int .i64 rs.length) := fun o => (((Below.refl _ _).alloc (Nat.le_refl _) o).cell (p := ⟨b2, 0, none⟩) hb2m).trans ((m.cell _ 0 xl).trans x0)
  have hz1 : ∀ o, (m.w.alloc o).cell? ⟨b2, 1, none⟩ = some (.slice (some ⟨h1, 0, none⟩) rs.length hcap) := fun o => (((Below.refl _ _).alloc (Nat.le_refl _) o).cell (p := ⟨b2, 1, none⟩) hb2m).trans ((m.cell _ 1 xl).trans x1)
  go_wp2_with fail
  clear hmk hCh hz0 hz1
  generalize hW4 : World.alloc _ _ = W4
  have hO4 : OwnInts W4 m.w.heap.size (List.replicate k 0) := by rw [← hW4]; exact OwnInts.made _ _
  have hB4 : Below m.w.heap.size m.w W4 := by rw [← hW4]; exact (Below.refl _ _).alloc (Nat.le_refl _) _
  have hwm : w.heap.size ≤ m.w.heap.size := Nat.le_trans hb2 (Nat.le_trans (Nat.le_of_lt xl) m.size)
  clear hW4
  have hI4 := (hI.later m).below hB4
  have HhB4 := Lib.hid (below_more' (below_later HhB.out m) hB4)
  clear x0 x1 hI hB4 HhB hb2m
  refine (HhCo.out W4 hI4).mono ?_
  rintro e w5 ⟨xo, xcap, rfl, hB5, hXo⟩
  have hob4 := hO4.lt
  replace hO4 := hO4.below hB5 hO4.lt
  have hobl := hO4.lt
  have HhB5 := Lib.hid (below_more' HhB4.out hB5)
  have hX := hXo.ints
  obtain ⟨xb, xofs, rfl, hxb, hxc⟩ := hX (by show 0 < x.length; omega)
  have hxo : xb ≠ m.w.heap.size := by
    have hne : 0 < ((some x).getD []).length := by show 0 < x.length; omega
    obtain ⟨g0, e0, hg0, hR0⟩ := hXo.row hne
    simp only [Option.some.injEq, Addr.mk.injEq] at e0
    omega
  have HXc : Hid (∀ t, t < rs.length → w5.cell? ⟨xb, xofs + t, none⟩ = some (.int .i64 (gi x t))) := Lib.hid fun t ht => hxc t (by show t < x.length; omega)
  clear hxc hX hXo hB5 hI4 HhCo HhB4
  generalize m.w.heap.size = ob at *
  clear m
  have hlx : ((some x).getD []).length = rs.length := f5
  have hsx : (some x).isSome = true := rfl
  rw [hlx, hsx]
  clear hlx hsx
  rw [← colSets_start x k] at hO4
  have hnx : ¬(fun b => b = ob) xb := fun e => hxo e
  have HhO4 := Lib.hid hO4
  clear hO4
  go_wp2_with fail
  go_loopw [30] (fun i wr => ∃ m : LateX (fun b => b = ob) w5, wr = m.w ∧ ∃ t : Nat, t ≤ rs.length ∧ i = .int .i64 t ∧ OwnInts m.w ob (colSets x t k)) (fun i _ => rs.length - (intOf i).toNat)
  case atStart => exact ⟨LateX.refl _ _, rfl, 0, by omega, rfl, HhO4.out⟩
  case round =>
    obtain ⟨m, rfl, t, ht, rfl, hYt⟩ := hrel
    have hms := m.size
    by_cases htt : t < rs.length
    · have hxt := (m.only.cell (p := ⟨xb, xofs + t, none⟩) hxb hnx).trans (HXc.out t htt)
      obtain ⟨c, hc, hcx⟩ := f6 t htt
      have HSet := Lib.hid (colSets_set (k := k) hcx)
      rw [hcx] at hxt
      have hyc := hYt.cell c (by rw [colSets_len]; exact hc)
      rw [colSets_at hc] at hyc
      have hyf := hYt.frozen c
      have hal : colSet x c t < 2 ^ t := accB_lt _ t
      have hpt : 2 ^ t ≤ 2 ^ 6 := Nat.pow_le_pow_right (by decide) (by omega)
      have q2 := pwN_small t (by omega)
      have hor : bits .or .i64 (colSet x c t : Int) (pwN t) = ((colSet x c t ||| 2 ^ t : Nat) : Int) := by rw [q2, bits_or_nat _ _ (by omega) (by omega)]
      have hor2 : bits .or .i64 (colSet x c t : Int) ((2 : Int) ^ t) = ((colSet x c t ||| 2 ^ t : Nat) : Int) := by rw [show ((2 : Int) ^ t) = ((2 ^ t : Nat) : Int) by simp, bits_or_nat _ _ (by omega) (by omega)]
      have hmxb := Nat.lt_of_lt_of_le hxb m.size
      have hmob := Nat.lt_of_lt_of_le hobl m.size
      generalize colSet x c t ||| 2 ^ t = N at *
      have HhYt := Lib.hid hYt
      clear hYt
      go_wp2_with fail
      go_region
      all_goals
        have hOF := (m.only.setCell (p := ⟨ob, c, none⟩) (.inl rfl) (.int .i64 (N : Int))).more ((Below.refl _ _).drew) (Nat.le_refl _)
        have hYF : OwnInts (m.w.setCell ⟨ob, c, none⟩ (.int .i64 (N : Int))).drew ob (colSets x (t + 1) k) := by
          have := HhYt.out.store c (N : Int)
          rw [HSet.out] at this
          exact this
        have HhOF := Lib.hid hOF
        clear hOF
        have HhYF := Lib.hid hYF
        clear hYF
        go_wp2_with fail
        go_roundw
        case rel => exact ⟨⟨_, HhOF.out⟩, rfl, t + 1, by omega, by go_num, HhYF.out⟩
        case measure => simp [intOf]; omega
    · have hte : t = rs.length := by omega
      have hce : coverOf rs.length rs = colSets x t k := by rw [HE.out, hte]
      have hBF : Below w.heap.size w m.w := HhB5.out.trans (m.only.below HhB5.out.size (fun b hb h => by have h2 : b = ob := h; omega))
      have hRow := RowAt.of hYt (by rw [colSets_len]; omega)
      rw [colSets_len] at hRow
      have hE : OwnE m.w w.heap.size (some ⟨ob, 0, none⟩) k (coverOf rs.length rs) := by rw [hce]; exact hRow.own hwm
      clear hYt
      have HhBF := Lib.hid hBF
      clear hBF
      have HhE := Lib.hid hE
      clear hE
      go_wp2_with fail
      go_ret
      exact ⟨some ⟨ob, 0, none⟩, k, by rw [hce, colSets_len]; rfl, HhBF.out, HhE.out⟩

end Go.Proofs.Ytkefkmjfjghggaa
