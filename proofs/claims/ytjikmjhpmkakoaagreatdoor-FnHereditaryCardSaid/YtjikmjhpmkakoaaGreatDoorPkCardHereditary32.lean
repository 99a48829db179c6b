/-
  KeepsDistances on both sides. For at most 2^20 rows.
-/
import Derived.Test.YtjikmjhpmkakoaaGreatDoorPkCardHereditary31
namespace Go.Proofs.YtjikmjhpmkakoaaGreatDoor
open Go.RowKit

def keepAt (rs : List Int) (S i k : Nat) : Bool := decide (distV (ind rs S) i k = distV rs (eln (els S) i) (eln (els S) k))
def keepN (rs : List Int) (S : Nat) : Bool := connB (cnt S) (ind rs S) && decide (∀ i, i < cnt S → ∀ k, k < i → keepAt rs S i k = true)
def keepB (n : Int) (rs : List Int) (s : Int) : Bool := isSetB n rs s && (!decide (s = 0) && keepN rs s.toNat)
theorem keepB_no {n : Int} {rs : List Int} {s : Int} (h : isSetB n rs s = false) : keepB n rs s = false := by unfold keepB; rw [h]; rfl
theorem keepB_zero (n : Int) (rs : List Int) : keepB n rs 0 = false := by unfold keepB; simp
theorem keepB_of {n : Int} {rs : List Int} {S : Nat} (h : isSetB n rs S = true) (h0 : 0 < S) : keepB n rs S = keepN rs S := by
  unfold keepB
  rw [h, decide_eq_false (show ¬((S : Int) = 0) by omega), Int.toNat_natCast]; rfl
theorem keepN_apart {rs : List Int} {S : Nat} (h : connB (cnt S) (ind rs S) = false) : keepN rs S = false := by unfold keepN; rw [h]; rfl
theorem keepN_ok {rs : List Int} {S : Nat} (h : connB (cnt S) (ind rs S) = true) (ha : ∀ i, i < cnt S → ∀ k, k < i → keepAt rs S i k = true) : keepN rs S = true := by unfold keepN; rw [h, decide_eq_true ha]; rfl
theorem keepAt_sym {rs : List Int} (g : VG rs) {S : Nat} (hS : S < 2 ^ rs.length) (h0 : 0 < S) {i k : Nat} (hi : i < cnt S) (hk : k < cnt S) : keepAt rs S i k = keepAt rs S k i := by
  have g2 := (VG.of (ind_graph g hS h0)).2
  have hl := ind_len rs S
  unfold keepAt
  rw [distV_sym g2 (by omega) (by omega), distV_sym g (els_lt hS g.le hi) (els_lt hS g.le hk)]
theorem keepAt_self {rs : List Int} (g : VG rs) {S : Nat} (hS : S < 2 ^ rs.length) {i : Nat} (hi : i < cnt S) : keepAt rs S i i = true := by
  have hl := ind_len rs S
  unfold keepAt
  rw [distV_self (by omega), distV_self (els_lt hS g.le hi)]; rfl
theorem keepN_bad {rs : List Int} (g : VG rs) {S : Nat} (hS : S < 2 ^ rs.length) (h0 : 0 < S) {i k : Nat} (hi : i < cnt S) (hk : k < cnt S) (h : keepAt rs S i k = false) : keepN rs S = false := by
  unfold keepN
  rw [decide_eq_false, Bool.and_false]
  intro a
  rcases Nat.lt_trichotomy i k with h1 | h1 | h1
  · rw [keepAt_sym g hS h0 hi hk, a k hk i h1] at h; cases h
  · subst h1; rw [keepAt_self g hS hi] at h; cases h
  · rw [a i hi k h1] at h; cases h
theorem keepAt_ne {rs : List Int} {S i k : Nat} {d1 d2 : Int} (h1 : distV (ind rs S) i k = d1) (h2 : distV rs (eln (els S) i) (eln (els S) k) = d2) : keepAt rs S i k = !(d1 != d2) := by
  unfold keepAt
  rw [h1, h2, Bool.eq_iff_iff]
  simp

set_option maxRecDepth 100000 in
set_option maxHeartbeats 2000000 in
theorem specKeeps_any (n : Int) (rs : List Int) (s : Int) (ro : Option Addr) (rc : Nat) (w : World) (hr : IntsAt w ro rs) (hrl : rs.length ≤ 1048576) :
    Calls Tryz.prog 19 #[.agg #[.int .i64 n, .slice ro rs.length rc], .int .i64 s] w fun e w' => e = .returned (.bool (keepB n rs s)) ∧ Below w.heap.size w w' := by
  go_enter Tryz.func19, Tryz.ntmps19
  go_wp2_with fail
  generalize hW : w.alloc _ = W1
  obtain ⟨hB, -, k0⟩ := alloc1 hW
  replace hr := hr.below hB
  have hb0 := k0.lt
  have hc0 := k0.cell 0
  have hc1 := k0.cell 1
  simp at hc0 hc1
  clear hW k0
  have HhB := Lib.hid hB
  clear hB
  by_cases hb : isSetB n rs s = false ∨ s = 0
  · have HE : Hid (keepB n rs s = false) := Lib.hid (hb.elim keepB_no (fun h => by rw [h]; exact keepB_zero n rs))
    refine (specInd_bad n rs s ro rc W1 hr hrl hb).mono ?_
    rintro e w2 ⟨rfl, hB2⟩
    have hBB : Below w.heap.size w w2 := below_more' HhB.out hB2
    clear hB2
    have HhBB := Lib.hid hBB
    clear hBB
    go_wp2_with fail
    go_ret
    exact ⟨retB (by rw [HE.out]), HhBB.out.alloc HhBB.out.size _⟩
  have hv : isSetB n rs s = true := by
    cases h : isSetB n rs s
    · exact absurd (.inl h) hb
    · rfl
  obtain ⟨rfl, g, S, rfl, hS⟩ := isSetB_true hv
  have h0 : 0 < S := Nat.pos_of_ne_zero fun e => hb (.inr (by rw [e]; rfl))
  clear hb
  have hG : isGraphB rs.length rs = true := by unfold isSetB at hv; simp only [Bool.and_eq_true] at hv; exact hv.1
  have HE := Lib.hid (keepB_of hv h0)
  have hg1 := g.pos
  have hg2 := g.le
  have hp := g.pow.1
  have hIG := ind_graph g hS h0
  have hil := ind_len rs S
  have hc7 := cnt_le S
  have hcp : 0 < cnt S := cnt_pos hS hg2 h0
  refine (specInd_any rs S ro rc W1 hr hG hS h0).mono ?_
  rintro e w2 ⟨ho, hcap, rfl, hB2, hE⟩
  have hI := hE.ints
  clear hE
  replace hr := hr.below hB2
  have hBw := below_more' HhB.out hB2
  replace hc0 : w2.cell? ⟨w.heap.size, 0, none⟩ = _ := (hB2.cell hb0).trans hc0
  replace hc1 : w2.cell? ⟨w.heap.size, 1, none⟩ = _ := (hB2.cell hb0).trans hc1
  replace hb0 := Nat.lt_of_lt_of_le hb0 hB2.size
  clear hB2 HhB
  have HhBw := Lib.hid hBw
  clear hBw
  go_wp2_with fail
  generalize hW3 : World.alloc _ _ = W3
  obtain ⟨hB3, -, k3⟩ := alloc1 hW3
  have x0 := k3.cell 0
  have x1 := k3.cell 1
  have xl := k3.lt
  simp at x0 x1
  replace hr := hr.below hB3
  replace hI := hI.below hB3
  replace hc0 : W3.cell? ⟨w.heap.size, 0, none⟩ = _ := (hB3.cell hb0).trans hc0
  replace hc1 : W3.cell? ⟨w.heap.size, 1, none⟩ = _ := (hB3.cell hb0).trans hc1
  have hbs := hb0
  replace hb0 := Nat.lt_of_lt_of_le hb0 hB3.size
  have HhB := Lib.hid (HhBw.out.trans (hB3.mono (Nat.le_of_lt hbs)))
  clear hW3 k3 hB3 HhBw
  generalize w2.heap.size = b2 at *
  obtain ⟨m, hm0⟩ : ∃ m : Later W3, m.w = W3 := ⟨Later.refl _, rfl⟩
  refine (fun h => hm0 ▸ h) ?_
  clear hm0
  have hCn := fun m : Later W3 => specConn_any (cnt S) (ind rs S) ho hcap m.w (hI.later m) (by omega)
  rw [hil] at hCn
  cases hcn : connB (cnt S) (ind rs S)
  · have HJ := Lib.hid (keepN_apart hcn)
    rw [hcn] at hCn
    refine (Calls.later m (hCn m)).mono ?_
    rintro e w' ⟨rfl, m, rfl⟩
    go_wp2_with fail
    go_ret
    exact ⟨retB (by rw [HE.out, HJ.out]), below_later HhB.out m⟩
  rw [hcn] at hCn
  have HOk := Lib.hid (keepN_ok hcn)
  have HBad := Lib.hid (fun i k h1 h2 h3 => keepN_bad (rs := rs) (i := i) (k := k) g hS h0 h1 h2 h3)
  refine (Calls.later m (hCn m)).mono ?_
  rintro e w' ⟨rfl, m, rfl⟩
  go_wp2_with fail
  refine (specListN_any S (by omega) _).mono ?_
  rintro e w4 ⟨lo, lc, rfl, hB4, hL⟩
  obtain ⟨m, rfl⟩ : ∃ m2 : Later W3, m2.w = w4 := ⟨m.on hB4, rfl⟩
  clear hB4 hCn
  obtain ⟨lb, lofs, rfl, hlb, hlc⟩ := hL hcp
  clear hL
  replace hI := hI.later m
  replace x0 : m.w.cell? _ = _ := (m.cell _ 0 xl).trans x0
  replace x1 : m.w.cell? _ = _ := (m.cell _ 1 xl).trans x1
  replace xl := Nat.lt_of_lt_of_le xl m.size
  have HLc : Hid (∀ k, k < cnt S → m.w.cell? ⟨lb, lofs + k, none⟩ = some (.int .i64 (eln (els S) k : Int))) := Lib.hid hlc
  clear hlc
  replace hr := hr.later m
  replace hc0 : m.w.cell? _ = _ := (m.cell _ _ hb0).trans hc0
  replace hc1 : m.w.cell? _ = _ := (m.cell _ _ hb0).trans hc1
  replace hb0 := Nat.lt_of_lt_of_le hb0 m.size
  replace HhB := Lib.hid (below_later HhB.out m)
  generalize m.w = W4 at *
  clear m
  have HDh : Hid (∀ (i k : Nat) (m : Later W4), i < cnt S → k < cnt S → Calls Tryz.prog 69 #[.agg #[.int .i64 (cnt S), .slice ho (cnt S) hcap], .int .i64 i, .int .i64 k] m.w fun e w' => e = .returned (.int .i64 (distV (ind rs S) i k)) ∧ Below m.w.heap.size m.w w') := Lib.hid fun i k m h1 h2 => by
    have := specDist_any (cnt S) (ind rs S) i k ho hcap m.w (hI.later m) (by omega)
    have e := distB_of (rs := ind rs S) (v := i) (u := k) (by rw [hil]; exact hIG) (by omega) (by omega)
    rw [hil] at e
    rw [hil, e] at this
    exact this
  have HDg : Hid (∀ (u v : Nat) (m : Later W4), u < rs.length → v < rs.length → Calls Tryz.prog 69 #[.agg #[.int .i64 rs.length, .slice ro rs.length rc], .int .i64 u, .int .i64 v] m.w fun e w' => e = .returned (.int .i64 (distV rs u v)) ∧ Below m.w.heap.size m.w w') := Lib.hid fun u v m h1 h2 => by
    have := specDist_any rs.length rs u v ro rc m.w (hr.later m) hrl
    rwa [distB_of hG h1 h2] at this
  obtain ⟨m, hm0⟩ : ∃ m : Later W4, m.w = W4 := ⟨Later.refl _, rfl⟩
  refine (fun h => hm0 ▸ h) ?_
  clear hm0
  go_wp2_with fail
  go_loopw [8] (fun i wr => (∃ m : Later W4, wr = m.w) ∧ ∃ k : Nat, k ≤ cnt S ∧ i = .int .i64 k ∧ ∀ a, a < k → ∀ b, b < a → keepAt rs S a b = true) (fun i _ => cnt S - (intOf i).toNat)
  case atStart => exact ⟨⟨m, rfl⟩, 0, by omega, rfl, fun a h => by omega⟩
  case round =>
    obtain ⟨⟨m, rfl⟩, k, hk, rfl, hP⟩ := hrel
    have HhP := Lib.hid hP
    clear hP
    by_cases hlt : k < cnt S
    · have hkc := HLc.out k hlt
      have hkl := els_lt hS hg2 hlt
      go_wp2_with fail
      go_loopw [9] (fun i wr => (∃ m : Later W4, wr = m.w) ∧ ∃ t : Nat, t ≤ k ∧ i = .int .i64 t ∧ ∀ b, b < t → keepAt rs S k b = true) (fun i _ => k - (intOf i).toNat)
      case atStart => exact ⟨⟨m, rfl⟩, 0, by omega, rfl, fun a h => by omega⟩
      case round =>
        obtain ⟨⟨m, rfl⟩, t, ht, rfl, hQ⟩ := hrel
        have HhQ := Lib.hid hQ
        clear hQ
        by_cases htt : t < k
        · have htS : t < cnt S := by omega
          have htc := HLc.out t htS
          have htl := els_lt hS hg2 htS
          have C1 := fun m => HDh.out k t m hlt htS
          have C2 := fun m => HDg.out (eln (els S) k) (eln (els S) t) m hkl htl
          have HNe := Lib.hid (fun d1 d2 => keepAt_ne (rs := rs) (S := S) (i := k) (k := t) (d1 := d1) (d2 := d2))
          generalize hd1 : distV (ind rs S) k t = d1 at *
          generalize hd2 : distV rs (eln (els S) k) (eln (els S) t) = d2 at *
          replace HNe := Lib.hid (HNe.out d1 d2 rfl rfl)
          clear hd1 hd2
          generalize eln (els S) k = u at *
          generalize eln (els S) t = v at *
          cases hne : (d1 != d2)
          · have HY := Lib.hid (all_succ (p := fun b => keepAt rs S k b = true) HhQ.out (by rw [HNe.out, hne]; rfl))
            go_wp2_with fail
            refine wp_region_later m rfl (by kernel_rfl) (by kernel_rfl) ?_
            repeat (go_big_quiet_step ((first | (go_at_call 69; with_reducible exact Calls.later _ (C1 _)) | (go_at_call 69; with_reducible exact Calls.later _ (C2 _)))))
            refine wpQuiet_nil ?_
            rintro _ ⟨m, rfl⟩
            go_wp2_with fail
            go_roundw
            case rel => exact ⟨⟨m, rfl⟩, t + 1, by omega, by go_num, HY.out⟩
            case measure => simp [intOf]; omega
          · have HJ := Lib.hid (HBad.out k t hlt htS (by rw [HNe.out, hne]; rfl))
            go_wp2_with fail
            refine wp_region_later m rfl (by kernel_rfl) (by kernel_rfl) ?_
            repeat (go_big_quiet_step ((first | (go_at_call 69; with_reducible exact Calls.later _ (C1 _)) | (go_at_call 69; with_reducible exact Calls.later _ (C2 _)))))
            refine wpQuiet_nil ?_
            rintro _ ⟨m, rfl⟩
            go_wp2_with fail
            go_ret
            exact ⟨retB (by rw [HE.out, HJ.out]), below_later HhB.out m⟩
        · have HY := Lib.hid (all_succ (p := fun a => ∀ b, b < a → keepAt rs S a b = true) HhP.out (fun b hb => HhQ.out b (by omega)))
          go_wp2_with fail
          go_roundw
          case rel => exact ⟨⟨m, rfl⟩, k + 1, by omega, by go_num, HY.out⟩
          case measure => simp [intOf]; omega
    · have HJ := Lib.hid (HOk.out (fun i hi => HhP.out i (by omega)))
      go_wp2_with fail
      go_ret
      exact ⟨retB (by rw [HE.out, HJ.out]), below_later HhB.out m⟩

set_option maxRecDepth 100000 in
set_option maxHeartbeats 2000000 in
theorem implKeeps_any (n : Int) (rs : List Int) (s : Int) (ro : Option Addr) (rc : Nat) (w : World) (hr : IntsAt w ro rs) (hrl : rs.length ≤ 1048576) :
    Calls Tryz.prog 13 #[.agg #[.int .i64 n, .slice ro rs.length rc], .int .i64 s] w fun e w' => e = .returned (.bool (keepB n rs s)) ∧ Below w.heap.size w w' := by
  go_enter Tryz.func13, Tryz.ntmps13
  go_wp2_with fail
  generalize hW : w.alloc _ = W1
  obtain ⟨hB, -, k0⟩ := alloc1 hW
  replace hr := hr.below hB
  have hb0 := k0.lt
  have hc0 := k0.cell 0
  have hc1 := k0.cell 1
  simp at hc0 hc1
  clear hW k0
  have HhB := Lib.hid hB
  clear hB
  by_cases hb : isSetB n rs s = false ∨ s = 0
  · have HE : Hid (keepB n rs s = false) := Lib.hid (hb.elim keepB_no (fun h => by rw [h]; exact keepB_zero n rs))
    refine (implInd_bad n rs s ro rc W1 hr hrl hb).mono ?_
    rintro e w2 ⟨rfl, hB2⟩
    have hBB : Below w.heap.size w w2 := below_more' HhB.out hB2
    clear hB2
    have HhBB := Lib.hid hBB
    clear hBB
    go_wp2_with fail
    go_ret
    exact ⟨retB (by rw [HE.out]), HhBB.out.alloc HhBB.out.size _⟩
  have hv : isSetB n rs s = true := by
    cases h : isSetB n rs s
    · exact absurd (.inl h) hb
    · rfl
  obtain ⟨rfl, g, S, rfl, hS⟩ := isSetB_true hv
  have h0 : 0 < S := Nat.pos_of_ne_zero fun e => hb (.inr (by rw [e]; rfl))
  clear hb
  have hG : isGraphB rs.length rs = true := by unfold isSetB at hv; simp only [Bool.and_eq_true] at hv; exact hv.1
  have HE := Lib.hid (keepB_of hv h0)
  have hg1 := g.pos
  have hg2 := g.le
  have hp := g.pow.1
  have hIG := ind_graph g hS h0
  have hil := ind_len rs S
  have hc7 := cnt_le S
  have hcp : 0 < cnt S := cnt_pos hS hg2 h0
  refine (implInd_any rs S ro rc W1 hr hG hS h0).mono ?_
  rintro e w2 ⟨ho, hcap, rfl, hB2, hI⟩
  replace hr := hr.below hB2
  have hBw := below_more' HhB.out hB2
  replace hc0 : w2.cell? ⟨w.heap.size, 0, none⟩ = _ := (hB2.cell hb0).trans hc0
  replace hc1 : w2.cell? ⟨w.heap.size, 1, none⟩ = _ := (hB2.cell hb0).trans hc1
  replace hb0 := Nat.lt_of_lt_of_le hb0 hB2.size
  clear hB2 HhB
  have HhBw := Lib.hid hBw
  clear hBw
  go_wp2_with fail
  generalize hW3 : World.alloc _ _ = W3
  obtain ⟨hB3, -, k3⟩ := alloc1 hW3
  have x0 := k3.cell 0
  have x1 := k3.cell 1
  have xl := k3.lt
  simp at x0 x1
  replace hr := hr.below hB3
  replace hI := hI.below hB3
  replace hc0 : W3.cell? ⟨w.heap.size, 0, none⟩ = _ := (hB3.cell hb0).trans hc0
  replace hc1 : W3.cell? ⟨w.heap.size, 1, none⟩ = _ := (hB3.cell hb0).trans hc1
  have hbs := hb0
  replace hb0 := Nat.lt_of_lt_of_le hb0 hB3.size
  have HhB := Lib.hid (HhBw.out.trans (hB3.mono (Nat.le_of_lt hbs)))
  clear hW3 k3 hB3 HhBw
  generalize w2.heap.size = b2 at *
  obtain ⟨m, hm0⟩ : ∃ m : Later W3, m.w = W3 := ⟨Later.refl _, rfl⟩
  refine (fun h => hm0 ▸ h) ?_
  clear hm0
  have hCn := fun m : Later W3 => implConn_any (cnt S) (ind rs S) ho hcap m.w (hI.later m) (by omega)
  rw [hil] at hCn
  cases hcn : connB (cnt S) (ind rs S)
  · have HJ := Lib.hid (keepN_apart hcn)
    rw [hcn] at hCn
    refine (Calls.later m (hCn m)).mono ?_
    rintro e w' ⟨rfl, m, rfl⟩
    go_wp2_with fail
    go_ret
    exact ⟨retB (by rw [HE.out, HJ.out]), below_later HhB.out m⟩
  rw [hcn] at hCn
  have HOk := Lib.hid (keepN_ok hcn)
  have HBad := Lib.hid (fun i k h1 h2 h3 => keepN_bad (rs := rs) (i := i) (k := k) g hS h0 h1 h2 h3)
  refine (Calls.later m (hCn m)).mono ?_
  rintro e w' ⟨rfl, m, rfl⟩
  go_wp2_with fail
  refine (implListN_any S (by omega) _).mono ?_
  rintro e w4 ⟨lo, lc, rfl, hB4, hL⟩
  obtain ⟨m, rfl⟩ : ∃ m2 : Later W3, m2.w = w4 := ⟨m.on hB4, rfl⟩
  clear hB4 hCn
  obtain ⟨lb, lofs, rfl, hlb, hlc⟩ := hL hcp
  clear hL
  replace hI := hI.later m
  replace x0 : m.w.cell? _ = _ := (m.cell _ 0 xl).trans x0
  replace x1 : m.w.cell? _ = _ := (m.cell _ 1 xl).trans x1
  replace xl := Nat.lt_of_lt_of_le xl m.size
  have HLc : Hid (∀ k, k < cnt S → m.w.cell? ⟨lb, lofs + k, none⟩ = some (.int .i64 (eln (els S) k : Int))) := Lib.hid hlc
  clear hlc
  replace hr := hr.later m
  replace hc0 : m.w.cell? _ = _ := (m.cell _ _ hb0).trans hc0
  replace hc1 : m.w.cell? _ = _ := (m.cell _ _ hb0).trans hc1
  replace hb0 := Nat.lt_of_lt_of_le hb0 m.size
  replace HhB := Lib.hid (below_later HhB.out m)
  generalize m.w = W4 at *
  clear m
  have HDh : Hid (∀ (i k : Nat) (m : Later W4), i < cnt S → k < cnt S → Calls Tryz.prog 57 #[.agg #[.int .i64 (cnt S), .slice ho (cnt S) hcap], .int .i64 i, .int .i64 k] m.w fun e w' => e = .returned (.int .i64 (distV (ind rs S) i k)) ∧ Below m.w.heap.size m.w w') := Lib.hid fun i k m h1 h2 => by
    have := implDist_any (cnt S) (ind rs S) i k ho hcap m.w (hI.later m) (by omega)
    have e := distB_of (rs := ind rs S) (v := i) (u := k) (by rw [hil]; exact hIG) (by omega) (by omega)
    rw [hil] at e
    rw [hil, e] at this
    exact this
  have HDg : Hid (∀ (u v : Nat) (m : Later W4), u < rs.length → v < rs.length → Calls Tryz.prog 57 #[.agg #[.int .i64 rs.length, .slice ro rs.length rc], .int .i64 u, .int .i64 v] m.w fun e w' => e = .returned (.int .i64 (distV rs u v)) ∧ Below m.w.heap.size m.w w') := Lib.hid fun u v m h1 h2 => by
    have := implDist_any rs.length rs u v ro rc m.w (hr.later m) hrl
    rwa [distB_of hG h1 h2] at this
  obtain ⟨m, hm0⟩ : ∃ m : Later W4, m.w = W4 := ⟨Later.refl _, rfl⟩
  refine (fun h => hm0 ▸ h) ?_
  clear hm0
  go_wp2_with fail
  go_loopw [29] (fun i wr => (∃ m : Later W4, wr = m.w) ∧ ∃ k : Nat, k ≤ cnt S ∧ i = .int .i64 k ∧ ∀ a, a < k → ∀ b, b < cnt S → keepAt rs S a b = true) (fun i _ => cnt S - (intOf i).toNat)
  case atStart => exact ⟨⟨m, rfl⟩, 0, by omega, rfl, fun a h => by omega⟩
  case round =>
    obtain ⟨⟨m, rfl⟩, k, hk, rfl, hP⟩ := hrel
    have HhP := Lib.hid hP
    clear hP
    by_cases hlt : k < cnt S
    · have hkc := HLc.out k hlt
      have hkl := els_lt hS hg2 hlt
      go_wp2_with fail
      go_loopw [36] (fun i wr => (∃ m : Later W4, wr = m.w) ∧ ∃ t : Nat, t ≤ cnt S ∧ i = .int .i64 t ∧ ∀ b, b < t → keepAt rs S k b = true) (fun i _ => cnt S - (intOf i).toNat)
      case atStart => exact ⟨⟨m, rfl⟩, 0, by omega, rfl, fun a h => by omega⟩
      case round =>
        obtain ⟨⟨m, rfl⟩, t, ht, rfl, hQ⟩ := hrel
        have HhQ := Lib.hid hQ
        clear hQ
        by_cases htS : t < cnt S
        · have htc := HLc.out t htS
          have htl := els_lt hS hg2 htS
          have C1 := fun m => HDh.out k t m hlt htS
          have C2 := fun m => HDg.out (eln (els S) k) (eln (els S) t) m hkl htl
          have HNe := Lib.hid (fun d1 d2 => keepAt_ne (rs := rs) (S := S) (i := k) (k := t) (d1 := d1) (d2 := d2))
          generalize hd1 : distV (ind rs S) k t = d1 at *
          generalize hd2 : distV rs (eln (els S) k) (eln (els S) t) = d2 at *
          replace HNe := Lib.hid (HNe.out d1 d2 rfl rfl)
          clear hd1 hd2
          generalize eln (els S) k = u at *
          generalize eln (els S) t = v at *
          cases hne : (d1 != d2)
          · have HY := Lib.hid (all_succ (p := fun b => keepAt rs S k b = true) HhQ.out (by rw [HNe.out, hne]; rfl))
            go_wp2_with fail
            refine wp_region_later m rfl (by kernel_rfl) (by kernel_rfl) ?_
            repeat (go_big_quiet_step ((first | (go_at_call 57; with_reducible exact Calls.later _ (C1 _)) | (go_at_call 57; with_reducible exact Calls.later _ (C2 _)))))
            refine wpQuiet_nil ?_
            rintro _ ⟨m, rfl⟩
            go_wp2_with fail
            go_roundw
            case rel => exact ⟨⟨m, rfl⟩, t + 1, by omega, by go_num, HY.out⟩
            case measure => simp [intOf]; omega
          · have HJ := Lib.hid (HBad.out k t hlt htS (by rw [HNe.out, hne]; rfl))
            go_wp2_with fail
            refine wp_region_later m rfl (by kernel_rfl) (by kernel_rfl) ?_
            repeat (go_big_quiet_step ((first | (go_at_call 57; with_reducible exact Calls.later _ (C1 _)) | (go_at_call 57; with_reducible exact Calls.later _ (C2 _)))))
            refine wpQuiet_nil ?_
            rintro _ ⟨m, rfl⟩
            go_wp2_with fail
            go_ret
            exact ⟨retB (by rw [HE.out, HJ.out]), below_later HhB.out m⟩
        · have HY := Lib.hid (all_succ (p := fun a => ∀ b, b < cnt S → keepAt rs S a b = true) HhP.out (fun b hb => HhQ.out b (by omega)))
          go_wp2_with fail
          go_roundw
          case rel => exact ⟨⟨m, rfl⟩, k + 1, by omega, by go_num, HY.out⟩
          case measure => simp [intOf]; omega
    · have HJ := Lib.hid (HOk.out (fun i hi k hk => HhP.out i (by omega) k (by omega)))
      go_wp2_with fail
      go_ret
      exact ⟨retB (by rw [HE.out, HJ.out]), below_later HhB.out m⟩

end Go.Proofs.YtjikmjhpmkakoaaGreatDoor
