/-
  DistanceOf on both sides. For at most 2^20 rows.
-/
import Derived.Test.YtgklgheaojoimaaPartsW
import Derived.Test.YtgklgheaojoimaaPk32
namespace Go.Proofs.Ytgklgheaojoimaa
open Go.RowKit

def distB (n : Int) (rs : List Int) (v u : Int) : Int := if (isGraphB n rs && ((decide (0 ≤ v) && decide (v ≤ n - 1)) && (decide (0 ≤ u) && decide (u ≤ n - 1)))) = true then distV rs v.toNat u.toNat else -1
theorem distB_no {n : Int} {rs : List Int} {v u : Int} (h : isGraphB n rs = false) : distB n rs v u = -1 := by unfold distB; rw [h]; rfl
theorem distB_v {n : Int} {rs : List Int} {v u : Int} (h : (decide (0 ≤ v) && decide (v ≤ n - 1)) = false) : distB n rs v u = -1 := by unfold distB; rw [h]; simp
theorem distB_u {n : Int} {rs : List Int} {v u : Int} (h : (decide (0 ≤ u) && decide (u ≤ n - 1)) = false) : distB n rs v u = -1 := by unfold distB; rw [h]; simp
theorem distB_of {rs : List Int} {v u : Nat} (h : isGraphB rs.length rs = true) (hv : v < rs.length) (hu : u < rs.length) : distB rs.length rs v u = distV rs v u := by
  unfold distB; rw [if_pos]; rfl
  rw [h, decide_eq_true (show (0 : Int) ≤ (v : Int) by omega), decide_eq_true (show (v : Int) ≤ (rs.length : Int) - 1 by omega), decide_eq_true (show (0 : Int) ≤ (u : Int) by omega), decide_eq_true (show (u : Int) ≤ (rs.length : Int) - 1 by omega)]; rfl
theorem vtx_two {n v u : Int} : vtx n [v, u] = ((decide (0 ≤ v) && decide (v ≤ n - 1)) && (decide (0 ≤ u) && decide (u ≤ n - 1))) := by
  rw [Bool.eq_iff_iff]
  unfold vtx
  rw [decide_eq_true_eq, Bool.and_eq_true]
  constructor
  · exact fun h => ⟨h 0 (by simp), h 1 (by simp)⟩
  · rintro ⟨h1, h2⟩ j hj
    match j, hj with
    | 0, _ => exact h1
    | 1, _ => exact h2
theorem distV_ge (rs : List Int) (v u : Nat) : -1 ≤ distV rs v u := by unfold distV; split <;> omega
theorem distV_lt {rs : List Int} (v u : Nat) (h : 1 ≤ rs.length) : distV rs v u < rs.length := by
  unfold distV
  split
  · rename_i k hk
    unfold firstB at hk
    rw [List.find?_range_eq_some] at hk
    have := hk.2.1
    simp at this
    omega
  · omega

set_option maxHeartbeats 2000000 in
theorem specDist_any (n : Int) (rs : List Int) (v u : Int) (ro : Option Addr) (rc : Nat) (w : World) (hr : IntsAt w ro rs) (hrl : rs.length ≤ 1048576) :
    Calls Try.prog 77 #[.agg #[.int .i64 n, .slice ro rs.length rc], .int .i64 v, .int .i64 u] w fun e w' => e = .returned (.int .i64 (distB n rs v u)) ∧ Below w.heap.size w w' := by
  go_enter Try.func77, Try.ntmps77
  go_wp2_with fail
  generalize hW : w.alloc _ = W1
  obtain ⟨hB, -, k0⟩ := alloc1 hW
  replace hr := hr.below hB
  have hb0 := k0.lt
  have hc0 := k0.cell 0
  have hc1 := k0.cell 1
  simp at hc0 hc1
  clear hW k0
  have HhB := Lib.hid hB
  clear hB
  obtain ⟨m, hm0⟩ : ∃ m : Later W1, m.w = W1 := ⟨Later.refl _, rfl⟩
  refine (fun h => hm0 ▸ h) ?_
  clear hm0
  cases hv : isGraphB n rs
  · have HE := Lib.hid (distB_no (v := v) (u := u) hv)
    go_wp2_with (first | (go_at_call 14; refine (Calls.later m (specIsGraph_any _ _ _ _ _ (hr.later m) hrl)).mono ?_; rintro e w' ⟨rfl, m, rfl⟩))
    go_ret
    exact ⟨retI (by rw [HE.out]), below_later HhB.out m⟩
  obtain ⟨rfl, g⟩ := VG.of hv
  have hg1 := g.pos
  have hg2 := g.le
  by_cases h1 : 0 ≤ v ∧ v < rs.length ∧ 0 ≤ u ∧ u < rs.length
  · obtain ⟨a1, a2, a3, a4⟩ := h1
    obtain ⟨v, rfl⟩ : ∃ v' : Nat, v = v' := ⟨v.toNat, by omega⟩
    obtain ⟨u, rfl⟩ : ∃ v' : Nat, u = v' := ⟨u.toNat, by omega⟩
    have b1 : v < rs.length := by omega
    have b2 : u < rs.length := by omega
    have HE := Lib.hid (distB_of hv b1 b2)
    have hp := g.pow.1
    have hpw := pwN_small v (by omega)
    have d1 : decide (rs.length ≤ v) = false := decide_eq_false (by omega)
    have d2 : decide (rs.length ≤ u) = false := decide_eq_false (by omega)
    have d3 : decide ((v : Int) < 0) = false := decide_eq_false (by omega)
    have d4 : decide ((u : Int) < 0) = false := decide_eq_false (by omega)
    go_wp2_with (first | (go_at_call 14; refine (Calls.later m (specIsGraph_any _ _ _ _ _ (hr.later m) hrl)).mono ?_; rintro e w' ⟨rfl, m, rfl⟩))
    go_loopw [7, 8] (fun s i wr => (∃ m : Later W1, wr = m.w) ∧ ∃ k : Nat, k ≤ rs.length ∧ i = .int .i64 k ∧ s = .int .i64 (reach rs v k : Nat) ∧ ∀ j, j < k → (reach rs v j).testBit u = false) (fun _ i _ => rs.length - (intOf i).toNat)
    case atStart => exact ⟨⟨m, rfl⟩, 0, by omega, rfl, by simp [reach, stepN], fun j h => by omega⟩
    case round =>
      obtain ⟨⟨m, rfl⟩, k, hk, rfl, rfl, hP⟩ := hrel
      have HhP := Lib.hid hP
      clear hP
      by_cases hlt : k < rs.length
      · have hA := reach_lt b1 k (rs := rs)
        have hN := Lib.hid (reach_succ g b1 k)
        have hC := fun m : Later W1 => specAround_any rs (reach rs v k) ro rc m.w (hr.later m) hv hA
        have HH := Lib.hid (fun h => distV_hit (rs := rs) (v := v) (w := u) hlt HhP.out h)
        have HM := Lib.hid (fun h => all_succ (p := fun j => (reach rs v j).testBit u = false) HhP.out h)
        generalize reach rs v k = A at *
        have hn := hasN_nat A u
        cases hb : A.testBit u
        · rw [hb] at hn
          go_wp2_with (first | (go_at_call 124; refine (Calls.later m (hC _)).mono ?_; rintro e w' ⟨rfl, m, rfl⟩))
          go_roundw
          case rel => exact ⟨⟨m, rfl⟩, k + 1, by omega, by go_num, by rw [hN.out], HM.out hb⟩
          case measure => simp [intOf]; omega
        · rw [hb] at hn
          go_wp2_with fail
          go_ret
          exact ⟨retI (by rw [HE.out, HH.out hb]), below_later HhB.out m⟩
      · obtain rfl : k = rs.length := by omega
        have HH := Lib.hid (distV_none HhP.out)
        go_wp2_with fail
        go_ret
        exact ⟨retI (by rw [HE.out, HH.out]), below_later HhB.out m⟩
  · have HE : Hid (distB rs.length rs v u = -1) := by
      show distB rs.length rs v u = -1
      by_cases a : (decide (0 ≤ v) && decide (v ≤ (rs.length : Int) - 1)) = false
      · exact distB_v a
      · refine distB_u ?_
        simp at a ⊢; omega
    have h1' : v < 0 ∨ u < 0 ∨ (rs.length : Int) ≤ v ∨ (rs.length : Int) ≤ u := by omega
    clear h1
    by_cases c1 : v < 0
    · go_wp2_with (first | (go_at_call 14; refine (Calls.later m (specIsGraph_any _ _ _ _ _ (hr.later m) hrl)).mono ?_; rintro e w' ⟨rfl, m, rfl⟩))
      go_ret
      exact ⟨retI (by rw [HE.out]), below_later HhB.out m⟩
    · by_cases c2 : u < 0
      · go_wp2_with (first | (go_at_call 14; refine (Calls.later m (specIsGraph_any _ _ _ _ _ (hr.later m) hrl)).mono ?_; rintro e w' ⟨rfl, m, rfl⟩))
        go_ret
        exact ⟨retI (by rw [HE.out]), below_later HhB.out m⟩
      · by_cases c3 : (rs.length : Int) ≤ v
        · go_wp2_with (first | (go_at_call 14; refine (Calls.later m (specIsGraph_any _ _ _ _ _ (hr.later m) hrl)).mono ?_; rintro e w' ⟨rfl, m, rfl⟩))
          go_ret
          exact ⟨retI (by rw [HE.out]), below_later HhB.out m⟩
        · have c4 : (rs.length : Int) ≤ u := by omega
          go_wp2_with (first | (go_at_call 14; refine (Calls.later m (specIsGraph_any _ _ _ _ _ (hr.later m) hrl)).mono ?_; rintro e w' ⟨rfl, m, rfl⟩))
          go_ret
          exact ⟨retI (by rw [HE.out]), below_later HhB.out m⟩

set_option maxHeartbeats 2000000 in
theorem implDist_any (n : Int) (rs : List Int) (v u : Int) (ro : Option Addr) (rc : Nat) (w : World) (hr : IntsAt w ro rs) (hrl : rs.length ≤ 1048576) :
    Calls Try.prog 74 #[.agg #[.int .i64 n, .slice ro rs.length rc], .int .i64 v, .int .i64 u] w fun e w' => e = .returned (.int .i64 (distB n rs v u)) ∧ Below w.heap.size w w' := by
  go_enter Try.func74, Try.ntmps74
  go_wp2_with fail
  generalize hW : (w.alloc _).alloc _ = W1
  obtain ⟨hB, hsz, k0, k1⟩ := alloc2 hW
  replace hr := hr.below hB
  have hb0 := k0.lt
  have hc0 := k0.cell 0
  have hc1 := k0.cell 1
  have hI : IntsAt W1 (some ⟨w.heap.size + 1, 0, none⟩) [v, u] := (show OwnInts W1 (w.heap.size + 1) [v, u] from k1).ints
  simp at hc0 hc1
  clear hW k0 k1
  have HhB := Lib.hid hB
  clear hB
  obtain ⟨m, hm0⟩ : ∃ m : Later W1, m.w = W1 := ⟨Later.refl _, rfl⟩
  refine (fun h => hm0 ▸ h) ?_
  clear hm0
  refine (Calls.later m (isVertex_any n rs [v, u] ro _ rc 2 _ (hr.later m) hrl (hI.later m) (by simp))).mono ?_
  rintro e w' ⟨rfl, m, rfl⟩
  cases hv : isGraphB n rs
  · rw [vtxB_inv hv]
    have HE := Lib.hid (distB_no (v := v) (u := u) hv)
    go_wp2_with fail
    go_ret
    exact ⟨retI (by rw [HE.out]), below_later HhB.out m⟩
  rw [vtxB_of hv, vtx_two]
  obtain ⟨rfl, g⟩ := VG.of hv
  have hg1 := g.pos
  have hg2 := g.le
  cases c1 : (decide (0 ≤ v) && decide (v ≤ (rs.length : Int) - 1))
  · have HE := Lib.hid (distB_v (rs := rs) (u := u) c1)
    go_wp2_with fail
    go_ret
    exact ⟨retI (by rw [HE.out]), below_later HhB.out m⟩
  cases c2 : (decide (0 ≤ u) && decide (u ≤ (rs.length : Int) - 1))
  · have HE := Lib.hid (distB_u (rs := rs) (v := v) c2)
    go_wp2_with fail
    go_ret
    exact ⟨retI (by rw [HE.out]), below_later HhB.out m⟩
  simp only [Bool.and_eq_true, decide_eq_true_eq] at c1 c2
  obtain ⟨v, rfl⟩ : ∃ v' : Nat, v = v' := ⟨v.toNat, by omega⟩
  obtain ⟨u, rfl⟩ : ∃ v' : Nat, u = v' := ⟨u.toNat, by omega⟩
  have b1 : v < rs.length := by omega
  have b2 : u < rs.length := by omega
  have HE := Lib.hid (distB_of hv b1 b2)
  have hp := g.pow.1
  have hpw := pwN_small v (by omega)
  have hv7 : cnt (2 ^ v) = 1 := cnt_pow (by omega)
  clear c1 c2
  go_wp2_with fail
  go_loopw [7, 8] (fun s i wr => (∃ m : Later W1, wr = m.w) ∧ ∃ k : Nat, i = .int .i64 k ∧ s = .int .i64 (reach rs v k : Nat) ∧ (k + 1 ≤ cnt (reach rs v k)) ∧ ∀ j, j < k → (reach rs v j).testBit u = false) (fun _ i _ => rs.length - (intOf i).toNat)
  case atStart => exact ⟨⟨m, rfl⟩, 0, rfl, by simp [reach, stepN], by simp [reach, stepN, hv7], fun j h => by omega⟩
  case round =>
    obtain ⟨⟨m, rfl⟩, k, rfl, rfl, hcn, hP⟩ := hrel
    have hlt := reach_le g b1 hcn
    have HhP := Lib.hid hP
    clear hP
    have hA := reach_lt b1 k (rs := rs)
    have hN := Lib.hid (reach_succ g b1 k)
    have hK := Lib.hid (fun h => reach_cnt g b1 hcn h)
    have hC := fun m : Later W1 => implNeighbors_any rs (reach rs v k) ro rc m.w (hr.later m) g hA
    have HH := Lib.hid (fun h => distV_hit (rs := rs) (v := v) (w := u) hlt HhP.out h)
    have HM := Lib.hid (fun h => all_succ (p := fun j => (reach rs v j).testBit u = false) HhP.out h)
    have HS := Lib.hid (fun (h : ∀ j, j < k + 1 → (reach rs v j).testBit u = false) h2 => distV_stuck (rs := rs) (v := v) (w := u) (k := k) g b1 (fun j hj => h j (by omega)) h2)
    generalize reach rs v k = A at *
    have hq := around_lt g hA
    have hq2 := nbrs_lt g hA
    have ho : bits .or .i64 (A : Int) (nbrs rs A : Int) = (around rs A : Int) := bits_or_nat _ _ (by omega) (by omega)
    have hHas := fun w => has_any A u (by omega) (by omega) w
    simp only [Int.toNat_natCast] at hHas
    have hn := hasN_nat A u
    rw [hn] at hHas
    generalize nbrs rs A = D at *
    generalize around rs A = B at *
    cases hb : A.testBit u
    · rw [hb] at hHas
      clear hn
      by_cases he : B = A
      · have hb2 : ((B : Int) == A) = true := by rw [he]; simp
        have HJ := Lib.hid (HS.out (HM.out hb) he)
        clear he
        go_wp2_with (first | (go_at_call 86; refine (hHas _).mono ?_; rintro e w' ⟨rfl, rfl⟩) | (go_at_call 144; refine (Calls.later m (hC _)).mono ?_; rintro e w' ⟨rfl, m, rfl⟩))
        go_ret
        exact ⟨retI (by rw [HE.out, HJ.out]), below_later HhB.out m⟩
      · have hb2 : ((B : Int) == A) = false := by rw [beq_eq_false_iff_ne]; omega
        have HJ := Lib.hid (hK.out he)
        clear he
        go_wp2_with (first | (go_at_call 86; refine (hHas _).mono ?_; rintro e w' ⟨rfl, rfl⟩) | (go_at_call 144; refine (Calls.later m (hC _)).mono ?_; rintro e w' ⟨rfl, m, rfl⟩))
        go_roundw
        case rel => exact ⟨⟨m, rfl⟩, k + 1, by go_num, by rw [hN.out], HJ.out, HM.out hb⟩
        case measure => simp [intOf]; omega
    · rw [hb] at hHas
      clear hn
      go_wp2_with (first | (go_at_call 86; refine (hHas _).mono ?_; rintro e w' ⟨rfl, rfl⟩))
      go_ret
      exact ⟨retI (by rw [HE.out, HH.out hb]), below_later HhB.out m⟩

end Go.Proofs.Ytgklgheaojoimaa
