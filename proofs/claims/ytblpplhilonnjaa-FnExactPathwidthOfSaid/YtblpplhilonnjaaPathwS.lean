/-
  PathwidthOf of the reference. For at most 2^20 rows.
-/
import Derived.Test.YtblpplhilonnjaaPathwL
namespace Go.Proofs.Ytblpplhilonnjaa
open Go.RowKit

/-- What has been reckoned for the sets below k. -/
def dpL (c : Nat → Nat → Nat) (e : Nat → Nat) (N k : Nat) : List Int := (List.range k).map fun S => (dpV c e N S : Int)
theorem dpL_len (c : Nat → Nat → Nat) (e : Nat → Nat) (N k : Nat) : (dpL c e N k).length = k := by simp [dpL]
theorem dpL_at {c : Nat → Nat → Nat} {e : Nat → Nat} {N k S : Nat} (h : S < k) : gi (dpL c e N k) S = (dpV c e N S : Int) := by simp [dpL, gi, h]
theorem dpL_succ (c : Nat → Nat → Nat) (e : Nat → Nat) (N k : Nat) : dpL c e N (k + 1) = dpL c e N k ++ [(dpV c e N k : Int)] := by unfold dpL; rw [List.range_succ, List.map_append]; rfl
theorem dpL_one (c : Nat → Nat → Nat) (e : Nat → Nat) (N : Nat) : dpL c e N 1 = [0] := by simp [dpL, dpV_zero]

set_option maxRecDepth 100000 in
set_option maxHeartbeats 2000000 in
theorem specPath_any (n : Int) (rs : List Int) (ro : Option Addr) (rc : Nat) (w : World) (hr : IntsAt w ro rs) (hrl : rs.length ≤ 1048576) :
    Calls Try.prog 22 #[.agg #[.int .i64 n, .slice ro rs.length rc]] w fun e w' => e = .returned (.int .i64 (pathV n rs)) ∧ Below w.heap.size w w' := by
  go_enter Try.func22, Try.ntmps22
  go_wp2_with fail
  generalize hW : w.alloc _ = W1
  obtain ⟨hB, -, k0⟩ := alloc1 hW
  replace hr := hr.below hB
  have hb0 := k0.lt
  have hc0 := k0.cell 0
  have hc1 := k0.cell 1
  simp at hc0 hc1
  clear hW k0
  have HhB := Lib.hid hB
  clear hB
  obtain ⟨m, hm0⟩ : ∃ m : Later W1, m.w = W1 := ⟨Later.refl _, rfl⟩
  refine (fun h => hm0 ▸ h) ?_
  clear hm0
  cases hv : isGraphB n rs
  · have HE := Lib.hid (pathV_no hv)
    go_wp2_with (first | (go_at_call 55; refine (Calls.later m (specIsGraph_any _ _ _ _ _ (hr.later m) hrl)).mono ?_; rintro e w' ⟨rfl, m, rfl⟩))
    go_ret
    exact ⟨retI (by rw [HE.out]), below_later HhB.out m⟩
  obtain ⟨rfl, g⟩ := VG.of hv
  have hg1 := g.pos
  have hg2 := g.le
  obtain ⟨hp1, hp2⟩ := g.pow
  have hq := pwN_small rs.length (by omega)
  have HE := Lib.hid (pathV_of hv)
  have HT : Hid (2 ^ rs.length - 1 + 1 = 2 ^ rs.length) := by show _ = _; omega
  have HPE := Lib.hid (fun S h => pwE_eq (rs := rs) hg2 (S := S) h)
  have HFr : Hid (∀ (S : Nat) (w : World), IntsAt w ro rs → S < 2 ^ rs.length → Calls Try.prog 92 #[.agg #[.int .i64 rs.length, .slice ro rs.length rc], .int .i64 S] w fun e w' => e = .returned (.int .i64 (frontN rs S)) ∧ Below w.heap.size w w') := Lib.hid fun S w h1 h2 => specFront_any rs S ro rc w h1 g h2
  generalize hTT : 2 ^ rs.length = T at *
  refine (Calls.later m (specIsGraph_any _ _ _ _ _ (hr.later m) hrl)).mono ?_
  rintro e w' ⟨rfl, m, rfl⟩
  rw [hv]
  have hwm := m.size
  replace hr := hr.later m
  replace hc0 : m.w.cell? _ = _ := (m.cell _ _ hb0).trans hc0
  replace hc1 : m.w.cell? _ = _ := (m.cell _ _ hb0).trans hc1
  replace hb0 := Nat.lt_of_lt_of_le hb0 m.size
  replace HhB := Lib.hid (below_later HhB.out m)
  generalize m.w = W2 at *
  clear m
  go_wp2_with fail
  generalize hW3 : World.alloc _ _ = W3
  have hO3 : OwnInts W3 W2.heap.size [0] := by rw [← hW3]; exact OwnInts.made _ [0]
  have hB3 : Below W2.heap.size W2 W3 := by rw [← hW3]; exact (Below.refl _ _).alloc (Nat.le_refl _) _
  clear hW3
  have hE3 : OwnE W3 W2.heap.size (some ⟨W2.heap.size, 0, none⟩) 1 [0] := (RowAt.of hO3 (by simp)).own (Nat.le_refl _)
  go_loopw [3, 4] (fun o i wr => ∃ m : Later W2, wr = m.w ∧ ∃ (k : Nat) (ao : Option Addr) (cap : Nat), 1 ≤ k ∧ k ≤ T ∧ i = .int .i64 k ∧ o = .slice ao (dpL (fun _ _ => 0) (pwE rs) rs.length k).length cap ∧ OwnE m.w W2.heap.size ao cap (dpL (fun _ _ => 0) (pwE rs) rs.length k)) (fun _ i _ => T - (intOf i).toNat)
  case atStart => exact ⟨⟨W3, hB3⟩, rfl, 1, _, _, by omega, by omega, rfl, by rw [dpL_one]; rfl, by rw [dpL_one]; exact hE3⟩
  case round =>
    clear hO3 hB3 hE3
    obtain ⟨m, rfl, k, ao, cap, hk1, hk, rfl, rfl, hO⟩ := hrel
    have hln1 := Nat.le_of_eq (dpL_len (fun _ _ => 0) (pwE rs) rs.length k)
    have hln2 := Nat.le_of_eq (dpL_len (fun _ _ => 0) (pwE rs) rs.length k).symm
    have HU : Hid (dpL (fun _ _ => 0) (pwE rs) rs.length (k + 1) = dpL (fun _ _ => 0) (pwE rs) rs.length k ++ [(dpV (fun _ _ => 0) (pwE rs) rs.length k : Int)]) := dpL_succ _ _ _ _
    have HAt : Hid (∀ S, S < k → gi (dpL (fun _ _ => 0) (pwE rs) rs.length k) S = (dpV (fun _ _ => 0) (pwE rs) rs.length S : Int)) := Lib.hid fun S h => dpL_at h
    by_cases hlt : k < T
    · have HSt : Hid (dpV (fun _ _ => 0) (pwE rs) rs.length k = max (minTo rs.length k.testBit (fun v => max (dpV (fun _ _ => 0) (pwE rs) rs.length (k - 2 ^ v)) 0) rs.length) (frontN rs k)) := by
        show _ = _
        rw [dpV_step (by omega), HPE.out k hlt]
      have hmb : ∀ k', minTo rs.length k.testBit (fun v => max (dpV (fun _ _ => 0) (pwE rs) rs.length (k - 2 ^ v)) 0) k' ≤ rs.length := fun k' => minTo_le k'
      have hI := hO.ints
      have HW : ∀ m2 : Later m.w, ∃ m' : Later W2, m'.w = m2.w := fun m2 => ⟨m.on m2.below, rfl⟩
      have hms := m.size
      generalize dpL (fun _ _ => 0) (pwE rs) rs.length k = xs at *
      obtain ⟨xb, xofs, rfl, hxb, hxc⟩ := hI (by omega)
      have HXc : Hid (∀ S, S < k → m.w.cell? ⟨xb, xofs + S, none⟩ = some (.int .i64 (dpV (fun _ _ => 0) (pwE rs) rs.length S : Int))) := Lib.hid fun S h => by rw [← HAt.out S h]; exact hxc S (by omega)
      clear hxc hI
      have HhO := Lib.hid hO
      clear hO
      replace hr := hr.later m
      replace hc0 : m.w.cell? _ = _ := (m.cell _ _ hb0).trans hc0
      replace hc1 : m.w.cell? _ = _ := (m.cell _ _ hb0).trans hc1
      replace hb0 := Nat.lt_of_lt_of_le hb0 m.size
      replace HhB := Lib.hid (below_later HhB.out m)
      generalize m.w = W4 at *
      clear m
      obtain ⟨m, hm0⟩ : ∃ m : Later W4, m.w = W4 := ⟨Later.refl _, rfl⟩
      refine (fun h => hm0 ▸ h) ?_
      clear hm0
      go_wp2_with fail
      go_loopw [5, 6] (fun l i wr => (∃ m : Later W4, wr = m.w) ∧ ∃ v : Nat, v ≤ rs.length ∧ i = .int .i64 v ∧ l = .int .i64 (minTo rs.length k.testBit (fun v => max (dpV (fun _ _ => 0) (pwE rs) rs.length (k - 2 ^ v)) 0) v : Nat)) (fun _ i _ => rs.length - (intOf i).toNat)
      case atStart => exact ⟨⟨m, rfl⟩, 0, by omega, rfl, rfl⟩
      case round =>
        obtain ⟨⟨m, rfl⟩, v, hvl, rfl, rfl⟩ := hrel
        by_cases hvt : v < rs.length
        · have hn := hasN_nat k v
          have hmv := hmb v
          have HY := Lib.hid (fun h => minTo_yes (N := rs.length) (p := k.testBit) (f := fun v => max (dpV (fun _ _ => 0) (pwE rs) rs.length (k - 2 ^ v)) 0) (k := v) h)
          have HN := Lib.hid (fun h => minTo_no (N := rs.length) (p := k.testBit) (f := fun v => max (dpV (fun _ _ => 0) (pwE rs) rs.length (k - 2 ^ v)) 0) (k := v) h)
          generalize hM : minTo rs.length k.testBit (fun v => max (dpV (fun _ _ => 0) (pwE rs) rs.length (k - 2 ^ v)) 0) v = M at *
          cases hb : k.testBit v
          · rw [hb] at hn
            replace HN := Lib.hid (HN.out hb)
            clear HY
            go_wp2_with fail
            go_roundw
            case rel => exact ⟨⟨m, rfl⟩, v + 1, by omega, by go_num, by rw [HN.out]⟩
            case measure => simp [intOf]; omega
          · rw [hb] at hn
            have hpw := pwN_small v (by omega)
            have hle := Nat.ge_two_pow_of_testBit hb
            have hvp := Nat.two_pow_pos v
            have hxk := HXc.out (k - 2 ^ v) (by omega)
            have hmx : max (dpV (fun _ _ => 0) (pwE rs) rs.length (k - 2 ^ v)) 0 = dpV (fun _ _ => 0) (pwE rs) rs.length (k - 2 ^ v) := by omega
            replace HY := Lib.hid (HY.out hb)
            rw [hmx] at HY
            have hdl := dpV_le (c := fun _ _ => 0) (e := pwE rs) (N := rs.length) (fun S => Nat.min_le_right _ _) (k - 2 ^ v)
            clear HN hmx
            generalize hD : dpV (fun _ _ => 0) (pwE rs) rs.length (k - 2 ^ v) = D at *
            generalize 2 ^ v = V at *
            have hkv : ((k : Int) - (V : Int)) = ((k - V : Nat) : Int) := by omega
            by_cases hc : D < M
            all_goals
              go_wp2_with fail
              go_roundw
              case rel => exact ⟨⟨m, rfl⟩, v + 1, by omega, by go_num, by rw [HY.out]; simp [hc]⟩
              case measure => simp [intOf]; omega
        · have hve : v = rs.length := by omega
          have hmv := hmb v
          have hMe : minTo rs.length k.testBit (fun v => max (dpV (fun _ _ => 0) (pwE rs) rs.length (k - 2 ^ v)) 0) v = minTo rs.length k.testBit (fun v => max (dpV (fun _ _ => 0) (pwE rs) rs.length (k - 2 ^ v)) 0) rs.length := by rw [hve]
          have hSt := HSt.out
          rw [← hMe] at hSt
          have hF7 := frontN_le rs k
          have hFr := fun m : Later W4 => HFr.out k m.w (hr.later m) hlt
          clear hMe hve HSt hmb
          generalize minTo rs.length k.testBit (fun v => max (dpV (fun _ _ => 0) (pwE rs) rs.length (k - 2 ^ v)) 0) v = M at *
          generalize frontN rs k = F at *
          generalize dpV (fun _ _ => 0) (pwE rs) rs.length k = D at *
          by_cases hc : M < F
          · have hD : D = F := by omega
            subst hD
            clear hSt
            go_wp2_with (first | (go_at_call 92; refine (Calls.later m (hFr _)).mono ?_; rintro e w' ⟨rfl, m, rfl⟩) | (at_builtin; go_must (refine wpList_append_e rfl _ _ rfl W2.heap.size cap (some ⟨xb, xofs, none⟩) xs (D : Int) rfl (HhO.out.later m) rfl (Nat.le_trans hms m.size) (by omega) ?_); intro ao2 cap2 w1 hown1 hB1))
            go_roundw
            case rel =>
              obtain ⟨m', hm'⟩ := HW m
              exact ⟨⟨w1, m'.below.trans (hm' ▸ hB1)⟩, rfl, k + 1, ao2, cap2, by omega, by omega, by go_num, by rw [HU.out]; simp, by rw [HU.out]; exact hown1⟩
            case measure => simp [intOf]; omega
          · have hD : D = M := by omega
            subst hD
            clear hSt
            go_wp2_with (first | (go_at_call 92; refine (Calls.later m (hFr _)).mono ?_; rintro e w' ⟨rfl, m, rfl⟩) | (at_builtin; go_must (refine wpList_append_e rfl _ _ rfl W2.heap.size cap (some ⟨xb, xofs, none⟩) xs (D : Int) rfl (HhO.out.later m) rfl (Nat.le_trans hms m.size) (by omega) ?_); intro ao2 cap2 w1 hown1 hB1))
            go_roundw
            case rel =>
              obtain ⟨m', hm'⟩ := HW m
              exact ⟨⟨w1, m'.below.trans (hm' ▸ hB1)⟩, rfl, k + 1, ao2, cap2, by omega, by omega, by go_num, by rw [HU.out]; simp, by rw [HU.out]; exact hown1⟩
            case measure => simp [intOf]; omega
    · have hke : k = T := by omega
      have hI := hO.ints
      have hT7 : T ≤ 128 := by omega
      have hAt := HAt.out ((dpL (fun _ _ => 0) (pwE rs) rs.length k).length - 1) (by omega)
      have HE2 : Hid (pathV rs.length rs = (dpV (fun _ _ => 0) (pwE rs) rs.length ((dpL (fun _ _ => 0) (pwE rs) rs.length k).length - 1) : Int)) := Lib.hid (by rw [HE.out, dpL_len, hke])
      clear HAt HU
      generalize dpL (fun _ _ => 0) (pwE rs) rs.length k = xs at *
      obtain ⟨xb, xofs, rfl, hxb, hxc⟩ := hI (by omega)
      have hxk := hxc (xs.length - 1) (by omega)
      rw [hAt] at hxk
      have hx1 : 1 ≤ xs.length := by omega
      have hx2 : xs.length ≤ 128 := by omega
      clear hxc hI hO hAt hke hln1 hln2
      generalize dpV (fun _ _ => 0) (pwE rs) rs.length (xs.length - 1) = D at *
      have hlast : ((xs.length : Int) - 1) = ((xs.length - 1 : Nat) : Int) := by omega
      go_wp2_with fail
      go_ret
      exact ⟨retI (by rw [HE2.out]), below_later HhB.out m⟩

end Go.Proofs.Ytblpplhilonnjaa
