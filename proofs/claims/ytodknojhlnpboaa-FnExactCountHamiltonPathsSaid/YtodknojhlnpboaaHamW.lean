/-
  The walks of CountHamiltonPaths on both sides. For at most 2^20 rows.
-/
import Derived.Test.YtodknojhlnpboaaHam
namespace Go.Proofs.Ytodknojhlnpboaa
open Go.RowKit

theorem seven_pow {f N : Nat} (h : f < N) (hN : N ≤ 7) : 7 ^ f ≤ 117649 := by
  have : 7 ^ f ≤ 7 ^ 6 := Nat.pow_le_pow_right (by decide) (by omega)
  omega

set_option maxRecDepth 100000 in
set_option maxHeartbeats 1000000 in
theorem implHam_any (n : Int) (rs : List Int) (ro : Option Addr) (rc : Nat) (w : World) (hr : IntsAt w ro rs) (hrl : rs.length ≤ 1048576) :
    Calls Try.prog 53 #[.agg #[.int .i64 n, .slice ro rs.length rc]] w fun e w' => e = .returned (.int .i64 (hamV n rs)) ∧ Below w.heap.size w w' := by
  go_enter Try.func53, Try.ntmps53
  go_wp2_with fail
  generalize hW : World.alloc _ _ = W1
  obtain ⟨hB, hs, k0, k1⟩ := alloc2 hW
  clear hW
  cases hv : isGraphB n rs
  · have HE := Lib.hid (hamV_no hv)
    refine (firstList_bad n n rs ro rc 93 94 _ _ W1 (hr.below hB) hrl hv).mono ?_
    rintro e w3 ⟨rfl, hB3⟩
    have z1 := (k1.below hB3 k1.lt).cell 0
    simp at z1
    have hB4 := below_more' hB hB3
    clear hB hB3 k0 k1 hs
    have HhB4 := Lib.hid hB4
    clear hB4
    go_wp2_with fail
    go_ret
    exact ⟨retI (by rw [HE.out]), HhB4.out⟩
  · obtain ⟨rfl, g⟩ := VG.of hv
    have HE := Lib.hid (hamV_impl hv)
    refine (firstList_any tickS (fun l => wayB rs.length rs l) (fun s w' => Blk w' (w.heap.size + 1) #[.int .i64 s] 3) (fun b => b = w.heap.size + 1) rs ro rc rs.length 93 94 #[.pointer (some ⟨w.heap.size, 0, none⟩)] #[.pointer (some ⟨w.heap.size + 1, 0, none⟩)] 0 W1 (hr.below hB) hv g.pos g.le
      (fun b hb => by omega) (fun _ _ => rfl) (fun _ _ => rfl) ?_ ?_ (fun s w1 w2 h1 h2 => h1.below h2 h1.lt) k1).mono ?_
    · intro m l ao k cap hl hk hc hn h0
      subst hk
      show Calls Try.prog 93 #[.slice ao l.length cap, .pointer (some ⟨w.heap.size, 0, none⟩)] m.w _
      have hrm : IntsAt m.w ro rs := hr.below (hB.trans (m.only.below hB.size fun b hb h => by omega))
      have km := m.blk k0 (fun h => by have h' : w.heap.size = w.heap.size + 1 := h; omega)
      have z0 := km.cell 0
      have z1 := km.cell 1
      simp at z0 z1
      have hl7 : l.length ≤ 1048576 := by have := g.le; omega
      clear k0 k1 hB hs
      have Hkm := Lib.hid km
      clear km
      go_enter Try.func93, Try.ntmps93
      go_wp2_with (first | (go_at_call 23; refine (implIsWay_any rs.length rs l ro ao rc cap m.w hrm hrl hl hl7 hc).mono ?_; rintro e w3 ⟨rfl, hB3⟩))
      go_ret
      exact ⟨rfl, hB3⟩
    · intro m s l ao cap hI hl hn hc
      show Calls Try.prog 94 #[.slice ao rs.length cap, .pointer (some ⟨w.heap.size + 1, 0, none⟩)] m.w _
      have hI' : Blk m.w (w.heap.size + 1) #[.int .i64 s] 3 := hI
      have z1 := hI'.cell 0
      have z2 := hI'.frozen 0
      have z3 := hI'.lt
      simp at z1
      clear hI k0 k1 hB hs
      have HhI' := Lib.hid hI'
      clear hI'
      go_enter Try.func94, Try.ntmps94
      go_wp2_with fail
      go_ret
      refine ⟨rfl, ?_, (Only.refl (fun b => b = w.heap.size + 1) _ _).setCell (p := ⟨w.heap.size + 1, 0, none⟩) (.inl rfl) _⟩
      have := HhI'.out.store 0 (.int .i64 (wrap64 (s + 1)))
      simpa [tickS] using this
    · have hb := hamC_le (fun l => wayB rs.length rs l) g.le rs.length []
      have h7 : 7 ^ rs.length ≤ 7 ^ 7 := Nat.pow_le_pow_right (by decide) g.le
      have e := hamRun (fun l => wayB rs.length rs l) rs.length rs.length [] 0 (by omega) (by omega)
      rw [e]
      rintro e w3 ⟨ao, cap, rfl, hO, hI, -⟩
      have hI' : Blk w3 (w.heap.size + 1) #[.int .i64 (0 + hamC (fun l => wayB rs.length rs l) rs.length rs.length [])] 3 := hI
      have z1 := hI'.cell 0
      simp at z1
      have hB3 : Below w.heap.size w w3 := hB.trans (hO.below hB.size fun b hb h => by omega)
      clear hI hI' hO hB h7 hb k0 k1 hs
      have HhB3 := Lib.hid hB3
      clear hB3
      go_wp2_with fail
      go_ret
      exact ⟨retI (by rw [HE.out]), HhB3.out⟩

set_option maxRecDepth 100000 in
set_option maxHeartbeats 1000000 in
theorem l28Count_any (rs : List Int) (ro : Option Addr) (rc : Nat) (g : VG rs) : ∀ (f a S : Nat) (w : World), cnt S + f = rs.length → S < 2 ^ rs.length → a < rs.length → IntsAt w ro rs →
    Calls Try.prog 91 #[.agg #[.int .i64 rs.length, .slice ro rs.length rc], .int .i64 a, .int .i64 S] w fun e w' => e = .returned (.int .i64 (goC rs f a S)) ∧ Below w.heap.size w w' := by
  have hg1 := g.pos
  have hg2 := g.le
  obtain ⟨hp1, hp2⟩ := g.pow
  have hq := pwN_small rs.length (by omega)
  intro f
  induction f with
  | zero =>
    intro a S w hf hS ha hr
    have e := (cnt_full ⟨rs.length, by omega⟩ ⟨S, by omega⟩ hS).1 (by simpa using hf)
    simp only at e
    generalize 2 ^ rs.length = T at *
    have hz : ((S : Int) == (T : Int) - 1) = true := by rw [beq_iff_eq]; omega
    clear e hf
    go_enter Try.func91, Try.ntmps91
    go_wp2_with fail
    go_ret
    exact ⟨rfl, (Below.refl _ _).alloc (Nat.le_refl _) _⟩
  | succ f ih =>
    intro a S w hf hS ha hr
    have hz : ((S : Int) == ((2 ^ rs.length : Nat) : Int) - 1) = false := by
      rw [beq_eq_false_iff_ne]
      intro h
      have e := (cnt_full ⟨rs.length, by omega⟩ ⟨S, by omega⟩ hS).2 (by show S = 2 ^ rs.length - 1; omega)
      simp only at e
      omega
    have hfN : f < rs.length := by omega
    have h7 := seven_pow hfN hg2
    have HS : Hid (∀ v, v < rs.length → S.testBit v = false → S ||| 2 ^ v < 2 ^ rs.length ∧ cnt (S ||| 2 ^ v) + f = rs.length ∧ S ||| 2 ^ v = S + 2 ^ v ∧ 2 ^ v ≤ 64) := fun v hv hb => by
      have h1 := cnt_more ⟨v, by omega⟩ ⟨S, by omega⟩ hb
      simp only at h1
      have h2 : 2 ^ v ≤ 2 ^ 6 := Nat.pow_le_pow_right (by decide) (by omega)
      exact ⟨Nat.or_lt_two_pow hS (Nat.pow_lt_pow_right (by decide) hv), by omega, h1.2, by omega⟩
    have Hih := Lib.hid ih
    clear ih
    have Hhf := Lib.hid hf
    clear hf
    have hS128 : S < 128 := by omega
    have HhS := Lib.hid hS
    clear hS
    generalize hT : 2 ^ rs.length = T at hq hz hp1 hp2
    clear hT
    go_enter Try.func91, Try.ntmps91
    go_wp2_with fail
    generalize hW : w.alloc _ = W1
    obtain ⟨hB, -, k0⟩ := alloc1 hW
    replace hr := hr.below hB
    have hb0 := k0.lt
    have hc0 := k0.cell 0
    have hc1 := k0.cell 1
    simp at hc0 hc1
    clear hW k0
    have HhB := Lib.hid hB
    clear hB
    go_loopw [7, 8] (fun o i wr => (∃ m : Later W1, wr = m.w) ∧ ∃ k : Nat, k ≤ rs.length ∧ i = .int .i64 k ∧ o = .int .i64 (sumIf (fun v => !S.testBit v && (gn rs a).testBit v) (fun v => goC rs f v (S ||| 2 ^ v)) k : Nat)) (fun _ i _ => rs.length - (intOf i).toNat)
    case atStart => exact ⟨⟨Later.refl _, rfl⟩, 0, by omega, rfl, rfl⟩
    case round =>
      obtain ⟨⟨m, rfl⟩, k, hk, rfl, rfl⟩ := hrel
      by_cases hlt : k < rs.length
      · have hA := fun m : Later W1 => l2Edge_any rs a k ro rc m.w (hr.later m) g ha hlt
        have hsum : sumIf (fun v => !S.testBit v && (gn rs a).testBit v) (fun v => goC rs f v (S ||| 2 ^ v)) k ≤ 823543 := by
          have h1 := sumIf_le (p := fun v => !S.testBit v && (gn rs a).testBit v) (c := fun v => goC rs f v (S ||| 2 ^ v)) k fun v _ => goC_le rs hg2 f v (S ||| 2 ^ v)
          have h3 : k * 7 ^ f ≤ 7 * 117649 := Nat.mul_le_mul (by omega) h7
          omega
        have H0 := Lib.hid (fun h => sumIf_no (p := fun v => !S.testBit v && (gn rs a).testBit v) (c := fun v => goC rs f v (S ||| 2 ^ v)) (j := k) h)
        have H1 := Lib.hid (fun h => sumIf_yes (p := fun v => !S.testBit v && (gn rs a).testBit v) (c := fun v => goC rs f v (S ||| 2 ^ v)) (j := k) h)
        have hgo := goC_le rs hg2 f k (S ||| 2 ^ k)
        cases hb : S.testBit k
        · have hb' : hasN (S : Int) k = false := by rw [hasN_nat]; exact hb
          cases he : (gn rs a).testBit k
          all_goals simp only [he] at hA
          · replace H0 := Lib.hid (H0.out (by rw [hb, he]; rfl))
            clear H1
            generalize hN : sumIf (fun v => !S.testBit v && (gn rs a).testBit v) (fun v => goC rs f v (S ||| 2 ^ v)) (k + 1) = A' at *
            have HhN := Lib.hid hN
            clear hN
            generalize sumIf (fun v => !S.testBit v && (gn rs a).testBit v) (fun v => goC rs f v (S ||| 2 ^ v)) k = A at *
            go_wp2_with (first | (go_at_call 61; refine (Calls.later m (hA m)).mono ?_; rintro e w' ⟨rfl, m, rfl⟩))
            go_roundw
            case rel => exact ⟨⟨m, rfl⟩, k + 1, by omega, by go_num, by rw [HhN.out, H0.out]⟩
            case measure => simp [intOf]; omega
          · replace H1 := Lib.hid (H1.out (by rw [hb, he]; rfl))
            clear H0
            obtain ⟨hs1, hs2, hs3, hs4⟩ := HS.out k hlt hb
            have hih := fun m : Later W1 => Hih.out k (S ||| 2 ^ k) m.w hs2 hs1 hlt (hr.later m)
            have q1 := pwN_small k (by omega)
            generalize hN : sumIf (fun v => !S.testBit v && (gn rs a).testBit v) (fun v => goC rs f v (S ||| 2 ^ v)) (k + 1) = A' at *
            have HhN := Lib.hid hN
            clear hN
            generalize sumIf (fun v => !S.testBit v && (gn rs a).testBit v) (fun v => goC rs f v (S ||| 2 ^ v)) k = A at *
            have hC : goC rs f k (S ||| 2 ^ k) ≤ 117649 := by omega
            clear hgo hs1 hs2
            generalize goC rs f k (S ||| 2 ^ k) = C at *
            have q2 : ((2 : Int) ^ k) = ((2 ^ k : Nat) : Int) := by simp
            have q3 : (S : Int) + (2 : Int) ^ k = ((S ||| 2 ^ k : Nat) : Int) := by rw [q2, hs3]; simp
            have q4 : (S : Int) + ((2 ^ k : Nat) : Int) = ((S ||| 2 ^ k : Nat) : Int) := by rw [hs3]; simp
            have q5 : S ||| 2 ^ k ≤ 191 := by omega
            clear q2 hs3
            generalize S ||| 2 ^ k = S' at *
            go_wp2_with (first | (go_at_call 61; refine (Calls.later m (hA m)).mono ?_; rintro e w' ⟨rfl, m, rfl⟩))
            refine wp_region_later m rfl (by kernel_rfl) (by kernel_rfl) ?_
            repeat (go_big_quiet_step ((first | (go_at_call 91; exact Calls.later _ (hih _)))))
            refine wpQuiet_nil ?_
            rintro _ ⟨m, rfl⟩
            go_wp2_with fail
            go_roundw
            case rel => exact ⟨⟨m, rfl⟩, k + 1, by omega, by go_num, by rw [HhN.out, H1.out]; go_num⟩
            case measure => simp [intOf]; omega
        · have hb' : hasN (S : Int) k = true := by rw [hasN_nat]; exact hb
          replace H0 := Lib.hid (H0.out (by rw [hb]; rfl))
          clear H1
          generalize hN : sumIf (fun v => !S.testBit v && (gn rs a).testBit v) (fun v => goC rs f v (S ||| 2 ^ v)) (k + 1) = A' at *
          have HhN := Lib.hid hN
          clear hN
          generalize sumIf (fun v => !S.testBit v && (gn rs a).testBit v) (fun v => goC rs f v (S ||| 2 ^ v)) k = A at *
          go_wp2_with fail
          go_roundw
          case rel => exact ⟨⟨m, rfl⟩, k + 1, by omega, by go_num, by rw [HhN.out, H0.out]⟩
          case measure => simp [intOf]; omega
      · obtain rfl : k = rs.length := by omega
        have HE : Hid (goC rs (f + 1) a S = sumIf (fun v => !S.testBit v && (gn rs a).testBit v) (fun v => goC rs f v (S ||| 2 ^ v)) rs.length) := rfl
        go_wp2_with fail
        go_ret
        exact ⟨retI (by rw [HE.out]), below_later HhB.out m⟩

set_option maxRecDepth 100000 in
set_option maxHeartbeats 1000000 in
theorem specHam_any (n : Int) (rs : List Int) (ro : Option Addr) (rc : Nat) (w : World) (hr : IntsAt w ro rs) (hrl : rs.length ≤ 1048576) :
    Calls Try.prog 52 #[.agg #[.int .i64 n, .slice ro rs.length rc]] w fun e w' => e = .returned (.int .i64 (hamV n rs)) ∧ Below w.heap.size w w' := by
  go_enter Try.func52, Try.ntmps52
  go_wp2_with fail
  generalize hW : w.alloc _ = W1
  obtain ⟨hB, -, k0⟩ := alloc1 hW
  replace hr := hr.below hB
  have hb0 := k0.lt
  have hc0 := k0.cell 0
  have hc1 := k0.cell 1
  simp at hc0 hc1
  clear hW k0
  have HhB := Lib.hid hB
  clear hB
  cases hv : isGraphB n rs
  · have HE := Lib.hid (hamV_no hv)
    go_loopw [3, 4] (fun o i wr => (∃ m : Later W1, wr = m.w) ∧ o = .int .i64 0 ∧ i = .int .i64 0) (fun _ _ _ => 0)
    case atStart => exact ⟨⟨Later.refl _, rfl⟩, rfl, rfl⟩
    case round =>
      obtain ⟨⟨m, rfl⟩, rfl, rfl⟩ := hrel
      by_cases h0 : 0 < n
      · have d0 : decide (0 < n) = true := decide_eq_true h0
        go_wp2_with (first | (go_at_call 56; refine (Calls.later m (specIsGraph_any n rs ro rc _ (hr.later m) hrl)).mono ?_; rw [hv]; rintro e w' ⟨rfl, m, rfl⟩))
        go_ret
        exact ⟨retI (by rw [HE.out]), below_later HhB.out m⟩
      · have d0 : decide (0 < n) = false := decide_eq_false h0
        go_wp2_with fail
        go_ret
        exact ⟨retI (by rw [HE.out]), below_later HhB.out m⟩
  · obtain ⟨rfl, g⟩ := VG.of hv
    have HE := Lib.hid (hamV_of hv)
    have hg1 := g.pos
    have hg2 := g.le
    have h7 := seven_pow (f := rs.length - 1) (N := rs.length) (by omega) hg2
    go_loopw [3, 4] (fun o i wr => (∃ m : Later W1, wr = m.w) ∧ ∃ k : Nat, k ≤ rs.length ∧ o = .int .i64 (sumIf (fun _ => true) (fun v => goC rs (rs.length - 1) v (2 ^ v)) k : Nat) ∧ i = .int .i64 k) (fun _ i _ => rs.length - (intOf i).toNat)
    case atStart => exact ⟨⟨Later.refl _, rfl⟩, 0, by omega, rfl, rfl⟩
    case round =>
      obtain ⟨⟨m, rfl⟩, k, hk, rfl, rfl⟩ := hrel
      by_cases hlt : k < rs.length
      · have d0 : decide ((k : Int) < (rs.length : Int)) = true := decide_eq_true (by omega)
        have hsum : sumIf (fun _ => true) (fun v => goC rs (rs.length - 1) v (2 ^ v)) k ≤ 823543 := by
          have h1 := sumIf_le (p := fun _ => true) (c := fun v => goC rs (rs.length - 1) v (2 ^ v)) k fun v _ => goC_le rs hg2 (rs.length - 1) v (2 ^ v)
          have h3 : k * 7 ^ (rs.length - 1) ≤ 7 * 117649 := Nat.mul_le_mul (by omega) h7
          omega
        have H1 := Lib.hid (sumIf_yes (p := fun _ => true) (c := fun v => goC rs (rs.length - 1) v (2 ^ v)) (j := k) rfl)
        have hC : goC rs (rs.length - 1) k (2 ^ k) ≤ 117649 := Nat.le_trans (goC_le rs hg2 _ _ _) h7
        have hk2 : 2 ^ k ≤ 2 ^ 6 := Nat.pow_le_pow_right (by decide) (by omega)
        have hc1 : cnt (2 ^ k) + (rs.length - 1) = rs.length := by
          have := (cnt_more ⟨k, by omega⟩ ⟨0, by omega⟩ (by simp)).1
          simp only [Nat.zero_or] at this
          rw [this, show cnt 0 = 0 from rfl]; omega
        have hih := fun m : Later W1 => l28Count_any rs ro rc g (rs.length - 1) k (2 ^ k) m.w hc1 (Nat.pow_lt_pow_right (by decide) hlt) hlt (hr.later m)
        have q1 := pwN_small k (by omega)
        have q2 : ((2 : Int) ^ k) = ((2 ^ k : Nat) : Int) := by simp
        generalize hN : sumIf (fun _ => true) (fun v => goC rs (rs.length - 1) v (2 ^ v)) (k + 1) = A' at *
        have HhN := Lib.hid hN
        clear hN
        generalize sumIf (fun _ => true) (fun v => goC rs (rs.length - 1) v (2 ^ v)) k = A at *
        generalize goC rs (rs.length - 1) k (2 ^ k) = C at *
        clear hc1
        generalize 2 ^ k = T at *
        go_wp2_with (first | (go_at_call 56; refine (Calls.later m (specIsGraph_any _ rs ro rc _ (hr.later m) hrl)).mono ?_; rw [hv]; rintro e w' ⟨rfl, m, rfl⟩))
        refine wp_region_later m rfl (by kernel_rfl) (by kernel_rfl) ?_
        repeat (go_big_quiet_step ((first | (go_at_call 91; exact Calls.later _ (hih _)))))
        refine wpQuiet_nil ?_
        rintro _ ⟨m, rfl⟩
        go_wp2_with fail
        go_roundw
        case rel => exact ⟨⟨m, rfl⟩, k + 1, by omega, by rw [HhN.out, H1.out]; go_num, by go_num⟩
        case measure => simp [intOf]; omega
      · have d0 : decide ((k : Int) < (rs.length : Int)) = false := decide_eq_false (by omega)
        obtain rfl : k = rs.length := by omega
        go_wp2_with fail
        go_ret
        exact ⟨retI (by rw [HE.out]), below_later HhB.out m⟩

end Go.Proofs.Ytodknojhlnpboaa
