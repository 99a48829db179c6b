/-
  TreewidthOf on both sides. For at most 2^20 rows.
-/
import Derived.Test.YtdbaflimcbidjaaTreeL
import Derived.Test.YtdbaflimcbidjaaPathwS
import Derived.Test.YtdbaflimcbidjaaPartsW
import Derived.Test.YtdbaflimcbidjaaBestO
import Derived.Test.YtdbaflimcbidjaaWidthI
namespace Go.Proofs.Ytdbaflimcbidjaa
open Go.RowKit

theorem widNum (rs : List Int) (ro : Option Addr) (rc : Nat) (hv : isGraphB rs.length rs = true) : NumOf 44 rs ro rc (widV rs.length rs) := by
  intro l ao cap w hr hl hn hc
  have g := (VG.of hv).2
  have := g.le
  exact implWidth_any rs.length rs l ro ao rc cap w hr (by omega) hl (by omega) hc

set_option maxRecDepth 100000 in
theorem implTree_any (n : Int) (rs : List Int) (ro : Option Addr) (rc : Nat) (w : World) (hr : IntsAt w ro rs) (hrl : rs.length ≤ 1048576) :
    Calls Try.prog 46 #[.agg #[.int .i64 n, .slice ro rs.length rc]] w fun e w' => e = .returned (.int .i64 (treeV n rs)) ∧ Below w.heap.size w w' := by
  have HE : Hid ((bestO (widV rs.length rs) n rs).2 = treeV n rs) := by
    show (bestO (widV rs.length rs) n rs).2 = treeV n rs
    cases hv : isGraphB n rs
    · rw [treeV_no hv]; unfold bestO; rw [if_neg (by rw [hv]; decide)]
    · obtain ⟨rfl, -⟩ := VG.of hv
      unfold bestO; rw [if_pos hv, tree_best hv]
  go_enter Try.func46, Try.ntmps46
  go_wp2_with fail
  generalize hW : w.alloc _ = W1
  obtain ⟨hB, -, k0⟩ := alloc1 hW
  replace hr := hr.below hB
  have hb0 := k0.lt
  have hc0 := k0.cell 0
  have hc1 := k0.cell 1
  simp at hc0 hc1
  clear hW k0
  have HhB := Lib.hid hB
  clear hB
  refine (bestOrder_any n rs ro rc 44 (widV rs.length rs) W1 hr hrl (fun _ _ => rfl) (fun hv => widNum rs ro rc hv)).mono ?_
  rintro e w2 ⟨ao, cap, rfl, hB2, -⟩
  have hBB := below_more' HhB.out hB2
  rw [HE.out]
  clear hB2 HE
  have HhBB := Lib.hid hBB
  clear hBB
  go_wp2_with fail
  go_ret
  exact ⟨rfl, HhBB.out⟩

set_option maxRecDepth 100000 in
set_option maxHeartbeats 2000000 in
theorem specTree_any (n : Int) (rs : List Int) (ro : Option Addr) (rc : Nat) (w : World) (hr : IntsAt w ro rs) (hrl : rs.length ≤ 1048576) :
    Calls Try.prog 45 #[.agg #[.int .i64 n, .slice ro rs.length rc]] w fun e w' => e = .returned (.int .i64 (treeV n rs)) ∧ Below w.heap.size w w' := by
  go_enter Try.func45, Try.ntmps45
  go_wp2_with fail
  generalize hW : w.alloc _ = W1
  obtain ⟨hB, -, k0⟩ := alloc1 hW
  replace hr := hr.below hB
  have hb0 := k0.lt
  have hc0 := k0.cell 0
  have hc1 := k0.cell 1
  simp at hc0 hc1
  clear hW k0
  have HhB := Lib.hid hB
  clear hB
  obtain ⟨m, hm0⟩ : ∃ m : Later W1, m.w = W1 := ⟨Later.refl _, rfl⟩
  refine (fun h => hm0 ▸ h) ?_
  clear hm0
  cases hv : isGraphB n rs
  · have HE := Lib.hid (treeV_no hv)
    go_wp2_with (first | (go_at_call 63; refine (Calls.later m (specIsGraph_any _ _ _ _ _ (hr.later m) hrl)).mono ?_; rintro e w' ⟨rfl, m, rfl⟩))
    go_ret
    exact ⟨retI (by rw [HE.out]), below_later HhB.out m⟩
  obtain ⟨rfl, g⟩ := VG.of hv
  have hg1 := g.pos
  have hg2 := g.le
  obtain ⟨hp1, hp2⟩ := g.pow
  have hq := pwN_small rs.length (by omega)
  have HE := Lib.hid (treeV_of hv)
  have HT : Hid (2 ^ rs.length - 1 + 1 = 2 ^ rs.length) := by show _ = _; omega
  have HGr : Hid (∀ (X S : Nat) (w : World), IntsAt w ro rs → S < 2 ^ rs.length → subN X S → Calls Try.prog 84 #[.agg #[.int .i64 rs.length, .slice ro rs.length rc], .int .i64 X, .int .i64 S] w fun e w' => e = .returned (.int .i64 (grow rs X S)) ∧ Below w.heap.size w w') := Lib.hid fun X S w h1 h2 h3 => l3Grow_any rs X S ro rc w h1 hv h2 h3
  have HAr : Hid (∀ (S : Nat) (w : World), IntsAt w ro rs → S < 2 ^ rs.length → Calls Try.prog 83 #[.agg #[.int .i64 rs.length, .slice ro rs.length rc], .int .i64 S] w fun e w' => e = .returned (.int .i64 (around rs S)) ∧ Below w.heap.size w w') := Lib.hid fun S w h1 h2 => specAround_any rs S ro rc w h1 hv h2
  have HRF : Hid (∀ k v, k < 2 ^ rs.length → k.testBit v = true → v < rs.length → subN (2 ^ v) k ∧ grow rs (2 ^ v) k < 2 ^ rs.length ∧ around rs (grow rs (2 ^ v) k) < 2 ^ rs.length ∧ trC rs (k - 2 ^ v) v = cnt (around rs (grow rs (2 ^ v) k) &&& (2 ^ rs.length - 1 - k)) ∧ around rs (grow rs (2 ^ v) k) &&& (2 ^ rs.length - 1 - k) < 128) := Lib.hid fun k v hk hb hv => by
    have h1 := pow_sub hb
    have h2 := (grow_sub (rs := rs) h1).lt hk
    have h3 := around_lt g h2
    have h4 := (minus_or (S := k) (v := v) (by omega) hb).1
    have h5 : nDiff (2 ^ rs.length - 1) k = 2 ^ rs.length - 1 - k := nDiff_minus (by omega) fun i hi => by rw [Nat.testBit_two_pow_sub_one]; exact decide_eq_true (testBit_lt hk hi)
    refine ⟨h1, h2, h3, ?_, Nat.lt_of_le_of_lt Nat.and_le_right (by omega)⟩
    rw [trC_eq hg2]; unfold reachN; rw [h4, h5]
  generalize hTT : 2 ^ rs.length = T at *
  refine (Calls.later m (specIsGraph_any _ _ _ _ _ (hr.later m) hrl)).mono ?_
  rintro e w' ⟨rfl, m, rfl⟩
  rw [hv]
  have hwm := m.size
  replace hr := hr.later m
  replace hc0 : m.w.cell? _ = _ := (m.cell _ _ hb0).trans hc0
  replace hc1 : m.w.cell? _ = _ := (m.cell _ _ hb0).trans hc1
  replace hb0 := Nat.lt_of_lt_of_le hb0 m.size
  replace HhB := Lib.hid (below_later HhB.out m)
  generalize m.w = W2 at *
  clear m
  go_wp2_with fail
  generalize hW3 : World.alloc _ _ = W3
  have hO3 : OwnInts W3 W2.heap.size [0] := by rw [← hW3]; exact OwnInts.made _ [0]
  have hB3 : Below W2.heap.size W2 W3 := by rw [← hW3]; exact (Below.refl _ _).alloc (Nat.le_refl _) _
  clear hW3
  have hE3 : OwnE W3 W2.heap.size (some ⟨W2.heap.size, 0, none⟩) 1 [0] := (RowAt.of hO3 (by simp)).own (Nat.le_refl _)
  go_loopw [3, 4] (fun o i wr => ∃ m : Later W2, wr = m.w ∧ ∃ (k : Nat) (ao : Option Addr) (cap : Nat), 1 ≤ k ∧ k ≤ T ∧ i = .int .i64 k ∧ o = .slice ao (dpL (trC rs) (fun _ => 0) rs.length k).length cap ∧ OwnE m.w W2.heap.size ao cap (dpL (trC rs) (fun _ => 0) rs.length k)) (fun _ i _ => T - (intOf i).toNat)
  case atStart => exact ⟨⟨W3, hB3⟩, rfl, 1, _, _, by omega, by omega, rfl, by rw [dpL_one]; rfl, by rw [dpL_one]; exact hE3⟩
  case round =>
    clear hO3 hB3 hE3
    obtain ⟨m, rfl, k, ao, cap, hk1, hk, rfl, rfl, hO⟩ := hrel
    have hln1 := Nat.le_of_eq (dpL_len (trC rs) (fun _ => 0) rs.length k)
    have hln2 := Nat.le_of_eq (dpL_len (trC rs) (fun _ => 0) rs.length k).symm
    have HU : Hid (dpL (trC rs) (fun _ => 0) rs.length (k + 1) = dpL (trC rs) (fun _ => 0) rs.length k ++ [(dpV (trC rs) (fun _ => 0) rs.length k : Int)]) := dpL_succ _ _ _ _
    have HAt : Hid (∀ S, S < k → gi (dpL (trC rs) (fun _ => 0) rs.length k) S = (dpV (trC rs) (fun _ => 0) rs.length S : Int)) := Lib.hid fun S h => dpL_at h
    by_cases hlt : k < T
    · have HSt : Hid (dpV (trC rs) (fun _ => 0) rs.length k = max (minTo rs.length k.testBit (fun v => max (dpV (trC rs) (fun _ => 0) rs.length (k - 2 ^ v)) (trC rs (k - 2 ^ v) v)) rs.length) 0) := by
        show _ = _
        rw [dpV_step (by omega)]
      have hmb : ∀ k', minTo rs.length k.testBit (fun v => max (dpV (trC rs) (fun _ => 0) rs.length (k - 2 ^ v)) (trC rs (k - 2 ^ v) v)) k' ≤ rs.length := fun k' => minTo_le k'
      have hI := hO.ints
      have HW : ∀ m2 : Later m.w, ∃ m' : Later W2, m'.w = m2.w := fun m2 => ⟨m.on m2.below, rfl⟩
      have hms := m.size
      generalize dpL (trC rs) (fun _ => 0) rs.length k = xs at *
      obtain ⟨xb, xofs, rfl, hxb, hxc⟩ := hI (by omega)
      have HXc : Hid (∀ S, S < k → m.w.cell? ⟨xb, xofs + S, none⟩ = some (.int .i64 (dpV (trC rs) (fun _ => 0) rs.length S : Int))) := Lib.hid fun S h => by rw [← HAt.out S h]; exact hxc S (by omega)
      clear hxc hI
      have HhO := Lib.hid hO
      clear hO
      replace hr := hr.later m
      replace hc0 : m.w.cell? _ = _ := (m.cell _ _ hb0).trans hc0
      replace hc1 : m.w.cell? _ = _ := (m.cell _ _ hb0).trans hc1
      replace hb0 := Nat.lt_of_lt_of_le hb0 m.size
      replace HhB := Lib.hid (below_later HhB.out m)
      generalize m.w = W4 at *
      clear m
      obtain ⟨m, hm0⟩ : ∃ m : Later W4, m.w = W4 := ⟨Later.refl _, rfl⟩
      refine (fun h => hm0 ▸ h) ?_
      clear hm0
      go_wp2_with fail
      go_loopw [5, 6] (fun l i wr => (∃ m : Later W4, wr = m.w) ∧ ∃ v : Nat, v ≤ rs.length ∧ i = .int .i64 v ∧ l = .int .i64 (minTo rs.length k.testBit (fun v => max (dpV (trC rs) (fun _ => 0) rs.length (k - 2 ^ v)) (trC rs (k - 2 ^ v) v)) v : Nat)) (fun _ i _ => rs.length - (intOf i).toNat)
      case atStart => exact ⟨⟨m, rfl⟩, 0, by omega, rfl, rfl⟩
      case round =>
        obtain ⟨⟨m, rfl⟩, v, hvl, rfl, rfl⟩ := hrel
        by_cases hvt : v < rs.length
        · have hn := hasN_nat k v
          have hmv := hmb v
          have HY := Lib.hid (fun h => minTo_yes (N := rs.length) (p := k.testBit) (f := fun v => max (dpV (trC rs) (fun _ => 0) rs.length (k - 2 ^ v)) (trC rs (k - 2 ^ v) v)) (k := v) h)
          have HN := Lib.hid (fun h => minTo_no (N := rs.length) (p := k.testBit) (f := fun v => max (dpV (trC rs) (fun _ => 0) rs.length (k - 2 ^ v)) (trC rs (k - 2 ^ v) v)) (k := v) h)
          generalize hM : minTo rs.length k.testBit (fun v => max (dpV (trC rs) (fun _ => 0) rs.length (k - 2 ^ v)) (trC rs (k - 2 ^ v) v)) v = M at *
          cases hb : k.testBit v
          · rw [hb] at hn
            replace HN := Lib.hid (HN.out hb)
            clear HY
            go_wp2_with fail
            go_roundw
            case rel => exact ⟨⟨m, rfl⟩, v + 1, by omega, by go_num, by rw [HN.out]⟩
            case measure => simp [intOf]; omega
          · rw [hb] at hn
            have hpw := pwN_small v (by omega)
            have hle := Nat.ge_two_pow_of_testBit hb
            have hvp := Nat.two_pow_pos v
            have hxk := HXc.out (k - 2 ^ v) (by omega)
            obtain ⟨q1, q2, q3, q4, q5⟩ := HRF.out k v hlt hb hvt
            replace HY := Lib.hid (HY.out hb)
            rw [q4] at HY
            have hdl := dpV_le (c := trC rs) (e := fun _ => 0) (N := rs.length) (fun _ => Nat.zero_le _) (k - 2 ^ v)
            have hGr := fun m : Later W4 => HGr.out (2 ^ v) k m.w (hr.later m) hlt q1
            have hAr := fun m : Later W4 => HAr.out (grow rs (2 ^ v) k) m.w (hr.later m) q2
            have hCt := fun m : Later W4 => specCount_any (around rs (grow rs (2 ^ v) k) &&& (T - 1 - k)) q5 m.w
            have hCb := cnt_le (around rs (grow rs (2 ^ v) k) &&& (T - 1 - k))
            have hba : bits .and .i64 (around rs (grow rs (2 ^ v) k) : Int) ((T - 1 - k : Nat) : Int) = ((around rs (grow rs (2 ^ v) k) &&& (T - 1 - k) : Nat) : Int) := bits_and_nat _ _ (by omega) (by omega)
            have hT1 : ((T : Int) - 1) - (k : Int) = ((T - 1 - k : Nat) : Int) := by omega
            clear HN q1 q2 q4
            generalize hD : dpV (trC rs) (fun _ => 0) rs.length (k - 2 ^ v) = D at *
            generalize around rs (grow rs (2 ^ v) k) &&& (T - 1 - k) = Z at *
            generalize cnt Z = C at *
            generalize around rs (grow rs (2 ^ v) k) = R at *
            generalize grow rs (2 ^ v) k = G at *
            generalize 2 ^ v = V at *
            have hkv : ((k : Int) - (V : Int)) = ((k - V : Nat) : Int) := by omega
            go_wp2_with fail
            refine wp_region_later m rfl (by kernel_rfl) (by kernel_rfl) ?_
            repeat (go_big_quiet_step ((first | (go_at_call 84; with_reducible exact Calls.later _ (hGr _)) | (go_at_call 83; with_reducible exact Calls.later _ (hAr _)))))
            refine wpQuiet_nil ?_
            rintro _ ⟨m, rfl⟩
            go_wp2_with fail
            by_cases hc1 : D < C
            all_goals by_cases hc : (if D < C then C else D) < M
            all_goals
              simp only [hc1, if_true, if_false] at hc
              refine wp_region_later m rfl (by kernel_rfl) (by kernel_rfl) ?_
              repeat (go_big_quiet_step ((first | (go_at_call 76; with_reducible exact Calls.later _ (hCt _)))))
              refine wpQuiet_nil ?_
              rintro _ ⟨m, rfl⟩
            all_goals
              go_wp2_with fail
              go_roundw
              case rel => exact ⟨⟨m, rfl⟩, v + 1, by omega, by go_num, by rw [HY.out]; exact congrArg (fun x : Int => Value.int .i64 x) (by split <;> omega)⟩
              case measure => simp [intOf]; omega
        · have hve : v = rs.length := by omega
          have hmv := hmb v
          have hMe : minTo rs.length k.testBit (fun v => max (dpV (trC rs) (fun _ => 0) rs.length (k - 2 ^ v)) (trC rs (k - 2 ^ v) v)) v = minTo rs.length k.testBit (fun v => max (dpV (trC rs) (fun _ => 0) rs.length (k - 2 ^ v)) (trC rs (k - 2 ^ v) v)) rs.length := by rw [hve]
          have hSt := HSt.out
          rw [← hMe] at hSt
          clear hMe hve HSt hmb
          generalize minTo rs.length k.testBit (fun v => max (dpV (trC rs) (fun _ => 0) rs.length (k - 2 ^ v)) (trC rs (k - 2 ^ v) v)) v = M at *
          generalize dpV (trC rs) (fun _ => 0) rs.length k = D at *
          have hD : D = M := by omega
          subst hD
          clear hSt
          go_wp2_with (first | (at_builtin; go_must (refine wpList_append_e rfl _ _ rfl W2.heap.size cap (some ⟨xb, xofs, none⟩) xs (D : Int) rfl (HhO.out.later m) rfl (Nat.le_trans hms m.size) (by omega) ?_); intro ao2 cap2 w1 hown1 hB1))
          go_roundw
          case rel =>
            obtain ⟨m', hm'⟩ := HW m
            exact ⟨⟨w1, m'.below.trans (hm' ▸ hB1)⟩, rfl, k + 1, ao2, cap2, by omega, by omega, by go_num, by rw [HU.out]; simp, by rw [HU.out]; exact hown1⟩
          case measure => simp [intOf]; omega
    · have hke : k = T := by omega
      have hI := hO.ints
      have hT7 : T ≤ 128 := by omega
      have hAt := HAt.out ((dpL (trC rs) (fun _ => 0) rs.length k).length - 1) (by omega)
      have HE2 : Hid (treeV rs.length rs = (dpV (trC rs) (fun _ => 0) rs.length ((dpL (trC rs) (fun _ => 0) rs.length k).length - 1) : Int)) := Lib.hid (by rw [HE.out, dpL_len, hke])
      clear HAt HU
      generalize dpL (trC rs) (fun _ => 0) rs.length k = xs at *
      obtain ⟨xb, xofs, rfl, hxb, hxc⟩ := hI (by omega)
      have hxk := hxc (xs.length - 1) (by omega)
      rw [hAt] at hxk
      have hx1 : 1 ≤ xs.length := by omega
      have hx2 : xs.length ≤ 128 := by omega
      clear hxc hI hO hAt hke hln1 hln2
      generalize dpV (trC rs) (fun _ => 0) rs.length (xs.length - 1) = D at *
      have hlast : ((xs.length : Int) - 1) = ((xs.length - 1 : Nat) : Int) := by omega
      go_wp2_with fail
      go_ret
      exact ⟨retI (by rw [HE2.out]), below_later HhB.out m⟩

end Go.Proofs.Ytdbaflimcbidjaa
