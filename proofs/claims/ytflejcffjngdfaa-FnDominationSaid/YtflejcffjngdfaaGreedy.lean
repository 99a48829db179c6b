/-
  GreedyDominating of the reference. For at most 2^20 rows.
-/
import Derived.Test.YtflejcffjngdfaaGreedyL
import Derived.StillTailTactics
namespace Go.Proofs.Ytflejcffjngdfaa
open Go.RowKit

theorem greedyV_none {n : Int} {rs : List Int} (h : ordV n rs = none) : greedyV n rs = 0 := by unfold greedyV; rw [h]
theorem ordOk_len {N : Nat} : ∀ (t : List Nat) (L : Nat), L < 128 → ordOk N L t → t.length ≤ 7 := by
  have key : ∀ (t : List Nat) (L : Nat), L < 128 → ordOk N L t → t.length ≤ cnt L := by
    intro t
    induction t with
    | nil => simp
    | cons v t ih =>
      intro L hL h
      have h1 := h.2.1
      have hs := pow_sub h1
      have hd := nDiff_minus hL hs
      have hlt : cnt (L - 2 ^ v) < cnt L := by
        rw [← hd]
        exact cnt_lt hL (nDiff_sub _ _) (fun e => by
          rw [← e] at h1
          have := (nDiff_bit.1 h1).2
          rw [pow_bit.2 rfl] at this
          cases this)
      have := ih (L - 2 ^ v) (Nat.lt_of_le_of_lt (Nat.sub_le _ _) hL) h.2.2
      simp; omega
  intro t L hL h
  have := key t L hL h
  have := cnt_le L
  omega

theorem wrap64_sub {a b : Nat} (h : b ≤ a) (ha : a < 128) : wrap64 ((a : Int) - (b : Int)) = ((a - b : Nat) : Int) := by simp only [wrap64]; omega
theorem int_sub {a b : Nat} (h : b ≤ a) : (a : Int) - (b : Int) = ((a - b : Nat) : Int) := by omega

set_option maxRecDepth 100000 in
set_option maxHeartbeats 4000000 in
theorem specGreedy_any (n : Int) (rs : List Int) (ro : Option Addr) (rc : Nat) (w : World) (hr : IntsAt w ro rs) (hrl : rs.length ≤ 1048576) :
    Calls Try.prog 20 #[.agg #[.int .i64 n, .slice ro rs.length rc]] w fun e w' => e = .returned (.tuple #[.int .i64 (greedyV n rs), .bool (ordV n rs).isSome]) ∧ Below w.heap.size w w' := by
  go_enter Try.func20, Try.ntmps20
  go_wp2_with fail
  generalize hW : w.alloc _ = W1
  obtain ⟨hB, -, k0⟩ := alloc1 hW
  replace hr := hr.below hB
  have hb0 := k0.lt
  have hc0 := k0.cell 0
  have hc1 := k0.cell 1
  simp at hc0 hc1
  clear hW k0
  have HhB := Lib.hid hB
  clear hB
  refine (specOrder_any n rs ro rc W1 hr hrl).mono ?_
  rintro e w2 ⟨xo, xcap, rfl, hB2, hX⟩
  obtain ⟨m, rfl⟩ : ∃ m2 : Later W1, m2.w = w2 := ⟨⟨w2, hB2⟩, rfl⟩
  clear hB2
  cases ho : ordV n rs with
  | none =>
    have HE := Lib.hid (greedyV_none ho)
    clear hX
    go_wp2_with fail
    go_ret2
    exact ⟨by rw [HE.out, ho]; rfl, below_later HhB.out m⟩
  | some x =>
    rw [ho] at hX
    obtain ⟨rfl, hv, t, rfl, hok, hval⟩ := ordV_facts ho
    have g := (VG.of hv).2
    have hg1 := g.pos
    have hg2 := g.le
    obtain ⟨hp1, hp2⟩ := g.pow
    have ht7 := ordOk_len t _ (by omega) hok
    have HE := Lib.hid hval
    have HT : NatsAt m.w xo t := (show IntsAt m.w xo (t.map Int.ofNat) from hX).nats
    have hlx : ((some (t.map Int.ofNat)).getD []).length = t.length := by simp
    have hsx : (some (t.map Int.ofNat)).isSome = true := rfl
    rw [hlx, hsx]
    have hq := pwN_small rs.length (by omega)
    have q1 : IntKind.i64.wrap (((2 ^ rs.length : Nat) : Int) - 1) = ((2 ^ rs.length - 1 : Nat) : Int) := by rw [IntKind_i64_in _ (by omega) (by omega)]; omega
    have q1' : wrap64 (pwN rs.length - 1) = ((2 ^ rs.length - 1 : Nat) : Int) := by rw [hq]; simp only [wrap64]; omega
    have HO := Lib.hid ho
    have Q1 := Lib.hid q1'
    clear hlx hsx hX ho hval q1' q1 hq
    replace hr := hr.later m
    replace hc0 : m.w.cell? _ = _ := (m.cell _ _ hb0).trans hc0
    replace hc1 : m.w.cell? _ = _ := (m.cell _ _ hb0).trans hc1
    replace hb0 := Nat.lt_of_lt_of_le hb0 m.size
    replace HhB := Lib.hid (below_later HhB.out m)
    generalize m.w = W2 at *
    clear m
    obtain ⟨m, hm0⟩ : ∃ m : Later W2, m.w = W2 := ⟨Later.refl _, rfl⟩
    refine (fun h => hm0 ▸ h) ?_
    clear hm0
    go_wp2_with fail
    go_loopw [6, 7, 8] (fun s l i wr => (∃ m : Later W2, wr = m.w) ∧ ∃ i0 S L : Nat, i0 ≤ t.length ∧ i = .int .i64 i0 ∧ s = .int .i64 S ∧ l = .int .i64 L ∧ GreedyAt rs t i0 S L) (fun _ _ i _ => t.length - (intOf i).toNat)
    case atStart => exact ⟨⟨m, rfl⟩, 0, 0, 2 ^ rs.length - 1, by omega, rfl, rfl, by first | rfl | rw [Q1.out], GreedyAt.start hok⟩
    case round =>
      obtain ⟨⟨m, rfl⟩, i, S, L, hi, rfl, rfl, rfl, hG⟩ := hrel
      by_cases hlt : i < t.length
      · obtain ⟨tb, tofs, rfl, htb, htc⟩ := HT (by omega)
        have hti := htc i hlt
        obtain ⟨hvl, hLv⟩ := hG.at hlt
        have hSl := hG.set
        have hLl := hG.left
        have hL127 : L < 128 := Nat.lt_of_lt_of_le hLl hp1
        have HH := Lib.hid (fun h => hG.has hlt h)
        have HN := Lib.hid (fun h => hG.new g hlt h)
        have HBo : Hid (bestOf rs L (eln t i) = bestTo rs L (els (hood rs L (eln t i))) (cnt (hood rs L (eln t i)))) := rfl
        clear htc hG
        generalize eln t i = v at *
        have q2 := pwN_small v (by omega)
        have hsub : 2 ^ v ≤ L := (pow_sub hLv).le
        have hC := fun m : Later W2 => specAround_any rs S ro rc m.w (hr.later m) hv hSl
        have hAl := around_lt g hSl
        have hn := hasN_nat (around rs S) v
        have q5 := Lib.hid (wrap64_sub hsub hL127)
        have q6 := Lib.hid (int_sub hsub)
        cases hb : (around rs S).testBit v
        · rw [hb] at hn
          obtain ⟨a1, a2, a3⟩ := hood_facts g hLl hvl
          have a4 : bits .and .i64 (bits .or .i64 (gn rs v : Int) ((2 : Int) ^ v)) (L : Int) = ((hood rs L v : Nat) : Int) := by rw [show ((2 : Int) ^ v) = ((2 ^ v : Nat) : Int) by simp, a2, a3]
          have hH := hood_lt hLl v (rs := rs)
          have h0 : 0 < cnt (hood rs L v) := List.length_pos_of_mem ((mem_els hH hg2).2 (hood_self (rs := rs) hLv))
          replace HN := Lib.hid (HN.out hb)
          have HM : Hid (∀ u, u ∈ els (hood rs L v) → L.testBit u = true) := Lib.hid fun u hu => hood_mem ((mem_els hH hg2).1 hu)
          obtain ⟨rb, rofs, rfl, hrb, hrc⟩ := hr.graph g
          have hrv := hrc v hvl
          generalize around rs S = A at *
          go_wp2_with (first | (go_at_call 118; refine (Calls.later m (hC _)).mono ?_; rintro e w' ⟨rfl, m, rfl⟩))
          go_still_tail 10, (by kernel_rfl)
          refine wpList_later_drew m fun m => ?_
          generalize hHd : hood rs L v = H at *
          have HhHd := Lib.hid hHd
          clear hHd
          go_wp2_with fail
          refine (specListN_any H (by omega) _).mono ?_
          rintro e w2 ⟨lo, lc, rfl, hB2, hL⟩
          obtain ⟨m, rfl⟩ : ∃ m2 : Later W2, m2.w = w2 := ⟨m.on hB2, rfl⟩
          clear hB2 a1 a2 a3 a4 hrv hn hC
          obtain ⟨lb, lofs, rfl, hlb, hlc⟩ := hL h0
          have h00 := hlc 0 h0
          simp only [Nat.add_zero] at h00
          have HLc : Hid (∀ k, k < cnt H → m.w.cell? ⟨lb, lofs + k, none⟩ = some (.int .i64 (eln (els H) k : Int))) := Lib.hid hlc
          have HRc : Hid (∀ k, k < rs.length → m.w.cell? ⟨rb, rofs + k, none⟩ = some (.int .i64 (gn rs k : Int))) := Lib.hid fun k hk => (m.cell _ _ hrb).trans (hrc k hk)
          have hrb3 := Nat.lt_of_lt_of_le hrb m.size
          have HW : ∀ m2 : Later m.w, ∃ m' : Later W2, m'.w = m2.w := fun m2 => ⟨m.on m2.below, rfl⟩
          have hc7 := cnt_le H
          clear hL hlc hrc
          replace hc0 : m.w.cell? _ = _ := (m.cell _ _ hb0).trans hc0
          replace hc1 : m.w.cell? _ = _ := (m.cell _ _ hb0).trans hc1
          replace hb0 := Nat.lt_of_lt_of_le hb0 m.size
          replace HhB := Lib.hid (below_later HhB.out m)
          generalize m.w = W3 at *
          clear m
          obtain ⟨m, hm0⟩ : ∃ m : Later W3, m.w = W3 := ⟨Later.refl _, rfl⟩
          refine (fun h => hm0 ▸ h) ?_
          clear hm0
          go_wp2_with fail
          go_loopw [11, 12] (fun b i wr => (∃ m : Later W3, wr = m.w) ∧ ∃ k : Nat, 1 ≤ k ∧ k ≤ cnt H ∧ i = .int .i64 k ∧ b = .int .i64 (bestTo rs L (els H) k : Nat)) (fun _ i _ => cnt H - (intOf i).toNat)
          case atStart => exact ⟨⟨m, rfl⟩, 1, by omega, h0, rfl, by rw [bestTo_one]⟩
          case round =>
            obtain ⟨⟨m, rfl⟩, k, hk1, hk, rfl, rfl⟩ := hrel
            have hbm : bestTo rs L (els H) k ∈ els H := bestTo_mem h0 k hk
            have hbL := HM.out _ hbm
            have hbl := testBit_lt hLl hbL
            by_cases hkt : k < cnt H
            · have hkc := HLc.out k hkt
              have huL := HM.out _ (eln_mem (l := els H) hkt)
              have hul := testBit_lt hLl huL
              have HYes : Hid (cnt (hood rs L (bestTo rs L (els H) k)) < cnt (hood rs L (eln (els H) k)) → bestTo rs L (els H) (k + 1) = eln (els H) k) := Lib.hid fun h => bestTo_yes h
              have HNo : Hid (¬cnt (hood rs L (bestTo rs L (els H) k)) < cnt (hood rs L (eln (els H) k)) → bestTo rs L (els H) (k + 1) = bestTo rs L (els H) k) := Lib.hid fun h => bestTo_no h
              generalize hbk : bestTo rs L (els H) k = b at *
              generalize eln (els H) k = u at *
              have hru := HRc.out u hul
              have hrbk := HRc.out b hbl
              obtain ⟨a1, a2, a3⟩ := hood_facts g hLl hul
              obtain ⟨b1, b2, b3⟩ := hood_facts g hLl hbl
              have a4 : bits .and .i64 (bits .or .i64 (gn rs u : Int) ((2 : Int) ^ u)) (L : Int) = ((hood rs L u : Nat) : Int) := by rw [show ((2 : Int) ^ u) = ((2 ^ u : Nat) : Int) by simp, a2, a3]
              have b4 : bits .and .i64 (bits .or .i64 (gn rs b : Int) ((2 : Int) ^ b)) (L : Int) = ((hood rs L b : Nat) : Int) := by rw [show ((2 : Int) ^ b) = ((2 ^ b : Nat) : Int) by simp, b2, b3]
              have hU128 : hood rs L u < 128 := Nat.lt_of_lt_of_le (hood_lt hLl u) hp1
              have hB128 : hood rs L b < 128 := Nat.lt_of_lt_of_le (hood_lt hLl b) hp1
              have e1 := cnt_le (hood rs L u)
              have e2 := cnt_le (hood rs L b)
              generalize hood rs L u = U at *
              generalize hood rs L b = B at *
              have Hhbk := Lib.hid hbk
              clear hbk
              by_cases hcc : cnt B < cnt U
              · have d1 : decide ((cnt B : Int) < (cnt U : Int)) = true := decide_eq_true (by omega)
                have d2 : decide (cnt B < cnt U) = true := decide_eq_true hcc
                go_wp2_with fail
                refine wp_region_later m rfl (by kernel_rfl) (by kernel_rfl) ?_
                repeat (go_big_quiet_step ((first | (go_at_call 22; exact Calls.later _ (specCount_any _ (by assumption) _)))))
                refine wpQuiet_nil ?_
                rintro _ ⟨m, rfl⟩
                go_wp2_with fail
                go_roundw
                case rel => exact ⟨⟨m, rfl⟩, k + 1, by omega, by omega, by go_num, by rw [HYes.out hcc]⟩
                case measure => simp [intOf]; omega
              · have d1 : decide ((cnt B : Int) < (cnt U : Int)) = false := decide_eq_false (by omega)
                have d2 : decide (cnt B < cnt U) = false := decide_eq_false hcc
                go_wp2_with fail
                refine wp_region_later m rfl (by kernel_rfl) (by kernel_rfl) ?_
                repeat (go_big_quiet_step ((first | (go_at_call 22; exact Calls.later _ (specCount_any _ (by assumption) _)))))
                refine wpQuiet_nil ?_
                rintro _ ⟨m, rfl⟩
                go_wp2_with fail
                go_roundw
                case rel => exact ⟨⟨m, rfl⟩, k + 1, by omega, by omega, by go_num, by rw [HNo.out hcc]⟩
                case measure => simp [intOf]; omega
            · have hke : k = cnt H := by omega
              have hbo : bestOf rs L v = bestTo rs L (els H) k := by rw [HBo.out, hke]
              clear HBo
              rw [hbo] at HN
              generalize bestTo rs L (els H) k = b at *
              have hpb := pwN_small b (by omega)
              have hor := bits_or_nat S (2 ^ b) (by omega) (by have : 2 ^ b ≤ 2 ^ 6 := Nat.pow_le_pow_right (by decide) (by omega); omega)
              clear hbo hke
              generalize S ||| 2 ^ b = S2 at *
              generalize 2 ^ b = VB at *
              generalize 2 ^ v = V at *
              go_wp2_with fail
              go_roundw
              case rel =>
                obtain ⟨m2, hm2⟩ := HW m
                exact ⟨⟨m2, hm2.symm⟩, i + 1, S2, L - V, by omega, by go_num, rfl, by first | rfl | rw [q6.out] | rw [q5.out], HN.out⟩
              case measure => simp [intOf]; omega
        · rw [hb] at hn
          replace HH := Lib.hid (HH.out hb)
          generalize around rs S = A at *
          generalize 2 ^ v = V at *
          go_wp2_with (first | (go_at_call 118; refine (Calls.later m (hC _)).mono ?_; rintro e w' ⟨rfl, m, rfl⟩))
          go_roundw
          case rel => exact ⟨⟨m, rfl⟩, i + 1, S, L - V, by omega, by go_num, rfl, by first | rfl | rw [q6.out] | rw [q5.out], HH.out⟩
          case measure => simp [intOf]; omega
      · have hie : i = t.length := by omega
        have hS := GreedyAt.done (hie ▸ hG)
        clear hG
        go_wp2_with fail
        go_ret2
        exact ⟨by rw [HE.out, ← hS, HO.out]; rfl, below_later HhB.out m⟩

end Go.Proofs.Ytflejcffjngdfaa
