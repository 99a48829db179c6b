/-
  PruneOrder and IsHereditary of the reference. For at most 2^20 rows.
-/
import Derived.Test.YtdbaflimcbidjaaPruneO
import Derived.Test.YtdbaflimcbidjaaPathwL
namespace Go.Proofs.Ytdbaflimcbidjaa
open Go.RowKit

def RetPs (w : World) (O : Option (List Prn)) (e : Ending) (w' : World) : Prop :=
  ∃ ao cap, e = .returned (.tuple #[.slice ao (O.getD []).length cap, .bool O.isSome]) ∧ Below w.heap.size w w' ∧ OwnP w' w.heap.size ao cap (O.getD [])
theorem cell_new3 {w : World} {b i : Nat} {x y z v : Value} {T : TypeId} (hb : b = w.heap.size) (h : #[x, y, z][i]? = some v) : (w.alloc (.cells #[x, y, z] T)).cell? ⟨b, i, none⟩ = some v := by
  subst hb
  obtain ⟨-, -, h3, -⟩ := box_facts (w := w) (cs := #[x, y, z]) (T := T) rfl
  rw [h3]; exact h
theorem minus_facts {S v N : Nat} (hN : N ≤ 7) (hS : S < 2 ^ N) (hv : S.testBit v = true) : S - 2 ^ v < 2 ^ N ∧ cnt S = cnt (S - 2 ^ v) + 1 := by
  have h1 := lt128 hN hS
  obtain ⟨h2, h3⟩ := minus_or h1 hv
  have h4 := cnt_or_fin ⟨S - 2 ^ v, Nat.lt_of_le_of_lt (Nat.sub_le _ _) h1⟩ ⟨v, bit7 h1 hv⟩ h3
  dsimp only at h4
  rw [h2] at h4
  exact ⟨Nat.lt_of_le_of_lt (Nat.sub_le _ _) hS, h4⟩
theorem cnt_zero {S : Nat} (hS : S < 128) (h : S ≠ 0) : cnt S ≠ 0 := by
  have := (low_facts hS h).2.2
  unfold cnt; omega
def testV (rs : List Int) (S v : Nat) : Bool := S.testBit v && (pruneV rs S v).isSome

set_option maxRecDepth 100000 in
set_option maxHeartbeats 4000000 in
theorem specPrunes_any (n : Int) (rs : List Int) (ro : Option Addr) (rc : Nat) (w : World) (hr : IntsAt w ro rs) (hrl : rs.length ≤ 1048576) :
    Calls Try.prog 37 #[.agg #[.int .i64 n, .slice ro rs.length rc]] w (RetPs w (prunesV n rs)) := by
  have hG := fun w0 (h : Below w.heap.size w w0) => specIsGraph_any n rs ro rc w0 (hr.below h) hrl
  have HG := Lib.hid hG
  clear hG
  go_enter Try.func37, Try.ntmps37
  go_wp2_with fail
  generalize hW : World.alloc _ _ = W1
  obtain ⟨hB, hs, k0, -⟩ := alloc2 hW
  replace hr := hr.below hB
  have b0 := k0.lt
  have c0 := k0.cell 0
  have c1 := k0.cell 1
  simp at c0 c1
  have hG := fun m : Later W1 => HG.out m.w (below_later hB m)
  have hww : w.heap.size ≤ w.heap.size + 1 := by omega
  clear hW k0 hs
  have HhB := Lib.hid hB
  clear hB
  obtain ⟨m, hm0⟩ : ∃ m : Later W1, m.w = W1 := ⟨Later.refl _, rfl⟩
  refine (fun h => hm0 ▸ h) ?_
  clear hm0
  cases hv : isGraphB n rs
  · have HE := Lib.hid (prunesV_no hv)
    rw [hv] at hG
    go_wp2_with (first | (go_at_call 63; refine (Calls.later m (hG _)).mono ?_; rintro e w' ⟨rfl, m, rfl⟩))
    go_ret2
    exact ⟨some ⟨w.heap.size + 1, 0, none⟩, 0, by rw [HE.out]; rfl, below_later HhB.out m, by rw [HE.out]; exact OwnP.empty _ _ _⟩
  obtain ⟨rfl, g⟩ := VG.of hv
  have HE := Lib.hid (prunesV_of hv)
  rw [hv] at hG
  have hN7 := g.le
  have hp7 := g.pow.1
  obtain ⟨hq1, hq2⟩ := pwN_pos rs.length hN7
  have HQ : Hid (pwN rs.length - 1 = ((2 ^ rs.length - 1 : Nat) : Int)) := Lib.hid (all_small hN7)
  have hall : (2 ^ rs.length - 1 : Nat) < 2 ^ rs.length := by have := Nat.two_pow_pos rs.length; omega
  have hcall : cnt (2 ^ rs.length - 1) = rs.length := by
    have h3 : ∀ N : Fin 8, cnt (2 ^ N.val - 1) = N.val := by decide +kernel
    exact h3 ⟨rs.length, by omega⟩
  have Hcall := Lib.hid hcall
  clear hcall
  go_wp2_with (first | (go_at_call 63; refine (Calls.later m (hG _)).mono ?_; rintro e w' ⟨rfl, m, rfl⟩))
  clear hG
  go_loopw [4, 5] (fun o l wr => (∃ m : Later W1, wr = m.w) ∧ ∃ (S : Nat) (ps : List Prn) (ao : Option Addr) (cap : Nat), S < 2 ^ rs.length ∧ l = .int .i64 S ∧ o = .slice ao ps.length cap ∧ ps.length + cnt S = rs.length ∧ OwnP wr W1.heap.size ao cap ps ∧ pruneRun rs (cnt S) S ps = prunesV rs.length rs) (fun _ l _ => (intOf l).toNat)
  case atStart => exact ⟨⟨m, rfl⟩, 2 ^ rs.length - 1, [], some ⟨w.heap.size + 1, 0, none⟩, 0, hall, by rw [HQ.out], rfl, by rw [Hcall.out]; simp, OwnP.empty _ _ _, by rw [Hcall.out, HE.out]⟩
  case round =>
    obtain ⟨⟨m, rfl⟩, S, ps, ao, cap, hS, rfl, rfl, hln, hO, hR⟩ := hrel
    have hln2 : ps.length ≤ 7 := by omega
    have Hln := Lib.hid hln
    clear hln
    have HR := Lib.hid hR
    clear hR
    by_cases h0 : 0 < S
    · have d0 : decide ((0 : Int) < (S : Int)) = true := decide_eq_true (by omega)
      go_wp2_with fail
      go_loopw [4, 5, 6, 7] (fun o l fd i wr => (∃ m : Later W1, wr = m.w) ∧ ∃ j : Nat, j ≤ rs.length ∧ i = .int .i64 j ∧ ((fd = .bool false ∧ l = .int .i64 S ∧ o = .slice ao ps.length cap ∧ OwnP wr W1.heap.size ao cap ps ∧ ∀ i, i < j → testV rs S i = false) ∨ (fd = .bool true ∧ ∃ (u : Nat) (p : Prn) (ao2 : Option Addr) (cap2 : Nat), S.testBit u = true ∧ l = .int .i64 (S - 2 ^ u : Nat) ∧ o = .slice ao2 (ps.length + 1) cap2 ∧ OwnP wr W1.heap.size ao2 cap2 (ps ++ [p]) ∧ nextV rs S = some u ∧ pruneV rs S u = some p))) (fun _ _ _ i _ => rs.length - (intOf i).toNat)
      case atStart => exact ⟨⟨m, rfl⟩, 0, by omega, rfl, .inl ⟨rfl, rfl, rfl, hO, fun i h => by omega⟩⟩
      case round =>
        clear hO
        obtain ⟨⟨m, rfl⟩, j, hj, rfl, hcase⟩ := hrel
        rcases hcase with ⟨rfl, rfl, rfl, hO, hT⟩ | ⟨rfl, u, p, ao2, cap2, hu, rfl, rfl, hO2, hnx, hpu⟩
        · have HT := Lib.hid hT
          have HO := Lib.hid hO
          clear hT hO
          by_cases hjt : j < rs.length
          · have HTn := Lib.hid (fun h => all_succ (p := fun i => testV rs S i = false) HT.out h)
            cases hb : S.testBit j
            · have hn := hasN_nat S j
              rw [hb] at hn
              have hf := HTn.out (by unfold testV; rw [hb]; rfl)
              clear hb
              have Hhf := Lib.hid hf
              clear hf
              go_wp2_with fail
              go_roundw
              case rel => exact ⟨⟨m, rfl⟩, j + 1, by omega, by go_num, .inl ⟨rfl, rfl, rfl, HO.out, Hhf.out⟩⟩
              case measure => simp [intOf]; omega
            · have hn := hasN_nat S j
              rw [hb] at hn
              have hC := fun m : Later W1 => l21Prune_any rs j S ro rc m.w g hS hb (hr.later m)
              have hle := (pow_sub hb).le
              have hpw := pwN_small j (by omega)
              have Hb := Lib.hid hb
              clear hb
              cases hpv : pruneV rs S j with
              | none =>
                rw [hpv] at hC
                have hf := HTn.out (by unfold testV; rw [hpv]; simp)
                clear hpv
                have Hhf := Lib.hid hf
                clear hf
                go_wp2_with fail
                refine (hC m).mono ?_
                rintro e w3 ⟨rfl, hB3⟩
                replace HO := Lib.hid (HO.out.below hB3)
                obtain ⟨m, rfl⟩ : ∃ m2 : Later W1, m2.w = w3 := ⟨m.on hB3, rfl⟩
                clear hB3 hC
                go_wp2_with fail
                go_roundw
                case rel => exact ⟨⟨m.on ((Below.refl _ _).alloc (Nat.le_refl _) _), rfl⟩, j + 1, by omega, by go_num, .inl ⟨rfl, rfl, rfl, HO.out.below ((Below.refl _ _).alloc (Nat.le_refl _) _), Hhf.out⟩⟩
                case measure => simp [intOf]; omega
              | some p =>
                have hp1 := pruneV_vertex hpv
                have hnx : nextV rs S = some j := firstB_hit hjt HT.out (by rw [Hb.out, hpv]; rfl)
                rw [hpv] at hC
                have Hpv := Lib.hid hpv
                have hsb : (S : Int) - ((2 ^ j : Nat) : Int) = ((S - 2 ^ j : Nat) : Int) := by omega
                have hS7 : S ≤ 127 := by omega
                have hx : ps.length ≤ 1048576 := by omega
                clear hpv hp1
                obtain ⟨p1, p2, p3⟩ := p
                have Hhnx := Lib.hid hnx
                clear hnx
                go_wp2_with fail
                refine (hC m).mono ?_
                rintro e w3 ⟨rfl, hB3⟩
                replace HO := Lib.hid (HO.out.below hB3)
                obtain ⟨m, rfl⟩ : ∃ m2 : Later W1, m2.w = w3 := ⟨m.on hB3, rfl⟩
                clear hB3 hC
                generalize hC2 : 2 ^ j = C at *
                have HhC2 := Lib.hid hC2
                clear hC2
                go_wp2_with (first | (at_builtin; go_must (refine wpList_append_p rfl _ _ rfl W1.heap.size cap ao ps (p1, p2, p3) (m.w.heap.size + 1) rfl ((HO.out.below ((Below.refl _ _).alloc (Nat.le_refl _) _)).below ((Below.refl _ _).alloc (Nat.le_refl _) _)) (by show Value.slice _ 1 1 = _; simp) (cell_new3 (by simp) (by rfl)) (cell_new3 (by simp) (by rfl)) (cell_new3 (by simp) (by rfl)) (by simp; have := m.size; omega) hx ?_); intro ao2 cap2 w5 hown2 hB5))
                have hBB : Below W1.heap.size W1 w5 := ((m.below.alloc m.size _).alloc (by have := m.size; simp; omega) _).trans hB5
                go_roundw
                case rel => exact ⟨⟨⟨w5, hBB⟩, rfl⟩, j + 1, by omega, by go_num, .inr ⟨rfl, j, (p1, p2, p3), ao2, cap2, Hb.out, by rw [HhC2.out], rfl, hown2, Hhnx.out, Hpv.out⟩⟩
                case measure => simp [intOf]; omega
          · obtain rfl : j = rs.length := by omega
            have hnx : nextV rs S = none := firstB_none fun i hi => HT.out i hi
            have hO : prunesV rs.length rs = none := by
              rw [← HR.out]
              obtain ⟨f, hf⟩ : ∃ f, cnt S = f + 1 := ⟨cnt S - 1, by have := cnt_zero (S := S) (by omega) (by omega); omega⟩
              rw [hf]; exact pruneRun_none (by omega) hnx
            have HhO := Lib.hid hO
            clear hO
            clear hnx
            go_wp2_with fail
            go_ret2
            have hBm : Below w.heap.size w m.w := below_later HhB.out m
            exact ⟨_, 0, by rw [HhO.out]; rfl, hBm.alloc (by have := hBm.size; omega) _, by rw [HhO.out]; exact OwnP.empty _ _ _⟩
        · have hU := minus_facts hN7 hS hu
          have hR2 : pruneRun rs (cnt (S - 2 ^ u)) (S - 2 ^ u) (ps ++ [p]) = prunesV rs.length rs := by
            rw [← HR.out, hU.2, pruneRun_some (by omega) hnx hpu]
          have hln3 : (ps ++ [p]).length + cnt (S - 2 ^ u) = rs.length := by
            have := Hln.out
            rw [hU.2] at this
            simp; omega
          have hup := Nat.two_pow_pos u
          have hle := (pow_sub hu).le
          have Hl3 := Lib.hid hln3
          have HS2 := Lib.hid hU.1
          have hlt : S - 2 ^ u < S := by omega
          have HhR2 := Lib.hid hR2
          clear hR2
          have HhO2 := Lib.hid hO2
          clear hO2
          clear hln3 hU hnx hpu hu hup hle
          generalize 2 ^ u = C at *
          by_cases hjt : j < rs.length
          all_goals
            go_wp2_with fail
            go_roundw
            case rel => exact ⟨⟨m, rfl⟩, S - C, ps ++ [p], ao2, cap2, HS2.out, rfl, by simp, Hl3.out, by simpa using HhO2.out, HhR2.out⟩
            case measure => simp [intOf]; omega
    · obtain rfl : S = 0 := by omega
      have hO2 : prunesV rs.length rs = some ps := by rw [← HR.out]; exact pruneRun_zero _ _ _
      have hOw := hO.mono (base' := w.heap.size) HhB.out.size
      have HhO2 := Lib.hid hO2
      clear hO2
      have HhOw := Lib.hid hOw
      clear hOw
      clear hO
      go_wp2_with fail
      go_ret2
      exact ⟨ao, cap, by rw [HhO2.out]; rfl, below_later HhB.out m, by rw [HhO2.out]; exact HhOw.out⟩

theorem specHered_any (n : Int) (rs : List Int) (ro : Option Addr) (rc : Nat) (w : World) (hr : IntsAt w ro rs) (hrl : rs.length ≤ 1048576) :
    Calls Try.prog 27 #[.agg #[.int .i64 n, .slice ro rs.length rc]] w fun e w' => e = .returned (.bool (prunesV n rs).isSome) ∧ Below w.heap.size w w' := by
  go_enter Try.func27, Try.ntmps27
  go_wp2_with fail
  generalize hW : w.alloc _ = W1
  obtain ⟨hB, -, k0⟩ := alloc1 hW
  replace hr := hr.below hB
  have hb0 := k0.lt
  have hc0 := k0.cell 0
  have hc1 := k0.cell 1
  simp at hc0 hc1
  clear hW k0
  have HhB := Lib.hid hB
  clear hB
  refine (specPrunes_any n rs ro rc W1 hr hrl).mono ?_
  rintro e w2 ⟨ao, cap, rfl, hB2, -⟩
  have hBB := below_more' HhB.out hB2
  clear hB2
  have HhBB := Lib.hid hBB
  clear hBB
  go_wp2_with fail
  go_ret
  exact ⟨rfl, HhBB.out⟩

end Go.Proofs.Ytdbaflimcbidjaa
