/-
  PruneOrder and IsHereditary of the reference. For at most 2^20 rows.
  PruneOrder and IsHereditary of the program. For at most 2^20 rows.
  The walks of the laws' helpers on lists of prunes: eqPruneS, markPruneS, heldPruneS. For lists of at most 2^20 elements.
-/
import Derived.Test.YtjikmjhpmkakoaaGreatDoorPkCardHereditary25
import Derived.Test.YtjikmjhpmkakoaaGreatDoorPkCardHereditary19
import Derived.Test.YtjikmjhpmkakoaaGreatDoorPkCardHereditary24
import Derived.Test.YtjikmjhpmkakoaaGreatDoorPkCardHereditary21
namespace Go.Proofs.YtjikmjhpmkakoaaGreatDoor
open Go.RowKit

def RetPs (w : World) (O : Option (List Prn)) (e : Ending) (w' : World) : Prop :=
  ∃ ao cap, e = .returned (.tuple #[.slice ao (O.getD []).length cap, .bool O.isSome]) ∧ Below w.heap.size w w' ∧ OwnP w' w.heap.size ao cap (O.getD [])
theorem cell_new3 {w : World} {b i : Nat} {x y z v : Value} {T : TypeId} (hb : b = w.heap.size) (h : #[x, y, z][i]? = some v) : (w.alloc (.cells #[x, y, z] T)).cell? ⟨b, i, none⟩ = some v := by
  subst hb
  obtain ⟨-, -, h3, -⟩ := box_facts (w := w) (cs := #[x, y, z]) (T := T) rfl
  rw [h3]; exact h
theorem minus_facts {S v N : Nat} (hN : N ≤ 7) (hS : S < 2 ^ N) (hv : S.testBit v = true) : S - 2 ^ v < 2 ^ N ∧ cnt S = cnt (S - 2 ^ v) + 1 := by
  have h1 := lt128 hN hS
  obtain ⟨h2, h3⟩ := minus_or h1 hv
  have h4 := cnt_or_fin ⟨S - 2 ^ v, Nat.lt_of_le_of_lt (Nat.sub_le _ _) h1⟩ ⟨v, bit7 h1 hv⟩ h3
  dsimp only at h4
  rw [h2] at h4
  exact ⟨Nat.lt_of_le_of_lt (Nat.sub_le _ _) hS, h4⟩
theorem cnt_zero {S : Nat} (hS : S < 128) (h : S ≠ 0) : cnt S ≠ 0 := by
  have := (low_facts hS h).2.2
  unfold cnt; omega
def testV (rs : List Int) (S v : Nat) : Bool := S.testBit v && (pruneV rs S v).isSome

set_option maxRecDepth 100000 in
set_option maxHeartbeats 4000000 in
theorem specPrunes_any (n : Int) (rs : List Int) (ro : Option Addr) (rc : Nat) (w : World) (hr : IntsAt w ro rs) (hrl : rs.length ≤ 1048576) :
    Calls Tryz.prog 8 #[.agg #[.int .i64 n, .slice ro rs.length rc]] w (RetPs w (prunesV n rs)) := by
  have hG := fun w0 (h : Below w.heap.size w w0) => specIsGraph_any n rs ro rc w0 (hr.below h) hrl
  have HG := Lib.hid hG
  clear hG
  go_enter Tryz.func8, Tryz.ntmps8
  go_wp2_with fail
  generalize hW : World.alloc _ _ = W1
  obtain ⟨hB, hs, k0, -⟩ := alloc2 hW
  replace hr := hr.below hB
  have b0 := k0.lt
  have c0 := k0.cell 0
  have c1 := k0.cell 1
  simp at c0 c1
  have hG := fun m : Later W1 => HG.out m.w (below_later hB m)
  have hww : w.heap.size ≤ w.heap.size + 1 := by omega
  clear hW k0 hs
  have HhB := Lib.hid hB
  clear hB
  obtain ⟨m, hm0⟩ : ∃ m : Later W1, m.w = W1 := ⟨Later.refl _, rfl⟩
  refine (fun h => hm0 ▸ h) ?_
  clear hm0
  cases hv : isGraphB n rs
  · have HE := Lib.hid (prunesV_no hv)
    rw [hv] at hG
    go_wp2_with (first | (go_at_call 12; refine (Calls.later m (hG _)).mono ?_; rintro e w' ⟨rfl, m, rfl⟩))
    go_ret2
    exact ⟨some ⟨w.heap.size + 1, 0, none⟩, 0, by rw [HE.out]; rfl, below_later HhB.out m, by rw [HE.out]; exact OwnP.empty _ _ _⟩
  obtain ⟨rfl, g⟩ := VG.of hv
  have HE := Lib.hid (prunesV_of hv)
  rw [hv] at hG
  have hN7 := g.le
  have hp7 := g.pow.1
  obtain ⟨hq1, hq2⟩ := pwN_pos rs.length hN7
  have HQ : Hid (pwN rs.length - 1 = ((2 ^ rs.length - 1 : Nat) : Int)) := Lib.hid (all_small hN7)
  have hall : (2 ^ rs.length - 1 : Nat) < 2 ^ rs.length := by have := Nat.two_pow_pos rs.length; omega
  have hcall : cnt (2 ^ rs.length - 1) = rs.length := by
    have h3 : ∀ N : Fin 8, cnt (2 ^ N.val - 1) = N.val := by decide +kernel
    exact h3 ⟨rs.length, by omega⟩
  have Hcall := Lib.hid hcall
  clear hcall
  go_wp2_with (first | (go_at_call 12; refine (Calls.later m (hG _)).mono ?_; rintro e w' ⟨rfl, m, rfl⟩))
  clear hG
  go_loopw [4, 5] (fun o l wr => (∃ m : Later W1, wr = m.w) ∧ ∃ (S : Nat) (ps : List Prn) (ao : Option Addr) (cap : Nat), S < 2 ^ rs.length ∧ l = .int .i64 S ∧ o = .slice ao ps.length cap ∧ ps.length + cnt S = rs.length ∧ OwnP wr W1.heap.size ao cap ps ∧ pruneRun rs (cnt S) S ps = prunesV rs.length rs) (fun _ l _ => (intOf l).toNat)
  case atStart => exact ⟨⟨m, rfl⟩, 2 ^ rs.length - 1, [], some ⟨w.heap.size + 1, 0, none⟩, 0, hall, by rw [HQ.out], rfl, by rw [Hcall.out]; simp, OwnP.empty _ _ _, by rw [Hcall.out, HE.out]⟩
  case round =>
    obtain ⟨⟨m, rfl⟩, S, ps, ao, cap, hS, rfl, rfl, hln, hO, hR⟩ := hrel
    have hln2 : ps.length ≤ 7 := by omega
    have Hln := Lib.hid hln
    clear hln
    have HR := Lib.hid hR
    clear hR
    by_cases h0 : 0 < S
    · have d0 : decide ((0 : Int) < (S : Int)) = true := decide_eq_true (by omega)
      go_wp2_with fail
      go_loopw [4, 5, 6, 7] (fun o l fd i wr => (∃ m : Later W1, wr = m.w) ∧ ∃ j : Nat, j ≤ rs.length ∧ i = .int .i64 j ∧ ((fd = .bool false ∧ l = .int .i64 S ∧ o = .slice ao ps.length cap ∧ OwnP wr W1.heap.size ao cap ps ∧ ∀ i, i < j → testV rs S i = false) ∨ (fd = .bool true ∧ ∃ (u : Nat) (p : Prn) (ao2 : Option Addr) (cap2 : Nat), S.testBit u = true ∧ l = .int .i64 (S - 2 ^ u : Nat) ∧ o = .slice ao2 (ps.length + 1) cap2 ∧ OwnP wr W1.heap.size ao2 cap2 (ps ++ [p]) ∧ nextV rs S = some u ∧ pruneV rs S u = some p))) (fun _ _ _ i _ => rs.length - (intOf i).toNat)
      case atStart => exact ⟨⟨m, rfl⟩, 0, by omega, rfl, .inl ⟨rfl, rfl, rfl, hO, fun i h => by omega⟩⟩
      case round =>
        clear hO
        obtain ⟨⟨m, rfl⟩, j, hj, rfl, hcase⟩ := hrel
        rcases hcase with ⟨rfl, rfl, rfl, hO, hT⟩ | ⟨rfl, u, p, ao2, cap2, hu, rfl, rfl, hO2, hnx, hpu⟩
        · have HT := Lib.hid hT
          have HO := Lib.hid hO
          clear hT hO
          by_cases hjt : j < rs.length
          · have HTn := Lib.hid (fun h => all_succ (p := fun i => testV rs S i = false) HT.out h)
            cases hb : S.testBit j
            · have hn := hasN_nat S j
              rw [hb] at hn
              have hf := HTn.out (by unfold testV; rw [hb]; rfl)
              clear hb
              have Hhf := Lib.hid hf
              clear hf
              go_wp2_with fail
              go_roundw
              case rel => exact ⟨⟨m, rfl⟩, j + 1, by omega, by go_num, .inl ⟨rfl, rfl, rfl, HO.out, Hhf.out⟩⟩
              case measure => simp [intOf]; omega
            · have hn := hasN_nat S j
              rw [hb] at hn
              have hC := fun m : Later W1 => l21Prune_any rs j S ro rc m.w g hS hb (hr.later m)
              have hle := (pow_sub hb).le
              have hpw := pwN_small j (by omega)
              have Hb := Lib.hid hb
              clear hb
              cases hpv : pruneV rs S j with
              | none =>
                rw [hpv] at hC
                have hf := HTn.out (by unfold testV; rw [hpv]; simp)
                clear hpv
                have Hhf := Lib.hid hf
                clear hf
                go_wp2_with fail
                refine (hC m).mono ?_
                rintro e w3 ⟨rfl, hB3⟩
                replace HO := Lib.hid (HO.out.below hB3)
                obtain ⟨m, rfl⟩ : ∃ m2 : Later W1, m2.w = w3 := ⟨m.on hB3, rfl⟩
                clear hB3 hC
                go_wp2_with fail
                go_roundw
                case rel => exact ⟨⟨m.on ((Below.refl _ _).alloc (Nat.le_refl _) _), rfl⟩, j + 1, by omega, by go_num, .inl ⟨rfl, rfl, rfl, HO.out.below ((Below.refl _ _).alloc (Nat.le_refl _) _), Hhf.out⟩⟩
                case measure => simp [intOf]; omega
              | some p =>
                have hp1 := pruneV_vertex hpv
                have hnx : nextV rs S = some j := firstB_hit hjt HT.out (by rw [Hb.out, hpv]; rfl)
                rw [hpv] at hC
                have Hpv := Lib.hid hpv
                have hsb : (S : Int) - ((2 ^ j : Nat) : Int) = ((S - 2 ^ j : Nat) : Int) := by omega
                have hS7 : S ≤ 127 := by omega
                have hx : ps.length ≤ 1048576 := by omega
                clear hpv hp1
                obtain ⟨p1, p2, p3⟩ := p
                have Hhnx := Lib.hid hnx
                clear hnx
                go_wp2_with fail
                refine (hC m).mono ?_
                rintro e w3 ⟨rfl, hB3⟩
                replace HO := Lib.hid (HO.out.below hB3)
                obtain ⟨m, rfl⟩ : ∃ m2 : Later W1, m2.w = w3 := ⟨m.on hB3, rfl⟩
                clear hB3 hC
                generalize hC2 : 2 ^ j = C at *
                have HhC2 := Lib.hid hC2
                clear hC2
                go_wp2_with (first | (at_builtin; go_must (refine wpList_append_p rfl _ _ rfl W1.heap.size cap ao ps (p1, p2, p3) (m.w.heap.size + 1) rfl ((HO.out.below ((Below.refl _ _).alloc (Nat.le_refl _) _)).below ((Below.refl _ _).alloc (Nat.le_refl _) _)) (by show Value.slice _ 1 1 = _; simp) (cell_new3 (by simp) (by rfl)) (cell_new3 (by simp) (by rfl)) (cell_new3 (by simp) (by rfl)) (by simp; have := m.size; omega) hx ?_); intro ao2 cap2 w5 hown2 hB5))
                have hBB : Below W1.heap.size W1 w5 := ((m.below.alloc m.size _).alloc (by have := m.size; simp; omega) _).trans hB5
                go_roundw
                case rel => exact ⟨⟨⟨w5, hBB⟩, rfl⟩, j + 1, by omega, by go_num, .inr ⟨rfl, j, (p1, p2, p3), ao2, cap2, Hb.out, by rw [HhC2.out], rfl, hown2, Hhnx.out, Hpv.out⟩⟩
                case measure => simp [intOf]; omega
          · obtain rfl : j = rs.length := by omega
            have hnx : nextV rs S = none := firstB_none fun i hi => HT.out i hi
            have hO : prunesV rs.length rs = none := by
              rw [← HR.out]
              obtain ⟨f, hf⟩ : ∃ f, cnt S = f + 1 := ⟨cnt S - 1, by have := cnt_zero (S := S) (by omega) (by omega); omega⟩
              rw [hf]; exact pruneRun_none (by omega) hnx
            have HhO := Lib.hid hO
            clear hO
            clear hnx
            go_wp2_with fail
            go_ret2
            have hBm : Below w.heap.size w m.w := below_later HhB.out m
            exact ⟨_, 0, by rw [HhO.out]; rfl, hBm.alloc (by have := hBm.size; omega) _, by rw [HhO.out]; exact OwnP.empty _ _ _⟩
        · have hU := minus_facts hN7 hS hu
          have hR2 : pruneRun rs (cnt (S - 2 ^ u)) (S - 2 ^ u) (ps ++ [p]) = prunesV rs.length rs := by
            rw [← HR.out, hU.2, pruneRun_some (by omega) hnx hpu]
          have hln3 : (ps ++ [p]).length + cnt (S - 2 ^ u) = rs.length := by
            have := Hln.out
            rw [hU.2] at this
            simp; omega
          have hup := Nat.two_pow_pos u
          have hle := (pow_sub hu).le
          have Hl3 := Lib.hid hln3
          have HS2 := Lib.hid hU.1
          have hlt : S - 2 ^ u < S := by omega
          have HhR2 := Lib.hid hR2
          clear hR2
          have HhO2 := Lib.hid hO2
          clear hO2
          clear hln3 hU hnx hpu hu hup hle
          generalize 2 ^ u = C at *
          by_cases hjt : j < rs.length
          all_goals
            go_wp2_with fail
            go_roundw
            case rel => exact ⟨⟨m, rfl⟩, S - C, ps ++ [p], ao2, cap2, HS2.out, rfl, by simp, Hl3.out, by simpa using HhO2.out, HhR2.out⟩
            case measure => simp [intOf]; omega
    · obtain rfl : S = 0 := by omega
      have hO2 : prunesV rs.length rs = some ps := by rw [← HR.out]; exact pruneRun_zero _ _ _
      have hOw := hO.mono (base' := w.heap.size) HhB.out.size
      have HhO2 := Lib.hid hO2
      clear hO2
      have HhOw := Lib.hid hOw
      clear hOw
      clear hO
      go_wp2_with fail
      go_ret2
      exact ⟨ao, cap, by rw [HhO2.out]; rfl, below_later HhB.out m, by rw [HhO2.out]; exact HhOw.out⟩


end Go.Proofs.YtjikmjhpmkakoaaGreatDoor

namespace Go.Proofs.YtjikmjhpmkakoaaGreatDoor
open Go.RowKit

theorem testV_set {rs : List Int} {S j : Nat} (h : testV rs S j = true) : S.testBit j = true := by unfold testV at h; simp only [Bool.and_eq_true] at h; exact h.1

set_option maxRecDepth 100000 in
set_option maxHeartbeats 4000000 in
theorem implPrunes_any (n : Int) (rs : List Int) (ro : Option Addr) (rc : Nat) (w : World) (hr : IntsAt w ro rs) (hrl : rs.length ≤ 1048576) :
    Calls Tryz.prog 7 #[.agg #[.int .i64 n, .slice ro rs.length rc]] w (RetPs w (prunesV n rs)) := by
  have hG := fun w0 (h : Below w.heap.size w w0) => implIsGraph_any n rs ro rc w0 (hr.below h) hrl
  have HG := Lib.hid hG
  clear hG
  go_enter Tryz.func7, Tryz.ntmps7
  go_wp2_with fail
  generalize hW : w.alloc _ = W1
  obtain ⟨hB, -, k0⟩ := alloc1 hW
  replace hr := hr.below hB
  have hb0 := k0.lt
  have hc0 := k0.cell 0
  have hc1 := k0.cell 1
  simp at hc0 hc1
  clear hW k0
  have HhB := Lib.hid hB
  clear hB
  have hG := fun m : Later W1 => HG.out m.w (below_later HhB.out m)
  obtain ⟨m, hm0⟩ : ∃ m : Later W1, m.w = W1 := ⟨Later.refl _, rfl⟩
  refine (fun h => hm0 ▸ h) ?_
  clear hm0
  cases hv : isGraphB n rs
  · have HE := Lib.hid (prunesV_no hv)
    rw [hv] at hG
    go_wp2_with (first | (go_at_call 45; refine (Calls.later m (hG _)).mono ?_; rintro e w' ⟨rfl, m, rfl⟩))
    go_ret2
    exact ⟨none, 0, by rw [HE.out]; rfl, below_later HhB.out m, by rw [HE.out]; exact OwnP.nil _ _⟩
  obtain ⟨rfl, g⟩ := VG.of hv
  have HE := Lib.hid (prunesV_of hv)
  rw [hv] at hG
  have hN7 := g.le
  have hp7 := g.pow.1
  have hall : (2 ^ rs.length - 1 : Nat) < 2 ^ rs.length := by have := Nat.two_pow_pos rs.length; omega
  have hcall : cnt (2 ^ rs.length - 1) = rs.length := by
    have h3 : ∀ N : Fin 8, cnt (2 ^ N.val - 1) = N.val := by decide +kernel
    exact h3 ⟨rs.length, by omega⟩
  have Hcall := Lib.hid hcall
  clear hcall
  refine (Calls.later _ (hG m)).mono ?_
  rintro e w' ⟨rfl, m, rfl⟩
  clear hG
  have hms := m.size
  have hbm := Nat.lt_of_lt_of_le hb0 hms
  go_wp2_with fail
  clear hbm
  generalize hW : World.alloc _ _ = W2
  obtain ⟨hB2, -, -⟩ := alloc1 hW
  have hOE : OwnP W2 W1.heap.size (some ⟨m.w.heap.size, 0, none⟩) 0 [] := OwnP.empty _ _ _
  obtain ⟨m2, rfl⟩ : ∃ m2 : Later W1, m2.w = W2 := ⟨m.on hB2, rfl⟩
  clear hW hB2
  refine (implAll_any rs.length (.slice ro rs.length rc) hN7 m2.w).mono ?_
  rintro e w3 ⟨rfl, hB3⟩
  replace hOE := hOE.below hB3
  obtain ⟨m3, rfl⟩ : ∃ m3 : Later W1, m3.w = w3 := ⟨m2.on hB3, rfl⟩
  clear hB3 m2
  generalize m.w.heap.size = eb0 at *
  clear m
  go_wp2_with fail
  go_loopw [4, 5] (fun o l wr => (∃ m : Later W1, wr = m.w) ∧ ∃ (S : Nat) (ps : List Prn) (ao : Option Addr) (cap : Nat), S < 2 ^ rs.length ∧ l = .int .i64 S ∧ o = .slice ao ps.length cap ∧ ps.length + cnt S = rs.length ∧ OwnP wr W1.heap.size ao cap ps ∧ pruneRun rs (cnt S) S ps = prunesV rs.length rs) (fun _ l _ => (intOf l).toNat)
  case atStart => exact ⟨⟨m3, rfl⟩, 2 ^ rs.length - 1, [], _, 0, hall, rfl, rfl, by rw [Hcall.out]; simp, hOE, by rw [Hcall.out, HE.out]⟩
  case round =>
    clear hOE m3
    obtain ⟨⟨m, rfl⟩, S, ps, ao, cap, hS, rfl, rfl, hln, hO, hR⟩ := hrel
    have hln2 : ps.length ≤ 7 := by omega
    have Hln := Lib.hid hln
    clear hln
    have HR := Lib.hid hR
    clear hR
    by_cases h0 : 0 < S
    · have d0 : ((S : Int) != 0) = true := by rw [bne_iff_ne]; omega
      have hS7 : S < 128 := by omega
      have HO := Lib.hid hO
      clear hO
      go_wp2_with fail
      refine (implListB_any S hS7 m.w).mono ?_
      rintro e w4 ⟨lo, lc, rfl, hB4, hL⟩
      replace HO := Lib.hid (HO.out.below hB4)
      have hm4 : W1.heap.size ≤ m.w.heap.size := m.size
      obtain ⟨m4, rfl⟩ : ∃ m4 : Later W1, m4.w = w4 := ⟨m.on hB4, rfl⟩
      clear hB4
      have hC7 := cnt_le S
      have HL := Lib.hid hL
      clear hL
      generalize m.w.heap.size = lb at *
      clear m
      have HW : Hid (∀ m5 : Later m4.w, ∃ m' : Later W1, m'.w = m5.w) := Lib.hid fun m5 => ⟨m4.on m5.below, rfl⟩
      have k0 := (m4.cell _ _ hb0).trans hc0
      have k1 := (m4.cell _ _ hb0).trans hc1
      have kr := hr.later m4
      have kb := Nat.lt_of_lt_of_le hb0 m4.size
      have hWW := m4.size
      have HB12 := Lib.hid m4.below
      generalize m4.w = W2 at *
      clear m4
      have HFull := Lib.hid (fun (hT : ∀ t, t < cnt S → testV rs S (eln (els S) t) = false) => first_none (N := rs.length) (p := testV rs S) hS hN7 (fun j h => testV_set h) hT)
      have HHit := Lib.hid (fun k (hk : k < cnt S) (hT : ∀ t, t < k → testV rs S (eln (els S) t) = false) h => first_els (N := rs.length) (p := testV rs S) hS hN7 (fun j h => testV_set h) hk hT h)
      obtain ⟨m, hm0⟩ : ∃ m : Later W2, m.w = W2 := ⟨Later.refl _, rfl⟩
      refine (fun h => hm0 ▸ h) ?_
      clear hm0
      go_wp2_with fail
      go_loopw [4, 5, 6, 22] (fun o l fd i wr => (∃ m : Later W2, wr = m.w) ∧ fd = .bool false ∧ l = .int .i64 S ∧ o = .slice ao ps.length cap ∧ ∃ j : Nat, j ≤ cnt S ∧ i = .int .i64 j ∧ ∀ t, t < j → testV rs S (eln (els S) t) = false) (fun _ _ _ i _ => cnt S - (intOf i).toNat)
      case atStart => exact ⟨⟨m, rfl⟩, rfl, rfl, rfl, 0, by omega, rfl, fun t h => by omega⟩
      case round =>
        obtain ⟨⟨m, rfl⟩, rfl, rfl, rfl, j, hj, rfl, hT⟩ := hrel
        have HT := Lib.hid hT
        clear hT
        by_cases hjt : j < cnt S
        · obtain ⟨lb2, rfl, -, hlb, hlc⟩ := HL.out (by unfold cnt at hjt; omega)
          have hcj := hlc j (by unfold cnt at hjt; exact hjt)
          obtain ⟨hEl, hb⟩ := els_at hS hN7 hjt
          have hC := fun m : Later W2 => pruneOf_any rs (eln (els S) j) S ro rc m.w g hS hb (kr.later m)
          have HTn := Lib.hid (fun h => all_succ (p := fun t => testV rs S (eln (els S) t) = false) HT.out h)
          have hHit := Lib.hid (fun h => HHit.out j hjt HT.out h)
          clear hlc
          generalize eln (els S) j = u at *
          have Hb := Lib.hid hb
          clear hb
          cases hpv : pruneV rs S u with
          | none =>
            rw [hpv] at hC
            have hf := HTn.out (by unfold testV; rw [hpv]; simp)
            clear hpv
            have Hhf := Lib.hid hf
            clear hf
            go_wp2_with fail
            refine (hC m).mono ?_
            rintro e w3 ⟨rfl, hB3⟩
            obtain ⟨m, rfl⟩ : ∃ m2 : Later W2, m2.w = w3 := ⟨m.on hB3, rfl⟩
            clear hB3 hC
            go_wp2_with fail
            go_roundw
            case rel => exact ⟨⟨m.on ((Below.refl _ _).alloc (Nat.le_refl _) _), rfl⟩, rfl, rfl, rfl, j + 1, by omega, by go_num, Hhf.out⟩
            case measure => simp [intOf]; omega
          | some p =>
            have hnx : nextV rs S = some u := hHit.out (by unfold testV; rw [Hb.out, hpv]; rfl)
            rw [hpv] at hC
            have Hpv := Lib.hid hpv
            have hx : ps.length ≤ 1048576 := by omega
            have hU := minus_facts hN7 hS Hb.out
            have hand : bits .andNot .i64 (S : Int) (pwN u) = ((S - 2 ^ u : Nat) : Int) := by
              have := Nat.pow_le_pow_right (n := 2) (by decide) (show u ≤ 6 by omega)
              rw [pwN_small u (by omega), bits_andNot_nat _ _ (by omega), nDiff_minus hS7 (pow_sub Hb.out)]
            have hR2 : pruneRun rs (cnt (S - 2 ^ u)) (S - 2 ^ u) (ps ++ [p]) = prunesV rs.length rs := by
              rw [← HR.out, hU.2, pruneRun_some (by omega) hnx hpv]
            have hln3 : (ps ++ [p]).length + cnt (S - 2 ^ u) = rs.length := by
              have := Hln.out
              rw [hU.2] at this
              simp; omega
            have hup := Nat.two_pow_pos u
            have hle := (pow_sub Hb.out).le
            have Hl3 := Lib.hid hln3
            have HS2 := Lib.hid hU.1
            have hlt : S - 2 ^ u < S := by omega
            clear hpv hnx hln3 hU hup hle HTn hHit
            obtain ⟨p1, p2, p3⟩ := p
            have HhR2 := Lib.hid hR2
            clear hR2
            go_wp2_with fail
            refine (hC m).mono ?_
            rintro e w3 ⟨rfl, hB3⟩
            obtain ⟨m, rfl⟩ : ∃ m2 : Later W2, m2.w = w3 := ⟨m.on hB3, rfl⟩
            clear hB3 hC
            generalize S - 2 ^ u = S2 at *
            go_wp2_with fail
            generalize hW : World.alloc _ _ = W4
            obtain ⟨hB4, -, k4⟩ := alloc1 hW
            have y0 := k4.cell 0
            have y1 := k4.cell 1
            have y2 := k4.cell 2
            have y3 := k4.lt
            simp at y0 y1 y2
            have hO4 := (HO.out.below m.below).below hB4
            have hB5 := below_more m.below hB4
            have hW4 : W1.heap.size ≤ W4.heap.size := Nat.le_trans hWW hB5.size
            generalize m.w.heap.size = pb at *
            clear hW k4 hB4
            have HB14 := Lib.hid (HB12.out.trans (hB5.mono hWW))
            have HhO4 := Lib.hid hO4
            clear hO4
            have HhB5 := Lib.hid hB5
            clear hB5
            go_region_law (refine step_append_p (by rfl) _ _ (by rfl) W1.heap.size cap ao ps (p1, p2, p3) W4.heap.size (by rfl) (HhO4.out.below (by first | exact ((Below.refl _ _).alloc (Nat.le_refl _) _).drew | exact (Below.refl _ _).drew.alloc (Nat.le_refl _) _)) (by rfl) (by first | exact cell_new3 (by simp) (by rfl) | exact cell_new3 (w := W4) rfl (by rfl)) (by first | exact cell_new3 (by simp) (by rfl) | exact cell_new3 (w := W4) rfl (by rfl)) (by first | exact cell_new3 (by simp) (by rfl) | exact cell_new3 (w := W4) rfl (by rfl)) (by simp; omega) hx ?_; intro ao2 cap2 w6 hown2 hB6; have hB7 : Below W1.heap.size W1 w6 := by first | exact (HB14.out.drew.alloc (by simp; omega) _).trans hB6 | exact (HB14.out.alloc hW4 _).drew.trans hB6)
            all_goals
              have hown3 : OwnP w6 W1.heap.size ao2 cap2 (ps ++ [(p1, p2, p3)]) := hown2
              have Hhown3 := Lib.hid hown3
              clear hown3
              have HhB7 := Lib.hid hB7
              clear hB7
              clear hown2 hB6
              go_wp2_with fail
              go_roundw
              case rel => exact ⟨⟨⟨w6, HhB7.out⟩, rfl⟩, S2, ps ++ [(p1, p2, p3)], ao2, cap2, HS2.out, rfl, by simp, Hl3.out, by simpa using Hhown3.out, HhR2.out⟩
              case measure => simp [intOf]; omega
        · obtain rfl : j = cnt S := by omega
          have hO : prunesV rs.length rs = none := by
            rw [← HR.out]
            obtain ⟨f, hf⟩ : ∃ f, cnt S = f + 1 := ⟨cnt S - 1, by have := cnt_zero (S := S) hS7 (by omega); omega⟩
            rw [hf]; exact pruneRun_none (by omega) (HFull.out HT.out)
          have HhO := Lib.hid hO
          clear hO
          obtain ⟨m', hm'⟩ := HW.out m
          have hFB := below_later HhB.out m'
          rw [hm'] at hFB
          clear hm' m'
          have HhFB := Lib.hid hFB
          clear hFB
          go_wp2_with fail
          go_ret2
          exact ⟨none, 0, by rw [HhO.out]; rfl, HhFB.out, by rw [HhO.out]; exact OwnP.nil _ _⟩
    · obtain rfl : S = 0 := by omega
      have d0 : (((0 : Nat) : Int) != 0) = false := rfl
      have hO2 : prunesV rs.length rs = some ps := by rw [← HR.out]; exact pruneRun_zero _ _ _
      have hOw := hO.mono (base' := w.heap.size) HhB.out.size
      have HhO2 := Lib.hid hO2
      clear hO2
      have HhOw := Lib.hid hOw
      clear hOw
      clear hO
      go_wp2_with fail
      go_ret2
      exact ⟨ao, cap, by rw [HhO2.out]; rfl, below_later HhB.out m, by rw [HhO2.out]; exact HhOw.out⟩

theorem implHered_any (n : Int) (rs : List Int) (ro : Option Addr) (rc : Nat) (w : World) (hr : IntsAt w ro rs) (hrl : rs.length ≤ 1048576) :
    Calls Tryz.prog 11 #[.agg #[.int .i64 n, .slice ro rs.length rc]] w fun e w' => e = .returned (.bool (prunesV n rs).isSome) ∧ Below w.heap.size w w' := by
  go_enter Tryz.func11, Tryz.ntmps11
  go_wp2_with fail
  generalize hW : w.alloc _ = W1
  obtain ⟨hB, -, k0⟩ := alloc1 hW
  replace hr := hr.below hB
  have hb0 := k0.lt
  have hc0 := k0.cell 0
  have hc1 := k0.cell 1
  simp at hc0 hc1
  clear hW k0
  have HhB := Lib.hid hB
  clear hB
  refine (implPrunes_any n rs ro rc W1 hr hrl).mono ?_
  rintro e w2 ⟨ao, cap, rfl, hB2, -⟩
  have hBB := below_more' HhB.out hB2
  clear hB2
  have HhBB := Lib.hid hBB
  clear hBB
  go_wp2_with fail
  go_ret
  exact ⟨rfl, HhBB.out⟩

/-- The same, the list and the Bool apart. -/
def RetPr (w : World) (R : List Prn) (ok : Bool) (e : Ending) (w' : World) : Prop :=
  ∃ ao cap, e = .returned (.tuple #[.slice ao R.length cap, .bool ok]) ∧ Below w.heap.size w w' ∧ OwnP w' w.heap.size ao cap R
theorem specPrunes_ret (n : Int) (rs : List Int) (ro : Option Addr) (rc : Nat) (w : World) (hr : IntsAt w ro rs) (hrl : rs.length ≤ 1048576) :
    Calls Tryz.prog 8 #[.agg #[.int .i64 n, .slice ro rs.length rc]] w (RetPr w ((prunesV n rs).getD []) (prunesV n rs).isSome) := specPrunes_any n rs ro rc w hr hrl
theorem implPrunes_ret (n : Int) (rs : List Int) (ro : Option Addr) (rc : Nat) (w : World) (hr : IntsAt w ro rs) (hrl : rs.length ≤ 1048576) :
    Calls Tryz.prog 7 #[.agg #[.int .i64 n, .slice ro rs.length rc]] w (RetPr w ((prunesV n rs).getD []) (prunesV n rs).isSome) := implPrunes_any n rs ro rc w hr hrl
theorem prunesV_len (n : Int) (rs : List Int) : ((prunesV n rs).getD []).length ≤ 1048576 := by
  cases hv : isGraphB n rs
  · rw [prunesV_no hv]; simp
  · obtain ⟨rfl, g⟩ := VG.of hv
    have h7 := g.le
    rw [prunesV_of hv]
    cases h : pruneRun rs rs.length (2 ^ rs.length - 1) [] with
    | none => simp
    | some qs =>
      have := pruneRun_len _ _ _ _ h
      simp at this ⊢; omega

end Go.Proofs.YtjikmjhpmkakoaaGreatDoor

namespace Go.Proofs.YtjikmjhpmkakoaaGreatDoor
open Go.RowKit



/-- Block g begins with the integers xs, nothing frozen. -/
def RowW (T : TypeId) (w : World) (g : Nat) (xs : List Int) : Prop := ∃ cur, Blk w g cur T ∧ cur.toList.take xs.length = xs.map (Value.int .i64)
theorem RowW.cell {T : TypeId} {w : World} {g : Nat} {xs : List Int} (h : RowW T w g xs) (k : Nat) (hk : k < xs.length) : w.cell? ⟨g, k, none⟩ = some (.int .i64 (gi xs k)) := by
  obtain ⟨cur, hb, ht⟩ := h
  rw [hb.cell]
  have e : (cur.toList.take xs.length)[k]? = (xs.map (Value.int .i64))[k]? := by rw [ht]
  rw [List.getElem?_take, if_pos hk, Array.getElem?_toList] at e
  rw [e]; simp [gi, hk]
theorem RowW.frozen {T : TypeId} {w : World} {g : Nat} {xs : List Int} (h : RowW T w g xs) (k : Nat) : w.frozen? ⟨g, k, none⟩ = false := by obtain ⟨cur, hb, _⟩ := h; exact hb.frozen k
theorem RowW.lt {T : TypeId} {w : World} {g : Nat} {xs : List Int} (h : RowW T w g xs) : g < w.heap.size := by obtain ⟨cur, hb, _⟩ := h; exact hb.lt
theorem RowW.store {T : TypeId} {w : World} {g : Nat} {xs : List Int} (h : RowW T w g xs) (k : Nat) (x : Int) : RowW T (w.setCell ⟨g, k, none⟩ (.int .i64 x)) g (xs.set k x) := by
  obtain ⟨cur, hb, ht⟩ := h
  refine ⟨_, hb.store k _, ?_⟩
  rw [Array.toList_setIfInBounds, List.length_set, List.take_set, ht, List.map_set]
theorem RowW.below {T : TypeId} {w w' : World} {g : Nat} {xs : List Int} (h : RowW T w g xs) (hb : Below w.heap.size w w') : RowW T w' g xs := by
  obtain ⟨cur, h1, h2⟩ := h
  exact ⟨cur, h1.below hb h1.lt, h2⟩
theorem RowW.ints {T : TypeId} {w : World} {g : Nat} {xs : List Int} (h : RowW T w g xs) : IntsAt w (some ⟨g, 0, none⟩) xs := fun _ => ⟨g, 0, rfl, h.lt, fun k hk => by rw [Nat.zero_add]; exact h.cell k hk⟩
theorem OwnP.row {w : World} {base cap : Nat} {ao : Option Addr} {ps : List Prn} (h : OwnP w base ao cap ps) (h0 : 0 < ps.length) : ∃ g, ao = some ⟨g, 0, none⟩ ∧ base ≤ g ∧ RowW 36 w g (flatP ps) := by
  rcases h with ⟨hl, ⟨h1, h2⟩ | ⟨g, cp, cur, hv, hg, hb, hn, hm, hsz, ht⟩⟩ | ⟨rfl, -, -⟩
  · omega
  · simp only [Value.slice.injEq] at hv
    obtain ⟨rfl, -, -⟩ := hv
    exact ⟨g, rfl, hg, cur, hb, by rw [flatP_len]; exact ht⟩
  · simp at h0
theorem OwnP.later {W : World} {base cap : Nat} {ao : Option Addr} {ps : List Prn} (h : OwnP W base ao cap ps) (m : Later W) : OwnP m.w base ao cap ps := h.below m.below
theorem OwnP.mono' {w : World} {base base' cap : Nat} {ao : Option Addr} {ps : List Prn} (h : OwnP w base ao cap ps) (hb : base' ≤ base) : OwnP w base' ao cap ps := h.mono hb
theorem OwnP.xr {w : World} {base cap b : Nat} {ao : Option Addr} {ps : List Prn} (h : OwnP w base ao cap ps) (hb : XR ao (flatP ps) b) : base ≤ b ∧ b < w.heap.size := by
  obtain ⟨h0, off, e⟩ := hb
  obtain ⟨g, e2, hg, hR⟩ := h.row (by rw [flatP_len] at h0; omega)
  rw [e2] at e
  simp only [Option.some.injEq, Addr.mk.injEq] at e
  obtain ⟨rfl, -⟩ := e
  exact ⟨hg, hR.lt⟩
theorem OwnP.onlyX {w w' : World} {base cap : Nat} {ao : Option Addr} {ps : List Prn} {X : Nat → Prop} (h : OwnP w base ao cap ps) (k : Only X w.heap.size w w') (hX : ∀ b, X b → b < base) : OwnP w' base ao cap ps := by
  rcases h with ⟨hl, h1 | ⟨g, cp, cur, hv, hg, hb, hr⟩⟩ | h
  · exact .inl ⟨hl, .inl h1⟩
  · exact .inl ⟨hl, .inr ⟨g, cp, cur, hv, hg, by rw [k.block g (Array.getElem?_eq_some_iff.1 hb).1 (fun e => by have := hX g e; omega)]; exact hb, hr⟩⟩
  · exact .inr h




end Go.Proofs.YtjikmjhpmkakoaaGreatDoor
