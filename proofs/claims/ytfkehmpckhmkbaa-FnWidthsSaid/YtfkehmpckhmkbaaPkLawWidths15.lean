/-
  LaterNeighbours of the reference and of the program, SetOf of the program. For at most 2^20 rows and list elements; the order is right and the vertex is in it.
  A law of regions that draw their order: an operation that only reads may be taken first if the operations that write what it reads wait for it. No conditions.
-/
import Derived.Test.YtfkehmpckhmkbaaPkLawWidths14
import Derived.Test.YtfkehmpckhmkbaaPkLawWidths06
import Derived.Test.YtfkehmpckhmkbaaPkLawWidths01
import Derived.Deep.RegionHeld3
import Derived.StillTail
namespace Go.Proofs.Ytfkehmpckhmkbaa
open Go.RowKit

/-- What stands from place i on. -/
def behindN (rs l : List Int) (i : Nat) : Nat := nDiff (2 ^ rs.length - 1) (setTo l i)
def laterN (rs l : List Int) (i : Nat) : Nat := gn rs (gi l i).toNat &&& behindN rs l i
theorem behind_lt (rs l : List Int) (i : Nat) : behindN rs l i < 2 ^ rs.length := nDiff_lt (by have := Nat.two_pow_pos rs.length; omega)
theorem later_lt (rs l : List Int) (i : Nat) : laterN rs l i < 2 ^ rs.length := Nat.lt_of_le_of_lt Nat.and_le_right (behind_lt rs l i)
theorem setTo_sub {n : Int} {rs l : List Int} (h : vertsB n rs l = true) {k : Nat} (hk : k ≤ l.length) : subN (setTo l k) (2 ^ rs.length - 1) := fun i hi => by
  rw [Nat.testBit_two_pow_sub_one]
  exact decide_eq_true (testBit_lt (setTo_lt h k hk) hi)
theorem behind_minus {n : Int} {rs l : List Int} (h : vertsB n rs l = true) (h7 : rs.length ≤ 7) {k : Nat} (hk : k ≤ l.length) : behindN rs l k = 2 ^ rs.length - 1 - setTo l k :=
  nDiff_minus (by have := Nat.pow_le_pow_right (n := 2) (by decide) h7; have := Nat.two_pow_pos rs.length; omega) (setTo_sub h hk)
theorem setTo_bit {n : Int} {rs l : List Int} (h : vertsB n rs l = true) {k v : Nat} (hk : k ≤ l.length) : (setTo l k).testBit v = true ↔ ∃ j, j < k ∧ gi l j = (v : Int) := by
  have hs := h
  unfold vertsB at hs
  simp only [Bool.and_eq_true] at hs
  have hd : ∀ j, j < l.length → diffAt l j = true := by have := hs.2.1; unfold setOk at this; simpa using this
  rw [(setTo_bits (k := k) (fun j hj => hd j (by omega))).2 v]
  constructor
  · rintro ⟨j, hj, e⟩
    obtain ⟨u, hu, -⟩ := vert_at h (j := j) (by omega)
    exact ⟨j, hj, by rw [hu] at e ⊢; simp at e; rw [e]⟩
  · rintro ⟨j, hj, e⟩
    exact ⟨j, hj, by rw [e]; simp⟩

set_option maxRecDepth 100000 in
set_option maxHeartbeats 1000000 in
theorem specLater_any (rs l : List Int) (i : Nat) (ro lo : Option Addr) (rc lc : Nat) (w : World) (ho : orderB rs.length rs l = true) (hi : i < l.length) (hr : IntsAt w ro rs) (hl : IntsAt w lo l) :
    Calls Try.prog 54 #[.agg #[.int .i64 rs.length, .slice ro rs.length rc], .slice lo l.length lc, .int .i64 (gi l i)] w fun e w' => e = .returned (.int .i64 (laterN rs l i)) ∧ Below w.heap.size w w' := by
  obtain ⟨hv, -, g, hlen⟩ := orderB_true ho
  have hN7 := g.le
  have hp := g.pow
  obtain ⟨u, hu, hul⟩ := vert_at hv hi
  have hrl : rs.length ≤ 1048576 := by omega
  have hll : l.length ≤ 1048576 := by omega
  have HL : Hid (laterN rs l i = gn rs u &&& (2 ^ rs.length - 1 - setTo l i)) := Lib.hid (by unfold laterN; rw [behind_minus hv hN7 (by omega), hu]; rfl)
  obtain ⟨lb, lofs, rfl, hlb, hlc⟩ := hl (by omega)
  obtain ⟨rb, rofs, rfl, hrb, hrc⟩ := hr.graph g
  have HV := Lib.hid hv
  rw [hu]
  have HU := Lib.hid hu
  clear hu hv
  have Hhlen := Lib.hid hlen
  clear hlen
  go_enter Try.func54, Try.ntmps54
  go_wp2_with fail
  generalize hW : w.alloc _ = W1
  obtain ⟨hB, -, k0⟩ := alloc1 hW
  have hO := fun m : Later W1 => specIsOrder_any rs.length rs l _ _ rc lc m.w ((hr.below hB).later m) hrl ((hl.below hB).later m) hll
  rw [ho] at hO
  have hlc' : ∀ k, k < l.length → W1.cell? ⟨lb, lofs + k, none⟩ = some (.int .i64 (gi l k)) := fun k hk => (hB.cell (p := ⟨lb, lofs + k, none⟩) hlb).trans (hlc k hk)
  have hrc' := (hB.cell (p := ⟨rb, rofs + u, none⟩) hrb).trans (hrc u hul)
  have hb0 := k0.lt
  have hc0 := k0.cell 0
  have hc1 := k0.cell 1
  simp at hc0 hc1
  have hlb1 := Nat.lt_of_lt_of_le hlb hB.size
  have hrb1 := Nat.lt_of_lt_of_le hrb hB.size
  clear hr hl hlb hrb hlc hrc k0 hW
  have HhB := Lib.hid hB
  clear hB
  have Hhlc' := Lib.hid hlc'
  clear hlc'
  obtain ⟨m, hm0⟩ : ∃ m : Later W1, m.w = W1 := ⟨Later.refl _, rfl⟩
  refine (fun h => hm0 ▸ h) ?_
  clear hm0
  obtain ⟨hq1, hq2⟩ := pwN_pos rs.length hN7
  have HQ : Hid (pwN rs.length - 1 = ((2 ^ rs.length - 1 - setTo l 0 : Nat) : Int)) := Lib.hid (by rw [all_small hN7]; rfl)
  have d1 : decide ((u : Int) < 0) = false := decide_eq_false (by omega)
  have d2 : decide (rs.length ≤ u) = false := decide_eq_false (by omega)
  go_wp2_with (first | (go_at_call 52; refine (Calls.later m (hO _)).mono ?_; rintro e w' ⟨rfl, m, rfl⟩))
  clear hO d1 d2
  go_loopw [7, 8] (fun a j wr => (∃ m : Later W1, wr = m.w) ∧ ∃ k : Nat, k ≤ i ∧ j = .int .i64 k ∧ a = .int .i64 (2 ^ rs.length - 1 - setTo l k : Nat)) (fun _ j _ => i - (intOf j).toNat)
  case atStart => exact ⟨⟨m, rfl⟩, 0, by omega, rfl, by rw [HQ.out]⟩
  case round =>
    obtain ⟨⟨m, rfl⟩, k, hk, rfl, rfl⟩ := hrel
    have hkl : k < l.length := by omega
    have hck := Hhlc'.out k hkl
    have hs := setTo_lt HV.out k (by omega)
    by_cases hlt : k < i
    · obtain ⟨v, hv, hvl, h1, -⟩ := vert_new HV.out hkl
      have hs2 := setTo_lt HV.out (k + 1) (by omega)
      have hne : ¬ v = u := fun e => by
        have := order_inj HV.out hkl hi (by rw [hv, HU.out, e])
        omega
      have hp : pwN v = ((2 ^ v : Nat) : Int) := pwN_small v (by omega)
      have HN : Hid (((2 ^ rs.length - 1 - setTo l k : Nat) : Int) - ((2 ^ v : Nat) : Int) = ((2 ^ rs.length - 1 - setTo l (k + 1) : Nat) : Int)) := Lib.hid (by omega)
      have d3 : ((v : Int) != (u : Int)) = true := by rw [bne_iff_ne]; omega
      have hpv := Nat.two_pow_pos v
      have hpb : 2 ^ v ≤ 2 ^ rs.length - 1 - setTo l k := by omega
      have hA7 : 2 ^ rs.length - 1 - setTo l k ≤ 127 := by omega
      rw [hv] at hck
      generalize 2 ^ rs.length - 1 - setTo l k = A at *
      generalize 2 ^ v = C at *
      clear hs hs2 h1 hv
      go_wp2_with fail
      go_roundw
      case rel => exact ⟨⟨m, rfl⟩, k + 1, by omega, by go_num, by rw [HN.out]⟩
      case measure => simp [intOf]; omega
    · obtain rfl : k = i := by omega
      rw [HU.out] at hck
      have d3 : ((u : Int) != (u : Int)) = false := by simp
      have HA : Hid (bits .and .i64 (gn rs u : Int) ((2 ^ rs.length - 1 - setTo l k : Nat) : Int) = (laterN rs l k : Int)) := Lib.hid (by
        have := g.lt128 hul
        rw [HL.out, bits_and_nat _ _ (by omega) (by omega)])
      clear hs
      generalize 2 ^ rs.length - 1 - setTo l k = A at *
      go_wp2_with fail
      go_ret
      exact ⟨retI HA.out, below_later HhB.out m⟩

theorem IntsAt.drop {w : World} {b off : Nat} {xs : List Int} (h : IntsAt w (some ⟨b, off, none⟩) xs) (i : Nat) : IntsAt w (some ⟨b, off + i, none⟩) (xs.drop i) := fun h0 => by
  rw [List.length_drop] at h0
  obtain ⟨b2, off2, e, h1, h2⟩ := h (by omega)
  simp only [Option.some.injEq, Addr.mk.injEq] at e
  obtain ⟨rfl, rfl, -⟩ := e
  refine ⟨b, off + i, rfl, h1, fun k hk => ?_⟩
  rw [List.length_drop] at hk
  have := h2 (i + k) (by omega)
  rw [Nat.add_assoc, this]
  simp [gi, show k < xs.length - i by omega, show i + k < xs.length by omega]

set_option maxHeartbeats 1000000 in
theorem implSetOf_any (l : List Int) (ao : Option Addr) (n c : Nat) (hn : l.length = n) (w : World) (hl : IntsAt w ao l) (hll : n ≤ 1048576) :
    Calls Try.prog 81 #[.slice ao n c] w fun e w' => e = .returned (.tuple #[.int .i64 (setV l), .bool (setOk l)]) ∧ Below w.heap.size w w' := by
  subst hn
  go_enter Try.func81, Try.ntmps81
  go_wp2_with fail
  go_loopw [4, 9] (fun o i wr => (∃ m : Later w, wr = m.w) ∧ ∃ k : Nat, k ≤ l.length ∧ o = .int .i64 (setTo l k) ∧ i = .int .i64 k ∧ ∀ j, j < k → diffAt l j = true) (fun _ i _ => l.length - (intOf i).toNat)
  case atStart => exact ⟨⟨Later.refl _, rfl⟩, 0, by omega, rfl, rfl, fun j h => by omega⟩
  case round =>
    obtain ⟨⟨m, rfl⟩, k, hk, rfl, rfl, hP⟩ := hrel
    have HhP := Lib.hid hP
    clear hP
    have hs7 := (setTo_bits HhP.out).1
    by_cases hlt : k < l.length
    · obtain ⟨b, off, rfl, hb, hc⟩ := hl (by omega)
      have HQ : Hid (diffAt l k = ((decide (0 ≤ gi l k) && decide (gi l k ≤ 6)) && !(setTo l k).testBit (gi l k).toNat)) := rfl
      cases h1 : (decide (0 ≤ gi l k) && decide (gi l k ≤ 6))
      · have HE := Lib.hid (setOk_bad hlt (by rw [HQ.out, h1]; rfl))
        go_wp2_with (first | (go_at_call 80; refine (within_any _ _ _ _).mono ?_; rintro e w' ⟨rfl, rfl⟩))
        go_ret2
        exact ⟨retIB (by rw [setV_bad HE.out]) (by rw [HE.out]), m.below⟩
      · have h1' := h1
        simp only [Bool.and_eq_true, decide_eq_true_eq] at h1'
        obtain ⟨h2, h3⟩ := h1'
        obtain ⟨v, hv⟩ := Int.eq_ofNat_of_zero_le h2
        have HV := Lib.hid hv
        have hcv := hc k hlt
        rw [hv] at hcv
        rw [hv] at h1
        have hv6 : v ≤ 6 := by omega
        have hp2 : 2 ^ v ≤ 2 ^ 6 := Nat.pow_le_pow_right (by decide) (by omega)
        have HS : Hid ((setTo l k).testBit v = false → bits .or .i64 (setTo l k : Int) (pwN v) = (setTo l (k + 1) : Int)) := Lib.hid fun hh => by
          rw [pwN_small v (by omega), bits_or_nat _ _ (by omega) (by omega)]
          show _ = ((setTo l k + 2 ^ (gi l k).toNat : Nat) : Int)
          rw [hv, Int.toNat_natCast, add_disj (by omega) (by omega)]
          apply Nat.eq_of_testBit_eq; intro i
          rw [Nat.testBit_and, Nat.testBit_two_pow, Nat.zero_testBit]
          by_cases e : v = i
          · subst e; rw [hh]; rfl
          · simp [e]
        clear hv hc h2 h3
        have hH := fun w : World => has_any (setTo l k : Int) (v : Int) (by omega) (by omega) w
        simp only [Int.toNat_natCast, hasN_nat] at hH
        generalize hS : setTo l k = S at *
        have HhS := Lib.hid hS
        clear hS
        cases hh : S.testBit v
        all_goals
          rw [hh] at hH
          go_wp2_with (first | (go_at_call 80; refine (within_any _ _ _ _).mono ?_; rintro e w' ⟨rfl, rfl⟩) | (go_at_call 71; refine (hH _).mono ?_; rintro e w' ⟨rfl, rfl⟩))
        · go_roundw
          case rel =>
            refine ⟨⟨m, rfl⟩, k + 1, by omega, by rw [← HS.out hh], by go_num, all_succ HhP.out ?_⟩
            rw [HQ.out, HV.out, Int.toNat_natCast, hh, h1]; rfl
          case measure => simp [intOf]; omega
        · go_ret2
          have HE := setOk_bad hlt (by rw [HQ.out, HV.out, Int.toNat_natCast, hh]; simp)
          exact ⟨retIB (by rw [setV_bad HE]) (by rw [HE]), m.below⟩
    · have HE := Lib.hid (setOk_all (l := l) (fun j h => HhP.out j (by omega)))
      go_wp2_with fail
      go_ret2
      obtain rfl : k = l.length := by omega
      exact ⟨retIB (by rw [setV_all HE.out]) (by rw [HE.out]), m.below⟩

theorem gi_drop {l : List Int} {i j : Nat} (h : i + j < l.length) : gi (l.drop i) j = gi l (i + j) := by
  simp [gi, h, show j < l.length - i by omega]
theorem behind_bit {n : Int} {rs l : List Int} (h : vertsB n rs l = true) {i v : Nat} (hi : i ≤ l.length) : (behindN rs l i).testBit v = true ↔ v < rs.length ∧ ¬∃ j, j < i ∧ gi l j = (v : Int) := by
  unfold behindN
  rw [nDiff_bit, Nat.testBit_two_pow_sub_one, decide_eq_true_eq, ← setTo_bit h hi, Bool.eq_false_iff]
theorem drop_set {rs l : List Int} (h : orderB rs.length rs l = true) {i : Nat} (hi : i < l.length) : setOk (l.drop i) = true ∧ setV (l.drop i) = (behindN rs l i : Int) := by
  obtain ⟨hv, -, g, hlen⟩ := orderB_true h
  have hvd : vertsB rs.length rs (l.drop i) = true := by
    obtain ⟨h1, h2⟩ := vertsB_true.1 hv
    refine vertsB_true.2 ⟨h1, fun j hj => ?_⟩
    rw [List.length_drop] at hj
    rw [gi_drop (by omega)]
    refine ⟨(h2 (i + j) (by omega)).1, fun k hk => ?_⟩
    rw [gi_drop (by omega)]
    exact (h2 (i + j) (by omega)).2 (i + k) (by omega)
  have hs : setOk (l.drop i) = true := by
    unfold vertsB at hvd
    simp only [Bool.and_eq_true] at hvd
    exact hvd.2.1
  refine ⟨hs, ?_⟩
  rw [setV_all hs]
  congr 1
  apply Nat.eq_of_testBit_eq
  intro v
  rw [Bool.eq_iff_iff, setTo_bit hvd (Nat.le_refl _), behind_bit hv (by omega), List.length_drop]
  constructor
  · rintro ⟨j, hj, e⟩
    rw [gi_drop (by omega)] at e
    obtain ⟨u, hu, hul⟩ := vert_at hv (j := i + j) (by omega)
    refine ⟨by omega, ?_⟩
    rintro ⟨k, hk, e2⟩
    have := order_inj hv (i := k) (j := i + j) (by omega) (by omega) (by rw [e, e2])
    omega
  · rintro ⟨hvl, hno⟩
    obtain ⟨k, hk, e⟩ := order_place h hvl
    have : i ≤ k := by
      rcases Nat.lt_or_ge k i with hki | hki
      · exact absurd ⟨k, hki, e⟩ hno
      · exact hki
    exact ⟨k - i, by omega, by rw [gi_drop (by omega), show i + (k - i) = k by omega]; exact e⟩

set_option maxRecDepth 100000 in
set_option maxHeartbeats 1000000 in
theorem implLater_any (rs l : List Int) (i : Nat) (ro lo : Option Addr) (rc lc : Nat) (w : World) (ho : orderB rs.length rs l = true) (hi : i < l.length) (hr : IntsAt w ro rs) (hl : IntsAt w lo l) (hcap : l.length ≤ lc) :
    Calls Try.prog 51 #[.agg #[.int .i64 rs.length, .slice ro rs.length rc], .slice lo l.length lc, .int .i64 (gi l i)] w fun e w' => e = .returned (.int .i64 (laterN rs l i)) ∧ Below w.heap.size w w' := by
  obtain ⟨hv, -, g, hlen⟩ := orderB_true ho
  have hN7 := g.le
  have hp := g.pow
  obtain ⟨u, hu, hul⟩ := vert_at hv hi
  have hrl : rs.length ≤ 1048576 := by omega
  have hll : l.length ≤ 1048576 := by omega
  have hI := idx_at hv hi
  obtain ⟨hs1, hs2⟩ := drop_set ho hi
  have hbl := behind_lt rs l i
  have hgl := g.lt128 hul
  have HA : Hid (bits .and .i64 (gn rs u : Int) (behindN rs l i : Int) = (laterN rs l i : Int)) := Lib.hid (by
    rw [bits_and_nat _ _ (by omega) (by omega)]; unfold laterN; rw [hu]; rfl)
  generalize hz : behindN rs l i = Z at *
  clear hz
  obtain ⟨lb, lofs, rfl, hlb, -⟩ := hl (by omega)
  obtain ⟨rb, rofs, rfl, hrb, hrc⟩ := hr.graph g
  have hlenD : (l.drop i).length = l.length - i := List.length_drop ..
  have Hhlen := Lib.hid hlen
  clear hlen
  have HhlenD := Lib.hid hlenD
  clear hlenD
  go_enter Try.func51, Try.ntmps51
  go_wp2_with fail
  generalize hW : w.alloc _ = W1
  obtain ⟨hB, -, k0⟩ := alloc1 hW
  replace hr := hr.below hB
  replace hl := hl.below hB
  have hO := fun m : Later W1 => implIsOrder_any rs.length rs l _ _ rc lc m.w (hr.later m) hrl (hl.later m) hll hcap
  have hX := fun m : Later W1 => index_any l (gi l i) _ l.length lc m.w (hl.later m) rfl hll
  have hS := fun m : Later W1 => implSetOf_any (l.drop i) (some ⟨lb, lofs + i, none⟩) (l.length - i) (lc - i) HhlenD.out m.w (((hl.later m)).drop i) (by omega)
  rw [hs1, hs2] at hS
  rw [ho] at hO
  rw [hI] at hX
  rw [hu] at hX
  rw [hu]
  have hrc' := (hB.cell (p := ⟨rb, rofs + u, none⟩) hrb).trans (hrc u hul)
  have hb0 := k0.lt
  have hc0 := k0.cell 0
  have hc1 := k0.cell 1
  simp at hc0 hc1
  have hrb1 := Nat.lt_of_lt_of_le hrb hB.size
  clear hr hl hlb hrb hrc k0 hW hI hs1 hs2 hu hv
  have HhB := Lib.hid hB
  clear hB
  obtain ⟨m, hm0⟩ : ∃ m : Later W1, m.w = W1 := ⟨Later.refl _, rfl⟩
  refine (fun h => hm0 ▸ h) ?_
  clear hm0
  have d1 : (decide ((0 : Int) ≤ (u : Int)) && decide ((u : Int) ≤ (rs.length : Int) - 1)) = true := by rw [decide_eq_true (by omega), decide_eq_true (by omega)]; rfl
  have hWi := fun w : World => within_any (u : Int) 0 ((rs.length : Int) - 1) w
  rw [d1] at hWi
  clear d1
  go_wp2_with (first | (go_at_call 39; refine (Calls.later m (hO _)).mono ?_; rintro e w' ⟨rfl, m, rfl⟩) | (go_at_call 80; refine (hWi _).mono ?_; rintro e w' ⟨rfl, rfl⟩) | (go_at_call 41; refine (Calls.later m (hX _)).mono ?_; rintro e w' ⟨rfl, m, rfl⟩) | (go_at_call 81; refine (Calls.later m (hS _)).mono ?_; rintro e w' ⟨rfl, m, rfl⟩))
  go_ret
  exact ⟨retI HA.out, below_later HhB.out m⟩

end Go.Proofs.Ytfkehmpckhmkbaa

namespace Go.Proofs.Ytfkehmpckhmkbaa
open Go.RowKit

section
variable {P : Program} {ops : Array Oper} {Q : Exit → Act → World → Prop} {md : Region.Mode} {T S : World → Prop} {B : List Nat}

/-- None of B has come up. -/
def cleanB (B : List Nat) (L : Array Bool) : Bool := B.all fun b => !L.getD b false
/-- The world meets T, and S as long as none of B has come up. -/
def meetB (T S : World → Prop) (B : List Nat) (L : Array Bool) (w : World) : Prop := T w ∧ (cleanB B L = true → S w)
theorem meetB.late {L : Array Bool} {w : World} (hT : T w) (h : cleanB B L = false) : meetB T S B L w := ⟨hT, fun e => by rw [h] at e; cases e⟩
theorem meetB.both {L : Array Bool} {w : World} (hT : T w) (hS : S w) : meetB T S B L w := ⟨hT, fun _ => hS⟩
theorem cleanB_back {i : Nat} {L : Array Bool} (h : cleanB B (L.setIfInBounds i true) = true) : cleanB B L = true := by
  unfold cleanB at *
  rw [List.all_eq_true] at *
  intro b hb
  have h1 := h b hb
  cases e : L.getD b false
  · rfl
  · rw [getD_set_true e] at h1; cases h1
theorem cleanB_more {i : Nat} {L : Array Bool} (hi : i ∉ B) (h : cleanB B L = true) : cleanB B (L.setIfInBounds i true) = true := by
  unfold cleanB at *
  rw [List.all_eq_true] at *
  intro b hb
  rw [getD_set_ne false (fun e => hi (by rw [e]; exact hb))]
  exact h b hb

def wpAnyB (P : Program) (md : Region.Mode) (ops : Array Oper) (Q : Exit → Act → World → Prop) (T S : World → Prop) (B : List Nat) : Nat → Array Bool → Act → World → Prop
  | 0, L, a, w => Region.ready md ops L = [] ∧ Q .normal a w
  | f + 1, L, a, w => (Region.ready md ops L = [] → Q .normal a w) ∧
    ∀ i ∈ Region.ready md ops L, wpOp P ops Q i (fun a' w' => meetB T S B (L.setIfInBounds i true) w' ∧ wpAnyB P md ops Q T S B f (L.setIfInBounds i true) a' w') a w
theorem wpAny_of_B : ∀ (f : Nat) (L : Array Bool) (a : Act) (w : World), wpAnyB P md ops Q T S B f L a w → wpAny P md ops Q f L a w
  | 0, _, _, _, h => h
  | f + 1, _, _, _, h => ⟨h.1, fun i hi => wpOp_mono (fun _ _ h' => wpAny_of_B f _ _ _ h'.2) (h.2 i hi)⟩

theorem wpAnyB_first {i : Nat} {oi : Oper} {v : Value} (late : Bool) (hi : ops[i]? = some oi) (hsel : ∀ (j : Nat) (o : Oper) cs b, ops[j]? = some o → o.op ≠ .select cs b)
    (hQ : ∀ c a w, Q (.panic c) (a.put oi.dst v) w → Q (.panic c) a w) (hiB : i ∉ B) (hB : late = true → ∀ j ∈ B, Region.waitsFor md ops j i = true) :
    ∀ (f : Nat) (L : Array Bool) (a : Act) (w : World),
      (∀ j oj, ops[j]? = some oj → j ≠ i → L.getD j true = false → (∀ e ∈ oj.after, Region.binds md e = true → e.on ≠ i) → oi.apart ops oj = true) →
      i ∈ Region.ready md ops L → (late = true → cleanB B L = true) → YieldsIf P ops (fun w => T w ∧ (late = true → S w)) oi v a → meetB T S B L w →
      wpAnyB P md ops Q T S B f (L.setIfInBounds i true) (a.put oi.dst v) w → wpAnyB P md ops Q T S B (f + 1) L a w := by
  have self : ∀ {L : Array Bool} {w : World}, (late = true → cleanB B L = true) → meetB T S B L w → (T w ∧ (late = true → S w)) ∧ meetB T S B (L.setIfInBounds i true) w := fun hc hm =>
    ⟨⟨hm.1, fun hl => hm.2 (hc hl)⟩, hm.1, fun h => hm.2 (cleanB_back h)⟩
  intro f
  induction f with
  | zero =>
    intro L a w _ hr hc hy hm H
    refine ⟨fun h => absurd hr (by rw [h]; simp), fun j hj => ?_⟩
    by_cases e : j = i
    · rw [e]; exact hy.wpOp hi (self hc hm).1 ⟨(self hc hm).2, H⟩
    · have h1 := ready_mono hj e
      rw [H.1] at h1; cases h1
  | succ f ih =>
    intro L a w hfree hr hc hy hm H
    refine ⟨fun h => absurd hr (by rw [h]; simp), fun j hj => ?_⟩
    by_cases e : j = i
    · rw [e]; exact hy.wpOp hi (self hc hm).1 ⟨(self hc hm).2, H⟩
    obtain ⟨hju, oj, hoj, hall⟩ := mem_ready.1 hj
    -- j comes up ahead of i: it does not wait for i
    have hno : ∀ x ∈ oj.after, Region.binds md x = true → x.on ≠ i := fun x hx hb he => by
      have h1 := hall x hx hb
      have h0 := (mem_ready.1 hr).1
      rw [he] at h1
      rcases Nat.lt_or_ge i L.size with hs | hs
      · simp [hs] at h0 h1; rw [h0] at h1; cases h1
      · simp [Array.getElem?_eq_none hs] at h1
    have hjB : late = true → j ∉ B := fun hl hm => by
      obtain ⟨o2, h2, x, hx, hb, he⟩ := Region.waitsFor_spec (hB hl j hm)
      obtain rfl : oj = o2 := Option.some.inj (hoj.symm.trans h2)
      exact hno x hx hb he
    have hstep := wpOp_putIf hoj (hfree j oj hoj e hju hno) (fun cs b => hsel i oi cs b hi) (fun cs b => hsel j oj cs b hoj) hQ hy (H.2 j (ready_mono hj e))
    have hfree' : ∀ k ok, ops[k]? = some ok → k ≠ i → (L.setIfInBounds j true).getD k true = false → (∀ x ∈ ok.after, Region.binds md x = true → x.on ≠ i) → oi.apart ops ok = true := fun k ok hk hki hun hn => by
      by_cases h : j = k
      · subst h; exact hfree j ok hk hki hju hn
      · rw [getD_set_ne true h] at hun; exact hfree k ok hk hki hun hn
    refine wpOp_mono (fun a' w' h3 => ?_) hstep
    have hm' : meetB T S B (L.setIfInBounds j true) w' := ⟨h3.2.1.1, fun h => h3.2.1.2 (by rw [Array.setIfInBounds_comm _ _ (fun x => e x.symm)]; exact cleanB_more hiB h)⟩
    refine ⟨hm', ih (L.setIfInBounds j true) a' w' hfree' (ready_mono hr (fun x => e x.symm)) (fun hl => cleanB_more (hjB hl) (hc hl)) h3.1 hm' ?_⟩
    rw [Array.setIfInBounds_comm _ _ e]
    exact h3.2.2

/-- Take number i first; late: it reads what B writes, B waits for it. -/
theorem wpAnyB_take {i : Nat} {oi : Oper} {v : Value} (late : Bool) {f : Nat} {L : Array Bool} {a : Act} {w : World} (hi : ops[i]? = some oi)
    (hs : Region.noSelect ops = true) (hf : Region.free md ops L i = true) (hr : (Region.ready md ops L).contains i = true) (hiB : B.contains i = false)
    (hB : (!late || (B.all (fun j => Region.waitsFor md ops j i) && cleanB B L)) = true)
    (hQ : ∀ c a w, Q (.panic c) (a.put oi.dst v) w → Q (.panic c) a w) (hy : YieldsIf P ops (fun w => T w ∧ (late = true → S w)) oi v a) (hm : meetB T S B L w)
    (h : meetB T S B (L.setIfInBounds i true) w → wpAnyB P md ops Q T S B f (L.setIfInBounds i true) (a.put oi.dst v) w) : wpAnyB P md ops Q T S B (f + 1) L a w := by
  have hl : late = true → (∀ j ∈ B, Region.waitsFor md ops j i = true) ∧ cleanB B L = true := fun e => by
    rw [e] at hB
    simpa [Bool.and_eq_true, List.all_eq_true] using hB
  exact wpAnyB_first late hi (Region.noSelect_spec hs) hQ (by simpa using hiB) (fun e => (hl e).1) f L a w (Region.free_spec hi hf) (by simpa using hr) (fun e => (hl e).2) hy hm (h ⟨hm.1, fun h => hm.2 (cleanB_back h)⟩)
theorem wpAnyB_all {rs : List Nat} {f : Nat} {L : Array Bool} {a : Act} {w : World} (hr : Region.ready md ops L = rs) (hne : rs ≠ [])
    (h : ∀ i ∈ rs, wpOp P ops Q i (fun a' w' => meetB T S B (L.setIfInBounds i true) w' ∧ wpAnyB P md ops Q T S B f (L.setIfInBounds i true) a' w') a w) : wpAnyB P md ops Q T S B (f + 1) L a w :=
  ⟨fun h0 => absurd (hr ▸ h0) hne, hr ▸ h⟩
/-- What running operation i leaves to be shown. -/
def RunsB (P : Program) (md : Region.Mode) (ops : Array Oper) (Q : Exit → Act → World → Prop) (T S : World → Prop) (B : List Nat) (f : Nat) (L : Array Bool) (a : Act) (w : World) (i : Nat) (o : Oper) : Prop :=
  ∀ K' : Act → World → Prop, Shut (∀ a w, meetB T S B (L.setIfInBounds i true) w → (meetB T S B (L.setIfInBounds i true) w → wpAnyB P md ops Q T S B f (L.setIfInBounds i true) a w) → K' a w) → if Region.wanted o (yielded ops a.tmps) = true then Oper.wp P o a w K' Q else K' (a.put o.dst undef) w
theorem RunsB.run {f : Nat} {L : Array Bool} {a : Act} {w : World} {i : Nat} {o : Oper} (ho : ops[i]? = some o) (h : RunsB P md ops Q T S B f L a w i o) :
    wpOp P ops Q i (fun a' w' => meetB T S B (L.setIfInBounds i true) w' ∧ wpAnyB P md ops Q T S B f (L.setIfInBounds i true) a' w') a w :=
  wpOp_step ho fun K' hK => h K' fun a w hS hW => hK a w ⟨hS, hW hS⟩
/-- One alone may come up. -/
theorem wpAnyB_one {i : Nat} {o : Oper} {f : Nat} {L : Array Bool} {a : Act} {w : World} (hr : Region.ready md ops L = [i]) (ho : ops[i]? = some o) (h : RunsB P md ops Q T S B f L a w i o) : wpAnyB P md ops Q T S B (f + 1) L a w :=
  wpAnyB_all hr (by simp) fun j hj => by rw [List.mem_singleton.1 hj]; exact h.run ho
/-- One of two. -/
theorem wpAnyB_two {i j : Nat} {o o2 : Oper} {f : Nat} {L : Array Bool} {a : Act} {w : World} (hr : Region.ready md ops L = [i, j]) (ho : ops[i]? = some o) (ho2 : ops[j]? = some o2) (h : RunsB P md ops Q T S B f L a w i o) (h2 : RunsB P md ops Q T S B f L a w j o2) :
    wpAnyB P md ops Q T S B (f + 1) L a w :=
  wpAnyB_all hr (by simp) fun k hk => by
    rcases List.mem_cons.1 hk with rfl | hk
    · exact h.run ho
    · rw [List.mem_singleton.1 hk]; exact h2.run ho2
theorem wpAnyB_done {L : Array Bool} {a : Act} {w : World} (hr : Region.ready md ops L = []) (h : Q .normal a w) : ∀ f, wpAnyB P md ops Q T S B f L a w
  | 0 => ⟨hr, h⟩
  | _ + 1 => ⟨fun _ => h, by rw [hr]; simp⟩
theorem wp_region_B {id : Nat} {a : Act} {w : World} (T S : World → Prop) (B : List Nat) (hm : P.follows .mixedOrders = true) (hT : T w.drew) (hS : S w.drew)
    (h : meetB T S B (Array.replicate ops.size false) w.drew → wpAnyB P .any ops Q T S B ops.size (Array.replicate ops.size false) a w.drew) : (Code.region id ops true).wp P Q a w :=
  wp_region_any hm (wpAny_of_B _ _ _ _ (h ⟨hT, fun _ => hS⟩))
end

end Go.Proofs.Ytfkehmpckhmkbaa
