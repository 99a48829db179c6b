/-
  The walks of l3Grow, PartsOf of the reference and of partOf, parts, PartsOf of the program. The graph is right, the set is one of it.
  Sums and differences of sets as numbers.
  CutVertices on both sides. For at most 2^20 rows.
  Graphs made out of a relation of their vertices; a graph with an edge more. No conditions.
-/
import Derived.Test.YtjikmjhpmkakoaaGreatDoorPkCardCographs04
import Derived.Test.YtjikmjhpmkakoaaGreatDoorPkCardCographs03
import Derived.Deep.RegionHeld3
namespace Go.Proofs.YtjikmjhpmkakoaaGreatDoor
open Go.RowKit

set_option maxHeartbeats 1000000 in
theorem l3Grow_any (rs : List Int) (X S : Nat) (ro : Option Addr) (rc : Nat) (w : World) (hr : IntsAt w ro rs) (hv : isGraphB rs.length rs = true) (hS : S < 2 ^ rs.length) (hX : subN X S) :
    Calls Tryz.prog 104 #[.agg #[.int .i64 rs.length, .slice ro rs.length rc], .int .i64 X, .int .i64 S] w fun e w' => e = .returned (.int .i64 (grow rs X S)) ∧ Below w.heap.size w w' := by
  have g := (VG.of hv).2
  have hg1 := g.pos
  have hg2 := g.le
  have hp := g.pow.1
  go_enter Tryz.func104, Tryz.ntmps104
  go_wp2_with fail
  generalize hW : w.alloc _ = W1
  obtain ⟨hB, -, k0⟩ := alloc1 hW
  replace hr := hr.below hB
  have hb0 := k0.lt
  have hc0 := k0.cell 0
  have hc1 := k0.cell 1
  simp at hc0 hc1
  clear hW k0
  have HhB := Lib.hid hB
  clear hB
  go_loopw [7, 8] (fun o i wr => (∃ m : Later W1, wr = m.w) ∧ ∃ k : Nat, k ≤ rs.length ∧ i = .int .i64 k ∧ o = .int .i64 (stepN rs S X k : Nat)) (fun _ i _ => rs.length - (intOf i).toNat)
  case atStart => exact ⟨⟨Later.refl _, rfl⟩, 0, by omega, rfl, rfl⟩
  case round =>
    obtain ⟨⟨m, rfl⟩, k, hk, rfl, rfl⟩ := hrel
    have hA : stepN rs S X k < 2 ^ rs.length := (stepN_sub hX k).lt hS
    by_cases hlt : k < rs.length
    · have hN : Hid (stepN rs S X (k + 1) = around rs (stepN rs S X k) &&& S) := rfl
      generalize stepN rs S X k = A at *
      have hq := around_lt g hA
      have ho := bits_and_nat (around rs A) S (by omega) (by omega)
      have hC := fun m : Later W1 => specAround_any rs A ro rc m.w (hr.later m) hv hA
      generalize around rs A = B at *
      go_wp2_with (first | (go_at_call 116; refine (Calls.later m (hC _)).mono ?_; rintro e w' ⟨rfl, m, rfl⟩))
      go_roundw
      case rel => exact ⟨⟨m, rfl⟩, k + 1, by omega, by go_num, by rw [hN.out]⟩
      case measure => simp [intOf]; omega
    · go_wp2_with fail
      go_ret
      obtain rfl : k = rs.length := by omega
      exact ⟨rfl, below_later HhB.out m⟩

theorem low_bit_fin : ∀ s : Fin 128, s.val ≠ 0 → bits .and .i64 (s.val : Int) (-(s.val : Int)) = ((2 ^ low s.val : Nat) : Int) := by decide +kernel
theorem low_bit {S : Nat} (hS : S < 128) (h0 : S ≠ 0) : bits .and .i64 (S : Int) (-(S : Int)) = ((2 ^ low S : Nat) : Int) := low_bit_fin ⟨S, hS⟩ h0

set_option maxHeartbeats 1000000 in
theorem partOf_any (rs : List Int) (X S : Nat) (ro : Option Addr) (rc : Nat) (w : World) (hr : IntsAt w ro rs) (hv : isGraphB rs.length rs = true) (hS : S < 2 ^ rs.length) (hX : subN X S) (h0 : 1 ≤ cnt X) :
    Calls Tryz.prog 102 #[.agg #[.int .i64 rs.length, .slice ro rs.length rc], .int .i64 S, .int .i64 X] w fun e w' => e = .returned (.int .i64 (grow rs X S)) ∧ Below w.heap.size w w' := by
  have g := (VG.of hv).2
  have hg1 := g.pos
  have hg2 := g.le
  have hp := g.pow.1
  go_enter Tryz.func102, Tryz.ntmps102
  go_wp2_with fail
  generalize hW : w.alloc _ = W1
  obtain ⟨hB, -, k0⟩ := alloc1 hW
  replace hr := hr.below hB
  have hb0 := k0.lt
  have hc0 := k0.cell 0
  have hc1 := k0.cell 1
  simp at hc0 hc1
  clear hW k0
  have HhB := Lib.hid hB
  clear hB
  go_loopw [2] (fun o wr => (∃ m : Later W1, wr = m.w) ∧ ∃ k : Nat, o = .int .i64 (stepN rs S X k : Nat)) (fun o _ => 128 - (intOf o).toNat)
  case atStart => exact ⟨⟨Later.refl _, rfl⟩, 0, rfl⟩
  case round =>
    obtain ⟨⟨m, rfl⟩, k, rfl⟩ := hrel
    have hA : stepN rs S X k < 2 ^ rs.length := (stepN_sub hX k).lt hS
    have hN : Hid (stepN rs S X (k + 1) = around rs (stepN rs S X k) &&& S) := rfl
    have hU : Hid (stepN rs S X k ≤ around rs (stepN rs S X k) &&& S) := Lib.hid (sub_step (by omega) (stepN_sub hX k)).le
    have hF : Hid (around rs (stepN rs S X k) &&& S = stepN rs S X k → stepN rs S X k = grow rs X S) := Lib.hid (grow_of_fix g hS hX h0)
    generalize stepN rs S X k = A at *
    have hq := around_lt g hA
    have hq2 := nbrs_lt g hA
    have h1 : bits .or .i64 (A : Int) (nbrs rs A : Int) = (around rs A : Int) := bits_or_nat _ _ (by omega) (by omega)
    have ho := bits_and_nat (around rs A) S (by omega) (by omega)
    have hC := fun m : Later W1 => implNeighbors_any rs A ro rc m.w (hr.later m) g hA
    have hB : around rs A &&& S < 128 := Nat.lt_of_le_of_lt Nat.and_le_right (by omega)
    generalize around rs A &&& S = B at *
    generalize around rs A = C at *
    generalize nbrs rs A = D at *
    by_cases he : B = A
    · have hb : ((B : Int) == A) = true := by rw [he]; simp
      have he' := Lib.hid he
      clear he
      go_wp2_with (first | (go_at_call 108; refine (Calls.later m (hC _)).mono ?_; rintro e w' ⟨rfl, m, rfl⟩))
      go_ret
      exact ⟨retI (by rw [hF.out he'.out]), below_later HhB.out m⟩
    · have hb : ((B : Int) == A) = false := by rw [beq_eq_false_iff_ne]; omega
      have hU' := hU.out
      go_wp2_with (first | (go_at_call 108; refine (Calls.later m (hC _)).mono ?_; rintro e w' ⟨rfl, m, rfl⟩))
      go_roundw
      case rel => exact ⟨⟨m, rfl⟩, k + 1, by rw [hN.out]⟩
      case measure => simp [intOf]; omega

def ints (l : List Nat) : List Int := l.map Int.ofNat
theorem ints_len (l : List Nat) : (ints l).length = l.length := by simp [ints]
theorem ints_snoc (l : List Nat) (v : Nat) : ints (l ++ [v]) = ints l ++ [(v : Int)] := by simp [ints]

/-- What a call says that hands back a list of its own. -/
def RetE (w : World) (xs : List Int) (e : Ending) (w' : World) : Prop := ∃ ao cap, e = .returned (.slice ao xs.length cap) ∧ Below w.heap.size w w' ∧ OwnE w' w.heap.size ao cap xs

set_option maxHeartbeats 1000000 in
theorem specParts_any (rs : List Int) (S : Nat) (ro : Option Addr) (rc : Nat) (w : World) (hr : IntsAt w ro rs) (hv : isGraphB rs.length rs = true) (hS : S < 2 ^ rs.length) :
    Calls Tryz.prog 53 #[.agg #[.int .i64 rs.length, .slice ro rs.length rc], .int .i64 S] w (RetE w (ints (partsOf rs S))) := by
  have g := (VG.of hv).2
  have hg1 := g.pos
  have hg2 := g.le
  have hp := g.pow.1
  have hs := isSetB_mk hv hS
  go_enter Tryz.func53, Tryz.ntmps53
  go_wp2_with fail
  generalize hW : (w.alloc _).alloc _ = W1
  obtain ⟨hB, hsz, k0, k1⟩ := alloc2 hW
  replace hr := hr.below hB
  have hb0 := k0.lt
  have hc0 := k0.cell 0
  have hc1 := k0.cell 1
  simp at hc0 hc1
  clear hW k0 k1
  have HhB := Lib.hid hB
  clear hB
  go_loopw [5, 6] (fun o i wr => ∃ m : Later W1, wr = m.w ∧ ∃ (done : List Nat) (left : Nat) (ao : Option Addr) (cap : Nat), PartsAt rs S done left ∧ i = .int .i64 left ∧ o = .slice ao (ints done).length cap ∧ OwnE m.w W1.heap.size ao cap (ints done)) (fun _ i _ => (intOf i).toNat)
  case atStart => exact ⟨Later.refl _, rfl, [], S, some ⟨w.heap.size + 1, 0, none⟩, 0, PartsAt.start rs S, rfl, rfl, OwnE.empty _ _ _⟩
  case round =>
    obtain ⟨m, rfl, done, left, ao, cap, hP, rfl, rfl, hO⟩ := hrel
    have hms := m.size
    have hll := hP.len
    rw [← ints_len] at hll
    by_cases h0 : left = 0
    · subst h0
      have hd := hP.done
      subst hd
      have HhP := Lib.hid hP
      clear hP
      have HhO := Lib.hid hO
      clear hO
      go_wp2_with fail
      go_ret
      exact ⟨ao, cap, rfl, below_later HhB.out m, HhO.out.mono' (by omega)⟩
    · have hl128 : left < 128 := by have := hP.shut.1.le; omega
      obtain ⟨l1, l2, l3⟩ := low_facts hl128 h0
      obtain ⟨n1, n2, n3, -⟩ := hP.next g hS h0
      have n4 := nDiff_minus hl128 n2
      have n5 := n2.le
      have hsl := pow_sub (hP.shut.1 _ l1)
      have hw : IntKind.i64.wrap ((left : Int) - ((grow rs (2 ^ low left) S : Nat) : Int)) = ((nDiff left (grow rs (2 ^ low left) S) : Nat) : Int) := by
        rw [n4, IntKind_i64_in _ (by omega) (by omega)]; omega
      have hG := fun (w : World) (h : IntsAt w ro rs) => l3Grow_any rs (2 ^ low left) S ro rc w h hv hS hsl
      have hpw := pwN_small (low left) (by omega)
      have hlt : nDiff left (grow rs (2 ^ low left) S) < left := by
        have h1 : 0 < grow rs (2 ^ low left) S := Nat.pos_of_ne_zero fun e => by rw [e] at n3; exact absurd n3 (by have : nDiff left 0 = left := by { unfold nDiff; simp }; rw [this]; omega)
        omega
      have hlow : Hid (eln (els left) 0 = low left) := rfl
      have HhP := Lib.hid hP
      clear hP
      have HhO := Lib.hid hO
      clear hO
      have Hn1 := Lib.hid n1
      clear n1
      have Hn4 := Lib.hid n4
      clear n4
      generalize grow rs (2 ^ low left) S = x at *
      generalize nDiff left x = left' at *
      generalize hV : 2 ^ low left = V at *
      have l4 : 0 < cnt left := l3
      go_wp2_with fail
      refine (specIsSet_any _ _ _ _ _ _ (hr.later m) (by omega)).mono ?_
      rintro e w2 ⟨rfl, hB2⟩
      replace HhO := Lib.hid (HhO.out.below hB2)
      obtain ⟨m, rfl⟩ : ∃ m2 : Later W1, m2.w = w2 := ⟨m.on hB2, rfl⟩
      clear hB2 hms
      rw [hs]
      go_wp2_with fail
      refine (specListN_any left hl128 _).mono ?_
      rintro e w2 ⟨lo, lc, rfl, hB2, hL⟩
      replace HhO := Lib.hid (HhO.out.below hB2)
      obtain ⟨m, rfl⟩ : ∃ m2 : Later W1, m2.w = w2 := ⟨m.on hB2, rfl⟩
      clear hB2
      obtain ⟨lb, lofs, rfl, hlb, hlc⟩ := hL l3
      have h00 := hlc 0 l3
      rw [hlow.out] at h00
      simp only [Nat.add_zero] at h00
      clear hlc hL
      have HW : ∀ m2 : Later m.w, ∃ m' : Later W1, m'.w = m2.w := fun m2 => ⟨m.on m2.below, rfl⟩
      have hms := m.size
      replace hr := hr.later m
      replace hc0 : m.w.cell? _ = _ := (m.cell _ _ hb0).trans hc0
      replace hc1 : m.w.cell? _ = _ := (m.cell _ _ hb0).trans hc1
      replace hb0 := Nat.lt_of_lt_of_le hb0 m.size
      replace HhB := Lib.hid (below_later HhB.out m)
      generalize m.w = W2 at *
      clear m
      obtain ⟨m, hm0⟩ : ∃ m : Later W2, m.w = W2 := ⟨Later.refl _, rfl⟩
      refine (fun h => hm0 ▸ h) ?_
      clear hm0
      go_wp2_with fail
      rw [hV] at *
      refine wp_region_later m rfl (by kernel_rfl) (by kernel_rfl) ?_
      repeat (go_big_quiet_step ((first | (go_at_call 104; exact Calls.later _ (hG _ (hr.later _))))))
      refine wpQuiet_nil ?_
      rintro _ ⟨m, rfl⟩
      have hbase : W1.heap.size ≤ m.w.heap.size := Nat.le_trans hms m.size
      go_wp2_with (first | (at_builtin; go_must (refine wpList_append_e rfl _ _ rfl W1.heap.size cap ao (ints done) (x : Int) rfl (HhO.out.later m) rfl hbase (by omega) ?_); intro ao2 cap2 w1 hown1 hB1))
      go_roundw
      case rel =>
        obtain ⟨m', hm'⟩ := HW m
        exact ⟨⟨w1, m'.below.trans (hm' ▸ hB1)⟩, rfl, done ++ [x], left', ao2, cap2, Hn1.out, rfl, by rw [ints_snoc]; simp, by rw [ints_snoc]; exact hown1⟩
      case measure => simp [intOf]; omega

set_option maxHeartbeats 1000000 in
theorem implParts_any (rs : List Int) (S : Nat) (ro : Option Addr) (rc : Nat) (w : World) (hr : IntsAt w ro rs) (hv : isGraphB rs.length rs = true) (hS : S < 2 ^ rs.length) :
    Calls Tryz.prog 52 #[.agg #[.int .i64 rs.length, .slice ro rs.length rc], .int .i64 S] w (RetE w (ints (partsOf rs S))) := by
  have g := (VG.of hv).2
  have hg1 := g.pos
  have hg2 := g.le
  have hp := g.pow.1
  go_enter Tryz.func52, Tryz.ntmps52
  go_wp2_with fail
  generalize hW : (w.alloc _).alloc _ = W1
  obtain ⟨hB, hsz, k0, k1⟩ := alloc2 hW
  replace hr := hr.below hB
  have hb0 := k0.lt
  have hc0 := k0.cell 0
  have hc1 := k0.cell 1
  simp at hc0 hc1
  clear hW k0 k1
  have HhB := Lib.hid hB
  clear hB
  go_loopw [1, 5] (fun i o wr => ∃ m : Later W1, wr = m.w ∧ ∃ (done : List Nat) (left : Nat) (ao : Option Addr) (cap : Nat), PartsAt rs S done left ∧ i = .int .i64 left ∧ o = .slice ao (ints done).length cap ∧ OwnE m.w W1.heap.size ao cap (ints done)) (fun i _ _ => (intOf i).toNat)
  case atStart => exact ⟨Later.refl _, rfl, [], S, some ⟨w.heap.size + 1, 0, none⟩, 0, PartsAt.start rs S, rfl, rfl, OwnE.empty _ _ _⟩
  case round =>
    obtain ⟨m, rfl, done, left, ao, cap, hP, rfl, rfl, hO⟩ := hrel
    have hms := m.size
    have hll := hP.len
    rw [← ints_len] at hll
    by_cases h0 : left = 0
    · subst h0
      have hd := hP.done
      subst hd
      have HhP := Lib.hid hP
      clear hP
      have HhO := Lib.hid hO
      clear hO
      go_wp2_with fail
      go_ret
      exact ⟨ao, cap, rfl, below_later HhB.out m, HhO.out.mono' (by omega)⟩
    · have hlS := hP.shut.1.le
      have hl128 : left < 128 := by omega
      obtain ⟨l1, l2, l3⟩ := low_facts hl128 h0
      obtain ⟨n1, n2, n3, n6⟩ := hP.next g hS h0
      have hb1 := low_bit hl128 h0
      have hsl := pow_sub l1
      have hG := fun (w : World) (h : IntsAt w ro rs) => partOf_any rs (2 ^ low left) left ro rc w h hv (by omega) hsl (by rw [cnt_pow l2]; exact Nat.le_refl _)
      have hw := bits_andNot_nat left (grow rs (2 ^ low left) S) (by omega)
      have hlt : nDiff left (grow rs (2 ^ low left) S) < left := by
        have h1 := (nDiff_sub left (grow rs (2 ^ low left) S)).le
        have h2 : nDiff left (grow rs (2 ^ low left) S) ≠ left := fun e => by rw [e] at n3; omega
        omega
      rw [n6] at hG
      have hne : ((left : Int) != 0) = true := by simp; omega
      have HhP := Lib.hid hP
      clear hP
      have HhO := Lib.hid hO
      clear hO
      have Hn1 := Lib.hid n1
      clear n1
      generalize grow rs (2 ^ low left) S = x at *
      generalize nDiff left x = left' at *
      generalize 2 ^ low left = V at *
      have HW : ∀ m2 : Later m.w, ∃ m' : Later W1, m'.w = m2.w := fun m2 => ⟨m.on m2.below, rfl⟩
      replace hr := hr.later m
      replace hc0 : m.w.cell? _ = _ := (m.cell _ _ hb0).trans hc0
      replace hc1 : m.w.cell? _ = _ := (m.cell _ _ hb0).trans hc1
      replace hb0 := Nat.lt_of_lt_of_le hb0 m.size
      replace HhB := Lib.hid (below_later HhB.out m)
      generalize m.w = W2 at *
      clear m
      obtain ⟨m, hm0⟩ : ∃ m : Later W2, m.w = W2 := ⟨Later.refl _, rfl⟩
      refine (fun h => hm0 ▸ h) ?_
      clear hm0
      go_wp2_with (first | (go_at_call 102; refine (Calls.later m (hG _ (hr.later m))).mono ?_; rintro e w' ⟨rfl, m, rfl⟩) | (at_builtin; go_must (refine wpList_append_e rfl _ _ rfl W1.heap.size cap ao (ints done) (x : Int) rfl (HhO.out.later m) rfl (Nat.le_trans hms m.size) (by omega) ?_); intro ao2 cap2 w1 hown1 hB1))
      go_roundw
      case rel =>
        obtain ⟨m', hm'⟩ := HW m
        exact ⟨⟨w1, m'.below.trans (hm' ▸ hB1)⟩, rfl, done ++ [x], left', ao2, cap2, Hn1.out, rfl, by rw [ints_snoc]; simp, by rw [ints_snoc]; exact hown1⟩
      case measure => simp [intOf]; omega

end Go.Proofs.YtjikmjhpmkakoaaGreatDoor

namespace Go.Proofs.YtjikmjhpmkakoaaGreatDoor

theorem add_disj {a b : Nat} (ha : a < 9223372036854775808) (hb : b < 9223372036854775808) (h : a &&& b = 0) : a + b = a ||| b := by
  have h1 := BitVec.add_eq_or_of_and_eq_zero (BitVec.ofNat 64 a) (BitVec.ofNat 64 b) (by rw [← BitVec.ofNat_and, h])
  have h2 := congrArg BitVec.toNat h1
  simp only [BitVec.toNat_add, BitVec.toNat_or, BitVec.toNat_ofNat] at h2
  rw [Nat.mod_eq_of_lt (a := a) (by omega), Nat.mod_eq_of_lt (a := b) (by omega), Nat.mod_eq_of_lt (by omega)] at h2
  exact h2
/-- What is in a and not in b, and what is in both, make up a. -/
theorem nDiff_add {a b : Nat} (ha : a < 9223372036854775808) : nDiff a b + (b &&& a) = a := by
  have h1 : nDiff a b < 9223372036854775808 := nDiff_lt (n := 63) ha
  have h2 : b &&& a ≤ a := Nat.and_le_right
  rw [add_disj h1 (by omega)]
  · apply Nat.eq_of_testBit_eq; intro i
    rw [Nat.testBit_or, testBit_nDiff, Nat.testBit_and]
    cases a.testBit i <;> cases b.testBit i <;> rfl
  · apply Nat.eq_of_testBit_eq; intro i
    rw [Nat.testBit_and, testBit_nDiff, Nat.testBit_and, Nat.zero_testBit]
    cases a.testBit i <;> cases b.testBit i <;> rfl
theorem pow_le_of_testBit {S v : Nat} (h : S.testBit v = true) : 2 ^ v ≤ S := Nat.ge_two_pow_of_testBit h


end Go.Proofs.YtjikmjhpmkakoaaGreatDoor

namespace Go.Proofs.YtjikmjhpmkakoaaGreatDoor
open Go.RowKit

/-- The numbers below k for which something holds, as a set. -/
def accB (p : Nat → Bool) : Nat → Nat
  | 0 => 0
  | k + 1 => if p k = true then accB p k ||| 2 ^ k else accB p k
theorem accB_lt (p : Nat → Bool) : ∀ k, accB p k < 2 ^ k
  | 0 => by simp [accB]
  | k + 1 => by
    have ih := accB_lt p k
    have e : 2 ^ (k + 1) = 2 ^ k + 2 ^ k := by omega
    unfold accB; split
    · rw [or_pow _ _ ih]; omega
    · omega
theorem accB_yes {p : Nat → Bool} {k : Nat} (h : p k = true) : accB p (k + 1) = accB p k ||| 2 ^ k := by show (if p k = true then _ else _) = _; rw [if_pos h]
theorem accB_no {p : Nat → Bool} {k : Nat} (h : p k = false) : accB p (k + 1) = accB p k := by show (if p k = true then _ else _) = _; rw [if_neg (by rw [h]; decide)]
theorem accB_bit (p : Nat → Bool) (i : Nat) : ∀ k, (accB p k).testBit i = (decide (i < k) && p i)
  | 0 => by simp [accB]
  | k + 1 => by
    have ih := accB_bit p i k
    cases h : p k
    · rw [accB_no h, ih]
      by_cases e : i = k
      · subst e; simp [h]
      · have : (i < k + 1) ↔ i < k := by omega
        simp [this]
    · rw [accB_yes h, Nat.testBit_or, ih, Nat.testBit_two_pow]
      by_cases e : k = i
      · subst e; simp [h]
      · have : (i < k + 1) ↔ i < k := by omega
        simp [this, e]

end Go.Proofs.YtjikmjhpmkakoaaGreatDoor

namespace Go.Proofs.YtjikmjhpmkakoaaGreatDoor
open Go.RowKit

/-- The graph of N vertices in which i and j are neighbours where p says so. -/
def rowsOf (N : Nat) (p : Nat → Nat → Bool) : List Int := (List.range N).map fun i => (accB (p i) N : Int)
theorem rowsOf_len (N : Nat) (p : Nat → Nat → Bool) : (rowsOf N p).length = N := by simp [rowsOf]
theorem rowsOf_at {N i : Nat} {p : Nat → Nat → Bool} (h : i < N) : gi (rowsOf N p) i = (accB (p i) N : Int) := by simp [rowsOf, gi, h]
theorem rowsOf_gn {N i : Nat} {p : Nat → Nat → Bool} (h : i < N) : gn (rowsOf N p) i = accB (p i) N := by unfold gn; rw [rowsOf_at h]; simp
/-- Are i and j neighbours? -/
def eb (rs : List Int) (i j : Nat) : Bool := (gn rs i).testBit j
theorem eb_rowsOf {N i j : Nat} {p : Nat → Nat → Bool} (h : i < N) (hj : j < N) : eb (rowsOf N p) i j = p i j := by
  unfold eb; rw [rowsOf_gn h, accB_bit, decide_eq_true hj, Bool.true_and]
theorem accB_congr {p q : Nat → Bool} : ∀ k, (∀ j, j < k → p j = q j) → accB p k = accB q k
  | 0, _ => rfl
  | k + 1, h => by
    have ih := accB_congr (p := p) (q := q) k (fun j hj => h j (by omega))
    have hk := h k (by omega)
    cases e : p k
    · rw [accB_no e, accB_no (by rw [← hk]; exact e), ih]
    · rw [accB_yes e, accB_yes (by rw [← hk]; exact e), ih]
theorem rowsOf_congr {N : Nat} {p q : Nat → Nat → Bool} (h : ∀ i, i < N → ∀ j, j < N → p i j = q i j) : rowsOf N p = rowsOf N q := by
  unfold rowsOf
  apply List.map_congr_left
  intro i hi
  rw [accB_congr (p := p i) (q := q i) N (fun j hj => h i (by simpa using hi) j hj)]
theorem VG.graph {rs : List Int} (g : VG rs) : isGraphB rs.length rs = true := by
  have hle := g.le
  refine isGraphB_mk g.pos g.le (fun v hv => ?_) (fun v hv w hw => ?_)
  · unfold rowOk
    have h1 := g.lt v hv
    rw [g.row v hv, hasN_nat, g.irr v hv, pwN_small _ (by omega), decide_eq_true (by omega), decide_eq_true (by omega)]
    rfl
  · rw [g.row v hv, g.row w (by omega), hasN_nat, hasN_nat]
    exact g.sym v hv w (by omega)
theorem rowsOf_VG {N : Nat} {p : Nat → Nat → Bool} (h1 : 1 ≤ N) (h7 : N ≤ 7) (irr : ∀ i, i < N → p i i = false) (sym : ∀ i, i < N → ∀ j, j < N → p i j = p j i) : VG (rowsOf N p) := by
  refine ⟨by rw [rowsOf_len]; exact h1, by rw [rowsOf_len]; exact h7, fun v hv => ?_, fun v hv => ?_, fun v hv => ?_, fun v hv w hw => ?_⟩
  all_goals rw [rowsOf_len] at *
  · rw [rowsOf_gn hv, rowsOf_at hv]
  · rw [rowsOf_gn hv]; exact accB_lt _ _
  · rw [← irr v hv]; exact eb_rowsOf hv hv
  · show eb (rowsOf N p) v w = eb (rowsOf N p) w v
    rw [eb_rowsOf hv hw, eb_rowsOf hw hv]; exact sym v hv w hw
theorem rows_eb {rs : List Int} (g : VG rs) : rowsOf rs.length (eb rs) = rs := by
  refine gi_ext (rowsOf_len _ _) fun i hi => ?_
  rw [rowsOf_len] at hi
  rw [rowsOf_at hi, g.row i hi]
  congr 1
  apply Nat.eq_of_testBit_eq
  intro j
  rw [accB_bit]
  by_cases hj : j < rs.length
  · rw [decide_eq_true hj, Bool.true_and]; rfl
  · rw [decide_eq_false hj, Bool.false_and, testBit_ge (g.lt i hi) (by omega)]
/-- A graph as the one of its own relation, told by another. -/
theorem rows_of {rs : List Int} (g : VG rs) {p : Nat → Nat → Bool} (h : ∀ i, i < rs.length → ∀ j, j < rs.length → eb rs i j = p i j) : rs = rowsOf rs.length p :=
  (rows_eb g).symm.trans (rowsOf_congr h)
theorem eb_sym {rs : List Int} (g : VG rs) {i j : Nat} (hi : i < rs.length) (hj : j < rs.length) : eb rs i j = eb rs j i := g.sym i hi j hj
theorem eb_irr {rs : List Int} (g : VG rs) {i : Nat} (hi : i < rs.length) : eb rs i i = false := g.irr i hi

/-- Is this the edge between v and w? -/
def isE (v w i j : Nat) : Bool := (decide (i = v) && decide (j = w)) || (decide (i = w) && decide (j = v))
theorem isE_sym (v w i j : Nat) : isE v w i j = isE v w j i := by unfold isE; rw [Bool.eq_iff_iff]; simp; omega
/-- The graph with an edge between v and w. -/
def addE (rs : List Int) (v w : Nat) : List Int := rowsOf rs.length fun i j => eb rs i j || isE v w i j
theorem isE_true {v w i j : Nat} : isE v w i j = true ↔ (i = v ∧ j = w) ∨ (i = w ∧ j = v) := by unfold isE; simp
theorem addE_len (rs : List Int) (v w : Nat) : (addE rs v w).length = rs.length := rowsOf_len _ _
theorem addE_VG {rs : List Int} (g : VG rs) {v w : Nat} (hne : v ≠ w) : VG (addE rs v w) :=
  rowsOf_VG g.pos g.le (fun i hi => by rw [eb_irr g hi]; unfold isE; rw [Bool.false_or, Bool.eq_false_iff]; simp; omega) (fun i hi j hj => by rw [eb_sym g hi hj, isE_sym])
theorem addE_there {rs : List Int} (g : VG rs) {v w : Nat} (hv : v < rs.length) (hw : w < rs.length) (h : eb rs v w = true) : addE rs v w = rs := by
  refine (rows_of g fun i hi j hj => ?_).symm
  cases e : isE v w i j
  · simp
  · have h2 := h
    rw [eb_sym g hv hw] at h2
    unfold isE at e
    simp at e
    rcases e with ⟨rfl, rfl⟩ | ⟨rfl, rfl⟩
    · rw [h]; rfl
    · rw [h2]; rfl
/-- The two stores that lay an edge that is missing. -/
theorem addE_set {rs : List Int} (g : VG rs) {v w : Nat} (hv : v < rs.length) (hw : w < rs.length) (hne : v ≠ w) (h : eb rs v w = false) :
    (rs.set v ((gn rs v + 2 ^ w : Nat) : Int)).set w ((gn rs w + 2 ^ v : Nat) : Int) = addE rs v w := by
  have h2 := h
  rw [eb_sym g hv hw] at h2
  refine gi_ext (by simp [addE_len]) fun i hi => ?_
  simp only [List.length_set] at hi
  unfold addE
  rw [rowsOf_at hi]
  have hcase : ∀ a b, a < rs.length → b < rs.length → a ≠ b → eb rs a b = false → gn rs a + 2 ^ b = accB (fun j => eb rs a j || decide (j = b)) rs.length := by
    intro a b ha hb hab hh
    have hd : gn rs a &&& 2 ^ b = 0 := by
      apply Nat.eq_of_testBit_eq
      intro j
      rw [Nat.testBit_and, Nat.testBit_two_pow, Nat.zero_testBit]
      by_cases e : b = j
      · subst e; simp only [decide_true, Bool.and_true]; exact hh
      · rw [decide_eq_false e, Bool.and_false]
    have h128 := g.lt128 ha
    have hb6 : b ≤ 6 := by have := g.le; omega
    have hp : 2 ^ b ≤ 2 ^ 6 := Nat.pow_le_pow_right (by decide) hb6
    rw [add_disj (by omega) (by omega) hd]
    apply Nat.eq_of_testBit_eq
    intro j
    rw [accB_bit, Nat.testBit_or, Nat.testBit_two_pow]
    by_cases hj : j < rs.length
    · rw [decide_eq_true hj, Bool.true_and]
      show (eb rs a j || _) = _
      congr 1
      rw [Bool.eq_iff_iff]; simp; omega
    · rw [decide_eq_false hj, Bool.false_and, testBit_ge (g.lt a ha) (by omega), decide_eq_false (by omega)]; rfl
  by_cases e1 : i = w
  · subst e1
    have : gi ((rs.set v ((gn rs v + 2 ^ i : Nat) : Int)).set i ((gn rs i + 2 ^ v : Nat) : Int)) i = ((gn rs i + 2 ^ v : Nat) : Int) := by simp [gi, hi]
    rw [this, hcase i v hi hv (fun e => hne e.symm) h2]
    congr 1
    exact accB_congr _ fun j hj => by unfold isE; congr 1; rw [Bool.eq_iff_iff]; simp; omega
  · by_cases e2 : i = v
    · subst e2
      have e3 : w ≠ i := fun e => e1 e.symm
      have : gi ((rs.set i ((gn rs i + 2 ^ w : Nat) : Int)).set w ((gn rs w + 2 ^ i : Nat) : Int)) i = ((gn rs i + 2 ^ w : Nat) : Int) := by simp [gi, hi, e3]
      rw [this, hcase i w hi hw hne h]
      congr 1
      exact accB_congr _ fun j hj => by unfold isE; congr 1; rw [Bool.eq_iff_iff]; simp; omega
    · have e3 : w ≠ i := fun e => e1 e.symm
      have e4 : v ≠ i := fun e => e2 e.symm
      have : gi ((rs.set v ((gn rs v + 2 ^ w : Nat) : Int)).set w ((gn rs w + 2 ^ v : Nat) : Int)) i = gi rs i := by simp [gi, e3, e4]
      rw [this, g.row i hi]
      congr 1
      have hr := rows_eb g
      have : gn rs i = accB (eb rs i) rs.length := by
        have h3 := rowsOf_gn (p := eb rs) hi
        rw [hr] at h3; exact h3
      rw [this]
      exact accB_congr _ fun j hj => by unfold isE; rw [decide_eq_false e2, decide_eq_false e1]; simp

end Go.Proofs.YtjikmjhpmkakoaaGreatDoor
