/-
  LargestClique and CliqueNumber on both sides. For at most 2^20 rows.
  Graphs of at most four vertices need no more colours than a largest clique has vertices. No conditions.
  least of the program, for whatever function. For at most 2^20 rows.
-/
import Derived.Test.YtfkehmpckhmkbaaGreatPkLawPerfect22
import Derived.Test.YtfkehmpckhmkbaaGreatPkLawPerfect21
namespace Go.Proofs.YtfkehmpckhmkbaaGreat
open Go.RowKit

theorem largestTo_lt (p : Nat → Bool) : ∀ k, 1 ≤ k → largestTo p k < k
  | 0, h => by omega
  | k + 1, _ => by
    unfold largestTo
    split
    · omega
    · have := largestTo_le p k; omega

/-- How many vertices the largest clique has. -/
def clqN (n : Int) (rs : List Int) : Int := if isGraphB n rs = true then (cnt (largestTo (fun S => cliqueB rs.length rs S) (2 ^ rs.length)) : Int) else -1
theorem clqN_no {n : Int} {rs : List Int} (h : isGraphB n rs = false) : clqN n rs = -1 := by unfold clqN; rw [if_neg (by rw [h]; decide)]
theorem clqN_of {n : Int} {rs : List Int} (h : isGraphB n rs = true) : clqN n rs = (cnt (largestTo (fun S => cliqueB rs.length rs S) (2 ^ rs.length)) : Int) := by unfold clqN; rw [if_pos h]

set_option maxRecDepth 100000 in
set_option maxHeartbeats 1000000 in
theorem specLargestClique_any (n : Int) (rs : List Int) (ro : Option Addr) (rc : Nat) (w : World) (hr : IntsAt w ro rs) (hrl : rs.length ≤ 1048576) :
    Calls Tryz.prog 45 #[.agg #[.int .i64 n, .slice ro rs.length rc]] w fun e w' => e = .returned (.int .i64 (largestV n rs fun S => cliqueB rs.length rs S)) ∧ Below w.heap.size w w' := by
  go_enter Tryz.func45, Tryz.ntmps45
  go_wp2_with fail
  generalize hW : w.alloc _ = W1
  obtain ⟨hB, -, k0⟩ := alloc1 hW
  replace hr := hr.below hB
  have hb0 := k0.lt
  have hc0 := k0.cell 0
  have hc1 := k0.cell 1
  simp at hc0 hc1
  clear hW k0
  have HhB := Lib.hid hB
  clear hB
  cases hv : isGraphB n rs
  · have HE : Hid (largestV n rs (fun S => cliqueB rs.length rs S) = 0) := by show largestV n rs _ = 0; unfold largestV; rw [hv]; rfl
    go_loopw [3, 4] (fun b i wr => (∃ m : Later W1, wr = m.w) ∧ b = .int .i64 0 ∧ i = .int .i64 1) (fun _ _ _ => 0)
    case atStart => exact ⟨⟨Later.refl _, rfl⟩, rfl, rfl⟩
    case round =>
      obtain ⟨⟨m, rfl⟩, rfl, rfl⟩ := hrel
      go_wp2_with (first | (go_at_call 13; refine (Calls.later m (specIsGraph_any _ _ _ _ _ (hr.later m) hrl)).mono ?_; rintro e w' ⟨rfl, m, rfl⟩))
      go_ret
      exact ⟨retI (by rw [HE.out]), below_later HhB.out m⟩
  · obtain ⟨rfl, g⟩ := VG.of hv
    have hg1 := g.pos
    have hg2 := g.le
    obtain ⟨hp1, hp2⟩ := g.pow
    have hq := pwN_small rs.length (by omega)
    have HE : Hid (largestV rs.length rs (fun S => cliqueB rs.length rs S) = largestTo (fun S => cliqueB rs.length rs S) (2 ^ rs.length)) := by show largestV rs.length rs _ = _; unfold largestV; rw [if_pos hv]
    generalize 2 ^ rs.length = T at *
    generalize hP : (fun S : Nat => cliqueB rs.length rs S) = p at *
    have hpk : ∀ S : Nat, cliqueB rs.length rs S = p S := fun S => by rw [← hP]
    have HhP := Lib.hid hP
    clear hP
    go_loopw [3, 4] (fun b i wr => (∃ m : Later W1, wr = m.w) ∧ ∃ k : Nat, 1 ≤ k ∧ k ≤ T ∧ b = .int .i64 (largestTo p k) ∧ i = .int .i64 k) (fun _ i _ => T - (intOf i).toNat)
    case atStart => exact ⟨⟨Later.refl _, rfl⟩, 1, by omega, by omega, by rw [largestTo_one]; rfl, rfl⟩
    case round =>
      obtain ⟨⟨m, rfl⟩, k, hk1, hk, rfl, rfl⟩ := hrel
      by_cases hlt : k < T
      · have hl := largestTo_le p k
        have HN : Hid (largestTo p (k + 1) = if cnt (largestTo p k) < cnt k ∧ p k = true then k else largestTo p k) := rfl
        have hn1 := cnt_le k
        have hn2 := cnt_le (largestTo p k)
        generalize hN : largestTo p (k + 1) = L' at *
        have HhN := Lib.hid hN
        clear hN
        generalize largestTo p k = L at *
        have hIS := fun m : Later W1 => specIsClique_any rs.length rs k ro rc m.w (hr.later m) hrl
        rw [hpk k] at hIS
        by_cases hc : cnt L < cnt k
        · cases hp : p k <;> simp only [hp] at hIS
          · go_wp2_with (first | (go_at_call 13; refine (Calls.later m (specIsGraph_any _ _ _ _ _ (hr.later m) hrl)).mono ?_; rintro e w' ⟨rfl, m, rfl⟩) | (go_at_call 19; refine (Calls.later m (specCount_any _ (by omega) _)).mono ?_; rintro e w' ⟨rfl, m, rfl⟩) | (go_at_call 74; refine (Calls.later m (hIS m)).mono ?_; rintro e w' ⟨rfl, m, rfl⟩))
            go_roundw
            case rel => exact ⟨⟨m, rfl⟩, k + 1, by omega, by omega, by rw [HhN.out, HN.out, if_neg (fun h => by rw [hp] at h; exact absurd h.2 (by decide))], by go_num⟩
            case measure => simp [intOf]; omega
          · go_wp2_with (first | (go_at_call 13; refine (Calls.later m (specIsGraph_any _ _ _ _ _ (hr.later m) hrl)).mono ?_; rintro e w' ⟨rfl, m, rfl⟩) | (go_at_call 19; refine (Calls.later m (specCount_any _ (by omega) _)).mono ?_; rintro e w' ⟨rfl, m, rfl⟩) | (go_at_call 74; refine (Calls.later m (hIS m)).mono ?_; rintro e w' ⟨rfl, m, rfl⟩))
            go_roundw
            case rel => exact ⟨⟨m, rfl⟩, k + 1, by omega, by omega, by rw [HhN.out, HN.out, if_pos ⟨hc, hp⟩], by go_num⟩
            case measure => simp [intOf]; omega
        · go_wp2_with (first | (go_at_call 13; refine (Calls.later m (specIsGraph_any _ _ _ _ _ (hr.later m) hrl)).mono ?_; rintro e w' ⟨rfl, m, rfl⟩) | (go_at_call 19; refine (Calls.later m (specCount_any _ (by omega) _)).mono ?_; rintro e w' ⟨rfl, m, rfl⟩))
          go_roundw
          case rel => exact ⟨⟨m, rfl⟩, k + 1, by omega, by omega, by rw [HhN.out, HN.out, if_neg (fun h => hc h.1)], by go_num⟩
          case measure => simp [intOf]; omega
      · go_wp2_with (first | (go_at_call 13; refine (Calls.later m (specIsGraph_any _ _ _ _ _ (hr.later m) hrl)).mono ?_; rintro e w' ⟨rfl, m, rfl⟩))
        go_ret
        obtain rfl : k = T := by omega
        exact ⟨retI (by rw [HhP.out, HE.out]), below_later HhB.out m⟩

set_option maxRecDepth 100000 in
theorem implLargestClique_any (n : Int) (rs : List Int) (ro : Option Addr) (rc : Nat) (w : World) (hr : IntsAt w ro rs) (hrl : rs.length ≤ 1048576) :
    Calls Tryz.prog 67 #[.agg #[.int .i64 n, .slice ro rs.length rc]] w fun e w' => e = .returned (.int .i64 (largestV n rs fun S => cliqueB rs.length rs S)) ∧ Below w.heap.size w w' := by
  go_enter Tryz.func67, Tryz.ntmps67
  go_wp2_with fail
  generalize hW : w.alloc _ = W1
  obtain ⟨hB, -, k0⟩ := alloc1 hW
  replace hr := hr.below hB
  have hb0 := k0.lt
  have hc0 := k0.cell 0
  have hc1 := k0.cell 1
  simp at hc0 hc1
  clear hW k0
  have HhB := Lib.hid hB
  clear hB
  obtain ⟨m, hm0⟩ : ∃ m : Later W1, m.w = W1 := ⟨Later.refl _, rfl⟩
  refine (fun h => hm0 ▸ h) ?_
  clear hm0
  go_wp2_with (first | (go_at_call 98; refine (Calls.later m (implLargest_any n rs ro rc 99 (fun S => cliqueB rs.length rs S) _ (hr.later m) hrl (fun _ _ => rfl) (fun hv S w hr hS => implIsClique_any _ _ _ _ _ _ hr hrl))).mono ?_; rintro e w' ⟨rfl, m, rfl⟩))
  go_ret
  exact ⟨rfl, below_later HhB.out m⟩

set_option maxRecDepth 100000 in
set_option maxHeartbeats 1000000 in
theorem specClqN_any (n : Int) (rs : List Int) (ro : Option Addr) (rc : Nat) (w : World) (hr : IntsAt w ro rs) (hrl : rs.length ≤ 1048576) :
    Calls Tryz.prog 17 #[.agg #[.int .i64 n, .slice ro rs.length rc]] w fun e w' => e = .returned (.int .i64 (clqN n rs)) ∧ Below w.heap.size w w' := by
  go_enter Tryz.func17, Tryz.ntmps17
  go_wp2_with fail
  generalize hW : w.alloc _ = W1
  obtain ⟨hB, -, k0⟩ := alloc1 hW
  replace hr := hr.below hB
  have hb0 := k0.lt
  have hc0 := k0.cell 0
  have hc1 := k0.cell 1
  simp at hc0 hc1
  clear hW k0
  have HhB := Lib.hid hB
  clear hB
  obtain ⟨m, hm0⟩ : ∃ m : Later W1, m.w = W1 := ⟨Later.refl _, rfl⟩
  refine (fun h => hm0 ▸ h) ?_
  clear hm0
  have hL := fun m : Later W1 => specLargestClique_any n rs ro rc m.w (hr.later m) hrl
  cases hv : isGraphB n rs
  · have HE := Lib.hid (clqN_no hv)
    go_wp2_with (first | (go_at_call 13; refine (Calls.later m (specIsGraph_any _ _ _ _ _ (hr.later m) hrl)).mono ?_; rintro e w' ⟨rfl, m, rfl⟩))
    go_ret
    exact ⟨retI (by rw [HE.out]), below_later HhB.out m⟩
  · have HE := Lib.hid (clqN_of hv)
    obtain ⟨rfl, g⟩ := VG.of hv
    obtain ⟨hp1, hp2⟩ := g.pow
    have hlt := largestTo_lt (fun S => cliqueB rs.length rs S) (2 ^ rs.length) (by omega)
    have hV : largestV rs.length rs (fun S => cliqueB rs.length rs S) = (largestTo (fun S => cliqueB rs.length rs S) (2 ^ rs.length) : Int) := by unfold largestV; rw [if_pos hv]
    rw [hV] at hL
    clear hV
    generalize largestTo (fun S : Nat => cliqueB rs.length rs S) (2 ^ rs.length) = L at *
    go_wp2_with (first | (go_at_call 13; refine (Calls.later m (specIsGraph_any _ _ _ _ _ (hr.later m) hrl)).mono ?_; rintro e w' ⟨rfl, m, rfl⟩) | (go_at_call 45; refine (Calls.later m (hL _)).mono ?_; rintro e w' ⟨rfl, m, rfl⟩) | (go_at_call 19; refine (Calls.later m (specCount_any _ (by omega) _)).mono ?_; rintro e w' ⟨rfl, m, rfl⟩))
    go_ret
    exact ⟨retI (by rw [HE.out]), below_later HhB.out m⟩

set_option maxRecDepth 100000 in
set_option maxHeartbeats 1000000 in
theorem implClqN_any (n : Int) (rs : List Int) (ro : Option Addr) (rc : Nat) (w : World) (hr : IntsAt w ro rs) (hrl : rs.length ≤ 1048576) :
    Calls Tryz.prog 39 #[.agg #[.int .i64 n, .slice ro rs.length rc]] w fun e w' => e = .returned (.int .i64 (clqN n rs)) ∧ Below w.heap.size w w' := by
  go_enter Tryz.func39, Tryz.ntmps39
  go_wp2_with fail
  generalize hW : w.alloc _ = W1
  obtain ⟨hB, -, k0⟩ := alloc1 hW
  replace hr := hr.below hB
  have hb0 := k0.lt
  have hc0 := k0.cell 0
  have hc1 := k0.cell 1
  simp at hc0 hc1
  clear hW k0
  have HhB := Lib.hid hB
  clear hB
  obtain ⟨m, hm0⟩ : ∃ m : Later W1, m.w = W1 := ⟨Later.refl _, rfl⟩
  refine (fun h => hm0 ▸ h) ?_
  clear hm0
  have hL := fun m : Later W1 => implLargestClique_any n rs ro rc m.w (hr.later m) hrl
  cases hv : isGraphB n rs
  · have HE := Lib.hid (clqN_no hv)
    go_wp2_with (first | (go_at_call 34; refine (Calls.later m (implIsGraph_any _ _ _ _ _ (hr.later m) hrl)).mono ?_; rintro e w' ⟨rfl, m, rfl⟩))
    go_ret
    exact ⟨retI (by rw [HE.out]), below_later HhB.out m⟩
  · have HE := Lib.hid (clqN_of hv)
    obtain ⟨rfl, g⟩ := VG.of hv
    obtain ⟨hp1, hp2⟩ := g.pow
    have hlt := largestTo_lt (fun S => cliqueB rs.length rs S) (2 ^ rs.length) (by omega)
    have hV : largestV rs.length rs (fun S => cliqueB rs.length rs S) = (largestTo (fun S => cliqueB rs.length rs S) (2 ^ rs.length) : Int) := by unfold largestV; rw [if_pos hv]
    rw [hV] at hL
    clear hV
    generalize largestTo (fun S : Nat => cliqueB rs.length rs S) (2 ^ rs.length) = L at *
    go_wp2_with (first | (go_at_call 34; refine (Calls.later m (implIsGraph_any _ _ _ _ _ (hr.later m) hrl)).mono ?_; rintro e w' ⟨rfl, m, rfl⟩) | (go_at_call 67; refine (Calls.later m (hL _)).mono ?_; rintro e w' ⟨rfl, m, rfl⟩) | (go_at_call 66; refine (Calls.later m (implCount_any _ (by omega) _)).mono ?_; rintro e w' ⟨rfl, m, rfl⟩))
    go_ret
    exact ⟨retI (by rw [HE.out]), below_later HhB.out m⟩

end Go.Proofs.YtfkehmpckhmkbaaGreat

namespace Go.Proofs.YtfkehmpckhmkbaaGreat
open Go.RowKit

def smallOk (rs : List Int) : Bool := decide (chromV rs.length rs ≤ clqN rs.length rs)
def chk1 : Bool := (List.range 2).all fun a => a.testBit 0 || smallOk [(a : Int)]
def chk2 : Bool := (List.range 4).all fun a => a.testBit 0 || (List.range 4).all fun b => b.testBit 1 || (a.testBit 1 != b.testBit 0 || smallOk [(a : Int), (b : Int)])
def chk3 : Bool := (List.range 8).all fun a => a.testBit 0 || (List.range 8).all fun b => b.testBit 1 || (a.testBit 1 != b.testBit 0 || (List.range 8).all fun c => c.testBit 2 || (a.testBit 2 != c.testBit 0 || (b.testBit 2 != c.testBit 1 || smallOk [(a : Int), (b : Int), (c : Int)])))
def chk4 : Bool := (List.range 16).all fun a => a.testBit 0 || (List.range 16).all fun b => b.testBit 1 || (a.testBit 1 != b.testBit 0 || (List.range 16).all fun c => c.testBit 2 || (a.testBit 2 != c.testBit 0 || (b.testBit 2 != c.testBit 1 || (List.range 16).all fun d => d.testBit 3 || (a.testBit 3 != d.testBit 0 || (b.testBit 3 != d.testBit 1 || (c.testBit 3 != d.testBit 2 || smallOk [(a : Int), (b : Int), (c : Int), (d : Int)])))))) 
theorem chk1_ok : chk1 = true := by decide +kernel
theorem chk2_ok : chk2 = true := by decide +kernel
theorem chk3_ok : chk3 = true := by decide +kernel
theorem chk4_ok : chk4 = true := by decide +kernel
theorem all_range {n a : Nat} {p : Nat → Bool} (h : (List.range n).all p = true) (ha : a < n) : p a = true := by rw [List.all_eq_true] at h; exact h a (by simpa using ha)
theorem or_false {a b : Bool} (h : (a || b) = true) (ha : a = false) : b = true := by rw [ha] at h; exact h
theorem ne_false {a b : Bool} (h : a = b) : (a != b) = false := by rw [h]; simp

theorem small_any {rs : List Int} (hv : isGraphB rs.length rs = true) (h4 : rs.length ≤ 4) : chromV rs.length rs ≤ clqN rs.length rs := by
  have g := (VG.of hv).2
  suffices h : smallOk rs = true by unfold smallOk at h; exact of_decide_eq_true h
  clear hv
  match rs, g, h4 with
  | [], g, _ => have := g.pos; simp at this
  | [x], g, _ =>
    have e0 : x = (gn [x] 0 : Int) := g.row 0 (by simp)
    have l0 : gn [x] 0 < 2 := g.lt 0 (by simp)
    have i0 := g.irr 0 (by simp)
    generalize gn [x] 0 = a at *
    rw [e0]
    exact or_false (all_range chk1_ok l0) i0
  | [x, y], g, _ =>
    have e0 : x = (gn [x, y] 0 : Int) := g.row 0 (by simp)
    have e1 : y = (gn [x, y] 1 : Int) := g.row 1 (by simp)
    have l0 : gn [x, y] 0 < 4 := g.lt 0 (by simp)
    have l1 : gn [x, y] 1 < 4 := g.lt 1 (by simp)
    have i0 := g.irr 0 (by simp)
    have i1 := g.irr 1 (by simp)
    have s01 := g.sym 0 (by simp) 1 (by simp)
    generalize gn [x, y] 0 = a at *
    generalize gn [x, y] 1 = b at *
    rw [e0, e1]
    exact or_false (or_false (all_range (or_false (all_range chk2_ok l0) i0) l1) i1) (ne_false s01)
  | [x, y, z], g, _ =>
    have e0 : x = (gn [x, y, z] 0 : Int) := g.row 0 (by simp)
    have e1 : y = (gn [x, y, z] 1 : Int) := g.row 1 (by simp)
    have e2 : z = (gn [x, y, z] 2 : Int) := g.row 2 (by simp)
    have l0 : gn [x, y, z] 0 < 8 := g.lt 0 (by simp)
    have l1 : gn [x, y, z] 1 < 8 := g.lt 1 (by simp)
    have l2 : gn [x, y, z] 2 < 8 := g.lt 2 (by simp)
    have i0 := g.irr 0 (by simp)
    have i1 := g.irr 1 (by simp)
    have i2 := g.irr 2 (by simp)
    have s01 := g.sym 0 (by simp) 1 (by simp)
    have s02 := g.sym 0 (by simp) 2 (by simp)
    have s12 := g.sym 1 (by simp) 2 (by simp)
    generalize gn [x, y, z] 0 = a at *
    generalize gn [x, y, z] 1 = b at *
    generalize gn [x, y, z] 2 = c at *
    rw [e0, e1, e2]
    have k1 := or_false (or_false (all_range (or_false (all_range chk3_ok l0) i0) l1) i1) (ne_false s01)
    exact or_false (or_false (or_false (all_range k1 l2) i2) (ne_false s02)) (ne_false s12)
  | [x, y, z, u], g, _ =>
    have e0 : x = (gn [x, y, z, u] 0 : Int) := g.row 0 (by simp)
    have e1 : y = (gn [x, y, z, u] 1 : Int) := g.row 1 (by simp)
    have e2 : z = (gn [x, y, z, u] 2 : Int) := g.row 2 (by simp)
    have e3 : u = (gn [x, y, z, u] 3 : Int) := g.row 3 (by simp)
    have l0 : gn [x, y, z, u] 0 < 16 := g.lt 0 (by simp)
    have l1 : gn [x, y, z, u] 1 < 16 := g.lt 1 (by simp)
    have l2 : gn [x, y, z, u] 2 < 16 := g.lt 2 (by simp)
    have l3 : gn [x, y, z, u] 3 < 16 := g.lt 3 (by simp)
    have i0 := g.irr 0 (by simp)
    have i1 := g.irr 1 (by simp)
    have i2 := g.irr 2 (by simp)
    have i3 := g.irr 3 (by simp)
    have s01 := g.sym 0 (by simp) 1 (by simp)
    have s02 := g.sym 0 (by simp) 2 (by simp)
    have s12 := g.sym 1 (by simp) 2 (by simp)
    have s03 := g.sym 0 (by simp) 3 (by simp)
    have s13 := g.sym 1 (by simp) 3 (by simp)
    have s23 := g.sym 2 (by simp) 3 (by simp)
    generalize gn [x, y, z, u] 0 = a at *
    generalize gn [x, y, z, u] 1 = b at *
    generalize gn [x, y, z, u] 2 = c at *
    generalize gn [x, y, z, u] 3 = d at *
    rw [e0, e1, e2, e3]
    have k1 := or_false (or_false (all_range (or_false (all_range chk4_ok l0) i0) l1) i1) (ne_false s01)
    have k2 := or_false (or_false (or_false (all_range k1 l2) i2) (ne_false s02)) (ne_false s12)
    exact or_false (or_false (or_false (or_false (all_range k2 l3) i3) (ne_false s03)) (ne_false s13)) (ne_false s23)
  | _ :: _ :: _ :: _ :: _ :: _, _, h => simp at h

end Go.Proofs.YtfkehmpckhmkbaaGreat

namespace Go.Proofs.YtfkehmpckhmkbaaGreat
open Go.RowKit

/-- The least set for which something holds. -/
def leastO (n : Int) (rs : List Int) (p : Nat → Bool) : Option Nat := if isGraphB n rs = true then firstB p (2 ^ rs.length) else none
def leastI (o : Option Nat) : Int := match o with | some k => k | none => 0
theorem leastO_no {n : Int} {rs : List Int} {p : Nat → Bool} (h : isGraphB n rs = false) : leastO n rs p = none := by unfold leastO; rw [if_neg (by rw [h]; decide)]
theorem leastO_of {n : Int} {rs : List Int} {p : Nat → Bool} (h : isGraphB n rs = true) : leastO n rs p = firstB p (2 ^ rs.length) := by unfold leastO; rw [if_pos h]
theorem leastO_congr {n : Int} {rs : List Int} {p q : Nat → Bool} (h : isGraphB n rs = true → ∀ S, S < 2 ^ rs.length → p S = q S) : leastO n rs p = leastO n rs q := by
  unfold leastO
  split
  · rename_i hv
    unfold firstB
    have key : ∀ l : List Nat, (∀ x, x ∈ l → x < 2 ^ rs.length) → l.find? p = l.find? q := by
      intro l
      induction l with
      | nil => simp
      | cons a l ih =>
        intro hl
        rw [List.find?_cons, List.find?_cons, h hv a (hl a (by simp)), ih (fun x hx => hl x (by simp [hx]))]
    exact key _ (fun x hx => by simpa using hx)
  · rfl

set_option maxRecDepth 100000 in
set_option maxHeartbeats 1000000 in
theorem implLeast_any (n : Int) (rs : List Int) (ro : Option Addr) (rc K : Nat) (p : Nat → Bool) (w : World) (hr : IntsAt w ro rs) (hrl : rs.length ≤ 1048576) (hE : ∀ args w, Sem.run Tryz.prog (callFunc K args) w = .ok (.enter K args) w) (hK : isGraphB rs.length rs = true → TestOf K rs ro rc p) :
    Calls Tryz.prog 35 #[.agg #[.int .i64 n, .slice ro rs.length rc], .func (.func K) #[] #[]] w fun e w' => e = .returned (.tuple #[.int .i64 (leastI (leastO n rs p)), .bool (leastO n rs p).isSome]) ∧ Below w.heap.size w w' := by
  go_enter Tryz.func35, Tryz.ntmps35
  go_wp2_with fail
  generalize hW : w.alloc _ = W1
  obtain ⟨hB, -, k0⟩ := alloc1 hW
  replace hr := hr.below hB
  have hb0 := k0.lt
  have hc0 := k0.cell 0
  have hc1 := k0.cell 1
  simp at hc0 hc1
  clear hW k0
  have HhB := Lib.hid hB
  clear hB
  obtain ⟨m, hm0⟩ : ∃ m : Later W1, m.w = W1 := ⟨Later.refl _, rfl⟩
  refine (fun h => hm0 ▸ h) ?_
  clear hm0
  cases hv : isGraphB n rs
  · have HE := Lib.hid (leastO_no (p := p) hv)
    go_wp2_with (first | (go_at_call 34; refine (Calls.later m (implIsGraph_any _ _ _ _ _ (hr.later m) hrl)).mono ?_; rintro e w' ⟨rfl, m, rfl⟩))
    go_ret2
    exact ⟨by rw [HE.out]; rfl, below_later HhB.out m⟩
  · obtain ⟨rfl, g⟩ := VG.of hv
    replace hK := Lib.hid (hK hv)
    have hg2 := g.le
    obtain ⟨hp1, hp2⟩ := g.pow
    have HE := Lib.hid (leastO_of (p := p) hv)
    have hAll := fun m : Later W1 => implAll_any rs.length (.slice ro rs.length rc) hg2 m.w
    have HT : Hid (2 ^ rs.length = 2 ^ rs.length - 1 + 1) := by show _ = _; omega
    have HS : Hid (∀ S, S < 2 ^ rs.length - 1 + 1 → S < 2 ^ rs.length) := fun S h => by omega
    generalize hT : 2 ^ rs.length - 1 = T at *
    have hT1 : 1 ≤ T := by omega
    have hT2 : T ≤ 127 := by omega
    replace HE := Lib.hid (HE.out.trans (congrArg (fun x => firstB p x) HT.out))
    clear hT hp1 hp2
    go_wp2_with (first | (go_at_call 34; refine (Calls.later m (implIsGraph_any _ _ _ _ _ (hr.later m) hrl)).mono ?_; rintro e w' ⟨rfl, m, rfl⟩) | (go_at_call 62; refine (Calls.later m (hAll m)).mono ?_; rintro e w' ⟨rfl, m, rfl⟩))
    go_loopw [13] (fun i wr => (∃ m : Later W1, wr = m.w) ∧ ∃ k : Nat, k ≤ T + 1 ∧ i = .int .i64 k ∧ ∀ j, j < k → p j = false) (fun i _ => T + 1 - (intOf i).toNat)
    case atStart => exact ⟨⟨m, rfl⟩, 0, by omega, rfl, fun j h => by omega⟩
    case round =>
      obtain ⟨⟨m, rfl⟩, k, hk, rfl, hP⟩ := hrel
      have HhP := Lib.hid hP
      clear hP
      by_cases hlt : k < T + 1
      · have hK' := fun m : Later W1 => hK.out k m.w (hr.later m) (HS.out k (by omega))
        cases hp : p k <;> simp only [hp] at hK'
        · have HY := Lib.hid (all_succ (p := fun j => p j = false) HhP.out hp)
          go_wp2_with fail
          refine (Calls.later m (hK' m)).mono ?_
          rintro e w' ⟨rfl, m, rfl⟩
          go_wp2_with fail
          go_roundw
          case rel => exact ⟨⟨m, rfl⟩, k + 1, by omega, by go_num, HY.out⟩
          case measure => simp [intOf]; omega
        · have HJ := Lib.hid (firstB_hit hlt HhP.out hp)
          go_wp2_with fail
          refine (Calls.later m (hK' m)).mono ?_
          rintro e w' ⟨rfl, m, rfl⟩
          go_wp2_with fail
          go_ret2
          exact ⟨by rw [HE.out, HJ.out]; rfl, below_later HhB.out m⟩
      · have HJ := Lib.hid (firstB_none (p := p) (n := T + 1) (fun j h => HhP.out j (by omega)))
        go_wp2_with fail
        go_ret2
        exact ⟨by rw [HE.out, HJ.out]; rfl, below_later HhB.out m⟩

end Go.Proofs.YtfkehmpckhmkbaaGreat
