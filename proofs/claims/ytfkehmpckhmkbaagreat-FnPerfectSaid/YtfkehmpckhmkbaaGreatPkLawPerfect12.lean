/-
  Holes: areJoined with a pattern that captures, IsHole of the program. For at most 2^20 rows and list elements.
  IsInducedPath of the program. For at most 2^20 rows and list elements.
  IsHole of the reference. For at most 2^20 rows and list elements.
  IsInducedPath of the reference. For at most 2^20 rows and list elements.
-/
import Derived.Test.YtfkehmpckhmkbaaGreatPkLawPerfect11
namespace Go.Proofs.YtfkehmpckhmkbaaGreat
open Go.RowKit

/-- A function that answers the pattern in all worlds that have grown from W. -/
def PatC (K : Nat) (caps : Array Value) (W : World) (n : Nat) (pat : Nat → Nat → Bool) : Prop :=
  ∀ (m : Later W) (j i : Nat), j < i → i < n → Calls Tryz.prog K (#[.int .i64 j, .int .i64 i] ++ caps) m.w fun e w' => e = .returned (.bool (pat j i)) ∧ m.w = w'

set_option maxRecDepth 100000 in
set_option maxHeartbeats 1000000 in
theorem areJoinedC_any (n : Int) (rs l : List Int) (ro lo : Option Addr) (rc lc K : Nat) (caps : Array Value) (pat : Nat → Nat → Bool) (w : World) (hr : IntsAt w ro rs) (hrl : rs.length ≤ 1048576) (hl : IntsAt w lo l) (hll : l.length ≤ 1048576) (hcap : l.length ≤ lc)
    (hE : ∀ args w, Sem.run Tryz.prog (callFunc K args) w = .ok (.enter K args) w) (hK : PatC K caps w l.length pat) :
    Calls Tryz.prog 71 #[.agg #[.int .i64 n, .slice ro rs.length rc], .slice lo l.length lc, .func (.func K) #[] caps] w fun e w' => e = .returned (.bool (joinB n rs l pat)) ∧ Below w.heap.size w w' := by
  have HhK := Lib.hid hK
  clear hK
  go_enter Tryz.func71, Tryz.ntmps71
  go_wp2_with fail
  generalize hW : w.alloc _ = W1
  obtain ⟨hB, -, k0⟩ := alloc1 hW
  replace hr := hr.below hB
  replace hl := hl.below hB
  have hb0 := k0.lt
  have hc0 := k0.cell 0
  have hc1 := k0.cell 1
  simp at hc0 hc1
  clear hW k0
  have HhB := Lib.hid hB
  clear hB
  obtain ⟨m, hm0⟩ : ∃ m : Later W1, m.w = W1 := ⟨Later.refl _, rfl⟩
  refine (fun h => hm0 ▸ h) ?_
  clear hm0
  cases hv : vertsB n rs l
  · have HE := Lib.hid (joinB_no (pat := pat) hv)
    go_wp2_with (first | (go_at_call 100; refine (Calls.later m (areVertices_any _ _ _ _ _ _ _ _ (hr.later m) hrl (hl.later m) hll hcap)).mono ?_; rintro e w' ⟨rfl, m, rfl⟩))
    go_ret
    exact ⟨retB (by rw [HE.out]), below_later HhB.out m⟩
  · obtain ⟨rfl, g⟩ := VG.of (vertsB_true.1 hv).1
    have hg2 := g.le
    go_wp2_with (first | (go_at_call 100; refine (Calls.later m (areVertices_any _ _ _ _ _ _ _ _ (hr.later m) hrl (hl.later m) hll hcap)).mono ?_; rintro e w' ⟨rfl, m, rfl⟩))
    clear hcap
    go_loopw [15] (fun i wr => (∃ m : Later W1, wr = m.w) ∧ ∃ k : Nat, k ≤ l.length ∧ i = .int .i64 k ∧ ∀ i, i < k → ∀ j, j < i → joinedAt rs l pat i j = true) (fun i _ => l.length - (intOf i).toNat)
    case atStart => exact ⟨⟨m, rfl⟩, 0, by omega, rfl, fun j h => by omega⟩
    case round =>
      obtain ⟨⟨m, rfl⟩, k, hk, rfl, hP⟩ := hrel
      have HhP := Lib.hid hP
      clear hP
      by_cases hlt : k < l.length
      · go_wp2_with fail
        go_loopw [19] (fun i wr => (∃ m : Later W1, wr = m.w) ∧ ∃ t : Nat, t ≤ k ∧ i = .int .i64 t ∧ ∀ j, j < t → joinedAt rs l pat k j = true) (fun i _ => k - (intOf i).toNat)
        case atStart => exact ⟨⟨m, rfl⟩, 0, by omega, rfl, fun j h => by omega⟩
        case round =>
          obtain ⟨⟨m, rfl⟩, t, ht, rfl, hR⟩ := hrel
          have HhR := Lib.hid hR
          clear hR
          by_cases htt : t < k
          · obtain ⟨lb, lofs, rfl, hlb, hlc⟩ := hl (by omega)
            obtain ⟨rb, rofs, rfl, hrb, hrc⟩ := hr.graph g
            have htl : t < l.length := by omega
            obtain ⟨u, hu, hu2⟩ := vertex_at hv htl
            obtain ⟨v, hv1, hv2⟩ := vertex_at hv hlt
            have hcu := hlc t htl
            have hcv := hlc k hlt
            rw [hu] at hcu
            rw [hv1] at hcv
            have HQ : Hid (joinedAt rs l pat k t = ((gn rs u).testBit v == pat t k)) := by show joinedAt rs l pat k t = _; unfold joinedAt; rw [hu, hv1]; rfl
            clear hlc hu hv1
            have hA := fun m : Later W1 => has_any (gn rs u) v (by omega) (by omega) m.w
            simp only [Int.toNat_natCast, hasN_nat] at hA
            have hK' := fun m : Later W1 => HhK.out ⟨m.w, below_later HhB.out m⟩ t k htt hlt
            go_wp2_with fail
            cases he : (gn rs u).testBit v <;> cases hq : pat t k
            all_goals
              simp only [he] at hA
              simp only [hq] at hK'
              refine wp_region_later m rfl (by kernel_rfl) (by kernel_rfl) ?_
              repeat (go_big_quiet_step ((first | (go_at_call 61; exact Calls.later_same _ (hA _)) | (with_reducible exact Calls.later_same _ (hK' _)))))
              refine wpQuiet_nil ?_
              rintro _ ⟨m, rfl⟩
              go_wp2_with fail
            · go_roundw
              case rel => exact ⟨⟨m, rfl⟩, t + 1, by omega, by go_num, all_succ HhR.out (by rw [HQ.out, he, hq]; rfl)⟩
              case measure => simp [intOf]; omega
            · go_ret
              exact ⟨retB (by rw [joinB_bad hlt htt (by rw [HQ.out, he, hq]; rfl)]), below_later HhB.out m⟩
            · go_ret
              exact ⟨retB (by rw [joinB_bad hlt htt (by rw [HQ.out, he, hq]; rfl)]), below_later HhB.out m⟩
            · go_roundw
              case rel => exact ⟨⟨m, rfl⟩, t + 1, by omega, by go_num, all_succ HhR.out (by rw [HQ.out, he, hq]; rfl)⟩
              case measure => simp [intOf]; omega
          · go_wp2_with fail
            go_roundw
            case rel => exact ⟨⟨m, rfl⟩, k + 1, by omega, by go_num, all_succ HhP.out (fun j h => HhR.out j (by omega))⟩
            case measure => simp [intOf]; omega
      · have HE := Lib.hid (joinB_ok hv (fun i h => HhP.out i (by omega)))
        go_wp2_with fail
        go_ret
        exact ⟨retB (by rw [HE.out]), below_later HhB.out m⟩


/-! ### The patterns -/
def pathP (j i : Nat) : Bool := decide (i = j + 1)
def holeP (n j i : Nat) : Bool := decide (i = j + 1) || (decide (j = 0) && decide (i = n - 1))
def pathB (n : Int) (rs l : List Int) : Bool := decide (0 < l.length) && joinB n rs l pathP
def holeB (n : Int) (rs l : List Int) : Bool := decide (4 ≤ l.length) && joinB n rs l (holeP l.length)

theorem holePat (W : World) (n lc B : Nat) (lo : Option Addr) (hn : n ≤ 1048576) (hb : Blk W B #[.slice lo n lc] 24) : PatC 72 #[.pointer (some ⟨B, 0, none⟩)] W n (holeP n) := by
  intro m j i hj hi
  show Calls Tryz.prog 72 #[.int .i64 j, .int .i64 i, .pointer (some ⟨B, 0, none⟩)] m.w _
  have z := (hb.later m).cell 0
  simp at z
  clear hb
  by_cases h1 : i = j + 1
  · have HE : Hid (holeP n j i = true) := by show holeP n j i = true; unfold holeP; rw [decide_eq_true h1]; rfl
    have d1 : ((i : Int) == (j : Int) + 1) = true := by rw [beq_iff_eq]; omega
    clear h1
    go_enter Tryz.func72, Tryz.ntmps72
    go_wp2_with fail
    go_ret
    exact ⟨retB (by rw [HE.out]), rfl⟩
  · have d1 : ((i : Int) == (j : Int) + 1) = false := by rw [beq_eq_false_iff_ne]; omega
    by_cases h2 : j = 0
    · have HE : Hid (holeP n j i = ((i : Int) == (n : Int) - 1)) := by
        show holeP n j i = _
        unfold holeP
        rw [decide_eq_false h1, decide_eq_true h2, Bool.false_or, Bool.true_and, Bool.eq_iff_iff, decide_eq_true_eq, beq_iff_eq]; omega
      have d2 : ((j : Int) == 0) = true := by rw [beq_iff_eq]; omega
      clear h1 h2
      go_enter Tryz.func72, Tryz.ntmps72
      go_wp2_with fail
      go_ret
      exact ⟨retB (by rw [HE.out]), rfl⟩
    · have HE : Hid (holeP n j i = false) := by
        show holeP n j i = _
        unfold holeP
        rw [decide_eq_false h1, decide_eq_false h2]; rfl
      have d2 : ((j : Int) == 0) = false := by rw [beq_eq_false_iff_ne]; omega
      clear h1 h2
      go_enter Tryz.func72, Tryz.ntmps72
      go_wp2_with fail
      go_ret
      exact ⟨retB (by rw [HE.out]), rfl⟩

set_option maxRecDepth 100000 in
set_option maxHeartbeats 1000000 in
theorem implIsHole_any (n : Int) (rs l : List Int) (ro lo : Option Addr) (rc lc : Nat) (w : World) (hr : IntsAt w ro rs) (hrl : rs.length ≤ 1048576) (hl : IntsAt w lo l) (hll : l.length ≤ 1048576) (hcap : l.length ≤ lc) :
    Calls Tryz.prog 43 #[.agg #[.int .i64 n, .slice ro rs.length rc], .slice lo l.length lc] w fun e w' => e = .returned (.bool (holeB n rs l)) ∧ Below w.heap.size w w' := by
  by_cases h0 : 4 ≤ l.length
  · have HE : Hid (holeB n rs l = joinB n rs l (holeP l.length)) := by show holeB n rs l = _; unfold holeB; rw [decide_eq_true h0]; rfl
    have d0 : decide ((4 : Int) ≤ (l.length : Int)) = true := decide_eq_true (by omega)
    go_enter Tryz.func43, Tryz.ntmps43
    go_wp2_with fail
    generalize hW : World.alloc _ _ = W1
    obtain ⟨hB, -, -, k1⟩ := alloc2 hW
    refine (areJoinedC_any n rs l ro lo rc lc 72 #[.pointer (some ⟨w.heap.size + 1, 0, none⟩)] (holeP l.length) W1 (hr.below hB) hrl (hl.below hB) hll hcap (fun _ _ => rfl) (holePat W1 l.length lc _ lo hll k1)).mono ?_
    rintro e w3 ⟨rfl, hB3⟩
    have hB4 := below_more' hB hB3
    clear hB hB3 hW k1
    have HhB4 := Lib.hid hB4
    clear hB4
    go_wp2_with fail
    go_ret
    exact ⟨retB (by rw [HE.out]), HhB4.out⟩
  · have HE : Hid (holeB n rs l = false) := by show holeB n rs l = _; unfold holeB; rw [decide_eq_false h0]; rfl
    have d0 : decide ((4 : Int) ≤ (l.length : Int)) = false := decide_eq_false (by omega)
    go_enter Tryz.func43, Tryz.ntmps43
    go_wp2_with fail
    go_ret
    exact ⟨retB (by rw [HE.out]), ((Below.refl _ _).alloc (Nat.le_refl _) _).alloc (by simp) _⟩

end Go.Proofs.YtfkehmpckhmkbaaGreat

namespace Go.Proofs.YtfkehmpckhmkbaaGreat
open Go.RowKit

theorem pathPat (W : World) (n : Nat) (hn : n ≤ 1048576) : PatC 84 #[] W n pathP := by
  intro m j i hj hi
  show Calls Tryz.prog 84 #[.int .i64 j, .int .i64 i] m.w _
  have HE : Hid (pathP j i = ((i : Int) == (j : Int) + 1)) := by show pathP j i = _; unfold pathP; rw [Bool.eq_iff_iff, decide_eq_true_eq, beq_iff_eq]; omega
  go_enter Tryz.func84, Tryz.ntmps84
  go_wp2_with fail
  go_ret
  exact ⟨retB (by rw [HE.out]), rfl⟩

set_option maxRecDepth 100000 in
set_option maxHeartbeats 1000000 in
theorem implIsPath_any (n : Int) (rs l : List Int) (ro lo : Option Addr) (rc lc : Nat) (w : World) (hr : IntsAt w ro rs) (hrl : rs.length ≤ 1048576) (hl : IntsAt w lo l) (hll : l.length ≤ 1048576) (hcap : l.length ≤ lc) :
    Calls Tryz.prog 52 #[.agg #[.int .i64 n, .slice ro rs.length rc], .slice lo l.length lc] w fun e w' => e = .returned (.bool (pathB n rs l)) ∧ Below w.heap.size w w' := by
  by_cases h0 : 0 < l.length
  · have HE : Hid (pathB n rs l = joinB n rs l pathP) := by show pathB n rs l = _; unfold pathB; rw [decide_eq_true h0]; rfl
    have d0 : decide ((0 : Int) < (l.length : Int)) = true := decide_eq_true (by omega)
    go_enter Tryz.func52, Tryz.ntmps52
    go_wp2_with fail
    generalize hW : w.alloc _ = W1
    obtain ⟨hB, -, k0⟩ := alloc1 hW
    replace hr := hr.below hB
    replace hl := hl.below hB
    have hb0 := k0.lt
    have hc0 := k0.cell 0
    have hc1 := k0.cell 1
    simp at hc0 hc1
    clear hW k0
    have HhB := Lib.hid hB
    clear hB
    obtain ⟨m, hm0⟩ : ∃ m : Later W1, m.w = W1 := ⟨Later.refl _, rfl⟩
    refine (fun h => hm0 ▸ h) ?_
    clear hm0
    go_wp2_with (first | (go_at_call 71; refine (Calls.later m (areJoinedC_any _ _ _ _ _ _ _ _ #[] _ _ (hr.later m) hrl (hl.later m) hll hcap (fun _ _ => rfl) (pathPat _ _ hll))).mono ?_; rintro e w' ⟨rfl, m, rfl⟩))
    go_ret
    exact ⟨retB (by rw [HE.out]), below_later HhB.out m⟩
  · have HE : Hid (pathB n rs l = false) := by show pathB n rs l = _; unfold pathB; rw [decide_eq_false h0]; rfl
    have d0 : decide ((0 : Int) < (l.length : Int)) = false := decide_eq_false (by omega)
    go_enter Tryz.func52, Tryz.ntmps52
    go_wp2_with fail
    go_ret
    exact ⟨retB (by rw [HE.out]), (Below.refl _ _).alloc (Nat.le_refl _) _⟩

end Go.Proofs.YtfkehmpckhmkbaaGreat

namespace Go.Proofs.YtfkehmpckhmkbaaGreat
open Go.RowKit

theorem joinedAt_rev {rs l : List Int} (g : VG rs) {pat : Nat → Nat → Bool} {k t u v : Nat} (hu : gi l t = u) (hu2 : u < rs.length) (hv : gi l k = v) (hv2 : v < rs.length) : joinedAt rs l pat k t = ((gn rs v).testBit u == pat t k) := by
  unfold joinedAt; rw [hu, hv, Int.toNat_natCast, Int.toNat_natCast, ← g.sym u hu2 v hv2]

set_option maxRecDepth 100000 in
set_option maxHeartbeats 2000000 in
theorem specIsHole_any (n : Int) (rs l : List Int) (ro lo : Option Addr) (rc lc : Nat) (w : World) (hr : IntsAt w ro rs) (hrl : rs.length ≤ 1048576) (hl : IntsAt w lo l) (hll : l.length ≤ 1048576) :
    Calls Tryz.prog 58 #[.agg #[.int .i64 n, .slice ro rs.length rc], .slice lo l.length lc] w fun e w' => e = .returned (.bool (holeB n rs l)) ∧ Below w.heap.size w w' := by
  go_enter Tryz.func58, Tryz.ntmps58
  go_wp2_with fail
  generalize hW : w.alloc _ = W1
  obtain ⟨hB, -, k0⟩ := alloc1 hW
  replace hr := hr.below hB
  replace hl := hl.below hB
  have hb0 := k0.lt
  have hc0 := k0.cell 0
  have hc1 := k0.cell 1
  simp at hc0 hc1
  clear hW k0
  have HhB := Lib.hid hB
  clear hB
  obtain ⟨m, hm0⟩ : ∃ m : Later W1, m.w = W1 := ⟨Later.refl _, rfl⟩
  refine (fun h => hm0 ▸ h) ?_
  clear hm0
  cases hv : vertsB n rs l
  · have HE : Hid (holeB n rs l = false) := by show holeB n rs l = _; unfold holeB; rw [joinB_no hv, Bool.and_false]
    go_wp2_with (first | (go_at_call 91; refine (Calls.later m (l4Distinct_any _ _ _ _ _ _ _ _ (hr.later m) hrl (hl.later m) hll)).mono ?_; rintro e w' ⟨rfl, m, rfl⟩))
    go_ret
    exact ⟨retB (by rw [HE.out]), below_later HhB.out m⟩
  by_cases h0 : 4 ≤ l.length
  · have HE : Hid (holeB n rs l = joinB n rs l (holeP l.length)) := by show holeB n rs l = _; unfold holeB; rw [decide_eq_true h0]; rfl
    have hz : decide ((l.length : Int) < 4) = false := decide_eq_false (by omega)
    obtain ⟨rfl, g⟩ := VG.of (vertsB_true.1 hv).1
    go_wp2_with (first | (go_at_call 91; refine (Calls.later m (l4Distinct_any _ _ _ _ _ _ _ _ (hr.later m) hrl (hl.later m) hll)).mono ?_; rintro e w' ⟨rfl, m, rfl⟩))
    go_loopw [5] (fun i wr => (∃ m : Later W1, wr = m.w) ∧ ∃ k : Nat, k ≤ l.length ∧ i = .int .i64 k ∧ ∀ i, i < k → ∀ j, j < i → joinedAt rs l (holeP l.length) i j = true) (fun i _ => l.length - (intOf i).toNat)
    case atStart => exact ⟨⟨m, rfl⟩, 0, by omega, rfl, fun j h => by omega⟩
    case round =>
      obtain ⟨⟨m, rfl⟩, k, hk, rfl, hP⟩ := hrel
      have HhP := Lib.hid hP
      clear hP
      by_cases hlt : k < l.length
      · have hkk : decide ((k : Int) < (l.length : Int)) = true := decide_eq_true (by omega)
        go_wp2_with fail
        go_loopw [6] (fun i wr => (∃ m : Later W1, wr = m.w) ∧ ∃ t : Nat, t ≤ k ∧ i = .int .i64 t ∧ ∀ j, j < t → joinedAt rs l (holeP l.length) k j = true) (fun i _ => k - (intOf i).toNat)
        case atStart => exact ⟨⟨m, rfl⟩, 0, by omega, rfl, fun j h => by omega⟩
        case round =>
          obtain ⟨⟨m, rfl⟩, t, ht, rfl, hR⟩ := hrel
          have HhR := Lib.hid hR
          clear hR
          by_cases htt : t < k
          · obtain ⟨lb, lofs, rfl, hlb, hlc⟩ := hl (by omega)
            have htl : t < l.length := by omega
            obtain ⟨u, hu, hu2⟩ := vertex_at hv htl
            obtain ⟨v, hv1, hv2⟩ := vertex_at hv hlt
            have hcu := hlc t htl
            have hcv := hlc k hlt
            rw [hu] at hcu
            rw [hv1] at hcv
            have HQ : Hid (joinedAt rs l (holeP l.length) k t = ((gn rs v).testBit u == holeP l.length t k)) := joinedAt_rev g hu hu2 hv1 hv2
            clear hlc hu hv1
            have hA := fun m : Later W1 => l2Edge_any rs v u ro rc m.w (hr.later m) g hv2 hu2
            have FIN : Hid (∀ b, holeP l.length t k = b → ((gn rs v).testBit u == b) = true → ∀ i, i < t + 1 → joinedAt rs l (holeP l.length) k i = true) := fun b h1 h2 => all_succ HhR.out (by rw [HQ.out, h1]; exact h2)
            have BAD : Hid (∀ b, holeP l.length t k = b → ((gn rs v).testBit u == b) = false → holeB rs.length rs l = false) := fun b h1 h2 => by rw [HE.out]; exact joinB_bad hlt htt (by rw [HQ.out, h1]; exact h2)
            have hcases : ∃ b, holeP l.length t k = b ∧ ((k = t + 1 ∧ b = true) ∨ (k ≠ t + 1 ∧ t = 0 ∧ k = l.length - 1 ∧ b = true) ∨ (k ≠ t + 1 ∧ t = 0 ∧ k ≠ l.length - 1 ∧ b = false) ∨ (k ≠ t + 1 ∧ t ≠ 0 ∧ b = false)) := by
              refine ⟨_, rfl, ?_⟩
              unfold holeP
              by_cases c1 : k = t + 1
              · exact .inl ⟨c1, by rw [decide_eq_true c1]; rfl⟩
              · by_cases c2 : t = 0
                · by_cases c3 : k = l.length - 1
                  · exact .inr (.inl ⟨c1, c2, c3, by rw [decide_eq_false c1, decide_eq_true c2, decide_eq_true c3]; rfl⟩)
                  · exact .inr (.inr (.inl ⟨c1, c2, c3, by rw [decide_eq_false c1, decide_eq_true c2, decide_eq_false c3]; rfl⟩))
                · exact .inr (.inr (.inr ⟨c1, c2, by rw [decide_eq_false c1, decide_eq_false c2]; rfl⟩))
            obtain ⟨b, HT, hcs⟩ := hcases
            have HHT := Lib.hid HT
            clear HT
            rcases hcs with ⟨c1, rfl⟩ | ⟨c1, c2, c3, rfl⟩ | ⟨c1, c2, c3, rfl⟩ | ⟨c1, c2, rfl⟩
            · have d1 : ((t : Int) == (k : Int) - 1) = true := by rw [beq_iff_eq]; omega
              clear c1
              go_wp2_with fail
              cases he : (gn rs v).testBit u
              all_goals
                simp only [he] at hA
                refine wp_region_later m rfl (by kernel_rfl) (by kernel_rfl) ?_
                repeat (go_big_quiet_step ((first | (go_at_call 69; exact Calls.later _ (hA _)))))
                refine wpQuiet_nil ?_
                rintro _ ⟨m, rfl⟩
                go_wp2_with fail
              · go_ret
                exact ⟨retB (by rw [BAD.out _ HHT.out (by rw [he]; rfl)]), below_later HhB.out m⟩
              · go_roundw
                case rel => exact ⟨⟨m, rfl⟩, t + 1, by omega, by go_num, FIN.out _ HHT.out (by rw [he]; rfl)⟩
                case measure => simp [intOf]; omega
            · have d1 : ((t : Int) == (k : Int) - 1) = false := by rw [beq_eq_false_iff_ne]; omega
              have d2 : ((t : Int) == 0) = true := by rw [beq_iff_eq]; omega
              have d3 : ((k : Int) == (l.length : Int) - 1) = true := by rw [beq_iff_eq]; omega
              clear c1 c2 c3
              go_wp2_with fail
              cases he : (gn rs v).testBit u
              all_goals
                simp only [he] at hA
                refine wp_region_later m rfl (by kernel_rfl) (by kernel_rfl) ?_
                repeat (go_big_quiet_step ((first | (go_at_call 69; exact Calls.later _ (hA _)))))
                refine wpQuiet_nil ?_
                rintro _ ⟨m, rfl⟩
                go_wp2_with fail
              · go_ret
                exact ⟨retB (by rw [BAD.out _ HHT.out (by rw [he]; rfl)]), below_later HhB.out m⟩
              · go_roundw
                case rel => exact ⟨⟨m, rfl⟩, t + 1, by omega, by go_num, FIN.out _ HHT.out (by rw [he]; rfl)⟩
                case measure => simp [intOf]; omega
            · have d1 : ((t : Int) == (k : Int) - 1) = false := by rw [beq_eq_false_iff_ne]; omega
              have d2 : ((t : Int) == 0) = true := by rw [beq_iff_eq]; omega
              have d3 : ((k : Int) == (l.length : Int) - 1) = false := by rw [beq_eq_false_iff_ne]; omega
              clear c1 c2 c3
              go_wp2_with fail
              cases he : (gn rs v).testBit u
              all_goals
                simp only [he] at hA
                refine wp_region_later m rfl (by kernel_rfl) (by kernel_rfl) ?_
                repeat (go_big_quiet_step ((first | (go_at_call 69; exact Calls.later _ (hA _)))))
                refine wpQuiet_nil ?_
                rintro _ ⟨m, rfl⟩
                go_wp2_with fail
              · go_roundw
                case rel => exact ⟨⟨m, rfl⟩, t + 1, by omega, by go_num, FIN.out _ HHT.out (by rw [he]; rfl)⟩
                case measure => simp [intOf]; omega
              · go_ret
                exact ⟨retB (by rw [BAD.out _ HHT.out (by rw [he]; rfl)]), below_later HhB.out m⟩
            · have d1 : ((t : Int) == (k : Int) - 1) = false := by rw [beq_eq_false_iff_ne]; omega
              have d2 : ((t : Int) == 0) = false := by rw [beq_eq_false_iff_ne]; omega
              clear c1 c2
              go_wp2_with fail
              cases he : (gn rs v).testBit u
              all_goals
                simp only [he] at hA
                refine wp_region_later m rfl (by kernel_rfl) (by kernel_rfl) ?_
                repeat (go_big_quiet_step ((first | (go_at_call 69; exact Calls.later _ (hA _)))))
                refine wpQuiet_nil ?_
                rintro _ ⟨m, rfl⟩
                go_wp2_with fail
              · go_roundw
                case rel => exact ⟨⟨m, rfl⟩, t + 1, by omega, by go_num, FIN.out _ HHT.out (by rw [he]; rfl)⟩
                case measure => simp [intOf]; omega
              · go_ret
                exact ⟨retB (by rw [BAD.out _ HHT.out (by rw [he]; rfl)]), below_later HhB.out m⟩
          · go_wp2_with fail
            go_roundw
            case rel => exact ⟨⟨m, rfl⟩, k + 1, by omega, by go_num, all_succ HhP.out (fun j h => HhR.out j (by omega))⟩
            case measure => simp [intOf]; omega
      · have HJ := Lib.hid (joinB_ok (pat := holeP l.length) hv (fun i h => HhP.out i (by omega)))
        go_wp2_with fail
        go_ret
        exact ⟨retB (by rw [HE.out, HJ.out]), below_later HhB.out m⟩
  · have HE : Hid (holeB n rs l = false) := by show holeB n rs l = _; unfold holeB; rw [decide_eq_false h0]; rfl
    have hz : decide ((l.length : Int) < 4) = true := decide_eq_true (by omega)
    go_wp2_with (first | (go_at_call 91; refine (Calls.later m (l4Distinct_any _ _ _ _ _ _ _ _ (hr.later m) hrl (hl.later m) hll)).mono ?_; rintro e w' ⟨rfl, m, rfl⟩))
    go_ret
    exact ⟨retB (by rw [HE.out]), below_later HhB.out m⟩

end Go.Proofs.YtfkehmpckhmkbaaGreat

namespace Go.Proofs.YtfkehmpckhmkbaaGreat
open Go.RowKit

set_option maxRecDepth 100000 in
set_option maxHeartbeats 2000000 in
theorem specIsPath_any (n : Int) (rs l : List Int) (ro lo : Option Addr) (rc lc : Nat) (w : World) (hr : IntsAt w ro rs) (hrl : rs.length ≤ 1048576) (hl : IntsAt w lo l) (hll : l.length ≤ 1048576) :
    Calls Tryz.prog 88 #[.agg #[.int .i64 n, .slice ro rs.length rc], .slice lo l.length lc] w fun e w' => e = .returned (.bool (pathB n rs l)) ∧ Below w.heap.size w w' := by
  go_enter Tryz.func88, Tryz.ntmps88
  go_wp2_with fail
  generalize hW : w.alloc _ = W1
  obtain ⟨hB, -, k0⟩ := alloc1 hW
  replace hr := hr.below hB
  replace hl := hl.below hB
  have hb0 := k0.lt
  have hc0 := k0.cell 0
  have hc1 := k0.cell 1
  simp at hc0 hc1
  clear hW k0
  have HhB := Lib.hid hB
  clear hB
  obtain ⟨m, hm0⟩ : ∃ m : Later W1, m.w = W1 := ⟨Later.refl _, rfl⟩
  refine (fun h => hm0 ▸ h) ?_
  clear hm0
  cases hv : vertsB n rs l
  · have HE : Hid (pathB n rs l = false) := by show pathB n rs l = _; unfold pathB; rw [joinB_no hv, Bool.and_false]
    go_wp2_with (first | (go_at_call 91; refine (Calls.later m (l4Distinct_any _ _ _ _ _ _ _ _ (hr.later m) hrl (hl.later m) hll)).mono ?_; rintro e w' ⟨rfl, m, rfl⟩))
    go_ret
    exact ⟨retB (by rw [HE.out]), below_later HhB.out m⟩
  by_cases h0 : 0 < l.length
  · have HE : Hid (pathB n rs l = joinB n rs l pathP) := by show pathB n rs l = _; unfold pathB; rw [decide_eq_true h0]; rfl
    have hz : ((l.length : Int) == 0) = false := by rw [beq_eq_false_iff_ne]; omega
    obtain ⟨rfl, g⟩ := VG.of (vertsB_true.1 hv).1
    go_wp2_with (first | (go_at_call 91; refine (Calls.later m (l4Distinct_any _ _ _ _ _ _ _ _ (hr.later m) hrl (hl.later m) hll)).mono ?_; rintro e w' ⟨rfl, m, rfl⟩))
    clear hz
    go_loopw [5] (fun i wr => (∃ m : Later W1, wr = m.w) ∧ ∃ k : Nat, k ≤ l.length ∧ i = .int .i64 k ∧ ∀ i, i < k → ∀ j, j < i → joinedAt rs l pathP i j = true) (fun i _ => l.length - (intOf i).toNat)
    case atStart => exact ⟨⟨m, rfl⟩, 0, by omega, rfl, fun j h => by omega⟩
    case round =>
      obtain ⟨⟨m, rfl⟩, k, hk, rfl, hP⟩ := hrel
      have HhP := Lib.hid hP
      clear hP
      by_cases hlt : k < l.length
      · have hkk : decide ((k : Int) < (l.length : Int)) = true := decide_eq_true (by omega)
        go_wp2_with fail
        go_loopw [6] (fun i wr => (∃ m : Later W1, wr = m.w) ∧ ∃ t : Nat, t ≤ k ∧ i = .int .i64 t ∧ ∀ j, j < t → joinedAt rs l pathP k j = true) (fun i _ => k - (intOf i).toNat)
        case atStart => exact ⟨⟨m, rfl⟩, 0, by omega, rfl, fun j h => by omega⟩
        case round =>
          obtain ⟨⟨m, rfl⟩, t, ht, rfl, hR⟩ := hrel
          have HhR := Lib.hid hR
          clear hR
          by_cases htt : t < k
          · obtain ⟨lb, lofs, rfl, hlb, hlc⟩ := hl (by omega)
            have htl : t < l.length := by omega
            obtain ⟨u, hu, hu2⟩ := vertex_at hv htl
            obtain ⟨v, hv1, hv2⟩ := vertex_at hv hlt
            have hcu := hlc t htl
            have hcv := hlc k hlt
            rw [hu] at hcu
            rw [hv1] at hcv
            have HQ : Hid (joinedAt rs l pathP k t = ((gn rs v).testBit u == pathP t k)) := joinedAt_rev g hu hu2 hv1 hv2
            have HP : Hid (pathP t k = ((t : Int) == (k : Int) - 1)) := by show pathP t k = _; unfold pathP; rw [Bool.eq_iff_iff, decide_eq_true_eq, beq_iff_eq]; omega
            clear hlc hu hv1
            have hA := fun m : Later W1 => l2Edge_any rs v u ro rc m.w (hr.later m) g hv2 hu2
            have FIN : Hid (∀ b, pathP t k = b → ((gn rs v).testBit u == b) = true → ∀ i, i < t + 1 → joinedAt rs l pathP k i = true) := fun b h1 h2 => all_succ HhR.out (by rw [HQ.out, h1]; exact h2)
            have BAD : Hid (∀ b, pathP t k = b → ((gn rs v).testBit u == b) = false → pathB rs.length rs l = false) := fun b h1 h2 => by rw [HE.out]; exact joinB_bad hlt htt (by rw [HQ.out, h1]; exact h2)
            cases hq : ((t : Int) == (k : Int) - 1)
            all_goals
              have HT := Lib.hid (HP.out.trans hq)
              go_wp2_with fail
              cases he : (gn rs v).testBit u
              all_goals
                simp only [he] at hA
                refine wp_region_later m rfl (by kernel_rfl) (by kernel_rfl) ?_
                repeat (go_big_quiet_step ((first | (go_at_call 69; exact Calls.later _ (hA _)))))
                refine wpQuiet_nil ?_
                rintro _ ⟨m, rfl⟩
                go_wp2_with fail
            · go_roundw
              case rel => exact ⟨⟨m, rfl⟩, t + 1, by omega, by go_num, FIN.out _ HT.out (by rw [he]; rfl)⟩
              case measure => simp [intOf]; omega
            · go_ret
              exact ⟨retB (by rw [BAD.out _ HT.out (by rw [he]; rfl)]), below_later HhB.out m⟩
            · go_ret
              exact ⟨retB (by rw [BAD.out _ HT.out (by rw [he]; rfl)]), below_later HhB.out m⟩
            · go_roundw
              case rel => exact ⟨⟨m, rfl⟩, t + 1, by omega, by go_num, FIN.out _ HT.out (by rw [he]; rfl)⟩
              case measure => simp [intOf]; omega
          · go_wp2_with fail
            go_roundw
            case rel => exact ⟨⟨m, rfl⟩, k + 1, by omega, by go_num, all_succ HhP.out (fun j h => HhR.out j (by omega))⟩
            case measure => simp [intOf]; omega
      · have HJ := Lib.hid (joinB_ok (pat := pathP) hv (fun i h => HhP.out i (by omega)))
        go_wp2_with fail
        go_ret
        exact ⟨retB (by rw [HE.out, HJ.out]), below_later HhB.out m⟩
  · have HE : Hid (pathB n rs l = false) := by show pathB n rs l = _; unfold pathB; rw [decide_eq_false h0]; rfl
    have hz : ((l.length : Int) == 0) = true := by rw [beq_iff_eq]; omega
    clear h0
    go_wp2_with (first | (go_at_call 91; refine (Calls.later m (l4Distinct_any _ _ _ _ _ _ _ _ (hr.later m) hrl (hl.later m) hll)).mono ?_; rintro e w' ⟨rfl, m, rfl⟩))
    go_ret
    exact ⟨retB (by rw [HE.out]), below_later HhB.out m⟩

end Go.Proofs.YtfkehmpckhmkbaaGreat
