/-
  Holes: areJoined with a pattern that captures, IsHole of the program. For at most 2^20 rows and list elements.
  IsInducedPath of the program. For at most 2^20 rows and list elements.
  IsHole of the reference. For at most 2^20 rows and list elements.
  IsInducedPath of the reference. For at most 2^20 rows and list elements.
  What searches hand back: the list fits its room. No conditions.
  FindInducedPath, FindPathOfFour and IsCograph on both sides. For at most 2^20 rows.
  The test that always holds, as what is asked of a beginning and of a whole list. No conditions.
-/
import Derived.Test.YtjikmjhpmkakoaaGreatDoorPkCardCographs20
import Derived.Test.YtjikmjhpmkakoaaGreatDoorPkCardCographs13
namespace Go.Proofs.YtjikmjhpmkakoaaGreatDoor
open Go.RowKit

/-- A function that answers the pattern in all worlds that have grown from W. -/
def PatC (K : Nat) (caps : Array Value) (W : World) (n : Nat) (pat : Nat → Nat → Bool) : Prop :=
  ∀ (m : Later W) (j i : Nat), j < i → i < n → Calls Tryz.prog K (#[.int .i64 j, .int .i64 i] ++ caps) m.w fun e w' => e = .returned (.bool (pat j i)) ∧ m.w = w'

set_option maxRecDepth 100000 in
set_option maxHeartbeats 1000000 in
theorem areJoinedC_any (n : Int) (rs l : List Int) (ro lo : Option Addr) (rc lc K : Nat) (caps : Array Value) (pat : Nat → Nat → Bool) (w : World) (hr : IntsAt w ro rs) (hrl : rs.length ≤ 1048576) (hl : IntsAt w lo l) (hll : l.length ≤ 1048576) (hcap : l.length ≤ lc)
    (hE : ∀ args w, Sem.run Tryz.prog (callFunc K args) w = .ok (.enter K args) w) (hK : PatC K caps w l.length pat) :
    Calls Tryz.prog 156 #[.agg #[.int .i64 n, .slice ro rs.length rc], .slice lo l.length lc, .func (.func K) #[] caps] w fun e w' => e = .returned (.bool (joinB n rs l pat)) ∧ Below w.heap.size w w' := by
  have HhK := Lib.hid hK
  clear hK
  go_enter Tryz.func156, Tryz.ntmps156
  go_wp2_with fail
  generalize hW : w.alloc _ = W1
  obtain ⟨hB, -, k0⟩ := alloc1 hW
  replace hr := hr.below hB
  replace hl := hl.below hB
  have hb0 := k0.lt
  have hc0 := k0.cell 0
  have hc1 := k0.cell 1
  simp at hc0 hc1
  clear hW k0
  have HhB := Lib.hid hB
  clear hB
  obtain ⟨m, hm0⟩ : ∃ m : Later W1, m.w = W1 := ⟨Later.refl _, rfl⟩
  refine (fun h => hm0 ▸ h) ?_
  clear hm0
  cases hv : vertsB n rs l
  · have HE := Lib.hid (joinB_no (pat := pat) hv)
    go_wp2_with (first | (go_at_call 171; refine (Calls.later m (areVertices_any _ _ _ _ _ _ _ _ (hr.later m) hrl (hl.later m) hll hcap)).mono ?_; rintro e w' ⟨rfl, m, rfl⟩))
    go_ret
    exact ⟨retB (by rw [HE.out]), below_later HhB.out m⟩
  · obtain ⟨rfl, g⟩ := VG.of (vertsB_true.1 hv).1
    have hg2 := g.le
    go_wp2_with (first | (go_at_call 171; refine (Calls.later m (areVertices_any _ _ _ _ _ _ _ _ (hr.later m) hrl (hl.later m) hll hcap)).mono ?_; rintro e w' ⟨rfl, m, rfl⟩))
    clear hcap
    go_loopw [15] (fun i wr => (∃ m : Later W1, wr = m.w) ∧ ∃ k : Nat, k ≤ l.length ∧ i = .int .i64 k ∧ ∀ i, i < k → ∀ j, j < i → joinedAt rs l pat i j = true) (fun i _ => l.length - (intOf i).toNat)
    case atStart => exact ⟨⟨m, rfl⟩, 0, by omega, rfl, fun j h => by omega⟩
    case round =>
      obtain ⟨⟨m, rfl⟩, k, hk, rfl, hP⟩ := hrel
      have HhP := Lib.hid hP
      clear hP
      by_cases hlt : k < l.length
      · go_wp2_with fail
        go_loopw [19] (fun i wr => (∃ m : Later W1, wr = m.w) ∧ ∃ t : Nat, t ≤ k ∧ i = .int .i64 t ∧ ∀ j, j < t → joinedAt rs l pat k j = true) (fun i _ => k - (intOf i).toNat)
        case atStart => exact ⟨⟨m, rfl⟩, 0, by omega, rfl, fun j h => by omega⟩
        case round =>
          obtain ⟨⟨m, rfl⟩, t, ht, rfl, hR⟩ := hrel
          have HhR := Lib.hid hR
          clear hR
          by_cases htt : t < k
          · obtain ⟨lb, lofs, rfl, hlb, hlc⟩ := hl (by omega)
            obtain ⟨rb, rofs, rfl, hrb, hrc⟩ := hr.graph g
            have htl : t < l.length := by omega
            obtain ⟨u, hu, hu2⟩ := vertex_at hv htl
            obtain ⟨v, hv1, hv2⟩ := vertex_at hv hlt
            have hcu := hlc t htl
            have hcv := hlc k hlt
            rw [hu] at hcu
            rw [hv1] at hcv
            have HQ : Hid (joinedAt rs l pat k t = ((gn rs u).testBit v == pat t k)) := by show joinedAt rs l pat k t = _; unfold joinedAt; rw [hu, hv1]; rfl
            clear hlc hu hv1
            have hA := fun m : Later W1 => has_any (gn rs u) v (by omega) (by omega) m.w
            simp only [Int.toNat_natCast, hasN_nat] at hA
            have hK' := fun m : Later W1 => HhK.out ⟨m.w, below_later HhB.out m⟩ t k htt hlt
            go_wp2_with fail
            cases he : (gn rs u).testBit v <;> cases hq : pat t k
            all_goals
              simp only [he] at hA
              simp only [hq] at hK'
              refine wp_region_later m rfl (by kernel_rfl) (by kernel_rfl) ?_
              repeat (go_big_quiet_step ((first | (go_at_call 60; exact Calls.later_same _ (hA _)) | (with_reducible exact Calls.later_same _ (hK' _)))))
              refine wpQuiet_nil ?_
              rintro _ ⟨m, rfl⟩
              go_wp2_with fail
            · go_roundw
              case rel => exact ⟨⟨m, rfl⟩, t + 1, by omega, by go_num, all_succ HhR.out (by rw [HQ.out, he, hq]; rfl)⟩
              case measure => simp [intOf]; omega
            · go_ret
              exact ⟨retB (by rw [joinB_bad hlt htt (by rw [HQ.out, he, hq]; rfl)]), below_later HhB.out m⟩
            · go_ret
              exact ⟨retB (by rw [joinB_bad hlt htt (by rw [HQ.out, he, hq]; rfl)]), below_later HhB.out m⟩
            · go_roundw
              case rel => exact ⟨⟨m, rfl⟩, t + 1, by omega, by go_num, all_succ HhR.out (by rw [HQ.out, he, hq]; rfl)⟩
              case measure => simp [intOf]; omega
          · go_wp2_with fail
            go_roundw
            case rel => exact ⟨⟨m, rfl⟩, k + 1, by omega, by go_num, all_succ HhP.out (fun j h => HhR.out j (by omega))⟩
            case measure => simp [intOf]; omega
      · have HE := Lib.hid (joinB_ok hv (fun i h => HhP.out i (by omega)))
        go_wp2_with fail
        go_ret
        exact ⟨retB (by rw [HE.out]), below_later HhB.out m⟩


/-! ### The patterns -/
def pathP (j i : Nat) : Bool := decide (i = j + 1)
def holeP (n j i : Nat) : Bool := decide (i = j + 1) || (decide (j = 0) && decide (i = n - 1))
def pathB (n : Int) (rs l : List Int) : Bool := decide (0 < l.length) && joinB n rs l pathP
end Go.Proofs.YtjikmjhpmkakoaaGreatDoor

namespace Go.Proofs.YtjikmjhpmkakoaaGreatDoor
open Go.RowKit

theorem pathPat (W : World) (n : Nat) (hn : n ≤ 1048576) : PatC 157 #[] W n pathP := by
  intro m j i hj hi
  show Calls Tryz.prog 157 #[.int .i64 j, .int .i64 i] m.w _
  have HE : Hid (pathP j i = ((i : Int) == (j : Int) + 1)) := by show pathP j i = _; unfold pathP; rw [Bool.eq_iff_iff, decide_eq_true_eq, beq_iff_eq]; omega
  go_enter Tryz.func157, Tryz.ntmps157
  go_wp2_with fail
  go_ret
  exact ⟨retB (by rw [HE.out]), rfl⟩

set_option maxRecDepth 100000 in
set_option maxHeartbeats 1000000 in
theorem implIsPath_any (n : Int) (rs l : List Int) (ro lo : Option Addr) (rc lc : Nat) (w : World) (hr : IntsAt w ro rs) (hrl : rs.length ≤ 1048576) (hl : IntsAt w lo l) (hll : l.length ≤ 1048576) (hcap : l.length ≤ lc) :
    Calls Tryz.prog 139 #[.agg #[.int .i64 n, .slice ro rs.length rc], .slice lo l.length lc] w fun e w' => e = .returned (.bool (pathB n rs l)) ∧ Below w.heap.size w w' := by
  by_cases h0 : 0 < l.length
  · have HE : Hid (pathB n rs l = joinB n rs l pathP) := by show pathB n rs l = _; unfold pathB; rw [decide_eq_true h0]; rfl
    have d0 : decide ((0 : Int) < (l.length : Int)) = true := decide_eq_true (by omega)
    go_enter Tryz.func139, Tryz.ntmps139
    go_wp2_with fail
    generalize hW : w.alloc _ = W1
    obtain ⟨hB, -, k0⟩ := alloc1 hW
    replace hr := hr.below hB
    replace hl := hl.below hB
    have hb0 := k0.lt
    have hc0 := k0.cell 0
    have hc1 := k0.cell 1
    simp at hc0 hc1
    clear hW k0
    have HhB := Lib.hid hB
    clear hB
    obtain ⟨m, hm0⟩ : ∃ m : Later W1, m.w = W1 := ⟨Later.refl _, rfl⟩
    refine (fun h => hm0 ▸ h) ?_
    clear hm0
    go_wp2_with (first | (go_at_call 156; refine (Calls.later m (areJoinedC_any _ _ _ _ _ _ _ _ #[] _ _ (hr.later m) hrl (hl.later m) hll hcap (fun _ _ => rfl) (pathPat _ _ hll))).mono ?_; rintro e w' ⟨rfl, m, rfl⟩))
    go_ret
    exact ⟨retB (by rw [HE.out]), below_later HhB.out m⟩
  · have HE : Hid (pathB n rs l = false) := by show pathB n rs l = _; unfold pathB; rw [decide_eq_false h0]; rfl
    have d0 : decide ((0 : Int) < (l.length : Int)) = false := decide_eq_false (by omega)
    go_enter Tryz.func139, Tryz.ntmps139
    go_wp2_with fail
    go_ret
    exact ⟨retB (by rw [HE.out]), (Below.refl _ _).alloc (Nat.le_refl _) _⟩

end Go.Proofs.YtjikmjhpmkakoaaGreatDoor

namespace Go.Proofs.YtjikmjhpmkakoaaGreatDoor
open Go.RowKit

theorem joinedAt_rev {rs l : List Int} (g : VG rs) {pat : Nat → Nat → Bool} {k t u v : Nat} (hu : gi l t = u) (hu2 : u < rs.length) (hv : gi l k = v) (hv2 : v < rs.length) : joinedAt rs l pat k t = ((gn rs v).testBit u == pat t k) := by
  unfold joinedAt; rw [hu, hv, Int.toNat_natCast, Int.toNat_natCast, ← g.sym u hu2 v hv2]

end Go.Proofs.YtjikmjhpmkakoaaGreatDoor

namespace Go.Proofs.YtjikmjhpmkakoaaGreatDoor
open Go.RowKit

set_option maxRecDepth 100000 in
set_option maxHeartbeats 2000000 in
theorem specIsPath_any (n : Int) (rs l : List Int) (ro lo : Option Addr) (rc lc : Nat) (w : World) (hr : IntsAt w ro rs) (hrl : rs.length ≤ 1048576) (hl : IntsAt w lo l) (hll : l.length ≤ 1048576) :
    Calls Tryz.prog 159 #[.agg #[.int .i64 n, .slice ro rs.length rc], .slice lo l.length lc] w fun e w' => e = .returned (.bool (pathB n rs l)) ∧ Below w.heap.size w w' := by
  go_enter Tryz.func159, Tryz.ntmps159
  go_wp2_with fail
  generalize hW : w.alloc _ = W1
  obtain ⟨hB, -, k0⟩ := alloc1 hW
  replace hr := hr.below hB
  replace hl := hl.below hB
  have hb0 := k0.lt
  have hc0 := k0.cell 0
  have hc1 := k0.cell 1
  simp at hc0 hc1
  clear hW k0
  have HhB := Lib.hid hB
  clear hB
  obtain ⟨m, hm0⟩ : ∃ m : Later W1, m.w = W1 := ⟨Later.refl _, rfl⟩
  refine (fun h => hm0 ▸ h) ?_
  clear hm0
  cases hv : vertsB n rs l
  · have HE : Hid (pathB n rs l = false) := by show pathB n rs l = _; unfold pathB; rw [joinB_no hv, Bool.and_false]
    go_wp2_with (first | (go_at_call 172; refine (Calls.later m (l4Distinct_any _ _ _ _ _ _ _ _ (hr.later m) hrl (hl.later m) hll)).mono ?_; rintro e w' ⟨rfl, m, rfl⟩))
    go_ret
    exact ⟨retB (by rw [HE.out]), below_later HhB.out m⟩
  by_cases h0 : 0 < l.length
  · have HE : Hid (pathB n rs l = joinB n rs l pathP) := by show pathB n rs l = _; unfold pathB; rw [decide_eq_true h0]; rfl
    have hz : ((l.length : Int) == 0) = false := by rw [beq_eq_false_iff_ne]; omega
    obtain ⟨rfl, g⟩ := VG.of (vertsB_true.1 hv).1
    go_wp2_with (first | (go_at_call 172; refine (Calls.later m (l4Distinct_any _ _ _ _ _ _ _ _ (hr.later m) hrl (hl.later m) hll)).mono ?_; rintro e w' ⟨rfl, m, rfl⟩))
    clear hz
    go_loopw [5] (fun i wr => (∃ m : Later W1, wr = m.w) ∧ ∃ k : Nat, k ≤ l.length ∧ i = .int .i64 k ∧ ∀ i, i < k → ∀ j, j < i → joinedAt rs l pathP i j = true) (fun i _ => l.length - (intOf i).toNat)
    case atStart => exact ⟨⟨m, rfl⟩, 0, by omega, rfl, fun j h => by omega⟩
    case round =>
      obtain ⟨⟨m, rfl⟩, k, hk, rfl, hP⟩ := hrel
      have HhP := Lib.hid hP
      clear hP
      by_cases hlt : k < l.length
      · have hkk : decide ((k : Int) < (l.length : Int)) = true := decide_eq_true (by omega)
        go_wp2_with fail
        go_loopw [6] (fun i wr => (∃ m : Later W1, wr = m.w) ∧ ∃ t : Nat, t ≤ k ∧ i = .int .i64 t ∧ ∀ j, j < t → joinedAt rs l pathP k j = true) (fun i _ => k - (intOf i).toNat)
        case atStart => exact ⟨⟨m, rfl⟩, 0, by omega, rfl, fun j h => by omega⟩
        case round =>
          obtain ⟨⟨m, rfl⟩, t, ht, rfl, hR⟩ := hrel
          have HhR := Lib.hid hR
          clear hR
          by_cases htt : t < k
          · obtain ⟨lb, lofs, rfl, hlb, hlc⟩ := hl (by omega)
            have htl : t < l.length := by omega
            obtain ⟨u, hu, hu2⟩ := vertex_at hv htl
            obtain ⟨v, hv1, hv2⟩ := vertex_at hv hlt
            have hcu := hlc t htl
            have hcv := hlc k hlt
            rw [hu] at hcu
            rw [hv1] at hcv
            have HQ : Hid (joinedAt rs l pathP k t = ((gn rs v).testBit u == pathP t k)) := joinedAt_rev g hu hu2 hv1 hv2
            have HP : Hid (pathP t k = ((t : Int) == (k : Int) - 1)) := by show pathP t k = _; unfold pathP; rw [Bool.eq_iff_iff, decide_eq_true_eq, beq_iff_eq]; omega
            clear hlc hu hv1
            have hA := fun m : Later W1 => l2Edge_any rs v u ro rc m.w (hr.later m) g hv2 hu2
            have FIN : Hid (∀ b, pathP t k = b → ((gn rs v).testBit u == b) = true → ∀ i, i < t + 1 → joinedAt rs l pathP k i = true) := fun b h1 h2 => all_succ HhR.out (by rw [HQ.out, h1]; exact h2)
            have BAD : Hid (∀ b, pathP t k = b → ((gn rs v).testBit u == b) = false → pathB rs.length rs l = false) := fun b h1 h2 => by rw [HE.out]; exact joinB_bad hlt htt (by rw [HQ.out, h1]; exact h2)
            cases hq : ((t : Int) == (k : Int) - 1)
            all_goals
              have HT := Lib.hid (HP.out.trans hq)
              go_wp2_with fail
              cases he : (gn rs v).testBit u
              all_goals
                simp only [he] at hA
                refine wp_region_later m rfl (by kernel_rfl) (by kernel_rfl) ?_
                repeat (go_big_quiet_step ((first | (go_at_call 101; exact Calls.later _ (hA _)))))
                refine wpQuiet_nil ?_
                rintro _ ⟨m, rfl⟩
                go_wp2_with fail
            · go_roundw
              case rel => exact ⟨⟨m, rfl⟩, t + 1, by omega, by go_num, FIN.out _ HT.out (by rw [he]; rfl)⟩
              case measure => simp [intOf]; omega
            · go_ret
              exact ⟨retB (by rw [BAD.out _ HT.out (by rw [he]; rfl)]), below_later HhB.out m⟩
            · go_ret
              exact ⟨retB (by rw [BAD.out _ HT.out (by rw [he]; rfl)]), below_later HhB.out m⟩
            · go_roundw
              case rel => exact ⟨⟨m, rfl⟩, t + 1, by omega, by go_num, FIN.out _ HT.out (by rw [he]; rfl)⟩
              case measure => simp [intOf]; omega
          · go_wp2_with fail
            go_roundw
            case rel => exact ⟨⟨m, rfl⟩, k + 1, by omega, by go_num, all_succ HhP.out (fun j h => HhR.out j (by omega))⟩
            case measure => simp [intOf]; omega
      · have HJ := Lib.hid (joinB_ok (pat := pathP) hv (fun i h => HhP.out i (by omega)))
        go_wp2_with fail
        go_ret
        exact ⟨retB (by rw [HE.out, HJ.out]), below_later HhB.out m⟩
  · have HE : Hid (pathB n rs l = false) := by show pathB n rs l = _; unfold pathB; rw [decide_eq_false h0]; rfl
    have hz : ((l.length : Int) == 0) = true := by rw [beq_iff_eq]; omega
    clear h0
    go_wp2_with (first | (go_at_call 172; refine (Calls.later m (l4Distinct_any _ _ _ _ _ _ _ _ (hr.later m) hrl (hl.later m) hll)).mono ?_; rintro e w' ⟨rfl, m, rfl⟩))
    go_ret
    exact ⟨retB (by rw [HE.out]), below_later HhB.out m⟩

end Go.Proofs.YtjikmjhpmkakoaaGreatDoor

namespace Go.Proofs.YtjikmjhpmkakoaaGreatDoor
open Go.RowKit

theorem OwnE.cap_le {w : World} {base cap : Nat} {ao : Option Addr} {xs : List Int} (h : OwnE w base ao cap xs) : xs.length ≤ cap := by
  by_cases h0 : 0 < xs.length
  · obtain ⟨g, -, -, cur, -, hn, -⟩ := h.row h0
    exact hn
  · omega
/-- As RetD, RetI; and the list fits its room. -/
def RetDC (w : World) (f : Nat) (s : Option (List Int)) (e : Ending) (w' : World) : Prop := ∃ ao cap xs, e = .returned (.tuple #[.slice ao xs.length cap, .bool s.isSome]) ∧ Below w.heap.size w w' ∧ IntsAt w' ao xs ∧ (∀ x, s = some x → xs = x) ∧ (1 ≤ f → s = none → xs = []) ∧ xs.length ≤ cap
def RetIC (w : World) (s : Option (List Int)) (e : Ending) (w' : World) : Prop := ∃ ao cap, e = .returned (.tuple #[.slice ao (s.getD []).length cap, .bool s.isSome]) ∧ Below w.heap.size w w' ∧ IntsAt w' ao (s.getD []) ∧ (s.getD []).length ≤ cap
theorem RetDC.top {w w' : World} {f : Nat} {s : Option (List Int)} {e : Ending} (h : RetDC w f s e w') (hf : 1 ≤ f) : RetIC w s e w' := by
  obtain ⟨ao, cap, xs, rfl, h1, h2, h3, h4, h5⟩ := h
  cases s with
  | none => obtain rfl := h4 hf rfl; exact ⟨ao, cap, rfl, h1, h2, h5⟩
  | some x => obtain rfl := h3 x rfl; exact ⟨ao, cap, rfl, h1, h2, h5⟩
end Go.Proofs.YtjikmjhpmkakoaaGreatDoor

namespace Go.Proofs.YtjikmjhpmkakoaaGreatDoor
open Go.RowKit

theorem verts_headF {n : Int} {rs a b : List Int} (h : vertsB n rs (a ++ b) = true) : vertsB n rs a = true := by
  rw [vertsB_true] at h ⊢
  refine ⟨h.1, fun j hj => ?_⟩
  obtain ⟨h1, h2⟩ := h.2 j (by simp; omega)
  rw [gi_left hj] at h1
  refine ⟨h1, fun i hi => ?_⟩
  have := h2 i hi
  rwa [gi_left hj, gi_left (by omega)] at this
theorem verts_newF {n : Int} {rs l t : List Int} {v : Nat} (h : vertsB n rs (l ++ [(v : Int)] ++ t) = true) : inB l (v : Int) = false := by
  rw [← Bool.not_eq_true, inB_true]
  rintro ⟨j, hj, e⟩
  rw [vertsB_true] at h
  have := (h.2 l.length (by simp)).2 j hj
  rw [gi_mid, List.append_assoc, gi_left hj] at this
  exact this e
theorem path_new {rs l : List Int} {v : Nat} (h : pathB rs.length rs (l ++ [(v : Int)]) = true) : inB l (v : Int) = false := by
  unfold pathB joinB at h
  rw [Bool.and_eq_true, Bool.and_eq_true] at h
  exact verts_newF (t := []) (l := l) (v := v) (by rw [List.append_nil]; exact h.2.1)

set_option maxRecDepth 100000 in
set_option maxHeartbeats 4000000 in
theorem l4SearchP_any (rs : List Int) (ro : Option Addr) (rc : Nat) (hv : isGraphB rs.length rs = true) (kk : Nat) (hk7 : kk ≤ 7) : ∀ (f : Nat) (l : List Int) (n lc : Nat) (la : Addr) (w : World), l.length + f = kk → n = l.length → n ≤ lc → IntsAt w ro rs → IntsAt w (some la) l →
    Calls Tryz.prog 141 #[.agg #[.int .i64 rs.length, .slice ro rs.length rc], .slice (some la) n lc, .int .i64 kk, .bool false] w (RetDC w f (dfs (pathB rs.length rs) (fun _ => true) rs.length f l)) := by
  have g := (VG.of hv).2
  have hg1 := g.pos
  have hg2 := g.le
  intro f
  induction f with
  | zero =>
    intro l n lc la w hlf hn hnc hr hl
    subst hn
    have HC := Lib.hid hnc
    clear hnc
    have hN : ((l.length : Int) == (kk : Int)) = true := by rw [beq_iff_eq]; omega
    have HD : Hid (dfs (pathB rs.length rs) (fun _ => true) rs.length 0 l = some l) := rfl
    have Hhlf := Lib.hid hlf
    clear hlf
    go_enter Tryz.func141, Tryz.ntmps141
    go_wp2_with fail
    generalize hW : w.alloc _ = W1
    obtain ⟨hB, -, k0⟩ := alloc1 hW
    replace hr := hr.below hB
    replace hl := hl.below hB
    have hb0 := k0.lt
    have hc0 := k0.cell 0
    have hc1 := k0.cell 1
    simp at hc0 hc1
    clear hW k0
    have HhB := Lib.hid hB
    clear hB
    obtain ⟨m, hm0⟩ : ∃ m : Later W1, m.w = W1 := ⟨Later.refl _, rfl⟩
    refine (fun h => hm0 ▸ h) ?_
    clear hm0
    go_wp2_with fail
    go_ret2
    rw [HD.out]
    exact ⟨some la, lc, l, rfl, below_later HhB.out m, hl.later m, fun x hx => Option.some.inj hx, fun h => absurd h (by omega), HC.out⟩
  | succ f ih =>
    intro l n lc la w hlf hn hnc hr hl
    subst hn
    clear hnc
    have hN : ((l.length : Int) == (kk : Int)) = false := by rw [beq_eq_false_iff_ne]; omega
    have hl5 : l.length ≤ 6 := by omega
    have Hih := Lib.hid ih
    clear ih
    have Hhlf := Lib.hid hlf
    clear hlf
    go_enter Tryz.func141, Tryz.ntmps141
    go_wp2_with fail
    generalize hW : w.alloc _ = W1
    obtain ⟨hB, -, k0⟩ := alloc1 hW
    replace hr := hr.below hB
    replace hl := hl.below hB
    have hb0 := k0.lt
    have hc0 := k0.cell 0
    have hc1 := k0.cell 1
    simp at hc0 hc1
    clear hW k0
    have HhB := Lib.hid hB
    clear hB
    obtain ⟨m, hm0⟩ : ∃ m : Later W1, m.w = W1 := ⟨Later.refl _, rfl⟩
    refine (fun h => hm0 ▸ h) ?_
    clear hm0
    go_wp2_with fail
    go_loopw [10] (fun i wr => (∃ m : Later W1, wr = m.w) ∧ ∃ j : Nat, j ≤ rs.length ∧ i = .int .i64 j ∧ preF (flStep (flRun (S := Unit) (fun _ _ => ((), true)) (pathB rs.length rs) rs.length f) (pathB rs.length rs) l) ((), none) j = (((), none), true)) (fun i _ => rs.length - (intOf i).toNat)
    case atStart => exact ⟨⟨m, rfl⟩, 0, by omega, rfl, rfl⟩
    case round =>
      obtain ⟨⟨m, rfl⟩, j, hj, rfl, hP⟩ := hrel
      have HhP := Lib.hid hP
      clear hP
      have hms := m.size
      by_cases hlt : j < rs.length
      · have hx : (l ++ [(j : Int)]).length = l.length + 1 := by simp
        have HS := Lib.hid (fun h => (preF_go HhP.out).trans (flStep_skip (rec := flRun (S := Unit) (fun _ _ => ((), true)) (pathB rs.length rs) rs.length f) (may := pathB rs.length rs) (l := l) (v := j) (s := ()) (.inr h)))
        have HG := Lib.hid (fun h => (preF_go HhP.out).trans (flStep_dfs (q := fun _ => true) (N := rs.length) (f := f) (path_new h) h rfl))
        have hih := fun (n lc : Nat) (la : Addr) (w : World) (h1 : n = (l ++ [(j : Int)]).length) (h4 : n ≤ lc) h2 h3 => Hih.out (l ++ [(j : Int)]) n lc la w (by have := Hhlf.out; omega) h1 h4 h2 h3
        generalize dfs (pathB rs.length rs) (fun _ => true) rs.length f (l ++ [(j : Int)]) = O at HG hih
        have hp := fun (ao : Option Addr) (c : Nat) (w : World) h1 h2 => specIsPath_any rs.length rs (l ++ [(j : Int)]) ro ao rc c w h1 (by omega) h2 (by omega)
        rw [hx] at hih hp
        have hx0 := hx
        have Hhx := Lib.hid hx
        clear hx
        have Hhih := Lib.hid hih
        clear hih
        have Hhp := Lib.hid hp
        clear hp
        have Hhx0 := Lib.hid hx0
        clear hx0
        go_wp2_with (first | (at_builtin; first | ((refine wpList_append_cp rfl (.tmp 30) (.tmp 31) rfl m.w.heap.size _ la l lc rfl rfl ((hl.later m).below ((Below.refl _ _).alloc (Nat.le_refl _) _)) (by simp) (by omega) ?_); intro ao1 cap1 w1 hne1 hown1 hBw1; have hsz : m.w.heap.size + 1 ≤ w1.heap.size := by (have := hBw1.size; simp at this; omega)) | ((refine wpList_append_e rfl (.tmp 32) (.tmp 34) rfl m.w.heap.size cap1 ao1 l (j : Int) rfl hown1 rfl (by omega) (by omega) ?_); intro ao2 cap2 w2 hown2 hBw2; obtain ⟨lb2, lo2, rfl, -, -⟩ := hown2.ints (by simp); have hB2 : Below m.w.heap.size m.w w2 := ((((Below.refl _ _).alloc (Nat.le_refl _) _).trans (hBw1.mono (by simp))).trans hBw2); obtain ⟨m2, hm2⟩ : ∃ m2 : Later W1, m2.w = w2 := ⟨m.on hB2, rfl⟩; subst hm2)))
        have hI2 := hown2.ints
        have hC2 := hown2.cap_le
        rw [Hhx0.out] at hC2
        have HhC2 := Lib.hid hC2
        clear hC2
        clear hown1 hown2 hBw1 hBw2 hsz hne1 hB2
        refine (Hhp.out _ _ _ (hr.later m2) hI2).mono ?_
        rintro e w3 ⟨rfl, hB3⟩
        have hI3 := hI2.below hB3
        obtain ⟨m3, rfl⟩ : ∃ m3 : Later W1, m3.w = w3 := ⟨m2.on hB3, rfl⟩
        clear hI2 hB3
        cases hpb : pathB rs.length rs (l ++ [(j : Int)])
        · go_wp2_with fail
          go_roundw
          case rel => exact ⟨⟨m3, rfl⟩, j + 1, by omega, by go_num, HS.out hpb⟩
          case measure => simp [intOf]; omega
        · have HG' := Lib.hid (HG.out hpb)
          rcases O with _ | x
          · go_wp2_with fail
            refine (Hhih.out _ _ _ _ rfl HhC2.out (hr.later m3) hI3).mono ?_
            rintro e w5 ⟨ao5, cap5, xs5, rfl, hB5, hI5, hE5, hN5, hC5⟩
            obtain ⟨m5, rfl⟩ : ∃ m5 : Later W1, m5.w = w5 := ⟨m3.on hB5, rfl⟩
            clear hI5 hE5 hN5 hB5 hC5
            go_wp2_with fail
            go_roundw
            case rel => exact ⟨⟨m5, rfl⟩, j + 1, by omega, by go_num, HG'.out⟩
            case measure => simp [intOf]; omega
          · have HE := Lib.hid (dfs_hit hlt HG'.out)
            go_wp2_with fail
            refine (Hhih.out _ _ _ _ rfl HhC2.out (hr.later m3) hI3).mono ?_
            rintro e w5 ⟨ao5, cap5, xs5, rfl, hB5, hI5, hE5, hN5, hC5⟩
            obtain ⟨m5, rfl⟩ : ∃ m5 : Later W1, m5.w = w5 := ⟨m3.on hB5, rfl⟩
            obtain rfl := hE5 _ rfl
            have HhI5 := Lib.hid hI5
            clear hI5
            have HhC5 := Lib.hid hC5
            clear hC5
            clear hE5 hN5 hB5
            go_wp2_with fail
            go_ret2
            rw [HE.out]
            exact ⟨ao5, cap5, _, rfl, below_later HhB.out m5, HhI5.out, fun x h => Option.some.inj h, (fun _ h => by cases h), HhC5.out⟩
      · obtain rfl : j = rs.length := by omega
        have HE := Lib.hid (dfs_none HhP.out)
        go_wp2_with fail
        go_ret2
        rw [HE.out]
        exact ⟨_, _, [], rfl, (below_later HhB.out m).alloc (below_later HhB.out m).size _, fun h => absurd h (by simp), fun x h => absurd h (by simp), (fun _ _ => rfl), by simp⟩

end Go.Proofs.YtjikmjhpmkakoaaGreatDoor

namespace Go.Proofs.YtjikmjhpmkakoaaGreatDoor
open Go.RowKit

theorem always_any (X : Nat → Prop) (W : World) (n : Nat) : HoldsOf (S := Unit) 140 #[] X W (fun _ _ => ((), true)) (fun _ _ => True) n := by
  intro m s l ao cap _ hl hn hc
  show Calls Tryz.prog 140 #[.slice ao n cap] m.w _
  go_enter Tryz.func140, Tryz.ntmps140
  go_wp2_with fail
  go_ret
  exact ⟨rfl, trivial, Only.refl _ _ _⟩
end Go.Proofs.YtjikmjhpmkakoaaGreatDoor
