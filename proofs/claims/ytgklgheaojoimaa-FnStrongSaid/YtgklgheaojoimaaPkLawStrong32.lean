/-
  FindSun of the program, and what both sides find. For at most 2^20 rows.
  What searches hand back: the list fits its room. No conditions.
  The walk of l8Has of the reference. For at most 2^20 list elements.
-/
import Derived.Test.YtgklgheaojoimaaPkLawStrong21
import Derived.Test.YtgklgheaojoimaaPkLawStrong31
import Derived.Test.YtgklgheaojoimaaPkLawStrong10
namespace Go.Proofs.Ytgklgheaojoimaa
open Go.RowKit

/-! ### Beginnings of lists -/
theorem vertsB_head {n : Int} {rs a b : List Int} (h : vertsB n rs (a ++ b) = true) : vertsB n rs a = true := by
  rw [vertsB_true] at h ⊢
  refine ⟨h.1, fun j hj => ?_⟩
  obtain ⟨h1, h2⟩ := h.2 j (by simp; omega)
  rw [gi_left hj] at h1
  refine ⟨h1, fun i hi => ?_⟩
  have := h2 i hi
  rwa [gi_left hj, gi_left (by omega)] at this
theorem vertsB_new {n : Int} {rs l t : List Int} {v : Nat} (h : vertsB n rs (l ++ [(v : Int)] ++ t) = true) : inB l (v : Int) = false := by
  rw [← Bool.not_eq_true, inB_true]
  rintro ⟨j, hj, e⟩
  rw [vertsB_true] at h
  have := (h.2 l.length (by simp)).2 j hj
  rw [gi_mid, List.append_assoc, gi_left hj] at this
  exact this e
theorem joinedAt_head {rs a b : List Int} {pat : Nat → Nat → Bool} {i j : Nat} (hi : i < a.length) (hj : j < a.length) : joinedAt rs (a ++ b) pat i j = joinedAt rs a pat i j := by
  unfold joinedAt; rw [gi_left hi, gi_left hj]
theorem joinB_true {n : Int} {rs l : List Int} {pat : Nat → Nat → Bool} : joinB n rs l pat = true ↔ vertsB n rs l = true ∧ ∀ i, i < l.length → ∀ j, j < i → joinedAt rs l pat i j = true := by
  unfold joinB; rw [Bool.and_eq_true, decide_eq_true_eq]
theorem joinB_head {n : Int} {rs a b : List Int} {pat : Nat → Nat → Bool} (h : joinB n rs (a ++ b) pat = true) : joinB n rs a pat = true := by
  rw [joinB_true] at h ⊢
  refine ⟨vertsB_head h.1, fun i hi j hj => ?_⟩
  rw [← joinedAt_head (b := b) hi (by omega)]
  exact h.2 i (by simp; omega) j hj

/-! ### Suns -/
/-- What the reference asks of a beginning: the first is joined to the second and the third. -/
def sunMay (rs x : List Int) : Bool := !((decide (x.length < 4) && decide (1 < x.length)) && !(gn rs (gi x 0).toNat).testBit (gi x (x.length - 1)).toNat)
theorem sunB_join {n : Int} {rs l : List Int} (h : sunB n rs l = true) : joinB n rs l sunP = true := by unfold sunB at h; rw [Bool.and_eq_true] at h; exact h.2
theorem nec_sun (n : Int) (rs : List Int) : Nec (fun l => joinB n rs l sunP) (fun l => sunB n rs l) 6 := fun _ _ _ _ h =>
  have hj := sunB_join h
  ⟨vertsB_new (joinB_true.1 hj).1, joinB_head hj⟩
theorem nec_sunMay (n : Int) (rs : List Int) : Nec (fun l => sunMay rs l) (fun l => sunB n rs l) 6 := fun l v _ _ h => by
  have hj := sunB_join h
  refine ⟨vertsB_new (joinB_true.1 hj).1, ?_⟩
  have hx : (l ++ [(v : Int)]).length = l.length + 1 := by simp
  show sunMay rs (l ++ [(v : Int)]) = true
  unfold sunMay
  rw [hx, show l.length + 1 - 1 = l.length from rfl]
  by_cases h1 : l.length + 1 < 4 ∧ 1 < l.length + 1
  · have e := (joinB_true.1 (joinB_head hj)).2 l.length (by simp) 0 (by omega)
    unfold joinedAt at e
    have hs : sunP 0 l.length = true := by unfold sunP; rw [decide_eq_true (by omega)]; rfl
    rw [hs, beq_iff_eq] at e
    rw [e]; simp
  · have : (decide (l.length + 1 < 4) && decide (1 < l.length + 1)) = false := by
      rw [← Bool.not_eq_true, Bool.and_eq_true, decide_eq_true_eq, decide_eq_true_eq]; exact h1
    rw [this]; rfl
/-- What FindSun says. -/
def sunV (n : Int) (rs : List Int) : Option (List Int) := if isGraphB n rs = true then dfs (fun l => joinB n rs l sunP) (fun l => sunB n rs l) rs.length 6 [] else none
theorem sunV_no {n : Int} {rs : List Int} (h : isGraphB n rs = false) : sunV n rs = none := by unfold sunV; rw [h]; rfl
theorem sunV_impl {rs : List Int} (h : isGraphB rs.length rs = true) : (flRun (S := Unit) (fun _ _ => ((), true)) (fun l => joinB rs.length rs l sunP) rs.length 6 () []).2 = sunV rs.length rs := by
  unfold sunV; rw [if_pos h, dfs_always (n := 6) (q := fun l => sunB rs.length rs l) rs.length (fun l v h1 _ h3 => by
    show sunB _ _ _ = true
    unfold sunB; rw [decide_eq_true h1]; exact h3) 6 [] rfl (fun h => by cases h)]
  rfl
theorem sunV_spec {rs : List Int} (h : isGraphB rs.length rs = true) : sunV rs.length rs = dfs (fun l => sunMay rs l) (fun l => sunB rs.length rs l) rs.length 6 [] := by
  unfold sunV; rw [if_pos h]; exact dfs_prune rs.length (nec_sun _ rs) (nec_sunMay _ rs) 6 [] rfl
theorem sunV_len (n : Int) (rs : List Int) : ((sunV n rs).getD []).length ≤ 1048576 := by
  unfold sunV; split
  · exact Nat.le_trans (dfs_len (n := 6) rfl) (by omega)
  · simp

set_option maxRecDepth 100000 in
set_option maxHeartbeats 1000000 in
theorem implFindSun_any (n : Int) (rs : List Int) (ro : Option Addr) (rc : Nat) (w : World) (hr : IntsAt w ro rs) (hrl : rs.length ≤ 1048576) :
    Calls Try.prog 39 #[.agg #[.int .i64 n, .slice ro rs.length rc]] w (RetO w (sunV n rs)) := by
  go_enter Try.func39, Try.ntmps39
  go_wp2_with fail
  generalize hW : w.alloc _ = W1
  obtain ⟨hB, -, k0⟩ := alloc1 hW
  replace hr := hr.below hB
  have hb0 := k0.lt
  have hc0 := k0.cell 0
  have hc1 := k0.cell 1
  simp at hc0 hc1
  clear hW k0
  have HhB := Lib.hid hB
  clear hB
  cases hv : isGraphB n rs
  · have HE := Lib.hid (sunV_no hv)
    go_wp2_with fail
    refine (firstList_bad n 6 rs ro rc 113 81 _ _ W1 hr hrl hv).mono ?_
    rintro e w3 ⟨rfl, hB3⟩
    go_wp2_with fail
    go_ret2
    exact ⟨none, 0, by rw [HE.out]; rfl, below_more' HhB.out hB3, by rw [HE.out]; exact .inl (OwnL.nil _ _)⟩
  · obtain ⟨rfl, g⟩ := VG.of hv
    have HE := Lib.hid (sunV_impl hv)
    go_wp2_with fail
    refine (firstList_any (S := Unit) (fun _ _ => ((), true)) (fun l => joinB rs.length rs l sunP) (fun _ _ => True) (fun _ => False) rs ro rc 6 113 81 #[.pointer (some ⟨w.heap.size, 0, none⟩)] #[] () W1 hr hv (by omega) (by omega)
      (fun _ h => h.elim) (fun _ _ => rfl) (fun _ _ => rfl) ?_ (always_any _ _ _) (fun _ _ _ _ _ => trivial) trivial).mono ?_
    · intro m l ao k cap hl hk hc hn h0
      subst hk
      show Calls Try.prog 113 #[.slice ao l.length cap, .pointer (some ⟨w.heap.size, 0, none⟩)] m.w _
      have hrm : IntsAt m.w ro rs := hr.below (m.only.below (Nat.le_refl _) fun _ _ h => h)
      have hno : ¬(fun _ : Nat => False) w.heap.size := fun h => h
      go_enter Try.func113, Try.ntmps113
      go_wp2_with (first | (go_at_call 114; refine (areJoined_any rs.length rs l ro ao rc cap 115 sunP m.w hrm hrl hl (by omega) hc (fun _ _ => rfl) (fun j i w hj hi => isSunEdge_any j i w hj (by omega))).mono ?_; rintro e w3 ⟨rfl, hB3⟩))
      go_ret
      exact ⟨rfl, hB3⟩
    · rintro e w3 ⟨ao, cap, rfl, hO, -, hE⟩
      have hB3 : Below W1.heap.size W1 w3 := hO.below (Nat.le_refl _) fun _ _ h => h
      rw [HE.out]
      rw [HE.out] at hE
      generalize sunV rs.length rs = O at *
      have HhE := Lib.hid hE
      clear hE
      have HhB3 := Lib.hid hB3
      clear hB3
      clear hO
      go_wp2_with fail
      go_ret2
      exact ⟨ao, cap, rfl, below_more' HhB.out HhB3.out, HhE.out.mono' HhB.out.size⟩

end Go.Proofs.Ytgklgheaojoimaa

namespace Go.Proofs.Ytgklgheaojoimaa
open Go.RowKit

theorem OwnE.cap_le {w : World} {base cap : Nat} {ao : Option Addr} {xs : List Int} (h : OwnE w base ao cap xs) : xs.length ≤ cap := by
  by_cases h0 : 0 < xs.length
  · obtain ⟨g, -, -, cur, -, hn, -⟩ := h.row h0
    exact hn
  · omega
/-- As RetD, RetI; and the list fits its room. -/
def RetDC (w : World) (f : Nat) (s : Option (List Int)) (e : Ending) (w' : World) : Prop := ∃ ao cap xs, e = .returned (.tuple #[.slice ao xs.length cap, .bool s.isSome]) ∧ Below w.heap.size w w' ∧ IntsAt w' ao xs ∧ (∀ x, s = some x → xs = x) ∧ (1 ≤ f → s = none → xs = []) ∧ xs.length ≤ cap
def RetIC (w : World) (s : Option (List Int)) (e : Ending) (w' : World) : Prop := ∃ ao cap, e = .returned (.tuple #[.slice ao (s.getD []).length cap, .bool s.isSome]) ∧ Below w.heap.size w w' ∧ IntsAt w' ao (s.getD []) ∧ (s.getD []).length ≤ cap
theorem RetDC.top {w w' : World} {f : Nat} {s : Option (List Int)} {e : Ending} (h : RetDC w f s e w') (hf : 1 ≤ f) : RetIC w s e w' := by
  obtain ⟨ao, cap, xs, rfl, h1, h2, h3, h4, h5⟩ := h
  cases s with
  | none => obtain rfl := h4 hf rfl; exact ⟨ao, cap, rfl, h1, h2, h5⟩
  | some x => obtain rfl := h3 x rfl; exact ⟨ao, cap, rfl, h1, h2, h5⟩

end Go.Proofs.Ytgklgheaojoimaa

namespace Go.Proofs.Ytgklgheaojoimaa
open Go.RowKit

theorem inB_hit {xs : List Int} {v : Int} {k : Nat} (hk : k < xs.length) (h : (gi xs k == v) = true) : inB xs v = true := inB_true.2 ⟨k, hk, by simpa using h⟩
theorem inB_miss {xs : List Int} {v : Int} (h : ∀ j, j < xs.length → (gi xs j == v) = false) : inB xs v = false := by
  rw [← Bool.not_eq_true, inB_true]
  rintro ⟨j, hj, e⟩
  have := h j hj
  rw [e] at this; simp at this

theorem l8Has_any (xs : List Int) (v : Int) (ao : Option Addr) (n c : Nat) (w : World) (hx : IntsAt w ao xs) (hn : n = xs.length) (hl : n ≤ 1048576) :
    Calls Try.prog 149 #[.slice ao n c, .int .i64 v] w fun e w' => e = .returned (.bool (inB xs v)) ∧ w = w' := by
  subst hn
  go_enter Try.func149, Try.ntmps149
  go_wp2_with fail
  go_loopw [5] (fun i wr => wr = w ∧ ∃ k : Nat, k ≤ xs.length ∧ i = .int .i64 k ∧ ∀ j, j < k → (gi xs j == v) = false) (fun i _ => xs.length - (intOf i).toNat)
  case atStart => exact ⟨rfl, 0, by omega, rfl, fun j h => by omega⟩
  case round =>
    obtain ⟨rfl, k, hk, rfl, hP⟩ := hrel
    have HhP := Lib.hid hP
    clear hP
    by_cases hlt : k < xs.length
    · obtain ⟨b, off, rfl, hb, hc⟩ := hx (by omega)
      have hkc := hc k hlt
      have HH := Lib.hid (fun h => inB_hit (v := v) hlt h)
      have HN := Lib.hid (fun h => all_succ (p := fun j => (gi xs j == v) = false) HhP.out h)
      clear hc
      generalize gi xs k = a at *
      cases he : (a == v)
      · go_wp2_with fail
        go_roundw
        case rel => exact ⟨by trivial, k + 1, by omega, by go_num, HN.out he⟩
        case measure => simp [intOf]; omega
      · go_wp2_with fail
        go_ret
        exact ⟨retB (by rw [HH.out he]), rfl⟩
    · have HM := Lib.hid (inB_miss (fun j hj => HhP.out j (by omega)))
      go_wp2_with fail
      go_ret
      exact ⟨retB (by rw [HM.out]), rfl⟩

end Go.Proofs.Ytgklgheaojoimaa
