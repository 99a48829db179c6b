/-
  What searches hand back: the list fits its room. No conditions.
  Odd cycles: IsOddCycle on both sides, what a search for one finds. For at most 2^20 rows and list elements.
-/
import Derived.Test.YtgklgheaojoimaaFirstList
import Derived.Test.YtgklgheaojoimaaDistinct
namespace Go.Proofs.Ytgklgheaojoimaa
open Go.RowKit

theorem OwnE.cap_le {w : World} {base cap : Nat} {ao : Option Addr} {xs : List Int} (h : OwnE w base ao cap xs) : xs.length ≤ cap := by
  by_cases h0 : 0 < xs.length
  · obtain ⟨g, -, -, cur, -, hn, -⟩ := h.row h0
    exact hn
  · omega
/-- As RetD, RetI; and the list fits its room. -/
def RetDC (w : World) (f : Nat) (s : Option (List Int)) (e : Ending) (w' : World) : Prop := ∃ ao cap xs, e = .returned (.tuple #[.slice ao xs.length cap, .bool s.isSome]) ∧ Below w.heap.size w w' ∧ IntsAt w' ao xs ∧ (∀ x, s = some x → xs = x) ∧ (1 ≤ f → s = none → xs = []) ∧ xs.length ≤ cap
def RetIC (w : World) (s : Option (List Int)) (e : Ending) (w' : World) : Prop := ∃ ao cap, e = .returned (.tuple #[.slice ao (s.getD []).length cap, .bool s.isSome]) ∧ Below w.heap.size w w' ∧ IntsAt w' ao (s.getD []) ∧ (s.getD []).length ≤ cap
theorem RetDC.top {w w' : World} {f : Nat} {s : Option (List Int)} {e : Ending} (h : RetDC w f s e w') (hf : 1 ≤ f) : RetIC w s e w' := by
  obtain ⟨ao, cap, xs, rfl, h1, h2, h3, h4, h5⟩ := h
  cases s with
  | none => obtain rfl := h4 hf rfl; exact ⟨ao, cap, rfl, h1, h2, h5⟩
  | some x => obtain rfl := h3 x rfl; exact ⟨ao, cap, rfl, h1, h2, h5⟩

end Go.Proofs.Ytgklgheaojoimaa

namespace Go.Proofs.Ytgklgheaojoimaa
open Go.RowKit

theorem vertex_of {n : Int} {rs l : List Int} (h : vertsB n rs l = true) {j : Nat} (hj : j < l.length) : ∃ v : Nat, gi l j = v ∧ v < rs.length := by
  obtain ⟨a, b⟩ := ((vertsB_true.1 h).2 j hj).1
  exact ⟨(gi l j).toNat, by omega, by omega⟩
def cycAt (rs l : List Int) (i : Nat) : Bool := (gn rs (gi l i).toNat).testBit (gi l ((i + 1) % l.length)).toNat
def oddB (n : Int) (rs l : List Int) : Bool := vertsB n rs l && (decide (3 ≤ l.length) && decide (l.length % 2 = 1) && decide (∀ i, i < l.length → cycAt rs l i = true))
theorem oddB_no {n : Int} {rs l : List Int} (h : vertsB n rs l = false) : oddB n rs l = false := by unfold oddB; rw [h]; rfl
theorem oddB_short {n : Int} {rs l : List Int} (h : l.length < 3) : oddB n rs l = false := by unfold oddB; rw [decide_eq_false (p := 3 ≤ l.length) (by omega)]; simp
theorem oddB_even {n : Int} {rs l : List Int} (h : l.length % 2 = 0) : oddB n rs l = false := by unfold oddB; rw [decide_eq_false (p := l.length % 2 = 1) (by omega)]; simp
theorem oddB_bad {n : Int} {rs l : List Int} {i : Nat} (hi : i < l.length) (h : cycAt rs l i = false) : oddB n rs l = false := by
  unfold oddB; rw [decide_eq_false (p := ∀ i, i < l.length → cycAt rs l i = true), Bool.and_false, Bool.and_false]; intro a; rw [a i hi] at h; cases h
theorem oddB_ok {n : Int} {rs l : List Int} (h : vertsB n rs l = true) (h1 : ¬l.length < 3) (h2 : ¬l.length % 2 = 0) (h3 : ∀ i, i < l.length → cycAt rs l i = true) : oddB n rs l = true := by
  unfold oddB; rw [h, decide_eq_true (p := 3 ≤ l.length) (by omega), decide_eq_true (p := l.length % 2 = 1) (by omega), decide_eq_true h3]; rfl
theorem oddB_true {n : Int} {rs l : List Int} (h : oddB n rs l = true) : vertsB n rs l = true ∧ ∀ i, i < l.length → cycAt rs l i = true := by
  unfold oddB at h; simp only [Bool.and_eq_true, decide_eq_true_eq] at h; exact ⟨h.1, h.2.2⟩

set_option maxRecDepth 100000 in
set_option maxHeartbeats 1000000 in
theorem specIsOddCycle_any (n : Int) (rs l : List Int) (ro lo : Option Addr) (rc lc : Nat) (w : World) (hr : IntsAt w ro rs) (hrl : rs.length ≤ 1048576) (hl : IntsAt w lo l) (hll : l.length ≤ 1048576) :
    Calls Try.prog 27 #[.agg #[.int .i64 n, .slice ro rs.length rc], .slice lo l.length lc] w fun e w' => e = .returned (.bool (oddB n rs l)) ∧ Below w.heap.size w w' := by
  go_enter Try.func27, Try.ntmps27
  go_wp2_with fail
  generalize hW : w.alloc _ = W1
  obtain ⟨hB, -, k0⟩ := alloc1 hW
  replace hr := hr.below hB
  replace hl := hl.below hB
  have hb0 := k0.lt
  have hc0 := k0.cell 0
  have hc1 := k0.cell 1
  simp at hc0 hc1
  clear hW k0
  have HhB := Lib.hid hB
  clear hB
  obtain ⟨m, hm0⟩ : ∃ m : Later W1, m.w = W1 := ⟨Later.refl _, rfl⟩
  refine (fun h => hm0 ▸ h) ?_
  clear hm0
  cases hv : vertsB n rs l
  · have HE := Lib.hid (oddB_no hv)
    go_wp2_with (first | (go_at_call 98; refine (Calls.later m (l4Distinct_any _ _ _ _ _ _ _ _ (hr.later m) hrl (hl.later m) hll)).mono ?_; rintro e w' ⟨rfl, m, rfl⟩))
    go_ret
    exact ⟨retB (by rw [HE.out]), below_later HhB.out m⟩
  obtain ⟨rfl, g⟩ := VG.of (vertsB_true.1 hv).1
  by_cases h3 : l.length < 3
  · have HE := Lib.hid (oddB_short (n := rs.length) (rs := rs) h3)
    have d3 : decide ((l.length : Int) < 3) = true := decide_eq_true (by omega)
    go_wp2_with (first | (go_at_call 98; refine (Calls.later m (l4Distinct_any _ _ _ _ _ _ _ _ (hr.later m) hrl (hl.later m) hll)).mono ?_; rintro e w' ⟨rfl, m, rfl⟩))
    go_ret
    exact ⟨retB (by rw [HE.out]), below_later HhB.out m⟩
  have d3 : decide ((l.length : Int) < 3) = false := decide_eq_false (by omega)
  by_cases h2 : l.length % 2 = 0
  · have HE := Lib.hid (oddB_even (n := rs.length) (rs := rs) h2)
    have d2 : ((l.length : Int) % 2 == 0) = true := by rw [beq_iff_eq]; omega
    clear h2
    go_wp2_with (first | (go_at_call 98; refine (Calls.later m (l4Distinct_any _ _ _ _ _ _ _ _ (hr.later m) hrl (hl.later m) hll)).mono ?_; rintro e w' ⟨rfl, m, rfl⟩))
    go_ret
    exact ⟨retB (by rw [HE.out]), below_later HhB.out m⟩
  · have d2 : ((l.length : Int) % 2 == 0) = false := by rw [beq_eq_false_iff_ne]; omega
    have HO := Lib.hid (fun h => oddB_ok hv h3 h2 h)
    clear h2
    go_wp2_with (first | (go_at_call 98; refine (Calls.later m (l4Distinct_any _ _ _ _ _ _ _ _ (hr.later m) hrl (hl.later m) hll)).mono ?_; rintro e w' ⟨rfl, m, rfl⟩))
    clear d2
    go_loopw [5] (fun i wr => (∃ m : Later W1, wr = m.w) ∧ ∃ k : Nat, k ≤ l.length ∧ i = .int .i64 k ∧ ∀ i, i < k → cycAt rs l i = true) (fun i _ => l.length - (intOf i).toNat)
    case atStart => exact ⟨⟨m, rfl⟩, 0, by omega, rfl, fun i h => by omega⟩
    case round =>
      obtain ⟨⟨m, rfl⟩, k, hk, rfl, hP⟩ := hrel
      have HhP := Lib.hid hP
      clear hP
      by_cases hlt : k < l.length
      · obtain ⟨lb, lofs, rfl, hlb, hlc⟩ := hl (by omega)
        have hx : (k + 1) % l.length < l.length := Nat.mod_lt _ (by omega)
        obtain ⟨u, hu, hu2⟩ := vertex_of hv hlt
        obtain ⟨v, hv1, hv2⟩ := vertex_of hv hx
        have hcu := hlc k hlt
        have hcv := hlc _ hx
        rw [hu] at hcu
        rw [hv1] at hcv
        have HQ : Hid (cycAt rs l k = (gn rs u).testBit v) := by show cycAt rs l k = _; unfold cycAt; rw [hu, hv1]; rfl
        have hmod : ((k : Int) + 1) % (l.length : Int) = (((k + 1) % l.length : Nat) : Int) := by simp
        clear hlc hu hv1
        generalize (k + 1) % l.length = x at *
        have hA := fun m : Later W1 => l2Edge_any rs u v ro rc m.w (hr.later m) g hu2 hv2
        have hkk : decide ((k : Int) < (l.length : Int)) = true := decide_eq_true (by omega)
        go_wp2_with fail
        cases he : (gn rs u).testBit v
        all_goals
          simp only [he] at hA
          refine wp_region_later m rfl (by kernel_rfl) (by kernel_rfl) ?_
          repeat (go_big_quiet_step ((first | (go_at_call 99; exact Calls.later _ (hA _)))))
          refine wpQuiet_nil ?_
          rintro _ ⟨m, rfl⟩
          go_wp2_with fail
        · go_ret
          exact ⟨retB (by rw [oddB_bad hlt (by rw [HQ.out, he])]), below_later HhB.out m⟩
        · go_roundw
          case rel => exact ⟨⟨m, rfl⟩, k + 1, by omega, by go_num, all_succ HhP.out (by rw [HQ.out, he])⟩
          case measure => simp [intOf]; omega
      · have HE := Lib.hid (HO.out (fun i h => HhP.out i (by omega)))
        go_wp2_with fail
        go_ret
        exact ⟨retB (by rw [HE.out]), below_later HhB.out m⟩

set_option maxRecDepth 100000 in
set_option maxHeartbeats 1000000 in
theorem implIsOddCycle_any (n : Int) (rs l : List Int) (ro lo : Option Addr) (rc lc : Nat) (w : World) (hr : IntsAt w ro rs) (hrl : rs.length ≤ 1048576) (hl : IntsAt w lo l) (hll : l.length ≤ 1048576) (hcap : l.length ≤ lc) :
    Calls Try.prog 15 #[.agg #[.int .i64 n, .slice ro rs.length rc], .slice lo l.length lc] w fun e w' => e = .returned (.bool (oddB n rs l)) ∧ Below w.heap.size w w' := by
  by_cases h3 : l.length < 3
  · have HE := Lib.hid (oddB_short (n := n) (rs := rs) h3)
    have d3 : decide ((l.length : Int) < 3) = true := decide_eq_true (by omega)
    go_enter Try.func15, Try.ntmps15
    go_wp2_with fail
    go_ret
    exact ⟨retB (by rw [HE.out]), (Below.refl _ _).alloc (Nat.le_refl _) _⟩
  have d3 : decide ((l.length : Int) < 3) = false := decide_eq_false (by omega)
  by_cases h2 : l.length % 2 = 0
  · have HE := Lib.hid (oddB_even (n := n) (rs := rs) h2)
    have d2 : ((l.length : Int) % 2 == 0) = true := by rw [beq_iff_eq]; omega
    clear h2
    go_enter Try.func15, Try.ntmps15
    go_wp2_with fail
    go_ret
    exact ⟨retB (by rw [HE.out]), (Below.refl _ _).alloc (Nat.le_refl _) _⟩
  have d2 : ((l.length : Int) % 2 == 0) = false := by rw [beq_eq_false_iff_ne]; omega
  cases hv : vertsB n rs l
  · have HE := Lib.hid (oddB_no hv)
    clear h2
    go_enter Try.func15, Try.ntmps15
    go_wp2_with fail
    generalize hW : w.alloc _ = W1
    obtain ⟨hB, -, k0⟩ := alloc1 hW
    replace hr := hr.below hB
    replace hl := hl.below hB
    have hb0 := k0.lt
    have hc0 := k0.cell 0
    have hc1 := k0.cell 1
    simp at hc0 hc1
    clear hW k0
    have HhB := Lib.hid hB
    clear hB
    obtain ⟨m, hm0⟩ : ∃ m : Later W1, m.w = W1 := ⟨Later.refl _, rfl⟩
    refine (fun h => hm0 ▸ h) ?_
    clear hm0
    go_wp2_with (first | (go_at_call 85; refine (Calls.later m (areVertices_any _ _ _ _ _ _ _ _ (hr.later m) hrl (hl.later m) hll hcap)).mono ?_; rintro e w' ⟨rfl, m, rfl⟩))
    go_ret
    exact ⟨retB (by rw [HE.out]), below_later HhB.out m⟩
  · obtain ⟨rfl, g⟩ := VG.of (vertsB_true.1 hv).1
    have hg2 := g.le
    have HO := Lib.hid (fun h => oddB_ok hv h3 h2 h)
    clear h2
    go_enter Try.func15, Try.ntmps15
    go_wp2_with fail
    generalize hW : w.alloc _ = W1
    obtain ⟨hB, -, k0⟩ := alloc1 hW
    replace hr := hr.below hB
    replace hl := hl.below hB
    have hb0 := k0.lt
    have hc0 := k0.cell 0
    have hc1 := k0.cell 1
    simp at hc0 hc1
    clear hW k0
    have HhB := Lib.hid hB
    clear hB
    obtain ⟨m, hm0⟩ : ∃ m : Later W1, m.w = W1 := ⟨Later.refl _, rfl⟩
    refine (fun h => hm0 ▸ h) ?_
    clear hm0
    go_wp2_with (first | (go_at_call 85; refine (Calls.later m (areVertices_any _ _ _ _ _ _ _ _ (hr.later m) hrl (hl.later m) hll hcap)).mono ?_; rintro e w' ⟨rfl, m, rfl⟩))
    clear hcap d2
    go_loopw [24] (fun i wr => (∃ m : Later W1, wr = m.w) ∧ ∃ k : Nat, k ≤ l.length ∧ i = .int .i64 k ∧ ∀ i, i < k → cycAt rs l i = true) (fun i _ => l.length - (intOf i).toNat)
    case atStart => exact ⟨⟨m, rfl⟩, 0, by omega, rfl, fun i h => by omega⟩
    case round =>
      obtain ⟨⟨m, rfl⟩, k, hk, rfl, hP⟩ := hrel
      have HhP := Lib.hid hP
      clear hP
      by_cases hlt : k < l.length
      · obtain ⟨lb, lofs, rfl, hlb, hlc⟩ := hl (by omega)
        obtain ⟨rb, rofs, rfl, hrb, hrc⟩ := hr.graph g
        have hx : (k + 1) % l.length < l.length := Nat.mod_lt _ (by omega)
        obtain ⟨u, hu, hu2⟩ := vertex_of hv hlt
        obtain ⟨v, hv1, hv2⟩ := vertex_of hv hx
        have hcu := hlc k hlt
        have hcv := hlc _ hx
        have hcr := hrc u hu2
        rw [hu] at hcu
        rw [hv1] at hcv
        have HQ : Hid (cycAt rs l k = (gn rs u).testBit v) := by show cycAt rs l k = _; unfold cycAt; rw [hu, hv1]; rfl
        have hmod : ((k : Int) + 1) % (l.length : Int) = (((k + 1) % l.length : Nat) : Int) := by simp
        clear hlc hu hv1
        generalize (k + 1) % l.length = x at *
        have hA := fun m : Later W1 => has_any (gn rs u) v (by omega) (by omega) m.w
        simp only [Int.toNat_natCast, hasN_nat] at hA
        go_wp2_with fail
        cases he : (gn rs u).testBit v
        all_goals
          simp only [he] at hA
          refine wp_region_later m rfl (by kernel_rfl) (by kernel_rfl) ?_
          repeat (go_big_quiet_step ((first | (go_at_call 86; exact Calls.later_same _ (hA _)))))
          refine wpQuiet_nil ?_
          rintro _ ⟨m, rfl⟩
          go_wp2_with fail
        · go_ret
          exact ⟨retB (by rw [oddB_bad hlt (by rw [HQ.out, he])]), below_later HhB.out m⟩
        · go_roundw
          case rel => exact ⟨⟨m, rfl⟩, k + 1, by omega, by go_num, all_succ HhP.out (by rw [HQ.out, he])⟩
          case measure => simp [intOf]; omega
      · have HE := Lib.hid (HO.out (fun i h => HhP.out i (by omega)))
        go_wp2_with fail
        go_ret
        exact ⟨retB (by rw [HE.out]), below_later HhB.out m⟩

/-! ### The first odd cycle -/
/-- What the reference asks of a beginning: its last two are joined. -/
def oddMay (rs x : List Int) : Bool := !(decide (1 < x.length) && !(gn rs (gi x (x.length - 2)).toNat).testBit (gi x (x.length - 1)).toNat)
theorem fresh_mid {n : Int} {rs l t : List Int} {v : Nat} (h : vertsB n rs (l ++ [(v : Int)] ++ t) = true) : inB l (v : Int) = false := by
  rw [← Bool.not_eq_true, inB_true]
  rintro ⟨j, hj, e⟩
  rw [vertsB_true] at h
  have := (h.2 l.length (by simp)).2 j hj
  rw [gi_mid, List.append_assoc, gi_left hj] at this
  exact this e
theorem nec_odd (n : Int) (rs : List Int) (k : Nat) : Nec (fun _ => true) (fun l => oddB n rs l) k := fun _ _ _ _ h => ⟨fresh_mid (oddB_true h).1, rfl⟩
theorem nec_oddMay (n : Int) (rs : List Int) (k : Nat) : Nec (fun l => oddMay rs l) (fun l => oddB n rs l) k := fun l v t _ h => by
  refine ⟨fresh_mid (oddB_true h).1, ?_⟩
  have hx : (l ++ [(v : Int)]).length = l.length + 1 := by simp
  show oddMay rs (l ++ [(v : Int)]) = true
  unfold oddMay
  rw [hx, show l.length + 1 - 1 = l.length from rfl, show l.length + 1 - 2 = l.length - 1 from rfl]
  by_cases h1 : 1 < l.length + 1
  · have hl : (l ++ [(v : Int)] ++ t).length = l.length + 1 + t.length := by simp; omega
    have e := (oddB_true h).2 (l.length - 1) (by omega)
    unfold cycAt at e
    rw [show l.length - 1 + 1 = l.length by omega, Nat.mod_eq_of_lt (by omega), gi_mid, List.append_assoc, gi_left (by omega)] at e
    rw [gi_left (show l.length - 1 < l.length by omega), gi_last, e]
    simp
  · rw [decide_eq_false h1]; rfl
def oddAt (rs : List Int) (k : Nat) : Option (List Int) := dfs (fun _ => true) (fun l => oddB rs.length rs l) rs.length k []
theorem oddAt_spec (rs : List Int) (k : Nat) : oddAt rs k = dfs (fun l => oddMay rs l) (fun l => oddB rs.length rs l) rs.length k [] := dfs_prune (n := k) rs.length (nec_odd _ rs k) (nec_oddMay _ rs k) k [] (by simp)
/-- What FindOddCycle says. -/
def oddV (n : Int) (rs : List Int) : Option (List Int) := if isGraphB n rs = true then (match firstB (fun j => decide (3 + 2 * j ≤ rs.length) && (oddAt rs (3 + 2 * j)).isSome) 3 with | some j => oddAt rs (3 + 2 * j) | none => none) else none
theorem oddV_no {n : Int} {rs : List Int} (h : isGraphB n rs = false) : oddV n rs = none := by unfold oddV; rw [h]; rfl
theorem oddV_hit {rs : List Int} {k : Nat} {x : List Int} (hv : isGraphB rs.length rs = true) (hk : 3 + 2 * k ≤ rs.length) (h : ∀ j, j < k → (oddAt rs (3 + 2 * j)).isSome = false) (hp : oddAt rs (3 + 2 * k) = some x) : oddV rs.length rs = some x := by
  have := (VG.of hv).2.le
  unfold oddV
  rw [if_pos hv, firstB_hit (k := k) (by omega) (fun j hj => by rw [h j hj, Bool.and_false]) (by rw [hp, decide_eq_true hk]; rfl)]
  exact hp
theorem oddV_none {rs : List Int} {k : Nat} (hv : isGraphB rs.length rs = true) (hk : ¬3 + 2 * k ≤ rs.length) (h : ∀ j, j < k → (oddAt rs (3 + 2 * j)).isSome = false) : oddV rs.length rs = none := by
  unfold oddV
  rw [if_pos hv, firstB_none]
  intro j hj
  by_cases e : j < k
  · rw [h j e, Bool.and_false]
  · rw [decide_eq_false (by omega)]; rfl
theorem oddV_len (n : Int) (rs : List Int) : ((oddV n rs).getD []).length ≤ 1048576 := by
  unfold oddV; split
  · split
    · rename_i j h
      have hj : j < 3 := by
        unfold firstB at h
        have := List.mem_of_find?_eq_some h
        simpa using this
      exact Nat.le_trans (dfs_len (n := 3 + 2 * j) (by simp)) (by omega)
    · simp
  · simp

end Go.Proofs.Ytgklgheaojoimaa
