/-
  BestBand and BandwidthOf of the reference. For at most 2^20 rows.
-/
import Derived.Test.YtdbaflimcbidjaaBandS
namespace Go.Proofs.Ytdbaflimcbidjaa
open Go.RowKit

/-- The first order of band k. -/
def bandAt (rs : List Int) (k : Nat) : Option (List Int) := dfs (mayBd rs k) (fun _ => true) rs.length rs.length []
def bestBandV (n : Int) (rs : List Int) : Option (List Int) := if isGraphB n rs = true then (match firstB (fun k => (bandAt rs k).isSome) rs.length with | some k => bandAt rs k | none => none) else none
theorem bestBandV_no {n : Int} {rs : List Int} (h : isGraphB n rs = false) : bestBandV n rs = none := by unfold bestBandV; rw [h]; rfl
theorem bestBandV_hit {rs : List Int} {k : Nat} {x : List Int} (hv : isGraphB rs.length rs = true) (hk : k < rs.length) (h : ∀ j, j < k → (bandAt rs j).isSome = false) (hp : bandAt rs k = some x) : bestBandV rs.length rs = some x := by
  unfold bestBandV
  rw [if_pos hv, firstB_hit (k := k) hk h (by rw [hp]; rfl)]
  exact hp
theorem bestBandV_none {rs : List Int} {k : Nat} (hv : isGraphB rs.length rs = true) (hk : ¬k < rs.length) (h : ∀ j, j < k → (bandAt rs j).isSome = false) : bestBandV rs.length rs = none := by
  unfold bestBandV
  rw [if_pos hv, firstB_none]
  intro j hj
  exact h j (by omega)
theorem bestBandV_len (n : Int) (rs : List Int) : ((bestBandV n rs).getD []).length ≤ 1048576 := by
  unfold bestBandV; split
  · rename_i hv
    have := (VG.of hv).2.le
    split
    · rename_i j h
      exact Nat.le_trans (dfs_len (n := rs.length) (by simp)) (by omega)
    · simp
  · simp

set_option maxRecDepth 100000 in
set_option maxHeartbeats 1000000 in
theorem specBestBand_any (n : Int) (rs : List Int) (ro : Option Addr) (rc : Nat) (w : World) (hr : IntsAt w ro rs) (hrl : rs.length ≤ 1048576) :
    Calls Try.prog 30 #[.agg #[.int .i64 n, .slice ro rs.length rc]] w (RetI w (bestBandV n rs)) := by
  go_enter Try.func30, Try.ntmps30
  go_wp2_with fail
  generalize hW : w.alloc _ = W1
  obtain ⟨hB, -, k0⟩ := alloc1 hW
  replace hr := hr.below hB
  have hb0 := k0.lt
  have hc0 := k0.cell 0
  have hc1 := k0.cell 1
  simp at hc0 hc1
  clear hW k0
  have HhB := Lib.hid hB
  clear hB
  cases hv : isGraphB n rs
  · have HE := Lib.hid (bestBandV_no hv)
    go_loopw [4] (fun i wr => (∃ m : Later W1, wr = m.w) ∧ i = .int .i64 0) (fun _ _ => 0)
    case atStart => exact ⟨⟨Later.refl _, rfl⟩, rfl⟩
    case round =>
      obtain ⟨⟨m, rfl⟩, rfl⟩ := hrel
      by_cases h3 : 0 < n
      · have d3 : decide (0 < n) = true := decide_eq_true h3
        go_wp2_with (first | (go_at_call 63; refine (Calls.later m (specIsGraph_any n rs ro rc _ (hr.later m) hrl)).mono ?_; rw [hv]; rintro e w' ⟨rfl, m, rfl⟩))
        go_ret2
        exact ⟨_, _, by rw [HE.out]; rfl, (below_later HhB.out m).alloc (below_later HhB.out m).size _, by rw [HE.out]; exact fun h => absurd h (by simp)⟩
      · have d3 : decide (0 < n) = false := decide_eq_false h3
        go_wp2_with fail
        go_ret2
        exact ⟨_, _, by rw [HE.out]; rfl, (below_later HhB.out m).alloc (below_later HhB.out m).size _, by rw [HE.out]; exact fun h => absurd h (by simp)⟩
  · obtain ⟨rfl, g⟩ := VG.of hv
    have hg1 := g.pos
    have hg2 := g.le
    go_loopw [4] (fun i wr => (∃ m : Later W1, wr = m.w) ∧ ∃ k : Nat, k ≤ rs.length ∧ i = .int .i64 k ∧ ∀ j, j < k → (bandAt rs j).isSome = false) (fun i _ => 10 - (intOf i).toNat)
    case atStart => exact ⟨⟨Later.refl _, rfl⟩, 0, by omega, rfl, fun j h => by omega⟩
    case round =>
      obtain ⟨⟨m, rfl⟩, k, hk, rfl, hP⟩ := hrel
      by_cases hlt : k < rs.length
      · have HN := Lib.hid (fun h => all_succ (p := fun j => (bandAt rs j).isSome = false) hP h)
        have HH := Lib.hid (fun x h => bestBandV_hit (x := x) hv hlt hP h)
        have hS := fun (m : Later W1) (W2 : World) (hB2 : Below m.w.heap.size m.w W2) => l27Band_any rs ro rc hv k (by omega) rs.length [] 0 0 ⟨m.w.heap.size, 0, none⟩ W2 (by simp) rfl ((hr.later m).below hB2) (fun h => absurd h (by simp)) (fun k h => absurd h (by simp))
        replace hS : ∀ (m : Later W1) (W2 : World) (hB2 : Below m.w.heap.size m.w W2), Calls Try.prog 64 #[.agg #[.int .i64 rs.length, .slice ro rs.length rc], .int .i64 k, .slice (some ⟨m.w.heap.size, 0, none⟩) 0 0] W2 (RetD W2 rs.length (bandAt rs k)) := hS
        generalize hO : bandAt rs k = O at *
        have HhP := Lib.hid hP
        clear hP
        have HhO := Lib.hid hO
        clear hO
        have HhS := Lib.hid hS
        clear hS
        go_wp2_with (first | (go_at_call 63; refine (Calls.later m (specIsGraph_any _ rs ro rc _ (hr.later m) hrl)).mono ?_; rw [hv]; rintro e w' ⟨rfl, m, rfl⟩; have hbm := Nat.lt_of_lt_of_le hb0 m.size))
        generalize hW2 : m.w.alloc (.cells #[] 3) = W2
        obtain ⟨hB2, -, -⟩ := alloc1 hW2
        refine (HhS.out m W2 hB2).mono ?_
        rintro e w3 hD
        obtain ⟨ao, cap, rfl, hB3, hI⟩ := hD.top hg1
        obtain ⟨m, rfl⟩ : ∃ m3 : Later W1, m3.w = w3 := ⟨m.on (below_more' hB2 hB3), rfl⟩
        clear hB2 hB3 hW2 hbm hD
        rcases O with _ | x
        · clear hI
          go_wp2_with fail
          go_roundw
          case rel => exact ⟨⟨m, rfl⟩, k + 1, by omega, by go_num, HN.out rfl⟩
          case measure => simp [intOf]; omega
        · have HE := Lib.hid (HH.out x rfl)
          have HhI := Lib.hid hI
          clear hI
          go_wp2_with fail
          go_ret2
          exact ⟨ao, cap, by rw [HE.out]; rfl, below_later HhB.out m, by rw [HE.out]; exact HhI.out⟩
      · have HE := Lib.hid (bestBandV_none hv hlt hP)
        clear hP
        go_wp2_with fail
        go_ret2
        exact ⟨_, _, by rw [HE.out]; rfl, (below_later HhB.out m).alloc (below_later HhB.out m).size _, by rw [HE.out]; exact fun h => absurd h (by simp)⟩

def bandwidthV (n : Int) (rs : List Int) : Int := match bestBandV n rs with | some l => bandV n rs l | none => -1

set_option maxRecDepth 100000 in
set_option maxHeartbeats 1000000 in
theorem specBandwidth_any (n : Int) (rs : List Int) (ro : Option Addr) (rc : Nat) (w : World) (hr : IntsAt w ro rs) (hrl : rs.length ≤ 1048576) :
    Calls Try.prog 35 #[.agg #[.int .i64 n, .slice ro rs.length rc]] w fun e w' => e = .returned (.int .i64 (bandwidthV n rs)) ∧ Below w.heap.size w w' := by
  go_enter Try.func35, Try.ntmps35
  go_wp2_with fail
  generalize hW : w.alloc _ = W1
  obtain ⟨hB, -, k0⟩ := alloc1 hW
  replace hr := hr.below hB
  have hb0 := k0.lt
  have hc0 := k0.cell 0
  have hc1 := k0.cell 1
  simp at hc0 hc1
  clear hW k0
  have HhB := Lib.hid hB
  clear hB
  obtain ⟨m, hm0⟩ : ∃ m : Later W1, m.w = W1 := ⟨Later.refl _, rfl⟩
  refine (fun h => hm0 ▸ h) ?_
  clear hm0
  have hlen := bestBandV_len n rs
  have hW : Hid (bandwidthV n rs = match bestBandV n rs with | some l => bandV n rs l | none => -1) := Lib.hid rfl
  have hS := specBestBand_any n rs ro rc m.w (hr.later m) hrl
  generalize bestBandV n rs = O at *
  go_wp2_with fail
  refine hS.mono ?_
  rintro e w3 ⟨ao, cap, rfl, hB3, hI⟩
  obtain ⟨m, rfl⟩ : ∃ m3 : Later W1, m3.w = w3 := ⟨m.on hB3, rfl⟩
  clear hB3 hS
  rcases O with _ | l
  · clear hI
    go_wp2_with fail
    go_ret
    exact ⟨retI (by rw [hW.out]), below_later HhB.out m⟩
  · have hb := specBandOf_any n rs l ro ao rc cap m.w (hr.later m) hrl hI hlen
    clear hI
    go_wp2_with fail
    refine (Calls.later m hb).mono ?_
    rintro e w' ⟨rfl, m, rfl⟩
    go_wp2_with fail
    go_ret
    exact ⟨retI (by rw [hW.out]), below_later HhB.out m⟩

end Go.Proofs.Ytdbaflimcbidjaa
