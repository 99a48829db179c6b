/-
  BandwidthOf and BestBand of the program, out of the number of BandOf (NumOf). For at most 2^20 rows.
-/
import Derived.Test.YtdbaflimcbidjaaBandL
import Derived.Test.YtdbaflimcbidjaaAppend
namespace Go.Proofs.Ytdbaflimcbidjaa
open Go.RowKit

theorem bestO_band2 (n : Int) (rs : List Int) : bestO (bandV rs.length rs) n rs = (bestBandV n rs, bandwidthV n rs) := by
  cases hv : isGraphB n rs
  · rw [← bestO_band]; unfold bestO; rw [hv]; rfl
  · obtain ⟨rfl, -⟩ := VG.of hv
    exact bestO_band _ _

set_option maxRecDepth 100000 in
set_option maxHeartbeats 1000000 in
theorem implBandwidth_from (hK : ∀ (rs : List Int) (ro : Option Addr) (rc : Nat), isGraphB rs.length rs = true → NumOf 66 rs ro rc (bandV rs.length rs)) (n : Int) (rs : List Int) (ro : Option Addr) (rc : Nat) (w : World) (hr : IntsAt w ro rs) (hrl : rs.length ≤ 1048576) :
    Calls Try.prog 36 #[.agg #[.int .i64 n, .slice ro rs.length rc]] w fun e w' => e = .returned (.int .i64 (bandwidthV n rs)) ∧ Below w.heap.size w w' := by
  go_enter Try.func36, Try.ntmps36
  go_wp2_with fail
  generalize hW : w.alloc _ = W1
  obtain ⟨hB, -, k0⟩ := alloc1 hW
  replace hr := hr.below hB
  have hb0 := k0.lt
  have hc0 := k0.cell 0
  have hc1 := k0.cell 1
  simp at hc0 hc1
  clear hW k0
  have HhB := Lib.hid hB
  clear hB
  have hB := bestOrder_any n rs ro rc 66 (bandV rs.length rs) W1 hr hrl (fun _ _ => rfl) (fun hv => hK rs ro rc hv)
  rw [bestO_band2] at hB
  clear hK
  go_wp2_with fail
  refine hB.mono ?_
  rintro e w2 ⟨ao, cap, rfl, hB2, -⟩
  have hBB := below_more' HhB.out hB2
  clear hB2 hB
  have HhBB := Lib.hid hBB
  clear hBB
  go_wp2_with fail
  go_ret
  exact ⟨rfl, HhBB.out⟩

theorem bandwidthV_is (n : Int) (rs : List Int) : decide (0 ≤ bandwidthV n rs) = (bestBandV n rs).isSome := by
  cases hv : isGraphB n rs
  · unfold bandwidthV; rw [bestBandV_no hv]; rfl
  · obtain ⟨rfl, -⟩ := VG.of hv
    obtain ⟨z, h1, h2⟩ := band_best hv
    unfold bandwidthV
    rw [h2]
    have hz : z ∈ ext rs.length rs.length [] := by
      obtain ⟨y, hy, h3, -⟩ := bestV_facts (num := bandV rs.length rs) (VG.of hv).2.le (fun x hx => by rw [(order_band hv hx).1]; omega)
      rw [h3] at h1
      simp only [Prod.mk.injEq, Option.some.injEq] at h1
      rw [← h1.1]; exact hy
    show decide (0 ≤ bandV rs.length rs z) = true
    rw [(order_band hv hz).1]
    exact decide_eq_true (by omega)

set_option maxRecDepth 100000 in
set_option maxHeartbeats 1000000 in
theorem implBestBand_from (hK : ∀ (rs : List Int) (ro : Option Addr) (rc : Nat), isGraphB rs.length rs = true → NumOf 66 rs ro rc (bandV rs.length rs)) (n : Int) (rs : List Int) (ro : Option Addr) (rc : Nat) (w : World) (hr : IntsAt w ro rs) (hrl : rs.length ≤ 1048576) :
    Calls Try.prog 31 #[.agg #[.int .i64 n, .slice ro rs.length rc]] w (RetO w (bestBandV n rs)) := by
  go_enter Try.func31, Try.ntmps31
  go_wp2_with fail
  generalize hW : w.alloc _ = W1
  obtain ⟨hB, -, k0⟩ := alloc1 hW
  replace hr := hr.below hB
  have hb0 := k0.lt
  have hc0 := k0.cell 0
  have hc1 := k0.cell 1
  simp at hc0 hc1
  clear hW k0
  have HhB := Lib.hid hB
  clear hB
  have hB := bestOrder_any n rs ro rc 66 (bandV rs.length rs) W1 hr hrl (fun _ _ => rfl) (fun hv => hK rs ro rc hv)
  rw [bestO_band2] at hB
  have HD := Lib.hid (bandwidthV_is n rs)
  clear hK
  generalize bandwidthV n rs = b at *
  generalize bestBandV n rs = O at *
  go_wp2_with fail
  refine hB.mono ?_
  rintro e w2 ⟨ao, cap, rfl, hB2, hO⟩
  have hBB := below_more' HhB.out hB2
  clear hB2 hB
  have HhBB := Lib.hid hBB
  clear hBB
  have HhO := Lib.hid hO
  clear hO
  go_wp2_with fail
  go_ret2
  exact ⟨ao, cap, by rw [← HD.out]; rfl, HhBB.out, HhO.out.imp (fun h => h.mono (Nat.le_of_lt hb0)) id⟩

end Go.Proofs.Ytdbaflimcbidjaa
