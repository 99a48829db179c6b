/-
  BandwidthOf and BestBand of the program, out of the number of BandOf (NumOf). For at most 2^20 rows.
  What FnWidths' law asks of the values. No conditions.
  BandOf of the program, BandwidthOf and BestBand of the program. For at most 2^20 rows.
  PathwidthOf of the reference. For at most 2^20 rows.
  flip of the program, where the edge is missing: it is laid. The graph is right.
-/
import Derived.Test.YtfkehmpckhmkbaaPkLawWidths29
import Derived.Test.YtfkehmpckhmkbaaPkLawWidths05
import Derived.Test.YtfkehmpckhmkbaaPkLawWidths34
import Derived.Test.YtfkehmpckhmkbaaPkLawWidths14
import Derived.Test.YtfkehmpckhmkbaaPkLawWidths06
import Derived.Test.YtfkehmpckhmkbaaPkLawWidths07
namespace Go.Proofs.Ytfkehmpckhmkbaa
open Go.RowKit

theorem bestO_band2 (n : Int) (rs : List Int) : bestO (bandV rs.length rs) n rs = (bestBandV n rs, bandwidthV n rs) := by
  cases hv : isGraphB n rs
  · rw [← bestO_band]; unfold bestO; rw [hv]; rfl
  · obtain ⟨rfl, -⟩ := VG.of hv
    exact bestO_band _ _

set_option maxRecDepth 100000 in
set_option maxHeartbeats 1000000 in
theorem implBandwidth_from (hK : ∀ (rs : List Int) (ro : Option Addr) (rc : Nat), isGraphB rs.length rs = true → NumOf 15 rs ro rc (bandV rs.length rs)) (n : Int) (rs : List Int) (ro : Option Addr) (rc : Nat) (w : World) (hr : IntsAt w ro rs) (hrl : rs.length ≤ 1048576) :
    Calls Try.prog 6 #[.agg #[.int .i64 n, .slice ro rs.length rc]] w fun e w' => e = .returned (.int .i64 (bandwidthV n rs)) ∧ Below w.heap.size w w' := by
  go_enter Try.func6, Try.ntmps6
  go_wp2_with fail
  generalize hW : w.alloc _ = W1
  obtain ⟨hB, -, k0⟩ := alloc1 hW
  replace hr := hr.below hB
  have hb0 := k0.lt
  have hc0 := k0.cell 0
  have hc1 := k0.cell 1
  simp at hc0 hc1
  clear hW k0
  have HhB := Lib.hid hB
  clear hB
  have hB := bestOrder_any n rs ro rc 15 (bandV rs.length rs) W1 hr hrl (fun _ _ => rfl) (fun hv => hK rs ro rc hv)
  rw [bestO_band2] at hB
  clear hK
  go_wp2_with fail
  refine hB.mono ?_
  rintro e w2 ⟨ao, cap, rfl, hB2, -⟩
  have hBB := below_more' HhB.out hB2
  clear hB2 hB
  have HhBB := Lib.hid hBB
  clear hBB
  go_wp2_with fail
  go_ret
  exact ⟨rfl, HhBB.out⟩

theorem bandwidthV_is (n : Int) (rs : List Int) : decide (0 ≤ bandwidthV n rs) = (bestBandV n rs).isSome := by
  cases hv : isGraphB n rs
  · unfold bandwidthV; rw [bestBandV_no hv]; rfl
  · obtain ⟨rfl, -⟩ := VG.of hv
    obtain ⟨z, h1, h2⟩ := band_best hv
    unfold bandwidthV
    rw [h2]
    have hz : z ∈ ext rs.length rs.length [] := by
      obtain ⟨y, hy, h3, -⟩ := bestV_facts (num := bandV rs.length rs) (VG.of hv).2.le (fun x hx => by rw [(order_band hv hx).1]; omega)
      rw [h3] at h1
      simp only [Prod.mk.injEq, Option.some.injEq] at h1
      rw [← h1.1]; exact hy
    show decide (0 ≤ bandV rs.length rs z) = true
    rw [(order_band hv hz).1]
    exact decide_eq_true (by omega)

set_option maxRecDepth 100000 in
set_option maxHeartbeats 1000000 in
theorem implBestBand_from (hK : ∀ (rs : List Int) (ro : Option Addr) (rc : Nat), isGraphB rs.length rs = true → NumOf 15 rs ro rc (bandV rs.length rs)) (n : Int) (rs : List Int) (ro : Option Addr) (rc : Nat) (w : World) (hr : IntsAt w ro rs) (hrl : rs.length ≤ 1048576) :
    Calls Try.prog 14 #[.agg #[.int .i64 n, .slice ro rs.length rc]] w (RetO w (bestBandV n rs)) := by
  go_enter Try.func14, Try.ntmps14
  go_wp2_with fail
  generalize hW : w.alloc _ = W1
  obtain ⟨hB, -, k0⟩ := alloc1 hW
  replace hr := hr.below hB
  have hb0 := k0.lt
  have hc0 := k0.cell 0
  have hc1 := k0.cell 1
  simp at hc0 hc1
  clear hW k0
  have HhB := Lib.hid hB
  clear hB
  have hB := bestOrder_any n rs ro rc 15 (bandV rs.length rs) W1 hr hrl (fun _ _ => rfl) (fun hv => hK rs ro rc hv)
  rw [bestO_band2] at hB
  have HD := Lib.hid (bandwidthV_is n rs)
  clear hK
  generalize bandwidthV n rs = b at *
  generalize bestBandV n rs = O at *
  go_wp2_with fail
  refine hB.mono ?_
  rintro e w2 ⟨ao, cap, rfl, hB2, hO⟩
  have hBB := below_more' HhB.out hB2
  clear hB2 hB
  have HhBB := Lib.hid hBB
  clear hBB
  have HhO := Lib.hid hO
  clear hO
  go_wp2_with fail
  go_ret2
  exact ⟨ao, cap, by rw [← HD.out]; rfl, HhBB.out, HhO.out.imp (fun h => h.mono (Nat.le_of_lt hb0)) id⟩

end Go.Proofs.Ytfkehmpckhmkbaa

namespace Go.Proofs.Ytfkehmpckhmkbaa
open Go.RowKit

theorem order_list {n : Int} {rs l : List Int} (h : orderB n rs l = true) : ∃ t : List Nat, l = t.map Int.ofNat ∧ freshS rs.length 0 t ∧ t.length = rs.length := by
  obtain ⟨h1, -, g, hl⟩ := orderB_true h
  have h2 := (vertsB_true.1 h1).2
  have hge : ∀ j, j < l.length → gi l j = l[j]! := fun j hj => by simp [gi, hj]
  refine ⟨l.map Int.toNat, ?_, (fresh_iff _ 0).2 ⟨fun x hx => ?_, ?_⟩, by rw [List.length_map]; exact hl⟩
  · rw [List.map_map]
    refine List.ext_getElem (by simp) fun i hi hi2 => ?_
    have := (h2 i hi).1
    have e : gi l i = l[i] := by simp [gi, hi]
    rw [e] at this
    simp
    omega
  · obtain ⟨y, hy, rfl⟩ := List.mem_map.1 hx
    obtain ⟨i, hi, rfl⟩ := List.getElem_of_mem hy
    have := (h2 i hi).1
    have e : gi l i = l[i] := by simp [gi, hi]
    rw [e] at this
    exact ⟨by omega, by simp⟩
  · rw [List.nodup_iff_pairwise_ne, List.pairwise_iff_getElem]
    intro i j hi hj hij
    rw [List.length_map] at hi hj
    rw [List.getElem_map, List.getElem_map]
    have h3 := (h2 j hj)
    have h4 := (h2 i hi).1
    have h5 := h3.2 i hij
    have e : gi l i = l[i] := by simp [gi, hi]
    have e2 : gi l j = l[j] := by simp [gi, hj]
    rw [e, e2] at h5
    rw [e] at h4
    have h6 := h3.1
    rw [e2] at h6
    omega
theorem cut_path {n : Int} {rs l : List Int} (h : 0 ≤ cutV n rs l) : pathV n rs ≤ cutV n rs l ∧ treeV n rs ≤ widV n rs l := by
  cases ho : orderB n rs l
  · rw [cutV_no ho] at h; omega
  · obtain ⟨t, rfl, hf, hl⟩ := order_list ho
    obtain ⟨h1, rfl, g, -⟩ := orderB_true ho
    have hv := (vertsB_true.1 h1).1
    have hN := g.le
    refine ⟨?_, ?_⟩
    · have hlow := dpV_cost (c := fun _ _ => 0) (e := pwE rs) hN t 0 0 (Nat.two_pow_pos _) hf (Nat.le_of_eq (dpV_zero _ _ _))
      rw [fresh_all hN hf hl] at hlow
      rw [cut_order hv hf hl, pathV_of hv]
      omega
    · have hlow := dpV_cost (c := trC rs) (e := fun _ => 0) hN t 0 0 (Nat.two_pow_pos _) hf (Nat.le_of_eq (dpV_zero _ _ _))
      rw [fresh_all hN hf hl] at hlow
      rw [wid_order hv hf hl, treeV_of hv]
      omega
theorem width_facts {n : Int} {rs : List Int} (hv : isGraphB n rs = true) :
    (∃ z, bestBandV n rs = some z ∧ bandV n rs z = bandwidthV n rs) ∧ clqN n rs ≤ treeV n rs + 1 ∧ treeV n rs ≤ pathV n rs ∧ pathV n rs ≤ bandwidthV n rs ∧ (chordalB n rs = true → treeV n rs + 1 = clqN n rs) ∧
    ((∃ d, IvlP rs d) → pathV n rs + 1 = clqN n rs) ∧ ((∃ t, UmbO rs t) → bandwidthV n rs + 1 = clqN n rs) := by
  obtain ⟨rfl, g⟩ := VG.of hv
  obtain ⟨z, hz1, hz2⟩ := band_best hv
  have hb : bandwidthV rs.length rs = bandV rs.length rs z := by
    have := bestO_band rs.length rs
    unfold bestO at this
    rw [if_pos hv, hz1] at this
    exact (congrArg Prod.snd this).symm
  obtain ⟨z2, k1, k2, k3, -⟩ := bestV_facts (num := bandV rs.length rs) g.le (fun x hx => by rw [(order_band hv hx).1]; omega)
  rw [k2] at hz1
  obtain rfl : z2 = z := by simpa using congrArg Prod.fst hz1
  obtain ⟨t, t1, t2, rfl⟩ := mem_orders.1 k1
  have e1 := clique_tree hv
  have e2 := tree_path hv
  have e3 := path_band hv t2 t1
  have hbt : bandV rs.length rs (t.map Int.ofNat) = bandTo rs (t.map Int.ofNat) t.length := by rw [(order_band hv k1).1, List.length_map]
  rw [← hbt, ← hb] at e3
  refine ⟨⟨_, hz2, hb.symm⟩, e1, e2, e3, fun hc => ?_, fun ⟨d, hd⟩ => ?_, fun ⟨u, hu⟩ => ?_⟩
  · have := chordal_tree hc; omega
  · have := ivl_path hv hd; omega
  · have h1 := umb_band hv hu
    have h2 := k3 _ (mem_orders.2 ⟨u, hu.1, hu.2.1, rfl⟩)
    rw [(order_band hv (mem_orders.2 ⟨u, hu.1, hu.2.1, rfl⟩)).1, List.length_map] at h2
    omega
theorem clq_small {n : Int} {rs : List Int} (hv : isGraphB n rs = true) : 0 ≤ clqN n rs ∧ clqN n rs ≤ 7 := by
  rw [clqN_of hv]
  have := els_len (largestTo (fun S => cliqueB rs.length rs S) (2 ^ rs.length))
  unfold cnt
  omega

end Go.Proofs.Ytfkehmpckhmkbaa

namespace Go.Proofs.Ytfkehmpckhmkbaa
open Go.RowKit

set_option maxRecDepth 100000 in
set_option maxHeartbeats 2000000 in
theorem implBandOf_any (rs l : List Int) (ro lo : Option Addr) (rc lc : Nat) (hg : isGraphB rs.length rs = true) (w : World) (hr : IntsAt w ro rs) (hrl : rs.length ≤ 1048576) (hl : IntsAt w lo l) (hll : l.length ≤ 1048576) (hcap : l.length ≤ lc) :
    Calls Try.prog 15 #[.agg #[.int .i64 rs.length, .slice ro rs.length rc], .slice lo l.length lc] w fun e w' => e = .returned (.int .i64 (bandV rs.length rs l)) ∧ Below w.heap.size w w' := by
  go_enter Try.func15, Try.ntmps15
  go_wp2_with fail
  generalize hW : w.alloc _ = W1
  obtain ⟨hB, -, k0⟩ := alloc1 hW
  replace hr := hr.below hB
  replace hl := hl.below hB
  have hb0 := k0.lt
  have hc0 := k0.cell 0
  have hc1 := k0.cell 1
  simp at hc0 hc1
  clear hW k0
  have HhB := Lib.hid hB
  clear hB
  obtain ⟨m, hm0⟩ : ∃ m : Later W1, m.w = W1 := ⟨Later.refl _, rfl⟩
  refine (fun h => hm0 ▸ h) ?_
  clear hm0
  have hO := fun m : Later W1 => implIsOrder_any rs.length rs l ro lo rc lc m.w (hr.later m) hrl (hl.later m) hll hcap
  cases hv : orderB rs.length rs l
  · have HE := Lib.hid (bandV_no hv)
    rw [hv] at hO
    go_wp2_with (first | (go_at_call 39; refine (Calls.later m (hO _)).mono ?_; rintro e w' ⟨rfl, m, rfl⟩))
    go_ret
    exact ⟨retI (by rw [HE.out]), below_later HhB.out m⟩
  · have HE := Lib.hid ((bandV_of hv).trans (band_edges hv).symm)
    rw [hv] at hO
    obtain ⟨hvb, -, g, hlen⟩ := orderB_true hv
    have hg2 := g.le
    have hl7 : l.length ≤ 7 := by omega
    have hl0 : 0 < l.length := by have := g.pos; omega
    clear hlen hvb
    go_wp2_with (first | (go_at_call 39; refine (Calls.later m (hO _)).mono ?_; rintro e w' ⟨rfl, m, rfl⟩))
    clear hO
    refine (implEdgesOf_any rs ro rc hg m.w (hr.later m)).mono ?_
    rintro e w2 ⟨eo, ec, xs, rfl, hB2, hO, hV⟩
    obtain ⟨m, rfl⟩ : ∃ m2 : Later W1, m2.w = w2 := ⟨m.on hB2, rfl⟩
    clear hB2
    replace hr := hr.later m
    replace hl := hl.later m
    replace hc0 : m.w.cell? _ = _ := (m.cell _ _ hb0).trans hc0
    replace hc1 : m.w.cell? _ = _ := (m.cell _ _ hb0).trans hc1
    replace hb0 := Nat.lt_of_lt_of_le hb0 m.size
    replace HhB := Lib.hid (below_later HhB.out m)
    generalize m.w = W2 at *
    clear m
    have hEl := edgesTo_len rs rs.length
    have hx49 : xs.length ≤ 49 := by rw [hV.1]; exact Nat.le_trans hEl (Nat.mul_le_mul hg2 hg2)
    clear hEl
    generalize edgesTo rs rs.length = E at *
    obtain ⟨lb, lofs, rfl, hlb, hlc⟩ := hl hl0
    clear hlc
    have HVl := Lib.hid hV.1
    have HV := Lib.hid hV.2
    clear hV
    obtain ⟨m, hm0⟩ : ∃ m : Later W2, m.w = W2 := ⟨Later.refl _, rfl⟩
    refine (fun h => hm0 ▸ h) ?_
    clear hm0
    go_wp2_with fail
    go_loopw [5, 17] (fun b i wr => (∃ m : Later W2, wr = m.w) ∧ ∃ k : Nat, k ≤ xs.length ∧ i = .int .i64 k ∧ b = .int .i64 (bandE l (E.take k)) ∧ 0 ≤ bandE l (E.take k) ∧ bandE l (E.take k) ≤ 8) (fun _ i _ => xs.length - (intOf i).toNat)
    case atStart => exact ⟨⟨m, rfl⟩, 0, by omega, rfl, rfl, by show (0 : Int) ≤ 0; omega, by show (0 : Int) ≤ 8; omega⟩
    case round =>
      obtain ⟨⟨m, rfl⟩, k, hk, rfl, rfl, hb1, hb2⟩ := hrel
      by_cases hlt : k < xs.length
      · have hkE : k < E.length := by rw [← HVl.out]; exact hlt
        obtain ⟨e, hEk⟩ : ∃ e, E[k]? = some e := ⟨_, List.getElem?_eq_getElem hkE⟩
        obtain ⟨gb, hx, hgb⟩ := HV.out k e hEk
        have HN : Hid (bandE l (E.take (k + 1)) = max (bandE l (E.take k)) (gapE l e)) := Lib.hid (by rw [List.take_add_one, hEk]; exact bandE_snoc _ _ _)
        obtain ⟨G, rfl, -, hG, hcs⟩ := hO.cells (by omega)
        have hxc := hcs k _ hx
        have hgl : gb < W2.heap.size := (Array.getElem?_eq_some_iff.1 hgb).1
        have hga : W2.cell? ⟨gb, 0, none⟩ = some (.int .i64 (e.1 : Int)) := by simp [World.cell?, hgb]
        have hgc : W2.cell? ⟨gb, 1, none⟩ = some (.int .i64 (e.2 : Int)) := by simp [World.cell?, hgb]
        have hI := fun (v : Int) (m : Later W2) => index_any l v (some ⟨lb, lofs, none⟩) l.length lc m.w (hl.later m) rfl (by omega)
        have HG : Hid (gapE l e = max (idxV (idxN l (e.1 : Int)) - idxV (idxN l (e.2 : Int))) (idxV (idxN l (e.2 : Int)) - idxV (idxN l (e.1 : Int)))) := rfl
        have hIa := hI (e.1 : Int)
        have hIb := hI (e.2 : Int)
        have hup : ∀ v : Int, idxV (idxN l v) ≤ 7 := fun v => by
          unfold idxN
          cases hf : firstB (fun j => v == gi l j) l.length with
          | none => show (-1 : Int) ≤ 7; omega
          | some j =>
            have := List.mem_of_find?_eq_some hf
            simp at this
            show (j : Int) ≤ 7; omega
        have a1 := idxV_bound l (e.1 : Int)
        have a2 := idxV_bound l (e.2 : Int)
        have a3 := hup (e.1 : Int)
        have a4 := hup (e.2 : Int)
        clear hup hI hcs hgb hx hkE hEk
        have HhO := Lib.hid hO
        clear hO
        generalize gapE l e = Gp at *
        generalize bandE l (E.take k) = B at *
        generalize idxV (idxN l (e.1 : Int)) = x at *
        generalize idxV (idxN l (e.2 : Int)) = y at *
        generalize (e.1 : Int) = ea at *
        generalize (e.2 : Int) = eb at *
        go_wp2_with fail
        refine wp_region_later m rfl (by kernel_rfl) (by kernel_rfl) ?_
        repeat (go_big_quiet_step ((first | (go_at_call 41; with_reducible exact Calls.later _ (hIa _)) | (go_at_call 41; with_reducible exact Calls.later _ (hIb _)))))
        refine wpQuiet_nil ?_
        rintro _ ⟨m, rfl⟩
        go_wp2_with fail
        clear HV hIa hIb
        have hgp := HG.out
        have HM : Hid ((if (if B < x - y then x - y else B) < y - x then y - x else if B < x - y then x - y else B) = max B Gp ∧ 0 ≤ max B Gp ∧ max B Gp ≤ 8) := by
          show (_ = _) ∧ _
          rw [hgp]
          clear hgp HG
          split <;> (try split) <;> omega
        clear hgp HG
        go_roundw
        case rel => exact ⟨⟨m, rfl⟩, k + 1, by omega, by go_num, by rw [HN.out, HM.out.1], by rw [HN.out]; exact HM.out.2.1, by rw [HN.out]; exact HM.out.2.2⟩
        case measure => simp [intOf]; omega
      · go_wp2_with fail
        go_ret
        have e : E.take k = E := List.take_of_length_le (by have := HVl.out; omega)
        exact ⟨retI (by rw [e, HE.out]), below_later HhB.out m⟩

theorem bandNum (rs : List Int) (ro : Option Addr) (rc : Nat) (hv : isGraphB rs.length rs = true) : NumOf 15 rs ro rc (bandV rs.length rs) := by
  intro l ao cap w hr hl hn hc
  have g := (VG.of hv).2
  have := g.le
  exact implBandOf_any rs l ro ao rc cap hv w hr (by omega) hl (by omega) hc

theorem implBandwidth_any (n : Int) (rs : List Int) (ro : Option Addr) (rc : Nat) (w : World) (hr : IntsAt w ro rs) (hrl : rs.length ≤ 1048576) :
    Calls Try.prog 6 #[.agg #[.int .i64 n, .slice ro rs.length rc]] w fun e w' => e = .returned (.int .i64 (bandwidthV n rs)) ∧ Below w.heap.size w w' := implBandwidth_from bandNum n rs ro rc w hr hrl

theorem implBestBand_any (n : Int) (rs : List Int) (ro : Option Addr) (rc : Nat) (w : World) (hr : IntsAt w ro rs) (hrl : rs.length ≤ 1048576) :
    Calls Try.prog 14 #[.agg #[.int .i64 n, .slice ro rs.length rc]] w (RetO w (bestBandV n rs)) := implBestBand_from bandNum n rs ro rc w hr hrl

end Go.Proofs.Ytfkehmpckhmkbaa

namespace Go.Proofs.Ytfkehmpckhmkbaa
open Go.RowKit

/-- What has been reckoned for the sets below k. -/
def dpL (c : Nat → Nat → Nat) (e : Nat → Nat) (N k : Nat) : List Int := (List.range k).map fun S => (dpV c e N S : Int)
theorem dpL_len (c : Nat → Nat → Nat) (e : Nat → Nat) (N k : Nat) : (dpL c e N k).length = k := by simp [dpL]
theorem dpL_at {c : Nat → Nat → Nat} {e : Nat → Nat} {N k S : Nat} (h : S < k) : gi (dpL c e N k) S = (dpV c e N S : Int) := by simp [dpL, gi, h]
theorem dpL_succ (c : Nat → Nat → Nat) (e : Nat → Nat) (N k : Nat) : dpL c e N (k + 1) = dpL c e N k ++ [(dpV c e N k : Int)] := by unfold dpL; rw [List.range_succ, List.map_append]; rfl
theorem dpL_one (c : Nat → Nat → Nat) (e : Nat → Nat) (N : Nat) : dpL c e N 1 = [0] := by simp [dpL, dpV_zero]

set_option maxRecDepth 100000 in
set_option maxHeartbeats 2000000 in
theorem specPath_any (n : Int) (rs : List Int) (ro : Option Addr) (rc : Nat) (w : World) (hr : IntsAt w ro rs) (hrl : rs.length ≤ 1048576) :
    Calls Try.prog 10 #[.agg #[.int .i64 n, .slice ro rs.length rc]] w fun e w' => e = .returned (.int .i64 (pathV n rs)) ∧ Below w.heap.size w w' := by
  go_enter Try.func10, Try.ntmps10
  go_wp2_with fail
  generalize hW : w.alloc _ = W1
  obtain ⟨hB, -, k0⟩ := alloc1 hW
  replace hr := hr.below hB
  have hb0 := k0.lt
  have hc0 := k0.cell 0
  have hc1 := k0.cell 1
  simp at hc0 hc1
  clear hW k0
  have HhB := Lib.hid hB
  clear hB
  obtain ⟨m, hm0⟩ : ∃ m : Later W1, m.w = W1 := ⟨Later.refl _, rfl⟩
  refine (fun h => hm0 ▸ h) ?_
  clear hm0
  cases hv : isGraphB n rs
  · have HE := Lib.hid (pathV_no hv)
    go_wp2_with (first | (go_at_call 12; refine (Calls.later m (specIsGraph_any _ _ _ _ _ (hr.later m) hrl)).mono ?_; rintro e w' ⟨rfl, m, rfl⟩))
    go_ret
    exact ⟨retI (by rw [HE.out]), below_later HhB.out m⟩
  obtain ⟨rfl, g⟩ := VG.of hv
  have hg1 := g.pos
  have hg2 := g.le
  obtain ⟨hp1, hp2⟩ := g.pow
  have hq := pwN_small rs.length (by omega)
  have HE := Lib.hid (pathV_of hv)
  have HT : Hid (2 ^ rs.length - 1 + 1 = 2 ^ rs.length) := by show _ = _; omega
  have HPE := Lib.hid (fun S h => pwE_eq (rs := rs) hg2 (S := S) h)
  have HFr : Hid (∀ (S : Nat) (w : World), IntsAt w ro rs → S < 2 ^ rs.length → Calls Try.prog 33 #[.agg #[.int .i64 rs.length, .slice ro rs.length rc], .int .i64 S] w fun e w' => e = .returned (.int .i64 (frontN rs S)) ∧ Below w.heap.size w w') := Lib.hid fun S w h1 h2 => specFront_any rs S ro rc w h1 g h2
  generalize hTT : 2 ^ rs.length = T at *
  refine (Calls.later m (specIsGraph_any _ _ _ _ _ (hr.later m) hrl)).mono ?_
  rintro e w' ⟨rfl, m, rfl⟩
  rw [hv]
  have hwm := m.size
  replace hr := hr.later m
  replace hc0 : m.w.cell? _ = _ := (m.cell _ _ hb0).trans hc0
  replace hc1 : m.w.cell? _ = _ := (m.cell _ _ hb0).trans hc1
  replace hb0 := Nat.lt_of_lt_of_le hb0 m.size
  replace HhB := Lib.hid (below_later HhB.out m)
  generalize m.w = W2 at *
  clear m
  go_wp2_with fail
  generalize hW3 : World.alloc _ _ = W3
  have hO3 : OwnInts W3 W2.heap.size [0] := by rw [← hW3]; exact OwnInts.made _ [0]
  have hB3 : Below W2.heap.size W2 W3 := by rw [← hW3]; exact (Below.refl _ _).alloc (Nat.le_refl _) _
  clear hW3
  have hE3 : OwnE W3 W2.heap.size (some ⟨W2.heap.size, 0, none⟩) 1 [0] := (RowAt.of hO3 (by simp)).own (Nat.le_refl _)
  go_loopw [3, 4] (fun o i wr => ∃ m : Later W2, wr = m.w ∧ ∃ (k : Nat) (ao : Option Addr) (cap : Nat), 1 ≤ k ∧ k ≤ T ∧ i = .int .i64 k ∧ o = .slice ao (dpL (fun _ _ => 0) (pwE rs) rs.length k).length cap ∧ OwnE m.w W2.heap.size ao cap (dpL (fun _ _ => 0) (pwE rs) rs.length k)) (fun _ i _ => T - (intOf i).toNat)
  case atStart => exact ⟨⟨W3, hB3⟩, rfl, 1, _, _, by omega, by omega, rfl, by rw [dpL_one]; rfl, by rw [dpL_one]; exact hE3⟩
  case round =>
    clear hO3 hB3 hE3
    obtain ⟨m, rfl, k, ao, cap, hk1, hk, rfl, rfl, hO⟩ := hrel
    have hln1 := Nat.le_of_eq (dpL_len (fun _ _ => 0) (pwE rs) rs.length k)
    have hln2 := Nat.le_of_eq (dpL_len (fun _ _ => 0) (pwE rs) rs.length k).symm
    have HU : Hid (dpL (fun _ _ => 0) (pwE rs) rs.length (k + 1) = dpL (fun _ _ => 0) (pwE rs) rs.length k ++ [(dpV (fun _ _ => 0) (pwE rs) rs.length k : Int)]) := dpL_succ _ _ _ _
    have HAt : Hid (∀ S, S < k → gi (dpL (fun _ _ => 0) (pwE rs) rs.length k) S = (dpV (fun _ _ => 0) (pwE rs) rs.length S : Int)) := Lib.hid fun S h => dpL_at h
    by_cases hlt : k < T
    · have HSt : Hid (dpV (fun _ _ => 0) (pwE rs) rs.length k = max (minTo rs.length k.testBit (fun v => max (dpV (fun _ _ => 0) (pwE rs) rs.length (k - 2 ^ v)) 0) rs.length) (frontN rs k)) := by
        show _ = _
        rw [dpV_step (by omega), HPE.out k hlt]
      have hmb : ∀ k', minTo rs.length k.testBit (fun v => max (dpV (fun _ _ => 0) (pwE rs) rs.length (k - 2 ^ v)) 0) k' ≤ rs.length := fun k' => minTo_le k'
      have hI := hO.ints
      have HW : ∀ m2 : Later m.w, ∃ m' : Later W2, m'.w = m2.w := fun m2 => ⟨m.on m2.below, rfl⟩
      have hms := m.size
      generalize dpL (fun _ _ => 0) (pwE rs) rs.length k = xs at *
      obtain ⟨xb, xofs, rfl, hxb, hxc⟩ := hI (by omega)
      have HXc : Hid (∀ S, S < k → m.w.cell? ⟨xb, xofs + S, none⟩ = some (.int .i64 (dpV (fun _ _ => 0) (pwE rs) rs.length S : Int))) := Lib.hid fun S h => by rw [← HAt.out S h]; exact hxc S (by omega)
      clear hxc hI
      have HhO := Lib.hid hO
      clear hO
      replace hr := hr.later m
      replace hc0 : m.w.cell? _ = _ := (m.cell _ _ hb0).trans hc0
      replace hc1 : m.w.cell? _ = _ := (m.cell _ _ hb0).trans hc1
      replace hb0 := Nat.lt_of_lt_of_le hb0 m.size
      replace HhB := Lib.hid (below_later HhB.out m)
      generalize m.w = W4 at *
      clear m
      obtain ⟨m, hm0⟩ : ∃ m : Later W4, m.w = W4 := ⟨Later.refl _, rfl⟩
      refine (fun h => hm0 ▸ h) ?_
      clear hm0
      go_wp2_with fail
      go_loopw [5, 6] (fun l i wr => (∃ m : Later W4, wr = m.w) ∧ ∃ v : Nat, v ≤ rs.length ∧ i = .int .i64 v ∧ l = .int .i64 (minTo rs.length k.testBit (fun v => max (dpV (fun _ _ => 0) (pwE rs) rs.length (k - 2 ^ v)) 0) v : Nat)) (fun _ i _ => rs.length - (intOf i).toNat)
      case atStart => exact ⟨⟨m, rfl⟩, 0, by omega, rfl, rfl⟩
      case round =>
        obtain ⟨⟨m, rfl⟩, v, hvl, rfl, rfl⟩ := hrel
        by_cases hvt : v < rs.length
        · have hn := hasN_nat k v
          have hmv := hmb v
          have HY := Lib.hid (fun h => minTo_yes (N := rs.length) (p := k.testBit) (f := fun v => max (dpV (fun _ _ => 0) (pwE rs) rs.length (k - 2 ^ v)) 0) (k := v) h)
          have HN := Lib.hid (fun h => minTo_no (N := rs.length) (p := k.testBit) (f := fun v => max (dpV (fun _ _ => 0) (pwE rs) rs.length (k - 2 ^ v)) 0) (k := v) h)
          generalize hM : minTo rs.length k.testBit (fun v => max (dpV (fun _ _ => 0) (pwE rs) rs.length (k - 2 ^ v)) 0) v = M at *
          cases hb : k.testBit v
          · rw [hb] at hn
            replace HN := Lib.hid (HN.out hb)
            clear HY
            go_wp2_with fail
            go_roundw
            case rel => exact ⟨⟨m, rfl⟩, v + 1, by omega, by go_num, by rw [HN.out]⟩
            case measure => simp [intOf]; omega
          · rw [hb] at hn
            have hpw := pwN_small v (by omega)
            have hle := Nat.ge_two_pow_of_testBit hb
            have hvp := Nat.two_pow_pos v
            have hxk := HXc.out (k - 2 ^ v) (by omega)
            have hmx : max (dpV (fun _ _ => 0) (pwE rs) rs.length (k - 2 ^ v)) 0 = dpV (fun _ _ => 0) (pwE rs) rs.length (k - 2 ^ v) := by omega
            replace HY := Lib.hid (HY.out hb)
            rw [hmx] at HY
            have hdl := dpV_le (c := fun _ _ => 0) (e := pwE rs) (N := rs.length) (fun S => Nat.min_le_right _ _) (k - 2 ^ v)
            clear HN hmx
            generalize hD : dpV (fun _ _ => 0) (pwE rs) rs.length (k - 2 ^ v) = D at *
            generalize 2 ^ v = V at *
            have hkv : ((k : Int) - (V : Int)) = ((k - V : Nat) : Int) := by omega
            by_cases hc : D < M
            all_goals
              go_wp2_with fail
              go_roundw
              case rel => exact ⟨⟨m, rfl⟩, v + 1, by omega, by go_num, by rw [HY.out]; simp [hc]⟩
              case measure => simp [intOf]; omega
        · have hve : v = rs.length := by omega
          have hmv := hmb v
          have hMe : minTo rs.length k.testBit (fun v => max (dpV (fun _ _ => 0) (pwE rs) rs.length (k - 2 ^ v)) 0) v = minTo rs.length k.testBit (fun v => max (dpV (fun _ _ => 0) (pwE rs) rs.length (k - 2 ^ v)) 0) rs.length := by rw [hve]
          have hSt := HSt.out
          rw [← hMe] at hSt
          have hF7 := frontN_le rs k
          have hFr := fun m : Later W4 => HFr.out k m.w (hr.later m) hlt
          clear hMe hve HSt hmb
          generalize minTo rs.length k.testBit (fun v => max (dpV (fun _ _ => 0) (pwE rs) rs.length (k - 2 ^ v)) 0) v = M at *
          generalize frontN rs k = F at *
          generalize dpV (fun _ _ => 0) (pwE rs) rs.length k = D at *
          by_cases hc : M < F
          · have hD : D = F := by omega
            subst hD
            clear hSt
            go_wp2_with (first | (go_at_call 33; refine (Calls.later m (hFr _)).mono ?_; rintro e w' ⟨rfl, m, rfl⟩) | (at_builtin; go_must (refine wpList_append_e rfl _ _ rfl W2.heap.size cap (some ⟨xb, xofs, none⟩) xs (D : Int) rfl (HhO.out.later m) rfl (Nat.le_trans hms m.size) (by omega) ?_); intro ao2 cap2 w1 hown1 hB1))
            go_roundw
            case rel =>
              obtain ⟨m', hm'⟩ := HW m
              exact ⟨⟨w1, m'.below.trans (hm' ▸ hB1)⟩, rfl, k + 1, ao2, cap2, by omega, by omega, by go_num, by rw [HU.out]; simp, by rw [HU.out]; exact hown1⟩
            case measure => simp [intOf]; omega
          · have hD : D = M := by omega
            subst hD
            clear hSt
            go_wp2_with (first | (go_at_call 33; refine (Calls.later m (hFr _)).mono ?_; rintro e w' ⟨rfl, m, rfl⟩) | (at_builtin; go_must (refine wpList_append_e rfl _ _ rfl W2.heap.size cap (some ⟨xb, xofs, none⟩) xs (D : Int) rfl (HhO.out.later m) rfl (Nat.le_trans hms m.size) (by omega) ?_); intro ao2 cap2 w1 hown1 hB1))
            go_roundw
            case rel =>
              obtain ⟨m', hm'⟩ := HW m
              exact ⟨⟨w1, m'.below.trans (hm' ▸ hB1)⟩, rfl, k + 1, ao2, cap2, by omega, by omega, by go_num, by rw [HU.out]; simp, by rw [HU.out]; exact hown1⟩
            case measure => simp [intOf]; omega
    · have hke : k = T := by omega
      have hI := hO.ints
      have hT7 : T ≤ 128 := by omega
      have hAt := HAt.out ((dpL (fun _ _ => 0) (pwE rs) rs.length k).length - 1) (by omega)
      have HE2 : Hid (pathV rs.length rs = (dpV (fun _ _ => 0) (pwE rs) rs.length ((dpL (fun _ _ => 0) (pwE rs) rs.length k).length - 1) : Int)) := Lib.hid (by rw [HE.out, dpL_len, hke])
      clear HAt HU
      generalize dpL (fun _ _ => 0) (pwE rs) rs.length k = xs at *
      obtain ⟨xb, xofs, rfl, hxb, hxc⟩ := hI (by omega)
      have hxk := hxc (xs.length - 1) (by omega)
      rw [hAt] at hxk
      have hx1 : 1 ≤ xs.length := by omega
      have hx2 : xs.length ≤ 128 := by omega
      clear hxc hI hO hAt hke hln1 hln2
      generalize dpV (fun _ _ => 0) (pwE rs) rs.length (xs.length - 1) = D at *
      have hlast : ((xs.length : Int) - 1) = ((xs.length - 1 : Nat) : Int) := by omega
      go_wp2_with fail
      go_ret
      exact ⟨retI (by rw [HE2.out]), below_later HhB.out m⟩

end Go.Proofs.Ytfkehmpckhmkbaa

namespace Go.Proofs.Ytfkehmpckhmkbaa
open Go.RowKit

theorem xor_pow {a k : Nat} (ha : a < 128) (hk : k ≤ 6) (h : a.testBit k = false) : bits .xor .i64 (a : Int) (pwN k) = ((a + 2 ^ k : Nat) : Int) := by
  have hp : 2 ^ k ≤ 2 ^ 6 := Nat.pow_le_pow_right (by decide) hk
  have hd : a &&& 2 ^ k = 0 := by
    apply Nat.eq_of_testBit_eq
    intro j
    rw [Nat.testBit_and, Nat.testBit_two_pow, Nat.zero_testBit]
    by_cases e : k = j
    · subst e; rw [h]; rfl
    · rw [decide_eq_false e, Bool.and_false]
  rw [pwN_small k (by omega), bits_xor_nat _ _ (by omega) (by omega), add_disj (by omega) (by omega) hd]
  congr 1
  apply Nat.eq_of_testBit_eq
  intro j
  rw [Nat.testBit_xor, Nat.testBit_or, Nat.testBit_two_pow]
  by_cases e : k = j
  · subst e; rw [h]; simp
  · rw [decide_eq_false e]; simp

set_option maxRecDepth 100000 in
set_option maxHeartbeats 1000000 in
theorem flip_any (ys : List Int) (a b g1 cap N : Nat) (w : World) (hN : ys.length = N) (hR : RowAt w g1 cap ys) (g : VG ys) (ha : a < N) (hb : b < N) (hab : a ≠ b) (he : eb ys a b = false) :
    Calls Try.prog 49 #[.agg #[.int .i64 N, .slice (some ⟨g1, 0, none⟩) N cap], .int .i64 a, .int .i64 b] w fun e w' => e = .returned (.tuple #[]) ∧ Only (fun x => x = g1) w.heap.size w w' ∧ RowAt w' g1 cap (addE ys a b) := by
  subst hN
  have HS := Lib.hid (addE_set g ha hb hab he)
  have he2 := he
  rw [eb_sym g ha hb] at he2
  have hga := g.lt128 ha
  have hgb := g.lt128 hb
  have hl7 := g.le
  have HX1 := Lib.hid (xor_pow hga (k := b) (by omega) he)
  have HX2 := Lib.hid (xor_pow hgb (k := a) (by omega) he2)
  have z1 := hR.cell a ha
  rw [g.row a ha] at z1
  have z2 := hR.frozen a
  have zl := hR.lt
  have x4 : gi (ys.set a ((gn ys a + 2 ^ b : Nat) : Int)) b = (gn ys b : Int) := by rw [← g.row b hb]; simp [gi, hab]
  clear he he2
  go_enter Try.func49, Try.ntmps49
  go_wp2_with fail
  generalize hW : World.alloc _ _ = W1
  obtain ⟨hB, -, k0⟩ := alloc1 hW
  replace z1 := (hB.cell (p := ⟨g1, a, none⟩) zl).trans z1
  replace z2 := (hB.frozen (p := ⟨g1, a, none⟩) zl).trans z2
  have hR1 := hR.below hB
  have hb0 := k0.lt
  have hc1 := k0.cell 1
  simp at hc1
  have hl1 := hR1.lt
  clear hW
  have HhB := Lib.hid hB
  clear hB
  have HhR1 := Lib.hid hR1
  clear hR1
  have HhR := Lib.hid hR
  clear hR
  have Hx4 := Lib.hid x4
  clear x4
  have Hk0 := Lib.hid k0
  clear k0
  obtain ⟨m, hm0⟩ : ∃ m : Later W1, m.w = W1 := ⟨Later.refl _, rfl⟩
  refine (fun h => hm0 ▸ h) ?_
  clear hm0
  go_wp2_with fail
  go_still_tail 8, (by kernel_rfl)
  refine wpList_drew_on m fun m => ?_
  go_wp2_with fail
  generalize hW3 : World.setCell _ _ _ = W3
  rw [HX1.out] at hW3
  have hO3 : Only (fun x => x = g1) W1.heap.size W1 W3 := hW3 ▸ (Only.of (X := fun x => x = g1) m.below).setCell (p := ⟨g1, a, none⟩) (.inl rfl) _
  have hR3 : RowAt W3 g1 cap (ys.set a ((gn ys a + 2 ^ b : Nat) : Int)) := hW3 ▸ (HhR1.out.below m.below).store a _
  have hne : ¬ w.heap.size = g1 := by omega
  have x1 := (hO3.cell (p := ⟨w.heap.size, 1, none⟩) hb0 hne).trans hc1
  have x2 := hR3.frozen b
  have x3 := hR3.cell b (by simpa using hb)
  rw [Hx4.out] at x3
  have b1 := Nat.lt_of_lt_of_le hb0 hO3.size
  have b2 := hR3.lt
  clear hW3 z1 z2 hc1 hb0 hl1 m
  have HhR3 := Lib.hid hR3
  clear hR3
  have HhO3 := Lib.hid hO3
  clear hO3
  obtain ⟨m, hm0⟩ : ∃ m : Later W3, m.w = W3 := ⟨Later.refl _, rfl⟩
  refine (fun h => hm0 ▸ h) ?_
  clear hm0
  go_wp2_with fail
  go_still_tail 8, (by kernel_rfl)
  refine wpList_drew_on m fun m => ?_
  go_wp2_with fail
  go_end0
  rw [HX2.out]
  refine ⟨rfl, ?_, ?_⟩
  · exact (((Only.of (X := fun x => x = g1) HhB.out).trans (HhO3.out.mono HhB.out.size fun b _ h => h)).more m.below (Nat.le_trans HhB.out.size HhO3.out.size)).setCell (p := ⟨g1, b, none⟩) (.inl rfl) _
  · rw [← HS.out]; exact (HhR3.out.below m.below).store b _

end Go.Proofs.Ytfkehmpckhmkbaa
