/-
  BandOf of the program, BandwidthOf and BestBand of the program. For at most 2^20 rows.
-/
import Derived.Test.YtdbaflimcbidjaaBandB
import Derived.Test.YtdbaflimcbidjaaBandI
import Derived.Test.YtdbaflimcbidjaaSlices
namespace Go.Proofs.Ytdbaflimcbidjaa
open Go.RowKit

set_option maxRecDepth 100000 in
set_option maxHeartbeats 2000000 in
theorem implBandOf_any (rs l : List Int) (ro lo : Option Addr) (rc lc : Nat) (hg : isGraphB rs.length rs = true) (w : World) (hr : IntsAt w ro rs) (hrl : rs.length ≤ 1048576) (hl : IntsAt w lo l) (hll : l.length ≤ 1048576) (hcap : l.length ≤ lc) :
    Calls Try.prog 66 #[.agg #[.int .i64 rs.length, .slice ro rs.length rc], .slice lo l.length lc] w fun e w' => e = .returned (.int .i64 (bandV rs.length rs l)) ∧ Below w.heap.size w w' := by
  go_enter Try.func66, Try.ntmps66
  go_wp2_with fail
  generalize hW : w.alloc _ = W1
  obtain ⟨hB, -, k0⟩ := alloc1 hW
  replace hr := hr.below hB
  replace hl := hl.below hB
  have hb0 := k0.lt
  have hc0 := k0.cell 0
  have hc1 := k0.cell 1
  simp at hc0 hc1
  clear hW k0
  have HhB := Lib.hid hB
  clear hB
  obtain ⟨m, hm0⟩ : ∃ m : Later W1, m.w = W1 := ⟨Later.refl _, rfl⟩
  refine (fun h => hm0 ▸ h) ?_
  clear hm0
  have hO := fun m : Later W1 => implIsOrder_any rs.length rs l ro lo rc lc m.w (hr.later m) hrl (hl.later m) hll hcap
  cases hv : orderB rs.length rs l
  · have HE := Lib.hid (bandV_no hv)
    rw [hv] at hO
    go_wp2_with (first | (go_at_call 97; refine (Calls.later m (hO _)).mono ?_; rintro e w' ⟨rfl, m, rfl⟩))
    go_ret
    exact ⟨retI (by rw [HE.out]), below_later HhB.out m⟩
  · have HE := Lib.hid ((bandV_of hv).trans (band_edges hv).symm)
    rw [hv] at hO
    obtain ⟨hvb, -, g, hlen⟩ := orderB_true hv
    have hg2 := g.le
    have hl7 : l.length ≤ 7 := by omega
    have hl0 : 0 < l.length := by have := g.pos; omega
    clear hlen hvb
    go_wp2_with (first | (go_at_call 97; refine (Calls.later m (hO _)).mono ?_; rintro e w' ⟨rfl, m, rfl⟩))
    clear hO
    refine (implEdgesOf_any rs ro rc hg m.w (hr.later m)).mono ?_
    rintro e w2 ⟨eo, ec, xs, rfl, hB2, hO, hV⟩
    obtain ⟨m, rfl⟩ : ∃ m2 : Later W1, m2.w = w2 := ⟨m.on hB2, rfl⟩
    clear hB2
    replace hr := hr.later m
    replace hl := hl.later m
    replace hc0 : m.w.cell? _ = _ := (m.cell _ _ hb0).trans hc0
    replace hc1 : m.w.cell? _ = _ := (m.cell _ _ hb0).trans hc1
    replace hb0 := Nat.lt_of_lt_of_le hb0 m.size
    replace HhB := Lib.hid (below_later HhB.out m)
    generalize m.w = W2 at *
    clear m
    have hEl := edgesTo_len rs rs.length
    have hx49 : xs.length ≤ 49 := by rw [hV.1]; exact Nat.le_trans hEl (Nat.mul_le_mul hg2 hg2)
    clear hEl
    generalize edgesTo rs rs.length = E at *
    obtain ⟨lb, lofs, rfl, hlb, hlc⟩ := hl hl0
    clear hlc
    have HVl := Lib.hid hV.1
    have HV := Lib.hid hV.2
    clear hV
    obtain ⟨m, hm0⟩ : ∃ m : Later W2, m.w = W2 := ⟨Later.refl _, rfl⟩
    refine (fun h => hm0 ▸ h) ?_
    clear hm0
    go_wp2_with fail
    go_loopw [5, 17] (fun b i wr => (∃ m : Later W2, wr = m.w) ∧ ∃ k : Nat, k ≤ xs.length ∧ i = .int .i64 k ∧ b = .int .i64 (bandE l (E.take k)) ∧ 0 ≤ bandE l (E.take k) ∧ bandE l (E.take k) ≤ 8) (fun _ i _ => xs.length - (intOf i).toNat)
    case atStart => exact ⟨⟨m, rfl⟩, 0, by omega, rfl, rfl, by show (0 : Int) ≤ 0; omega, by show (0 : Int) ≤ 8; omega⟩
    case round =>
      obtain ⟨⟨m, rfl⟩, k, hk, rfl, rfl, hb1, hb2⟩ := hrel
      by_cases hlt : k < xs.length
      · have hkE : k < E.length := by rw [← HVl.out]; exact hlt
        obtain ⟨e, hEk⟩ : ∃ e, E[k]? = some e := ⟨_, List.getElem?_eq_getElem hkE⟩
        obtain ⟨gb, hx, hgb⟩ := HV.out k e hEk
        have HN : Hid (bandE l (E.take (k + 1)) = max (bandE l (E.take k)) (gapE l e)) := Lib.hid (by rw [List.take_add_one, hEk]; exact bandE_snoc _ _ _)
        obtain ⟨G, rfl, -, hG, hcs⟩ := hO.cells (by omega)
        have hxc := hcs k _ hx
        have hgl : gb < W2.heap.size := (Array.getElem?_eq_some_iff.1 hgb).1
        have hga : W2.cell? ⟨gb, 0, none⟩ = some (.int .i64 (e.1 : Int)) := by simp [World.cell?, hgb]
        have hgc : W2.cell? ⟨gb, 1, none⟩ = some (.int .i64 (e.2 : Int)) := by simp [World.cell?, hgb]
        have hI := fun (v : Int) (m : Later W2) => index_any l v (some ⟨lb, lofs, none⟩) l.length lc m.w (hl.later m) rfl (by omega)
        have HG : Hid (gapE l e = max (idxV (idxN l (e.1 : Int)) - idxV (idxN l (e.2 : Int))) (idxV (idxN l (e.2 : Int)) - idxV (idxN l (e.1 : Int)))) := rfl
        have hIa := hI (e.1 : Int)
        have hIb := hI (e.2 : Int)
        have hup : ∀ v : Int, idxV (idxN l v) ≤ 7 := fun v => by
          unfold idxN
          cases hf : firstB (fun j => v == gi l j) l.length with
          | none => show (-1 : Int) ≤ 7; omega
          | some j =>
            have := List.mem_of_find?_eq_some hf
            simp at this
            show (j : Int) ≤ 7; omega
        have a1 := idxV_bound l (e.1 : Int)
        have a2 := idxV_bound l (e.2 : Int)
        have a3 := hup (e.1 : Int)
        have a4 := hup (e.2 : Int)
        clear hup hI hcs hgb hx hkE hEk
        have HhO := Lib.hid hO
        clear hO
        generalize gapE l e = Gp at *
        generalize bandE l (E.take k) = B at *
        generalize idxV (idxN l (e.1 : Int)) = x at *
        generalize idxV (idxN l (e.2 : Int)) = y at *
        generalize (e.1 : Int) = ea at *
        generalize (e.2 : Int) = eb at *
        go_wp2_with fail
        refine wp_region_later m rfl (by kernel_rfl) (by kernel_rfl) ?_
        repeat (go_big_quiet_step ((first | (go_at_call 99; with_reducible exact Calls.later _ (hIa _)) | (go_at_call 99; with_reducible exact Calls.later _ (hIb _)))))
        refine wpQuiet_nil ?_
        rintro _ ⟨m, rfl⟩
        go_wp2_with fail
        clear HV hIa hIb
        have hgp := HG.out
        have HM : Hid ((if (if B < x - y then x - y else B) < y - x then y - x else if B < x - y then x - y else B) = max B Gp ∧ 0 ≤ max B Gp ∧ max B Gp ≤ 8) := by
          show (_ = _) ∧ _
          rw [hgp]
          clear hgp HG
          split <;> (try split) <;> omega
        clear hgp HG
        go_roundw
        case rel => exact ⟨⟨m, rfl⟩, k + 1, by omega, by go_num, by rw [HN.out, HM.out.1], by rw [HN.out]; exact HM.out.2.1, by rw [HN.out]; exact HM.out.2.2⟩
        case measure => simp [intOf]; omega
      · go_wp2_with fail
        go_ret
        have e : E.take k = E := List.take_of_length_le (by have := HVl.out; omega)
        exact ⟨retI (by rw [e, HE.out]), below_later HhB.out m⟩

theorem bandNum (rs : List Int) (ro : Option Addr) (rc : Nat) (hv : isGraphB rs.length rs = true) : NumOf 66 rs ro rc (bandV rs.length rs) := by
  intro l ao cap w hr hl hn hc
  have g := (VG.of hv).2
  have := g.le
  exact implBandOf_any rs l ro ao rc cap hv w hr (by omega) hl (by omega) hc

theorem implBandwidth_any (n : Int) (rs : List Int) (ro : Option Addr) (rc : Nat) (w : World) (hr : IntsAt w ro rs) (hrl : rs.length ≤ 1048576) :
    Calls Try.prog 36 #[.agg #[.int .i64 n, .slice ro rs.length rc]] w fun e w' => e = .returned (.int .i64 (bandwidthV n rs)) ∧ Below w.heap.size w w' := implBandwidth_from bandNum n rs ro rc w hr hrl

theorem implBestBand_any (n : Int) (rs : List Int) (ro : Option Addr) (rc : Nat) (w : World) (hr : IntsAt w ro rs) (hrl : rs.length ≤ 1048576) :
    Calls Try.prog 31 #[.agg #[.int .i64 n, .slice ro rs.length rc]] w (RetO w (bestBandV n rs)) := implBestBand_from bandNum n rs ro rc w hr hrl

end Go.Proofs.Ytdbaflimcbidjaa
