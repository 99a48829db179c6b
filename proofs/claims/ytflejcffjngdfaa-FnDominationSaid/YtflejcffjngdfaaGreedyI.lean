/-
  GreedyDominating of the program. For at most 2^20 rows.
-/
import Derived.Test.YtflejcffjngdfaaGreedy
import Derived.Test.YtflejcffjngdfaaOrderI
namespace Go.Proofs.Ytflejcffjngdfaa
open Go.RowKit

/-- The best one and its number, between two rounds. -/
def BestAt (rs : List Int) (L v H k b : Nat) (mo : Int) : Prop := (k = 0 ∧ b = v ∧ mo = -1) ∨ (1 ≤ k ∧ b = bestTo rs L (els H) k ∧ mo = (cnt (gn rs b &&& L) : Int))
theorem BestAt.next {rs : List Int} (g : VG rs) {L v H k b : Nat} {mo : Int} (hL : L < 2 ^ rs.length) (hM : ∀ u, u ∈ els H → L.testBit u = true) (h : BestAt rs L v H k b mo) (hk : k < cnt H) (hc : mo < (cnt (gn rs (eln (els H) k) &&& L) : Int)) :
    BestAt rs L v H (k + 1) (eln (els H) k) (cnt (gn rs (eln (els H) k) &&& L) : Int) := by
  refine .inr ⟨by omega, ?_, rfl⟩
  rcases h with ⟨rfl, -, -⟩ | ⟨h1, rfl, rfl⟩
  · rw [bestTo_one]
  · have hb := hM _ (bestTo_mem (rs := rs) (L := L) (show 0 < (els H).length by unfold cnt at hk; omega) k (by unfold cnt at hk; omega))
    have hu := hM _ (eln_mem (l := els H) hk)
    refine (bestTo_yes ?_).symm
    rw [score_eq g hL hb, score_eq g hL hu]; omega
theorem BestAt.same {rs : List Int} (g : VG rs) {L v H k b : Nat} {mo : Int} (hL : L < 2 ^ rs.length) (hM : ∀ u, u ∈ els H → L.testBit u = true) (h : BestAt rs L v H k b mo) (hk : k < cnt H) (hc : ¬mo < (cnt (gn rs (eln (els H) k) &&& L) : Int)) :
    BestAt rs L v H (k + 1) b mo := by
  rcases h with ⟨rfl, -, rfl⟩ | ⟨h1, rfl, rfl⟩
  · omega
  · have hb := hM _ (bestTo_mem (rs := rs) (L := L) (show 0 < (els H).length by unfold cnt at hk; omega) k (by unfold cnt at hk; omega))
    have hu := hM _ (eln_mem (l := els H) hk)
    have e : bestTo rs L (els H) (k + 1) = bestTo rs L (els H) k := bestTo_no (by rw [score_eq g hL hb, score_eq g hL hu]; omega)
    exact .inr ⟨by omega, e.symm, rfl⟩
theorem BestAt.done {rs : List Int} {L v H k b : Nat} {mo : Int} (h : BestAt rs L v H k b mo) (h0 : 1 ≤ k) : b = bestTo rs L (els H) k := by
  rcases h with ⟨rfl, -, -⟩ | ⟨h1, h2, -⟩
  · omega
  · exact h2
theorem BestAt.lt {rs : List Int} {L v H k b N : Nat} {mo : Int} (h : BestAt rs L v H k b mo) (hv : v < N) (hk : k ≤ cnt H) (hM : ∀ u, u ∈ els H → u < N) : b < N ∧ -1 ≤ mo ∧ mo ≤ 7 := by
  rcases h with ⟨rfl, rfl, rfl⟩ | ⟨h1, rfl, rfl⟩
  · exact ⟨hv, by omega, by omega⟩
  · have := cnt_le (gn rs (bestTo rs L (els H) k) &&& L)
    exact ⟨hM _ (bestTo_mem (by unfold cnt at hk; omega) k (by unfold cnt at hk; omega)), by omega, by omega⟩

set_option maxRecDepth 100000 in
set_option maxHeartbeats 4000000 in
theorem implGreedy_any (n : Int) (rs : List Int) (ro : Option Addr) (rc : Nat) (w : World) (hr : IntsAt w ro rs) (hrl : rs.length ≤ 1048576) :
    Calls Try.prog 19 #[.agg #[.int .i64 n, .slice ro rs.length rc]] w fun e w' => e = .returned (.tuple #[.int .i64 (greedyV n rs), .bool (ordV n rs).isSome]) ∧ Below w.heap.size w w' := by
  go_enter Try.func19, Try.ntmps19
  go_wp2_with fail
  generalize hW : w.alloc _ = W1
  obtain ⟨hB, -, k0⟩ := alloc1 hW
  replace hr := hr.below hB
  have hb0 := k0.lt
  have hc0 := k0.cell 0
  have hc1 := k0.cell 1
  simp at hc0 hc1
  clear hW k0
  have HhB := Lib.hid hB
  clear hB
  refine (implOrder_any n rs ro rc W1 hr hrl).mono ?_
  rintro e w2 ⟨xo, xcap, rfl, hB2, hX⟩
  obtain ⟨m, rfl⟩ : ∃ m2 : Later W1, m2.w = w2 := ⟨⟨w2, hB2⟩, rfl⟩
  clear hB2
  cases ho : ordV n rs with
  | none =>
    have HE := Lib.hid (greedyV_none ho)
    clear hX
    go_wp2_with fail
    go_ret2
    exact ⟨by rw [HE.out, ho]; rfl, below_later HhB.out m⟩
  | some x =>
    rw [ho] at hX
    obtain ⟨rfl, hv, t, rfl, hok, hval⟩ := ordV_facts ho
    have g := (VG.of hv).2
    have hg1 := g.pos
    have hg2 := g.le
    obtain ⟨hp1, hp2⟩ := g.pow
    have ht7 := ordOk_len t _ (by omega) hok
    have HE := Lib.hid hval
    have HT : NatsAt m.w xo t := (show IntsAt m.w xo (t.map Int.ofNat) from hX.ints).nats
    have hlx : ((some (t.map Int.ofNat)).getD []).length = t.length := by simp
    have hsx : (some (t.map Int.ofNat)).isSome = true := rfl
    rw [hlx, hsx]
    have HAll := Lib.hid (fun w => implAll_any rs.length (.slice ro rs.length rc) hg2 w)
    have HO := Lib.hid ho
    clear hlx hsx hX ho hval
    replace hr := hr.later m
    replace hc0 : m.w.cell? _ = _ := (m.cell _ _ hb0).trans hc0
    replace hc1 : m.w.cell? _ = _ := (m.cell _ _ hb0).trans hc1
    replace hb0 := Nat.lt_of_lt_of_le hb0 m.size
    replace HhB := Lib.hid (below_later HhB.out m)
    generalize m.w = W2 at *
    clear m
    obtain ⟨m, hm0⟩ : ∃ m : Later W2, m.w = W2 := ⟨Later.refl _, rfl⟩
    refine (fun h => hm0 ▸ h) ?_
    clear hm0
    go_wp2_with (first | (go_at_call 115; refine (Calls.later m (HAll.out _)).mono ?_; rintro e w' ⟨rfl, m, rfl⟩))
    go_loopw [6, 7, 26] (fun s l i wr => (∃ m : Later W2, wr = m.w) ∧ ∃ i0 S L : Nat, i0 ≤ t.length ∧ i = .int .i64 i0 ∧ s = .int .i64 S ∧ l = .int .i64 L ∧ GreedyAt rs t i0 S L) (fun _ _ i _ => t.length - (intOf i).toNat)
    case atStart => exact ⟨⟨m, rfl⟩, 0, 0, 2 ^ rs.length - 1, by omega, rfl, rfl, rfl, GreedyAt.start hok⟩
    case round =>
      obtain ⟨⟨m, rfl⟩, i, S, L, hi, rfl, rfl, rfl, hG⟩ := hrel
      by_cases hlt : i < t.length
      · obtain ⟨tb, tofs, rfl, htb, htc⟩ := HT (by omega)
        have hti := htc i hlt
        obtain ⟨hvl, hLv⟩ := hG.at hlt
        have hSl := hG.set
        have hLl := hG.left
        have hL127 : L < 128 := Nat.lt_of_lt_of_le hLl hp1
        have HH := Lib.hid (fun h => hG.has hlt h)
        have HN := Lib.hid (fun h => hG.new g hlt h)
        have HBo : Hid (bestOf rs L (eln t i) = bestTo rs L (els (hood rs L (eln t i))) (cnt (hood rs L (eln t i)))) := rfl
        clear htc hG
        generalize eln t i = v at *
        have q2 := pwN_small v (by omega)
        have hsub : 2 ^ v ≤ L := (pow_sub hLv).le
        have hC := fun m : Later W2 => implAround_any rs S ro rc m.w (hr.later m) hv hSl
        have hAl := around_lt g hSl
        have hHas := fun w => has_any (around rs S) v (by omega) (by omega) w
        simp only [Int.toNat_natCast, hasN_nat] at hHas
        have hnd := nDiff_minus hL127 (pow_sub hLv)
        have hand := bits_andNot_nat L (2 ^ v) (by omega)
        rw [hnd] at hand
        clear hnd
        cases hb : (around rs S).testBit v
        · rw [hb] at hHas
          obtain ⟨a1, a2, a3⟩ := hood_facts g hLl hvl
          have a4 : bits .and .i64 (bits .or .i64 (gn rs v : Int) ((2 : Int) ^ v)) (L : Int) = ((hood rs L v : Nat) : Int) := by rw [show ((2 : Int) ^ v) = ((2 ^ v : Nat) : Int) by simp, a2, a3]
          have hH := hood_lt hLl v (rs := rs)
          have h0 : 0 < cnt (hood rs L v) := List.length_pos_of_mem ((mem_els hH hg2).2 (hood_self (rs := rs) hLv))
          replace HN := Lib.hid (HN.out hb)
          have HM : Hid (∀ u, u ∈ els (hood rs L v) → L.testBit u = true) := Lib.hid fun u hu => hood_mem ((mem_els hH hg2).1 hu)
          obtain ⟨rb, rofs, rfl, hrb, hrc⟩ := hr.graph g
          have hrv := hrc v hvl
          generalize around rs S = A at *
          go_wp2_with (first | (go_at_call 114; refine (Calls.later m (hC _)).mono ?_; rintro e w' ⟨rfl, m, rfl⟩) | (go_at_call 116; refine (hHas _).mono ?_; rintro e w' ⟨rfl, rfl⟩))
          have hS' : ∀ w', Below W2.heap.size W2 w' → Below W2.heap.size W2 w' ∧ w'.cell? ⟨w.heap.size, 1, none⟩ = some (.slice (some ⟨rb, rofs, none⟩) rs.length rc) ∧ w'.cell? ⟨rb, rofs + v, none⟩ = some (.int .i64 (gn rs v : Int)) := fun w' h =>
            ⟨h, (h.cell hb0).trans hc1, (h.cell (p := ⟨rb, rofs + v, none⟩) hrb).trans hrv⟩
          generalize hHd : hood rs L v = H at *
          go_region_held3 (fun w' => Below W2.heap.size W2 w' ∧ w'.cell? ⟨w.heap.size, 1, none⟩ = some (.slice (some ⟨rb, rofs, none⟩) rs.length rc) ∧ w'.cell? ⟨rb, rofs + v, none⟩ = some (.int .i64 (gn rs v : Int)))
            (exact hS' _ (by first | exact m.below.drew | assumption))
            (first
              | (go_at_call 117; go_must (refine (implListN_any H (by omega) _).mono ?_); rintro e w4 ⟨lo, lc, rfl, hB4, hL⟩; have hB5 := below_more (And.left (by assumption : Below W2.heap.size W2 _ ∧ _)) hB4))
          obtain ⟨m, rfl⟩ : ∃ m2 : Later W2, m2.w = w4 := ⟨⟨w4, hB5⟩, rfl⟩
          clear hS' hB4 hB5 a1 a2 a3 a4 hrv hHas hC
          obtain ⟨lb, lofs, rfl, hlb, hlc⟩ := hL h0
          have HLc : Hid (∀ k, k < cnt H → m.w.cell? ⟨lb, lofs + k, none⟩ = some (.int .i64 (eln (els H) k : Int))) := Lib.hid hlc
          have HRc : Hid (∀ k, k < rs.length → m.w.cell? ⟨rb, rofs + k, none⟩ = some (.int .i64 (gn rs k : Int))) := Lib.hid fun k hk => (m.cell _ _ hrb).trans (hrc k hk)
          have hrb3 := Nat.lt_of_lt_of_le hrb m.size
          have HW : ∀ m2 : Later m.w, ∃ m' : Later W2, m'.w = m2.w := fun m2 => ⟨m.on m2.below, rfl⟩
          have hc7 := cnt_le H
          have HM2 : Hid (∀ u, u ∈ els H → u < rs.length) := Lib.hid fun u hu => testBit_lt hLl (HM.out u hu)
          clear hL hlc hrc
          have HhHd := Lib.hid hHd
          clear hHd
          replace hc0 : m.w.cell? _ = _ := (m.cell _ _ hb0).trans hc0
          replace hc1 : m.w.cell? _ = _ := (m.cell _ _ hb0).trans hc1
          replace hb0 := Nat.lt_of_lt_of_le hb0 m.size
          replace HhB := Lib.hid (below_later HhB.out m)
          generalize m.w = W3 at *
          clear m
          obtain ⟨m, hm0⟩ : ∃ m : Later W3, m.w = W3 := ⟨Later.refl _, rfl⟩
          refine (fun h => hm0 ▸ h) ?_
          clear hm0
          go_wp2_with fail
          go_loopw [10, 11, 49] (fun b mo i wr => (∃ m : Later W3, wr = m.w) ∧ ∃ (k b' : Nat) (mo' : Int), k ≤ cnt H ∧ i = .int .i64 k ∧ b = .int .i64 b' ∧ mo = .int .i64 mo' ∧ BestAt rs L v H k b' mo') (fun _ _ i _ => cnt H - (intOf i).toNat)
          case atStart => exact ⟨⟨m, rfl⟩, 0, v, -1, by omega, rfl, rfl, rfl, .inl ⟨rfl, rfl, rfl⟩⟩
          case round =>
            obtain ⟨⟨m, rfl⟩, k, b, mo, hk, rfl, rfl, rfl, hBA⟩ := hrel
            obtain ⟨hbl, hm1, hm2⟩ := hBA.lt hvl hk HM2.out
            by_cases hkt : k < cnt H
            · have hkc := HLc.out k hkt
              have hul := HM2.out _ (eln_mem (l := els H) hkt)
              have HYes := Lib.hid (fun h => hBA.next g hLl HM.out hkt h)
              have HNo := Lib.hid (fun h => hBA.same g hLl HM.out hkt h)
              clear hBA
              generalize eln (els H) k = u at *
              have hru := HRc.out u hul
              have hgu := g.lt u hul
              have a4 := bits_and_nat (gn rs u) L (by omega) (by omega)
              have hU128 : gn rs u &&& L < 128 := Nat.lt_of_le_of_lt Nat.and_le_right hL127
              have e1 := cnt_le (gn rs u &&& L)
              generalize gn rs u &&& L = U at *
              by_cases hcc : mo < (cnt U : Int)
              · replace HYes := Lib.hid (HYes.out hcc)
                clear HNo
                go_wp2_with (first | (go_at_call 111; refine (Calls.later m (implCount_any _ (by assumption) _)).mono ?_; rintro e w' ⟨rfl, m, rfl⟩))
                go_roundw
                case rel => exact ⟨⟨m, rfl⟩, k + 1, u, _, by omega, by go_num, rfl, rfl, HYes.out⟩
                case measure => simp [intOf]; omega
              · replace HNo := Lib.hid (HNo.out hcc)
                clear HYes
                go_wp2_with (first | (go_at_call 111; refine (Calls.later m (implCount_any _ (by assumption) _)).mono ?_; rintro e w' ⟨rfl, m, rfl⟩))
                go_roundw
                case rel => exact ⟨⟨m, rfl⟩, k + 1, b, mo, by omega, by go_num, rfl, rfl, HNo.out⟩
                case measure => simp [intOf]; omega
            · have hke : k = cnt H := by omega
              have hbo : bestOf rs L v = b := by rw [HBo.out, hBA.done (by omega), hke]
              rw [hbo] at HN
              clear hbo hke hBA HBo
              have hpb := pwN_small b (by omega)
              have hor := bits_or_nat S (2 ^ b) (by omega) (by have : 2 ^ b ≤ 2 ^ 6 := Nat.pow_le_pow_right (by decide) (by omega); omega)
              generalize S ||| 2 ^ b = S2 at *
              generalize 2 ^ b = VB at *
              generalize 2 ^ v = V at *
              go_wp2_with fail
              go_roundw
              case rel =>
                obtain ⟨m2, hm2⟩ := HW m
                exact ⟨⟨m2, hm2.symm⟩, i + 1, S2, L - V, by omega, by go_num, rfl, rfl, HN.out⟩
              case measure => simp [intOf]; omega
        · rw [hb] at hHas
          replace HH := Lib.hid (HH.out hb)
          generalize around rs S = A at *
          generalize 2 ^ v = V at *
          go_wp2_with (first | (go_at_call 114; refine (Calls.later m (hC _)).mono ?_; rintro e w' ⟨rfl, m, rfl⟩) | (go_at_call 116; refine (hHas _).mono ?_; rintro e w' ⟨rfl, rfl⟩))
          go_roundw
          case rel => exact ⟨⟨m, rfl⟩, i + 1, S, L - V, by omega, by go_num, rfl, rfl, HH.out⟩
          case measure => simp [intOf]; omega
      · have hie : i = t.length := by omega
        have hS := GreedyAt.done (hie ▸ hG)
        clear hG
        go_wp2_with fail
        go_ret2
        exact ⟨by rw [HE.out, ← hS, HO.out]; rfl, below_later HhB.out m⟩

end Go.Proofs.Ytflejcffjngdfaa
