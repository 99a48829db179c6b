/-
  WidthOfOrder of the program. For at most 2^20 rows and list elements; the list's capacity is at least its length.
  TreewidthOf on both sides. For at most 2^20 rows.
-/
import Derived.Test.YtfkehmpckhmkbaaPkLawWidths37
import Derived.Test.YtfkehmpckhmkbaaPkLawWidths27
import Derived.Test.YtfkehmpckhmkbaaPkLawWidths36
import Derived.Test.YtfkehmpckhmkbaaPkLawWidths05
import Derived.Test.YtfkehmpckhmkbaaPkLawWidths28
namespace Go.Proofs.Ytfkehmpckhmkbaa
open Go.RowKit

theorem implFill_bad (n : Int) (rs l : List Int) (ro lo : Option Addr) (rc lc : Nat) (w : World) (ho : orderB n rs l = false) (hr : IntsAt w ro rs) (hrl : rs.length ≤ 1048576) (hl : IntsAt w lo l) (hll : l.length ≤ 1048576) (hcap : l.length ≤ lc) :
    Calls Try.prog 47 #[.agg #[.int .i64 n, .slice ro rs.length rc], .slice lo l.length lc] w fun e w' => e = .returned (.tuple #[.slice none 0 0, .bool false]) ∧ Below w.heap.size w w' := by
  go_enter Try.func47, Try.ntmps47
  go_wp2_with fail
  generalize hW : w.alloc _ = W1
  obtain ⟨hB, -, k0⟩ := alloc1 hW
  replace hr := hr.below hB
  replace hl := hl.below hB
  have hb0 := k0.lt
  have hc0 := k0.cell 0
  have hc1 := k0.cell 1
  simp at hc0 hc1
  clear hW k0
  have HhB := Lib.hid hB
  clear hB
  have hO := fun m : Later W1 => implIsOrder_any n rs l ro lo rc lc m.w (hr.later m) hrl (hl.later m) hll hcap
  rw [ho] at hO
  obtain ⟨m, hm0⟩ : ∃ m : Later W1, m.w = W1 := ⟨Later.refl _, rfl⟩
  refine (fun h => hm0 ▸ h) ?_
  clear hm0
  go_wp2_with (first | (go_at_call 39; refine (Calls.later m (hO _)).mono ?_; rintro e w' ⟨rfl, m, rfl⟩))
  go_ret2
  exact ⟨rfl, below_later HhB.out m⟩

theorem newEs_len {rs hs : List Int} (h7 : hs.length ≤ 7) : (newEs rs hs).length ≤ 49 := by
  unfold newEs
  have h1 := edgesTo_len hs hs.length
  exact Nat.le_trans (List.length_filter_le _ _) (Nat.le_trans h1 (Nat.mul_le_mul h7 h7))

set_option maxRecDepth 100000 in
set_option maxHeartbeats 4000000 in
theorem implWidth_any (n : Int) (rs l : List Int) (ro lo : Option Addr) (rc lc : Nat) (w : World) (hr : IntsAt w ro rs) (hrl : rs.length ≤ 1048576) (hl : IntsAt w lo l) (hll : l.length ≤ 1048576) (hcap : l.length ≤ lc) :
    Calls Try.prog 21 #[.agg #[.int .i64 n, .slice ro rs.length rc], .slice lo l.length lc] w fun e w' => e = .returned (.int .i64 (widV n rs l)) ∧ Below w.heap.size w w' := by
  cases hv : orderB n rs l
  · have HE := Lib.hid (widV_no hv)
    go_enter Try.func21, Try.ntmps21
    go_wp2_with fail
    generalize hW : w.alloc _ = W1
    obtain ⟨hB, -, k0⟩ := alloc1 hW
    replace hr := hr.below hB
    replace hl := hl.below hB
    have hb0 := k0.lt
    have hc0 := k0.cell 0
    have hc1 := k0.cell 1
    simp at hc0 hc1
    clear hW k0
    have HhB := Lib.hid hB
    clear hB
    have hO := fun m : Later W1 => implFill_bad n rs l ro lo rc lc m.w hv (hr.later m) hrl (hl.later m) hll hcap
    clear hv
    obtain ⟨m, hm0⟩ : ∃ m : Later W1, m.w = W1 := ⟨Later.refl _, rfl⟩
    refine (fun h => hm0 ▸ h) ?_
    clear hm0
    go_wp2_with (first | (go_at_call 47; refine (Calls.later m (hO _)).mono ?_; rintro e w' ⟨rfl, m, rfl⟩))
    go_ret
    exact ⟨retI (by rw [HE.out]), below_later HhB.out m⟩
  · obtain ⟨-, rfl, g, hlen⟩ := orderB_true hv
    have HE := Lib.hid (widV_of hv)
    have HV := Lib.hid hv
    have hN7 := g.le
    have hl7 : l.length ≤ 7 := by omega
    have hl1 : 0 < l.length := by have := g.pos; omega
    obtain ⟨lb, lofs, rfl, hlb, -⟩ := hl hl1
    have Hhlen := Lib.hid hlen
    clear hlen
    clear hv
    go_enter Try.func21, Try.ntmps21
    go_wp2_with fail
    generalize hW : w.alloc _ = W1
    obtain ⟨hB, -, k0⟩ := alloc1 hW
    replace hr := hr.below hB
    replace hl := hl.below hB
    have hb0 := k0.lt
    have hc0 := k0.cell 0
    have hc1 := k0.cell 1
    simp at hc0 hc1
    clear hW k0
    have HhB := Lib.hid hB
    clear hB
    replace hlb : lb < W1.heap.size := Nat.lt_of_lt_of_le hlb HhB.out.size
    obtain ⟨m, hm0⟩ : ∃ m : Later W1, m.w = W1 := ⟨Later.refl _, rfl⟩
    refine (fun h => hm0 ▸ h) ?_
    clear hm0
    refine (implFill_any rs l ro _ rc lc m.w HV.out (hr.later m) (hl.later m) hcap).mono ?_
    rintro e w2 ⟨fo, fc, fx, rfl, hB2, hFO, hFV⟩
    replace hB2 := below_more m.below hB2
    replace hFO := hFO.mono (base' := 0) (Nat.zero_le _)
    clear m
    replace hc0 := (hB2.cell (p := ⟨w.heap.size, 0, none⟩) hb0).trans hc0
    replace hc1 := (hB2.cell (p := ⟨w.heap.size, 1, none⟩) hb0).trans hc1
    replace hb0 := Nat.lt_of_lt_of_le hb0 hB2.size
    replace hlb := Nat.lt_of_lt_of_le hlb hB2.size
    replace hr := hr.below hB2
    replace hl := hl.below hB2
    have hBw := below_more' HhB.out hB2
    clear hB2
    have HhFO := Lib.hid hFO
    clear hFO
    have HhFV := Lib.hid hFV
    clear hFV
    have HhBw := Lib.hid hBw
    clear hBw
    clear HhB
    go_wp2_with fail
    refine (copyGraph_any _ rs _ rc w2 hr hrl g.pos).mono ?_
    rintro e w3 ⟨g1, cap, rfl, hB3, hg1, hR⟩
    have hgl := hR.lt
    go_wp2_with fail
    generalize hW2 : World.alloc _ _ = W2
    obtain ⟨hB4, -, k2⟩ := alloc1 hW2
    have hBW := below_more hB3 hB4
    have hBw := below_more' HhBw.out hBW
    have hne : ¬ w3.heap.size = g1 := by omega
    have hsz : w2.heap.size ≤ w3.heap.size := hB3.size
    replace hR := hR.below hB4
    replace hl := hl.below hBW
    have hFO := HhFO.out.below hBW
    have hFV := HhFV.out.below hBW
    have hFg : ∀ (k : Nat) (e : Nat × Nat), (newEs rs (fillTo rs l l.length))[k]? = some e → ∃ gb, gb < w2.heap.size ∧ fx[k]? = some (Value.slice (some ⟨gb, 0, none⟩) 2 2) ∧ W2.heap[gb]? = some (.cells #[.int .i64 e.1, .int .i64 e.2] 3) := fun k e he => by
      obtain ⟨gb, h1, h2⟩ := HhFV.out.2 k e he
      have h3 := (Array.getElem?_eq_some_iff.1 h2).1
      exact ⟨gb, h3, h1, (hBW.block gb h3).trans h2⟩
    have hFc : 0 < fx.length → ∃ G, fo = some ⟨G, 0, none⟩ ∧ G < w2.heap.size ∧ ∀ (k : Nat) (u : Value), fx[k]? = some u → W2.cell? ⟨G, k, none⟩ = some u := fun h0 => by
      obtain ⟨G, h1, -, h2, h3⟩ := HhFO.out.cells h0
      exact ⟨G, h1, h2, fun k u hk => (hBW.cell (p := ⟨G, k, none⟩) h2).trans (h3 k u hk)⟩
    clear hW2 hB3 hB4 HhFO HhFV HhBw hBW hc0 hc1 hr hFO
    generalize w3.heap.size = o at *
    have ob := k2.lt
    have x0 := k2.cell 0
    have x1 := k2.cell 1
    simp at x0 x1
    clear w3 k2
    have hne2 : ¬ lb = g1 := by omega
    have hlO : ∀ wr, Only (fun b => b = g1) W2.heap.size W2 wr → IntsAt wr (some ⟨lb, lofs, none⟩) l := fun wr h => hl.only h fun b off e hb => by
      simp only [Option.some.injEq, Addr.mk.injEq] at e
      obtain ⟨rfl, -⟩ := e
      exact hne2 hb
    have hfl : Hid (fx.length = (newEs rs (fillTo rs l l.length)).length) := Lib.hid hFV.1
    have hf49 : fx.length ≤ 49 := by
      have := newEs_len (rs := rs) (hs := fillTo rs l l.length) (by rw [fillTo_len]; exact hN7)
      have := hfl.out
      omega
    have gF := fillTo_VG g l l.length
    have hFl := fillTo_len rs l l.length
    have HAll := Lib.hid (addEs_all g gF hFl fun i hi j hj h => fillTo_sub hi hj h l.length)
    have HAt : Hid (∀ (k : Nat) (e : Nat × Nat), (newEs rs (fillTo rs l l.length))[k]? = some e → e.1 < rs.length ∧ e.2 < rs.length ∧ e.1 ≠ e.2 ∧ eb (addEs rs ((newEs rs (fillTo rs l l.length)).take k)) e.1 e.2 = false) := Lib.hid fun k e he => newEs_at hFl he
    have HVG : Hid (∀ k, VG (addEs rs ((newEs rs (fillTo rs l l.length)).take k))) := Lib.hid fun k => addEs_VG _ _ g fun e he => by
      have := mem_newEs.1 (List.mem_of_mem_take he); omega
    have HLE : Hid (∀ k, (addEs rs ((newEs rs (fillTo rs l l.length)).take k)).length = rs.length) := Lib.hid fun k => addEs_len _ _
    have HAS : Hid (∀ (k : Nat) (e : Nat × Nat), (newEs rs (fillTo rs l l.length))[k]? = some e → addE (addEs rs ((newEs rs (fillTo rs l l.length)).take k)) e.1 e.2 = addEs rs ((newEs rs (fillTo rs l l.length)).take (k + 1))) := Lib.hid fun k e he => by
      rw [List.take_add_one, he]; exact (addEs_snoc _ _ _).symm
    have hoF := order_same gF hFl HV.out
    have HL : Hid (∀ (cp k : Nat) (ao : Option Addr) (w : World), k < l.length → IntsAt w ao (fillTo rs l l.length) → IntsAt w (some ⟨lb, lofs, none⟩) l → Calls Try.prog 51 #[.agg #[.int .i64 rs.length, .slice ao rs.length cp], .slice (some ⟨lb, lofs, none⟩) l.length lc, .int .i64 (gi l k)] w fun e w' => e = .returned (.int .i64 (laterN (fillTo rs l l.length) l k)) ∧ Below w.heap.size w w') := Lib.hid fun cp k ao w hk h1 h2 => by
      have := implLater_any (fillTo rs l l.length) l k ao _ cp lc w hoF hk h1 h2 hcap
      rw [hFl] at this
      exact this
    have HLl : Hid (∀ k, laterN (fillTo rs l l.length) l k < 2 ^ rs.length) := Lib.hid fun k => by have := later_lt (fillTo rs l l.length) l k; rw [hFl] at this; exact this
    have HS : Hid (∀ k, widTo (fillTo rs l l.length) l (k + 1) = if widTo (fillTo rs l l.length) l k < cnt (laterN (fillTo rs l l.length) l k) then cnt (laterN (fillTo rs l l.length) l k) else widTo (fillTo rs l l.length) l k) := Lib.hid fun _ => rfl
    have HW : Hid (∀ k, widTo (fillTo rs l l.length) l k ≤ 7) := Lib.hid fun k => widTo_le (fillTo rs l l.length) l k
    clear hFl gF hoF hFV hl
    generalize newEs rs (fillTo rs l l.length) = NE at *
    generalize fillTo rs l l.length = F at *
    have HhBw := Lib.hid hBw
    clear hBw
    have HhlO := Lib.hid hlO
    clear hlO
    have HhR := Lib.hid hR
    clear hR
    have Hhne := Lib.hid hne
    clear hne
    have Hhne2 := Lib.hid hne2
    clear hne2
    have Hx0 := Lib.hid x0
    clear x0
    have Hx1 := Lib.hid x1
    clear x1
    have HhFg := Lib.hid hFg
    clear hFg
    have HhFc := Lib.hid hFc
    clear hFc
    go_wp2_with fail
    go_loopw [25] (fun i wr => Only (fun b => b = g1) W2.heap.size W2 wr ∧ ∃ k : Nat, k ≤ fx.length ∧ i = .int .i64 k ∧ RowAt wr g1 cap (addEs rs (NE.take k))) (fun i _ => fx.length - (intOf i).toNat)
    case atStart => exact ⟨Only.refl _ _ _, 0, by omega, rfl, HhR.out⟩
    case round =>
      obtain ⟨hO, k, hk, rfl, hRk⟩ := hrel
      have y0 := (hO.cell (p := ⟨o, 0, none⟩) ob Hhne.out).trans Hx0.out
      have y1 := (hO.cell (p := ⟨o, 1, none⟩) ob Hhne.out).trans Hx1.out
      have oz := Nat.lt_of_lt_of_le ob hO.size
      by_cases hlt : k < fx.length
      · have hkN : k < NE.length := by rw [← hfl.out]; exact hlt
        obtain ⟨e, hEk⟩ : ∃ e, NE[k]? = some e := ⟨_, List.getElem?_eq_getElem hkN⟩
        obtain ⟨gb, hgb0, hx, hgb⟩ := HhFg.out k e hEk
        obtain ⟨G, rfl, hG, hcs⟩ := HhFc.out (by omega)
        obtain ⟨he1, he2, hene, heb⟩ := HAt.out k e hEk
        have hg1b : ¬ gb = g1 := by omega
        have hg1G : ¬ G = g1 := by omega
        have hgb' : gb < W2.heap.size := by omega
        have hG' : G < W2.heap.size := by omega
        have hxc := (hO.cell (p := ⟨G, k, none⟩) hG' hg1G).trans (hcs k _ hx)
        have hga := (hO.cell (p := ⟨gb, 0, none⟩) hgb' hg1b).trans (show W2.cell? ⟨gb, 0, none⟩ = some (.int .i64 (e.1 : Int)) by simp [World.cell?, hgb])
        have hgc := (hO.cell (p := ⟨gb, 1, none⟩) hgb' hg1b).trans (show W2.cell? ⟨gb, 1, none⟩ = some (.int .i64 (e.2 : Int)) by simp [World.cell?, hgb])
        have zb := Nat.lt_of_lt_of_le hgb' hO.size
        have zG := Nat.lt_of_lt_of_le hG' hO.size
        have hFlip := fun m : Later wr => flip_any (addEs rs (NE.take k)) e.1 e.2 g1 cap rs.length m.w (HLE.out k) (hRk.below m.below) (HVG.out k) he1 he2 hene heb
        rw [HAS.out k e hEk] at hFlip
        clear hcs hx hgb heb hEk
        generalize e.1 = E1 at *
        generalize e.2 = E2 at *
        have HhO := Lib.hid hO
        clear hO
        have HhRk := Lib.hid hRk
        clear hRk
        obtain ⟨m, hm0⟩ : ∃ m : Later wr, m.w = wr := ⟨Later.refl _, rfl⟩
        refine (fun h => hm0 ▸ h) ?_
        clear hm0
        go_wp2_with fail
        go_still_tail 7, (by kernel_rfl)
        refine wpList_drew_on m fun m => ?_
        go_wp2_with fail
        refine (hFlip m).mono ?_
        rintro e w6 ⟨rfl, hO6, hR6⟩
        have hO7 := (HhO.out.more m.below HhO.out.size).trans (hO6.mono (Nat.le_trans HhO.out.size m.size) fun b _ h => h)
        clear hFlip hO6 hxc hga hgc y0 y1 m
        have HhO7 := Lib.hid hO7
        clear hO7
        have HhR6 := Lib.hid hR6
        clear hR6
        go_wp2_with fail
        go_roundw
        case rel => exact ⟨HhO7.out, k + 1, by omega, by go_num, HhR6.out⟩
        case measure => simp [intOf]; omega
      · obtain rfl : k = fx.length := by omega
        have hall : NE.take fx.length = NE := List.take_of_length_le (by have := hfl.out; omega)
        rw [hall, HAll.out] at hRk
        have hlw := HhlO.out _ hO
        obtain ⟨lb', lofs', hl1', hlbr, hlcr⟩ := hlw hl1
        simp only [Option.some.injEq, Addr.mk.injEq] at hl1'
        obtain ⟨rfl, rfl, -⟩ := hl1'
        have hBw := HhBw.out.trans (hO.below HhBw.out.size fun b hb e => by have e2 : b = g1 := e; omega)
        have hp7 := g.pow.1
        clear hall HhBw HhlO Hx0 Hx1 HhR hO HhFg HhFc HAt HVG HLE HAS
        have HhBw := Lib.hid hBw
        clear hBw
        have Hhlw := Lib.hid hlw
        clear hlw
        have Hhlcr := Lib.hid hlcr
        clear hlcr
        have HhRk := Lib.hid hRk
        clear hRk
        obtain ⟨m, hm0⟩ : ∃ m : Later wr, m.w = wr := ⟨Later.refl _, rfl⟩
        refine (fun h => hm0 ▸ h) ?_
        clear hm0
        go_wp2_with fail
        go_loopw [8, 40] (fun b i w' => (∃ m : Later wr, w' = m.w) ∧ ∃ k : Nat, k ≤ l.length ∧ i = .int .i64 k ∧ b = .int .i64 (widTo F l k)) (fun _ i _ => l.length - (intOf i).toNat)
        case atStart => exact ⟨⟨m, rfl⟩, 0, by omega, rfl, rfl⟩
        case round =>
          obtain ⟨⟨m, rfl⟩, k, hk, rfl, rfl⟩ := hrel
          by_cases hlt : k < l.length
          · have hck := Hhlcr.out k hlt
            have hLk := fun m : Later wr => HL.out cap k _ m.w hlt (HhRk.out.ints.later m) (Hhlw.out.later m)
            have hLb := HLl.out k
            have hw7 := HW.out k
            have HSk := Lib.hid (HS.out k)
            have hc7 := cnt_le (laterN F l k)
            have hC := fun m : Later wr => implCount_any (laterN F l k) (by omega) m.w
            generalize laterN F l k = L at *
            generalize cnt L = C at *
            generalize widTo F l k = A at *
            by_cases hm : A < C
            · rw [if_pos hm] at HSk
              go_wp2_with (first | (go_at_call 51; refine (Calls.later m (hLk _)).mono ?_; rintro e w' ⟨rfl, m, rfl⟩) | (go_at_call 50; refine (Calls.later m (hC _)).mono ?_; rintro e w' ⟨rfl, m, rfl⟩))
              go_roundw
              case rel => exact ⟨⟨m, rfl⟩, k + 1, by omega, by go_num, by rw [HSk.out]⟩
              case measure => simp [intOf]; omega
            · rw [if_neg hm] at HSk
              go_wp2_with (first | (go_at_call 51; refine (Calls.later m (hLk _)).mono ?_; rintro e w' ⟨rfl, m, rfl⟩) | (go_at_call 50; refine (Calls.later m (hC _)).mono ?_; rintro e w' ⟨rfl, m, rfl⟩))
              go_roundw
              case rel => exact ⟨⟨m, rfl⟩, k + 1, by omega, by go_num, by rw [HSk.out]⟩
              case measure => simp [intOf]; omega
          · obtain rfl : k = l.length := by omega
            go_wp2_with fail
            go_ret
            exact ⟨retI (by rw [HE.out]), below_later HhBw.out m⟩

end Go.Proofs.Ytfkehmpckhmkbaa

namespace Go.Proofs.Ytfkehmpckhmkbaa
open Go.RowKit

theorem widNum (rs : List Int) (ro : Option Addr) (rc : Nat) (hv : isGraphB rs.length rs = true) : NumOf 21 rs ro rc (widV rs.length rs) := by
  intro l ao cap w hr hl hn hc
  have g := (VG.of hv).2
  have := g.le
  exact implWidth_any rs.length rs l ro ao rc cap w hr (by omega) hl (by omega) hc

set_option maxRecDepth 100000 in
theorem implTree_any (n : Int) (rs : List Int) (ro : Option Addr) (rc : Nat) (w : World) (hr : IntsAt w ro rs) (hrl : rs.length ≤ 1048576) :
    Calls Try.prog 8 #[.agg #[.int .i64 n, .slice ro rs.length rc]] w fun e w' => e = .returned (.int .i64 (treeV n rs)) ∧ Below w.heap.size w w' := by
  have HE : Hid ((bestO (widV rs.length rs) n rs).2 = treeV n rs) := by
    show (bestO (widV rs.length rs) n rs).2 = treeV n rs
    cases hv : isGraphB n rs
    · rw [treeV_no hv]; unfold bestO; rw [if_neg (by rw [hv]; decide)]
    · obtain ⟨rfl, -⟩ := VG.of hv
      unfold bestO; rw [if_pos hv, tree_best hv]
  go_enter Try.func8, Try.ntmps8
  go_wp2_with fail
  generalize hW : w.alloc _ = W1
  obtain ⟨hB, -, k0⟩ := alloc1 hW
  replace hr := hr.below hB
  have hb0 := k0.lt
  have hc0 := k0.cell 0
  have hc1 := k0.cell 1
  simp at hc0 hc1
  clear hW k0
  have HhB := Lib.hid hB
  clear hB
  refine (bestOrder_any n rs ro rc 21 (widV rs.length rs) W1 hr hrl (fun _ _ => rfl) (fun hv => widNum rs ro rc hv)).mono ?_
  rintro e w2 ⟨ao, cap, rfl, hB2, -⟩
  have hBB := below_more' HhB.out hB2
  rw [HE.out]
  clear hB2 HE
  have HhBB := Lib.hid hBB
  clear hBB
  go_wp2_with fail
  go_ret
  exact ⟨rfl, HhBB.out⟩

set_option maxRecDepth 100000 in
set_option maxHeartbeats 2000000 in
theorem specTree_any (n : Int) (rs : List Int) (ro : Option Addr) (rc : Nat) (w : World) (hr : IntsAt w ro rs) (hrl : rs.length ≤ 1048576) :
    Calls Try.prog 11 #[.agg #[.int .i64 n, .slice ro rs.length rc]] w fun e w' => e = .returned (.int .i64 (treeV n rs)) ∧ Below w.heap.size w w' := by
  go_enter Try.func11, Try.ntmps11
  go_wp2_with fail
  generalize hW : w.alloc _ = W1
  obtain ⟨hB, -, k0⟩ := alloc1 hW
  replace hr := hr.below hB
  have hb0 := k0.lt
  have hc0 := k0.cell 0
  have hc1 := k0.cell 1
  simp at hc0 hc1
  clear hW k0
  have HhB := Lib.hid hB
  clear hB
  obtain ⟨m, hm0⟩ : ∃ m : Later W1, m.w = W1 := ⟨Later.refl _, rfl⟩
  refine (fun h => hm0 ▸ h) ?_
  clear hm0
  cases hv : isGraphB n rs
  · have HE := Lib.hid (treeV_no hv)
    go_wp2_with (first | (go_at_call 12; refine (Calls.later m (specIsGraph_any _ _ _ _ _ (hr.later m) hrl)).mono ?_; rintro e w' ⟨rfl, m, rfl⟩))
    go_ret
    exact ⟨retI (by rw [HE.out]), below_later HhB.out m⟩
  obtain ⟨rfl, g⟩ := VG.of hv
  have hg1 := g.pos
  have hg2 := g.le
  obtain ⟨hp1, hp2⟩ := g.pow
  have hq := pwN_small rs.length (by omega)
  have HE := Lib.hid (treeV_of hv)
  have HT : Hid (2 ^ rs.length - 1 + 1 = 2 ^ rs.length) := by show _ = _; omega
  have HGr : Hid (∀ (X S : Nat) (w : World), IntsAt w ro rs → S < 2 ^ rs.length → subN X S → Calls Try.prog 35 #[.agg #[.int .i64 rs.length, .slice ro rs.length rc], .int .i64 X, .int .i64 S] w fun e w' => e = .returned (.int .i64 (grow rs X S)) ∧ Below w.heap.size w w') := Lib.hid fun X S w h1 h2 h3 => l3Grow_any rs X S ro rc w h1 hv h2 h3
  have HAr : Hid (∀ (S : Nat) (w : World), IntsAt w ro rs → S < 2 ^ rs.length → Calls Try.prog 34 #[.agg #[.int .i64 rs.length, .slice ro rs.length rc], .int .i64 S] w fun e w' => e = .returned (.int .i64 (around rs S)) ∧ Below w.heap.size w w') := Lib.hid fun S w h1 h2 => specAround_any rs S ro rc w h1 hv h2
  have HRF : Hid (∀ k v, k < 2 ^ rs.length → k.testBit v = true → v < rs.length → subN (2 ^ v) k ∧ grow rs (2 ^ v) k < 2 ^ rs.length ∧ around rs (grow rs (2 ^ v) k) < 2 ^ rs.length ∧ trC rs (k - 2 ^ v) v = cnt (around rs (grow rs (2 ^ v) k) &&& (2 ^ rs.length - 1 - k)) ∧ around rs (grow rs (2 ^ v) k) &&& (2 ^ rs.length - 1 - k) < 128) := Lib.hid fun k v hk hb hv => by
    have h1 := pow_sub hb
    have h2 := (grow_sub (rs := rs) h1).lt hk
    have h3 := around_lt g h2
    have h4 := (minus_or (S := k) (v := v) (by omega) hb).1
    have h5 : nDiff (2 ^ rs.length - 1) k = 2 ^ rs.length - 1 - k := nDiff_minus (by omega) fun i hi => by rw [Nat.testBit_two_pow_sub_one]; exact decide_eq_true (testBit_lt hk hi)
    refine ⟨h1, h2, h3, ?_, Nat.lt_of_le_of_lt Nat.and_le_right (by omega)⟩
    rw [trC_eq hg2]; unfold reachN; rw [h4, h5]
  generalize hTT : 2 ^ rs.length = T at *
  refine (Calls.later m (specIsGraph_any _ _ _ _ _ (hr.later m) hrl)).mono ?_
  rintro e w' ⟨rfl, m, rfl⟩
  rw [hv]
  have hwm := m.size
  replace hr := hr.later m
  replace hc0 : m.w.cell? _ = _ := (m.cell _ _ hb0).trans hc0
  replace hc1 : m.w.cell? _ = _ := (m.cell _ _ hb0).trans hc1
  replace hb0 := Nat.lt_of_lt_of_le hb0 m.size
  replace HhB := Lib.hid (below_later HhB.out m)
  generalize m.w = W2 at *
  clear m
  go_wp2_with fail
  generalize hW3 : World.alloc _ _ = W3
  have hO3 : OwnInts W3 W2.heap.size [0] := by rw [← hW3]; exact OwnInts.made _ [0]
  have hB3 : Below W2.heap.size W2 W3 := by rw [← hW3]; exact (Below.refl _ _).alloc (Nat.le_refl _) _
  clear hW3
  have hE3 : OwnE W3 W2.heap.size (some ⟨W2.heap.size, 0, none⟩) 1 [0] := (RowAt.of hO3 (by simp)).own (Nat.le_refl _)
  go_loopw [3, 4] (fun o i wr => ∃ m : Later W2, wr = m.w ∧ ∃ (k : Nat) (ao : Option Addr) (cap : Nat), 1 ≤ k ∧ k ≤ T ∧ i = .int .i64 k ∧ o = .slice ao (dpL (trC rs) (fun _ => 0) rs.length k).length cap ∧ OwnE m.w W2.heap.size ao cap (dpL (trC rs) (fun _ => 0) rs.length k)) (fun _ i _ => T - (intOf i).toNat)
  case atStart => exact ⟨⟨W3, hB3⟩, rfl, 1, _, _, by omega, by omega, rfl, by rw [dpL_one]; rfl, by rw [dpL_one]; exact hE3⟩
  case round =>
    clear hO3 hB3 hE3
    obtain ⟨m, rfl, k, ao, cap, hk1, hk, rfl, rfl, hO⟩ := hrel
    have hln1 := Nat.le_of_eq (dpL_len (trC rs) (fun _ => 0) rs.length k)
    have hln2 := Nat.le_of_eq (dpL_len (trC rs) (fun _ => 0) rs.length k).symm
    have HU : Hid (dpL (trC rs) (fun _ => 0) rs.length (k + 1) = dpL (trC rs) (fun _ => 0) rs.length k ++ [(dpV (trC rs) (fun _ => 0) rs.length k : Int)]) := dpL_succ _ _ _ _
    have HAt : Hid (∀ S, S < k → gi (dpL (trC rs) (fun _ => 0) rs.length k) S = (dpV (trC rs) (fun _ => 0) rs.length S : Int)) := Lib.hid fun S h => dpL_at h
    by_cases hlt : k < T
    · have HSt : Hid (dpV (trC rs) (fun _ => 0) rs.length k = max (minTo rs.length k.testBit (fun v => max (dpV (trC rs) (fun _ => 0) rs.length (k - 2 ^ v)) (trC rs (k - 2 ^ v) v)) rs.length) 0) := by
        show _ = _
        rw [dpV_step (by omega)]
      have hmb : ∀ k', minTo rs.length k.testBit (fun v => max (dpV (trC rs) (fun _ => 0) rs.length (k - 2 ^ v)) (trC rs (k - 2 ^ v) v)) k' ≤ rs.length := fun k' => minTo_le k'
      have hI := hO.ints
      have HW : ∀ m2 : Later m.w, ∃ m' : Later W2, m'.w = m2.w := fun m2 => ⟨m.on m2.below, rfl⟩
      have hms := m.size
      generalize dpL (trC rs) (fun _ => 0) rs.length k = xs at *
      obtain ⟨xb, xofs, rfl, hxb, hxc⟩ := hI (by omega)
      have HXc : Hid (∀ S, S < k → m.w.cell? ⟨xb, xofs + S, none⟩ = some (.int .i64 (dpV (trC rs) (fun _ => 0) rs.length S : Int))) := Lib.hid fun S h => by rw [← HAt.out S h]; exact hxc S (by omega)
      clear hxc hI
      have HhO := Lib.hid hO
      clear hO
      replace hr := hr.later m
      replace hc0 : m.w.cell? _ = _ := (m.cell _ _ hb0).trans hc0
      replace hc1 : m.w.cell? _ = _ := (m.cell _ _ hb0).trans hc1
      replace hb0 := Nat.lt_of_lt_of_le hb0 m.size
      replace HhB := Lib.hid (below_later HhB.out m)
      generalize m.w = W4 at *
      clear m
      obtain ⟨m, hm0⟩ : ∃ m : Later W4, m.w = W4 := ⟨Later.refl _, rfl⟩
      refine (fun h => hm0 ▸ h) ?_
      clear hm0
      go_wp2_with fail
      go_loopw [5, 6] (fun l i wr => (∃ m : Later W4, wr = m.w) ∧ ∃ v : Nat, v ≤ rs.length ∧ i = .int .i64 v ∧ l = .int .i64 (minTo rs.length k.testBit (fun v => max (dpV (trC rs) (fun _ => 0) rs.length (k - 2 ^ v)) (trC rs (k - 2 ^ v) v)) v : Nat)) (fun _ i _ => rs.length - (intOf i).toNat)
      case atStart => exact ⟨⟨m, rfl⟩, 0, by omega, rfl, rfl⟩
      case round =>
        obtain ⟨⟨m, rfl⟩, v, hvl, rfl, rfl⟩ := hrel
        by_cases hvt : v < rs.length
        · have hn := hasN_nat k v
          have hmv := hmb v
          have HY := Lib.hid (fun h => minTo_yes (N := rs.length) (p := k.testBit) (f := fun v => max (dpV (trC rs) (fun _ => 0) rs.length (k - 2 ^ v)) (trC rs (k - 2 ^ v) v)) (k := v) h)
          have HN := Lib.hid (fun h => minTo_no (N := rs.length) (p := k.testBit) (f := fun v => max (dpV (trC rs) (fun _ => 0) rs.length (k - 2 ^ v)) (trC rs (k - 2 ^ v) v)) (k := v) h)
          generalize hM : minTo rs.length k.testBit (fun v => max (dpV (trC rs) (fun _ => 0) rs.length (k - 2 ^ v)) (trC rs (k - 2 ^ v) v)) v = M at *
          cases hb : k.testBit v
          · rw [hb] at hn
            replace HN := Lib.hid (HN.out hb)
            clear HY
            go_wp2_with fail
            go_roundw
            case rel => exact ⟨⟨m, rfl⟩, v + 1, by omega, by go_num, by rw [HN.out]⟩
            case measure => simp [intOf]; omega
          · rw [hb] at hn
            have hpw := pwN_small v (by omega)
            have hle := Nat.ge_two_pow_of_testBit hb
            have hvp := Nat.two_pow_pos v
            have hxk := HXc.out (k - 2 ^ v) (by omega)
            obtain ⟨q1, q2, q3, q4, q5⟩ := HRF.out k v hlt hb hvt
            replace HY := Lib.hid (HY.out hb)
            rw [q4] at HY
            have hdl := dpV_le (c := trC rs) (e := fun _ => 0) (N := rs.length) (fun _ => Nat.zero_le _) (k - 2 ^ v)
            have hGr := fun m : Later W4 => HGr.out (2 ^ v) k m.w (hr.later m) hlt q1
            have hAr := fun m : Later W4 => HAr.out (grow rs (2 ^ v) k) m.w (hr.later m) q2
            have hCt := fun m : Later W4 => specCount_any (around rs (grow rs (2 ^ v) k) &&& (T - 1 - k)) q5 m.w
            have hCb := cnt_le (around rs (grow rs (2 ^ v) k) &&& (T - 1 - k))
            have hba : bits .and .i64 (around rs (grow rs (2 ^ v) k) : Int) ((T - 1 - k : Nat) : Int) = ((around rs (grow rs (2 ^ v) k) &&& (T - 1 - k) : Nat) : Int) := bits_and_nat _ _ (by omega) (by omega)
            have hT1 : ((T : Int) - 1) - (k : Int) = ((T - 1 - k : Nat) : Int) := by omega
            clear HN q1 q2 q4
            generalize hD : dpV (trC rs) (fun _ => 0) rs.length (k - 2 ^ v) = D at *
            generalize around rs (grow rs (2 ^ v) k) &&& (T - 1 - k) = Z at *
            generalize cnt Z = C at *
            generalize around rs (grow rs (2 ^ v) k) = R at *
            generalize grow rs (2 ^ v) k = G at *
            generalize 2 ^ v = V at *
            have hkv : ((k : Int) - (V : Int)) = ((k - V : Nat) : Int) := by omega
            go_wp2_with fail
            refine wp_region_later m rfl (by kernel_rfl) (by kernel_rfl) ?_
            repeat (go_big_quiet_step ((first | (go_at_call 35; with_reducible exact Calls.later _ (hGr _)) | (go_at_call 34; with_reducible exact Calls.later _ (hAr _)))))
            refine wpQuiet_nil ?_
            rintro _ ⟨m, rfl⟩
            go_wp2_with fail
            by_cases hc1 : D < C
            all_goals by_cases hc : (if D < C then C else D) < M
            all_goals
              simp only [hc1, if_true, if_false] at hc
              refine wp_region_later m rfl (by kernel_rfl) (by kernel_rfl) ?_
              repeat (go_big_quiet_step ((first | (go_at_call 36; with_reducible exact Calls.later _ (hCt _)))))
              refine wpQuiet_nil ?_
              rintro _ ⟨m, rfl⟩
            all_goals
              go_wp2_with fail
              go_roundw
              case rel => exact ⟨⟨m, rfl⟩, v + 1, by omega, by go_num, by rw [HY.out]; exact congrArg (fun x : Int => Value.int .i64 x) (by split <;> omega)⟩
              case measure => simp [intOf]; omega
        · have hve : v = rs.length := by omega
          have hmv := hmb v
          have hMe : minTo rs.length k.testBit (fun v => max (dpV (trC rs) (fun _ => 0) rs.length (k - 2 ^ v)) (trC rs (k - 2 ^ v) v)) v = minTo rs.length k.testBit (fun v => max (dpV (trC rs) (fun _ => 0) rs.length (k - 2 ^ v)) (trC rs (k - 2 ^ v) v)) rs.length := by rw [hve]
          have hSt := HSt.out
          rw [← hMe] at hSt
          clear hMe hve HSt hmb
          generalize minTo rs.length k.testBit (fun v => max (dpV (trC rs) (fun _ => 0) rs.length (k - 2 ^ v)) (trC rs (k - 2 ^ v) v)) v = M at *
          generalize dpV (trC rs) (fun _ => 0) rs.length k = D at *
          have hD : D = M := by omega
          subst hD
          clear hSt
          go_wp2_with (first | (at_builtin; go_must (refine wpList_append_e rfl _ _ rfl W2.heap.size cap (some ⟨xb, xofs, none⟩) xs (D : Int) rfl (HhO.out.later m) rfl (Nat.le_trans hms m.size) (by omega) ?_); intro ao2 cap2 w1 hown1 hB1))
          go_roundw
          case rel =>
            obtain ⟨m', hm'⟩ := HW m
            exact ⟨⟨w1, m'.below.trans (hm' ▸ hB1)⟩, rfl, k + 1, ao2, cap2, by omega, by omega, by go_num, by rw [HU.out]; simp, by rw [HU.out]; exact hown1⟩
          case measure => simp [intOf]; omega
    · have hke : k = T := by omega
      have hI := hO.ints
      have hT7 : T ≤ 128 := by omega
      have hAt := HAt.out ((dpL (trC rs) (fun _ => 0) rs.length k).length - 1) (by omega)
      have HE2 : Hid (treeV rs.length rs = (dpV (trC rs) (fun _ => 0) rs.length ((dpL (trC rs) (fun _ => 0) rs.length k).length - 1) : Int)) := Lib.hid (by rw [HE.out, dpL_len, hke])
      clear HAt HU
      generalize dpL (trC rs) (fun _ => 0) rs.length k = xs at *
      obtain ⟨xb, xofs, rfl, hxb, hxc⟩ := hI (by omega)
      have hxk := hxc (xs.length - 1) (by omega)
      rw [hAt] at hxk
      have hx1 : 1 ≤ xs.length := by omega
      have hx2 : xs.length ≤ 128 := by omega
      clear hxc hI hO hAt hke hln1 hln2
      generalize dpV (trC rs) (fun _ => 0) rs.length (xs.length - 1) = D at *
      have hlast : ((xs.length : Int) - 1) = ((xs.length - 1 : Nat) : Int) := by omega
      go_wp2_with fail
      go_ret
      exact ⟨retI (by rw [HE2.out]), below_later HhB.out m⟩

end Go.Proofs.Ytfkehmpckhmkbaa
