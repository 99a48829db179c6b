/-
  l6Filled and WidthOfOrder of the reference. For at most 2^20 rows and list elements.
-/
import Derived.Test.YtfkehmpckhmkbaaPkLawWidths21
import Derived.Test.YtfkehmpckhmkbaaPkLawWidths07
import Derived.Deep.RegionWith
namespace Go.Proofs.Ytfkehmpckhmkbaa
open Go.RowKit

/-- A list of vertices out of a block from 'base' on. -/
def NatsB (base : Nat) (w : World) (ao : Option Addr) (l : List Nat) : Prop :=
  0 < l.length → ∃ g, ao = some ⟨g, 0, none⟩ ∧ base ≤ g ∧ g < w.heap.size ∧ ∀ k, k < l.length → w.cell? ⟨g, k, none⟩ = some (.int .i64 (eln l k : Int))
theorem NatsB.of {w : World} {base cap : Nat} {ao : Option Addr} {l : List Nat} (h : OwnL w base (.slice ao (l.map Int.ofNat).length cap) (l.map Int.ofNat)) : NatsB base w ao l := fun h0 => by
  obtain ⟨g, h1, h2, h3⟩ := (OwnE.own h).row (by simpa using h0)
  refine ⟨g, h1, h2, h3.lt, fun k hk => ?_⟩
  rw [h3.cell k (by simpa using hk), gi_map l k hk]
theorem specListB_any (S : Nat) (h : S < 128) (w : World) : Calls Try.prog 67 #[.int .i64 S] w fun e w' => ∃ ao cap, e = .returned (.slice ao (cnt S) cap) ∧ Below w.heap.size w w' ∧ NatsB w.heap.size w' ao (els S) :=
  (specListOf_any (S : Int) w).mono fun e w' ⟨ao, cap, he, hb, ho⟩ => by
    rw [listOf_nat h] at he ho
    exact ⟨ao, cap, by rw [he, List.length_map]; rfl, hb, NatsB.of ho⟩
theorem implListB_any (S : Nat) (h : S < 128) (w : World) : Calls Try.prog 46 #[.int .i64 S] w fun e w' => ∃ ao cap, e = .returned (.slice ao (cnt S) cap) ∧ Below w.heap.size w w' ∧ NatsB w.heap.size w' ao (els S) :=
  (implListOf_any (S : Int) w).mono fun e w' ⟨ao, cap, he, hb, ho⟩ => by
    rw [listOf_nat h] at he ho
    exact ⟨ao, cap, by rw [he, List.length_map]; rfl, hb, NatsB.of ho⟩

set_option maxRecDepth 100000 in
set_option maxHeartbeats 2000000 in
theorem l6Filled_any (rs l : List Int) (ro lo : Option Addr) (rc lc : Nat) (w : World) (ho : orderB rs.length rs l = true) (hr : IntsAt w ro rs) (hl : IntsAt w lo l) :
    Calls Try.prog 53 #[.agg #[.int .i64 rs.length, .slice ro rs.length rc], .slice lo l.length lc] w fun e w' => ∃ g1 cap, e = .returned (.agg #[.int .i64 rs.length, .slice (some ⟨g1, 0, none⟩) rs.length cap]) ∧ Below w.heap.size w w' ∧ w.heap.size ≤ g1 ∧ RowAt w' g1 cap (fillTo rs l l.length) := by
  obtain ⟨hv, -, g, hlen⟩ := orderB_true ho
  have hN7 := g.le
  have hN1 := g.pos
  have hrl : rs.length ≤ 1048576 := by omega
  have hl7 : l.length ≤ 7 := by omega
  have hl1 : 0 < l.length := by omega
  obtain ⟨lb, lofs, rfl, hlb, -⟩ := hl hl1
  have Hhlen := Lib.hid hlen
  clear hlen
  go_enter Try.func53, Try.ntmps53
  go_wp2_with fail
  generalize hW : World.alloc _ _ = W1
  obtain ⟨hB, hs, k0, k1⟩ := alloc2 hW
  replace hr := hr.below hB
  replace hl := hl.below hB
  clear hW
  refine (l2Copy_any _ rs ro rc W1 hr hrl hN1).mono ?_
  rintro e w2 ⟨g1, cap, rfl, hB2, hg1, hR⟩
  have hgl := hR.lt
  go_wp2_with fail
  generalize hW2 : World.alloc _ _ = W2
  obtain ⟨hB3, hs2, k2⟩ := alloc1 hW2
  replace hR := hR.below hB3
  have hBW := below_more hB2 hB3
  have hBw := below_more' hB hBW
  replace hl := hl.below hBW
  replace k1 := k1.below hBW k1.lt
  have hne : g1 ≠ w2.heap.size := by omega
  have ho1 : W1.heap.size ≤ w2.heap.size := hB2.size
  have hlb2 : lb ≠ w2.heap.size := by have := hB.size; omega
  clear hW2 hr k0 hgl hB2 hB3
  generalize w2.heap.size = o at *
  have hlO : ∀ wr, Only (fun b => b = o) W2.heap.size W2 wr → IntsAt wr (some ⟨lb, lofs, none⟩) l := fun wr h => hl.only h fun b off e hb => by
    simp only [Option.some.injEq, Addr.mk.injEq] at e
    obtain ⟨rfl, -⟩ := e
    exact hlb2 hb
  have how : w.heap.size + 1 < o := by omega
  have hsW : w.heap.size + 2 ≤ W1.heap.size := by omega
  have hoz := k2.lt
  have HO := Lib.hid ho
  clear ho hl hs hs2 hv
  have HhBW := Lib.hid hBW
  clear hBW
  have HhBw := Lib.hid hBw
  clear hBw
  have HhlO := Lib.hid hlO
  clear hlO
  have Hk1 := Lib.hid k1
  clear k1
  have Hk2 := Lib.hid k2
  clear k2
  have HhR := Lib.hid hR
  clear hR
  have Hhlb2 := Lib.hid hlb2
  clear hlb2
  have Hhne := Lib.hid hne
  clear hne
  go_wp2_with fail
  go_loopw [6] (fun i wr => Only (fun b => b = o) W2.heap.size W2 wr ∧ ∃ k gb cp : Nat, k ≤ l.length ∧ i = .int .i64 k ∧ gb ≠ o ∧ W1.heap.size ≤ gb ∧ Blk wr o #[.int .i64 rs.length, .slice (some ⟨gb, 0, none⟩) rs.length cp] 26 ∧ RowAt wr gb cp (fillTo rs l k)) (fun i _ => l.length - (intOf i).toNat)
  case atStart => exact ⟨Only.refl _ _ _, 0, g1, cap, by omega, rfl, Hhne.out, hg1, Hk2.out, HhR.out⟩
  case round =>
    obtain ⟨hO, k, gb, cp, hk, rfl, hne, hgW, kb, hRk⟩ := hrel
    have ozr := kb.lt
    have x0 := kb.cell 0
    have x1 := kb.cell 1
    simp at x0 x1
    by_cases hlt : k < l.length
    · have gF := fillTo_VG g l k
      have hFl := fillTo_len rs l k
      have HFS : Hid (fillTo rs l (k + 1) = joinL (fillTo rs l k) (laterN (fillTo rs l k) l k)) := rfl
      have hlw := HhlO.out _ hO
      have hL := fun m : Later wr => specLater_any (fillTo rs l k) l k _ _ cp lc m.w (order_same gF hFl HO.out) hlt (hRk.ints.later m) (hlw.later m)
      have hLl := later_lt (fillTo rs l k) l k
      rw [hFl] at hL hLl
      obtain ⟨lb', lofs', hl1', hlbr, hlcr⟩ := hlw hl1
      simp only [Option.some.injEq, Addr.mk.injEq] at hl1'
      obtain ⟨rfl, rfl, -⟩ := hl1'
      have hlk := hlcr k hlt
      have HPR := Lib.hid (pR_join gF (L := laterN (fillTo rs l k) l k) (by rw [hFl]; exact hLl))
      generalize hLg : laterN (fillTo rs l k) l k = L at *
      clear hLg
      have hF0 : Hid (fillTo rs l k = pR (fillTo rs l k) (eln (els L)) 0) := rfl
      generalize fillTo rs l k = F at *
      have HFl := Lib.hid hFl
      have hL128 : L < 128 := Nat.lt_of_lt_of_le hLl g.pow.1
      clear hFl hlcr hlw
      have HhO := Lib.hid hO
      clear hO
      have Hhne := Lib.hid hne
      clear hne
      have Hkb := Lib.hid kb
      clear kb
      have HhRk := Lib.hid hRk
      clear hRk
      have Hozr := Lib.hid ozr
      obtain ⟨m, hm0⟩ : ∃ m : Later wr, m.w = wr := ⟨Later.refl _, rfl⟩
      refine (fun h => hm0 ▸ h) ?_
      clear hm0
      go_wp2_with fail
      go_still_tail 6, (by kernel_rfl)
      refine wpList_drew_on m fun m => ?_
      go_wp2_with (first | (go_at_call 54; refine (Calls.later m (hL _)).mono ?_; rintro e w' ⟨rfl, m, rfl⟩))
      clear hL
      refine (specListB_any L hL128 _).mono ?_
      rintro e w4 ⟨ao, ac, rfl, hB4, hN⟩
      have hBr : Below wr.heap.size wr w4 := below_more m.below hB4
      have hRk := HhRk.out.below hBr
      have kb := HhO.out.more hBr HhO.out.size
      have hO := HhO.out.more hBr HhO.out.size
      have kb := Hkb.out.below hBr ozr
      have x0 := kb.cell 0
      have x1 := kb.cell 1
      simp at x0 x1
      have ozr := kb.lt
      have hC7 := cnt_le L
      have hmo : o < m.w.heap.size := Nat.lt_of_lt_of_le Hozr.out m.size
      generalize m.w.heap.size = mb at *
      clear hB4 hBr HhRk Hkb HhO m Hozr
      have hne := Hhne.out
      have HhO := Lib.hid hO
      clear hO
      have Hhne := Lib.hid hne
      clear hne
      have Hkb := Lib.hid kb
      clear kb
      have HhRk := Lib.hid hRk
      clear hRk
      have HhN := Lib.hid hN
      clear hN
      go_wp2_with fail
      go_loopw [8] (fun i wr => Only (fun b => b = o) w4.heap.size w4 wr ∧ ∃ a gb cp : Nat, a ≤ cnt L ∧ i = .int .i64 a ∧ gb ≠ o ∧ W1.heap.size ≤ gb ∧ Blk wr o #[.int .i64 rs.length, .slice (some ⟨gb, 0, none⟩) rs.length cp] 26 ∧ RowAt wr gb cp (pR F (eln (els L)) a)) (fun i _ => cnt L - (intOf i).toNat)
      case atStart => exact ⟨Only.refl _ _ _, 0, gb, cp, by omega, rfl, Hhne.out, hgW, Hkb.out, hF0.out ▸ HhRk.out⟩
      case round =>
        clear x0 x1
        obtain ⟨hO2, a, gb, cp, ha, rfl, hne, hgW, kb, hRk⟩ := hrel
        by_cases hat : a < cnt L
        · have ozr := kb.lt
          have HA0 : Hid (pA (pR F (eln (els L)) a) (eln (els L)) a 0 = pR F (eln (els L)) a) := rfl
          have HA1 : Hid (pA (pR F (eln (els L)) a) (eln (els L)) a a = pR F (eln (els L)) (a + 1)) := rfl
          have hinj := fun x (hx : x < cnt L) y (hy : y < cnt L) (e : eln (els L) x = eln (els L) y) => els_inj hx hy e
          have gP := pR_VG gF hinj a ha
          have hPl := pR_len F (eln (els L)) a
          rw [HFl.out] at hPl
          have hAV := fun b (hb : b ≤ a) => pA_VG gP hinj hat b hb
          have hAl := fun b => (pA_len (pR F (eln (els L)) a) (eln (els L)) a b).trans hPl
          generalize pR F (eln (els L)) a = G at *
          have HAV := Lib.hid hAV
          have HAl := Lib.hid hAl
          clear hAV hAl hPl gP hinj
          have HhO2 := Lib.hid hO2
          clear hO2
          have Hhne := Lib.hid hne
          clear hne
          have Hkb := Lib.hid kb
          clear kb
          have HhRk := Lib.hid hRk
          clear hRk
          go_wp2_with fail
          go_loopw [9] (fun i wr => Only (fun b => b = o) w4.heap.size w4 wr ∧ ∃ b gb cp : Nat, b ≤ a ∧ i = .int .i64 b ∧ gb ≠ o ∧ W1.heap.size ≤ gb ∧ Blk wr o #[.int .i64 rs.length, .slice (some ⟨gb, 0, none⟩) rs.length cp] 26 ∧ RowAt wr gb cp (pA G (eln (els L)) a b)) (fun i _ => a - (intOf i).toNat)
          case atStart => exact ⟨HhO2.out, 0, gb, cp, by omega, rfl, Hhne.out, hgW, Hkb.out, HA0.out ▸ HhRk.out⟩
          case round =>
            clear HhO2 Hhne Hkb HhRk
            obtain ⟨hO2, b, gb, cp, hb, rfl, hne, hgW, kb, hRk⟩ := hrel
            by_cases hbt : b < a
            · have hbc : b < cnt L := by omega
              have ozr := kb.lt
              have x0 := kb.cell 0
              have x1 := kb.cell 1
              simp at x0 x1
              obtain ⟨b2, rfl, hb2, hbz, hc2⟩ := HhN.out (by unfold cnt at hC7 hat; omega)
              have hne2 : b2 ≠ o := by omega
              have hca := (hO2.cell (p := ⟨b2, a, none⟩) hbz (fun e => hne2 e)).trans (hc2 a (by unfold cnt at hat; exact hat))
              have hcb := (hO2.cell (p := ⟨b2, b, none⟩) hbz (fun e => hne2 e)).trans (hc2 b (by unfold cnt at hbc; exact hbc))
              have gA := HAV.out b (by omega)
              have hAl := HAl.out b
              have hEa := (els_at hLl hN7 hat).1
              have hEb := (els_at hLl hN7 hbc).1
              have hEne : eln (els L) a ≠ eln (els L) b := fun e => by have := els_inj hat hbc e; omega
              have hPO : pairB rs.length (pA G (eln (els L)) a b) (eln (els L) a) (eln (els L) b) = true := by
                have := pair_ok gA (a := eln (els L) a) (b := eln (els L) b) (by omega) (by omega) hEne
                rwa [hAl] at this
              have hA := fun m : Later wr => specAddEdge_any rs.length (pA G (eln (els L)) a b) (eln (els L) a) (eln (els L) b) _ cp m.w (hRk.ints.later m) (by omega) (by omega)
              have hAe : addV rs.length (pA G (eln (els L)) a b) (eln (els L) a) (eln (els L) b) = pA G (eln (els L)) a (b + 1) := by
                unfold addV; rw [if_pos hPO]; rfl
              rw [hAe, hAl] at hA
              generalize addOk rs.length (pA G (eln (els L)) a b) (eln (els L) a) (eln (els L) b) = BB at *
              clear hAe hPO hEa hEb hEne hAl gA hc2
              generalize hG2 : pA G (eln (els L)) a (b + 1) = G2 at *
              have HhG2 := Lib.hid hG2
              clear hG2
              generalize eln (els L) a = Ea at *
              generalize eln (els L) b = Eb at *
              have hbz2 := Nat.lt_of_lt_of_le hbz hO2.size
              have HhO2 := Lib.hid hO2
              clear hO2
              have Hhne := Lib.hid hne
              clear hne
              have Hkb := Lib.hid kb
              clear kb
              have HhRk := Lib.hid hRk
              clear hRk
              go_wp2_with fail
              go_region_with ((go_at_call 84; refine (hA ⟨_, (Below.refl _ wr).drew⟩).mono ?_; rintro e w5 ⟨g5, cp5, rfl, hB5, hg5, hR5⟩; have hB6 : Below wr.heap.size wr w5 := (Below.refl _ wr).drew.trans hB5; have k5 := Hkb.out.below hB6 ozr; have y0 := k5.cell 0; have y1 := k5.cell 1; have y2 := k5.frozen 0; have y3 := k5.frozen 1; have y4 := k5.lt; simp at y0 y1))
              all_goals
                have hg6 : wr.heap.size ≤ g5 := hg5
                have hwo := HhO2.out.size
                have hne6 : g5 ≠ o := by omega
                have hO6 : Only (fun b => b = o) w4.heap.size w4 ((w5.setCell ⟨o, 0, none⟩ (.int .i64 rs.length)).setCell ⟨o, 1, none⟩ (.slice (some ⟨g5, 0, none⟩) rs.length cp5)) :=
                  ((HhO2.out.more hB6 HhO2.out.size).setCell (p := ⟨o, 0, none⟩) (.inl rfl) _).setCell (p := ⟨o, 1, none⟩) (.inl rfl) _
                have k6 : Blk ((w5.setCell ⟨o, 0, none⟩ (.int .i64 rs.length)).setCell ⟨o, 1, none⟩ (.slice (some ⟨g5, 0, none⟩) rs.length cp5)) o #[.int .i64 rs.length, .slice (some ⟨g5, 0, none⟩) rs.length cp5] 26 := by
                  have := (k5.store 0 (.int .i64 rs.length)).store 1 (.slice (some ⟨g5, 0, none⟩) rs.length cp5)
                  simpa using this
                have hR6 : RowAt ((w5.setCell ⟨o, 0, none⟩ (.int .i64 rs.length)).setCell ⟨o, 1, none⟩ (.slice (some ⟨g5, 0, none⟩) rs.length cp5)) g5 cp5 G2 := (hR5.otherCell (by simp; omega)).otherCell (by simp; omega)
                have hgW6 : W1.heap.size ≤ g5 := by omega
                generalize World.setCell _ _ _ = W6 at *
                clear k5 y0 y1 y2 y3 y4 hR5 hB6 hB5 hg5 hg6
                have HhO6 := Lib.hid hO6
                clear hO6
                have Hk6 := Lib.hid k6
                clear k6
                have HhR6 := Lib.hid hR6
                clear hR6
                have Hhne6 := Lib.hid hne6
                clear hne6
                go_wp2_with fail
                go_roundw
                case rel => exact ⟨HhO6.out, b + 1, g5, cp5, by omega, by go_num, Hhne6.out, hgW6, Hk6.out, by rw [HhG2.out]; exact HhR6.out⟩
                case measure => simp [intOf]; omega
            · obtain rfl : b = a := by omega
              rw [HA1.out] at hRk
              have HhO2 := Lib.hid hO2
              clear hO2
              have Hhne := Lib.hid hne
              clear hne
              have Hkb := Lib.hid kb
              clear kb
              have HhRk := Lib.hid hRk
              clear hRk
              go_wp2_with fail
              go_roundw
              case rel => exact ⟨HhO2.out, b + 1, gb, cp, by omega, by go_num, Hhne.out, hgW, Hkb.out, HhRk.out⟩
              case measure => simp [intOf]; omega
        · obtain rfl : a = cnt L := by omega
          rw [HPR.out] at hRk
          have hO3 := HhO.out.trans (hO2.mono HhO.out.size fun b _ h => h)
          have HhO3 := Lib.hid hO3
          clear hO3
          have Hhne := Lib.hid hne
          clear hne
          have Hkb := Lib.hid kb
          clear kb
          have HhRk := Lib.hid hRk
          clear hRk
          clear hO2
          go_wp2_with fail
          go_roundw
          case rel => exact ⟨HhO3.out, k + 1, gb, cp, by omega, by go_num, Hhne.out, hgW, Hkb.out, by rw [HFS.out]; exact HhRk.out⟩
          case measure => simp [intOf]; omega
    · obtain rfl : k = l.length := by omega
      have k9 := hO.blk Hk1.out (by have := Hk1.out.lt; omega) (fun e => by have e2 : w.heap.size + 1 = o := e; omega)
      have y0 := k9.cell 0
      have y1 := k9.cell 1
      have y2 := k9.frozen 0
      have y3 := k9.frozen 1
      have y4 := k9.lt
      simp at y0 y1
      have hF : Below w.heap.size w ((wr.setCell ⟨w.heap.size + 1, 0, none⟩ (.int .i64 rs.length)).setCell ⟨w.heap.size + 1, 1, none⟩ (.slice (some ⟨gb, 0, none⟩) rs.length cp)) :=
        ((HhBw.out.trans (hO.below HhBw.out.size fun b hb h => by have h2 : b = o := h; omega)).setCell (by simp) _).setCell (by simp) _
      have hFR : RowAt ((wr.setCell ⟨w.heap.size + 1, 0, none⟩ (.int .i64 rs.length)).setCell ⟨w.heap.size + 1, 1, none⟩ (.slice (some ⟨gb, 0, none⟩) rs.length cp)) gb cp (fillTo rs l l.length) := (hRk.otherCell (by simp; omega)).otherCell (by simp; omega)
      have hgw : w.heap.size ≤ gb := by have := hB.size; omega
      clear k9 hRk kb
      have HhF := Lib.hid hF
      clear hF
      have HhFR := Lib.hid hFR
      clear hFR
      have HhO := Lib.hid hO
      clear hO
      have Hhgw := Lib.hid hgw
      clear hgw
      go_wp2_with fail
      refine bodyPost_ret (v := .agg #[.int .i64 rs.length, .slice (some ⟨gb, 0, none⟩) rs.length cp]) (by simp [results, Try.results53, go_sem, y0, y1]) rfl ?_
      exact ⟨gb, cp, rfl, HhF.out, Hhgw.out, HhFR.out⟩

set_option maxRecDepth 100000 in
set_option maxHeartbeats 2000000 in
theorem specWidth_any (n : Int) (rs l : List Int) (ro lo : Option Addr) (rc lc : Nat) (w : World) (hr : IntsAt w ro rs) (hrl : rs.length ≤ 1048576) (hl : IntsAt w lo l) (hll : l.length ≤ 1048576) :
    Calls Try.prog 23 #[.agg #[.int .i64 n, .slice ro rs.length rc], .slice lo l.length lc] w fun e w' => e = .returned (.int .i64 (widV n rs l)) ∧ Below w.heap.size w w' := by
  go_enter Try.func23, Try.ntmps23
  go_wp2_with fail
  generalize hW : w.alloc _ = W1
  obtain ⟨hB, -, k0⟩ := alloc1 hW
  replace hr := hr.below hB
  replace hl := hl.below hB
  have hb0 := k0.lt
  have hc0 := k0.cell 0
  have hc1 := k0.cell 1
  simp at hc0 hc1
  clear hW k0
  have HhB := Lib.hid hB
  clear hB
  have hO := fun m : Later W1 => specIsOrder_any n rs l ro lo rc lc m.w (hr.later m) hrl (hl.later m) hll
  obtain ⟨m, hm0⟩ : ∃ m : Later W1, m.w = W1 := ⟨Later.refl _, rfl⟩
  refine (fun h => hm0 ▸ h) ?_
  clear hm0
  cases hv : orderB n rs l
  · have HE := Lib.hid (widV_no hv)
    rw [hv] at hO
    go_wp2_with (first | (go_at_call 52; refine (Calls.later m (hO _)).mono ?_; rintro e w' ⟨rfl, m, rfl⟩))
    go_ret
    exact ⟨retI (by rw [HE.out]), below_later HhB.out m⟩
  · obtain ⟨-, rfl, g, hlen⟩ := orderB_true hv
    have HE := Lib.hid (widV_of hv)
    have HV := Lib.hid hv
    rw [hv] at hO
    have hN7 := g.le
    have hl7 : l.length ≤ 7 := by omega
    have hl1 : 0 < l.length := by have := g.pos; omega
    have Hhlen := Lib.hid hlen
    clear hlen
    clear hv
    go_wp2_with (first | (go_at_call 52; refine (Calls.later m (hO _)).mono ?_; rintro e w' ⟨rfl, m, rfl⟩))
    clear hO
    refine (l6Filled_any rs l ro lo rc lc m.w HV.out (hr.later m) (hl.later m)).mono ?_
    rintro e w2 ⟨g1, cap, rfl, hB2, -, hR⟩
    go_wp2_with fail
    generalize hW2 : World.alloc _ _ = W2
    obtain ⟨hB3, -, k2⟩ := alloc1 hW2
    replace hR := hR.below hB3
    have hB4 := below_more hB2 hB3
    have hBw := below_more' (below_later HhB.out m) hB4
    replace hl := (hl.later m).below hB4
    clear hW2 hB2 hB3 hB4 hr hb0 hc0 hc1 HhB
    generalize w2.heap.size = o at *
    clear m w2
    have ob := k2.lt
    have x0 := k2.cell 0
    have x1 := k2.cell 1
    simp at x0 x1
    clear k2
    have HhBw := Lib.hid hBw
    clear hBw
    have gF := fillTo_VG g l l.length
    have hFl := fillTo_len rs l l.length
    have hoF := order_same gF hFl HV.out
    have hL := fun k (hk : k < l.length) (m : Later W2) => specLater_any (fillTo rs l l.length) l k _ _ cap lc m.w hoF hk (hR.ints.later m) (hl.later m)
    have hLl := fun k => later_lt (fillTo rs l l.length) l k
    rw [hFl] at hL hLl
    obtain ⟨lb, lofs, rfl, hlb, hlc⟩ := hl hl1
    have HS : Hid (∀ k, widTo (fillTo rs l l.length) l (k + 1) = if widTo (fillTo rs l l.length) l k < cnt (laterN (fillTo rs l l.length) l k) then cnt (laterN (fillTo rs l l.length) l k) else widTo (fillTo rs l l.length) l k) := fun _ => rfl
    have hwl := fun k => widTo_le (fillTo rs l l.length) l k
    generalize fillTo rs l l.length = F at *
    have hp7 := g.pow.1
    have HL := Lib.hid hL
    have HLl := Lib.hid hLl
    have HW := Lib.hid hwl
    clear hL hLl hwl hFl hoF gF hR hl
    have Hhlc := Lib.hid hlc
    clear hlc
    obtain ⟨m, hm0⟩ : ∃ m : Later W2, m.w = W2 := ⟨Later.refl _, rfl⟩
    refine (fun h => hm0 ▸ h) ?_
    clear hm0
    go_wp2_with fail
    go_loopw [6, 7] (fun b i wr => (∃ m : Later W2, wr = m.w) ∧ ∃ k : Nat, k ≤ l.length ∧ i = .int .i64 k ∧ b = .int .i64 (widTo F l k)) (fun _ i _ => l.length - (intOf i).toNat)
    case atStart => exact ⟨⟨m, rfl⟩, 0, by omega, rfl, rfl⟩
    case round =>
      obtain ⟨⟨m, rfl⟩, k, hk, rfl, rfl⟩ := hrel
      by_cases hlt : k < l.length
      · have hck := Hhlc.out k hlt
        have hLk := HL.out k hlt
        have hLb := HLl.out k
        have hw7 := HW.out k
        have HSk := Lib.hid (HS.out k)
        have hc7 := cnt_le (laterN F l k)
        have hC := fun m : Later W2 => specCount_any (laterN F l k) (by omega) m.w
        generalize laterN F l k = L at *
        generalize cnt L = C at *
        generalize widTo F l k = A at *
        go_wp2_with fail
        by_cases hm : A < C
        all_goals
          refine wp_region_later m rfl (by kernel_rfl) (by kernel_rfl) ?_
          repeat (go_big_quiet_step ((first | (go_at_call 54; exact Calls.later _ (hLk _)) | (go_at_call 36; exact Calls.later _ (hC _)))))
          refine wpQuiet_nil ?_
          rintro _ ⟨m, rfl⟩
        · rw [if_pos hm] at HSk
          go_wp2_with fail
          go_roundw
          case rel => exact ⟨⟨m, rfl⟩, k + 1, by omega, by go_num, by rw [HSk.out]⟩
          case measure => simp [intOf]; omega
        · rw [if_neg hm] at HSk
          go_wp2_with fail
          go_roundw
          case rel => exact ⟨⟨m, rfl⟩, k + 1, by omega, by go_num, by rw [HSk.out]⟩
          case measure => simp [intOf]; omega
      · obtain rfl : k = l.length := by omega
        go_wp2_with fail
        go_ret
        exact ⟨retI (by rw [HE.out]), below_later HhBw.out m⟩

end Go.Proofs.Ytfkehmpckhmkbaa
