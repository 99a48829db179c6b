/-
  GraphOfPrunes of the program. For at most 2^20 prunes.
-/
import Derived.Test.YtjikmjhpmkakoaaGreatDoorPkCardHereditary36
import Derived.Test.YtjikmjhpmkakoaaGreatDoorPkCardHereditary39
import Derived.Test.YtjikmjhpmkakoaaGreatDoorPkCardHereditary25
namespace Go.Proofs.YtjikmjhpmkakoaaGreatDoor
open Go.RowKit

theorem pvs_succ (l : List Int) (k : Nat) : pvs l k ++ [pv l k] = pvs l (k + 1) := by simp [pvs, List.range_succ]

theorem putOk_eq (K S : Nat) (k a : Int) : putOk K S k a = ((decide (0 ≤ k) && decide (k ≤ 3)) && if k = 0 then decide (a = -1) else (decide (0 ≤ a) && decide (a ≤ (K : Int) - 1)) && S.testBit a.toNat) := by
  rw [Bool.eq_iff_iff]
  unfold putOk
  by_cases h : k = 0
  · rw [if_pos h]; simp [h]
  · rw [if_neg h]; simp [h, and_assoc]
theorem and_left_true {a b : Bool} (h : true = (a && b)) : a = true := by cases a <;> simp_all
/-- The cells of the prunes. -/
def PrnAt (w : World) (ao : Option Addr) (l : List Int) (K : Nat) : Prop :=
  ∀ j, j < K → ∃ b off, ao = some ⟨b, off, none⟩ ∧ b < w.heap.size ∧ w.cell? ⟨b, off + j * 3, none⟩ = some (.int .i64 (pv l j)) ∧ w.cell? ⟨b, off + j * 3 + 1, none⟩ = some (.int .i64 (pk l j)) ∧ w.cell? ⟨b, off + j * 3 + 2, none⟩ = some (.int .i64 (pa l j))
theorem IntsAt.prn {w : World} {ao : Option Addr} {l : List Int} {K : Nat} (hl : IntsAt w ao l) (hk : l.length = K * 3) : PrnAt w ao l K := fun j hj => by
  obtain ⟨b, off, h1, h2, h3⟩ := hl (by omega)
  refine ⟨b, off, h1, h2, h3 _ (by omega), ?_, ?_⟩
  · rw [Nat.add_assoc]; exact h3 (j * 3 + 1) (by omega)
  · rw [Nat.add_assoc]; exact h3 (j * 3 + 2) (by omega)

set_option maxRecDepth 100000 in
set_option maxHeartbeats 4000000 in
theorem implPut_any (l : List Int) (K : Nat) (ao : Option Addr) (c : Nat) (w : World) (hl : IntsAt w ao l) (hk : l.length = K * 3) (hK : K ≤ 1048576) :
    Calls Tryz.prog 14 #[.slice ao K c] w (RetG w ((putV l K).getD []) (putV l K).isSome) := by
  have hlk := hl.prn hk
  have Hlk := Lib.hid hlk
  clear hlk hl
  go_enter Tryz.func14, Tryz.ntmps14
  go_wp2_with fail
  generalize hW : World.alloc _ _ = W1
  obtain ⟨hB, hs1, k0, -⟩ := alloc2 hW
  have hs2 : w.heap.size < W1.heap.size := by omega
  clear hW hs1
  have HhB := Lib.hid hB
  clear hB
  have Hk0 := Lib.hid k0
  clear k0
  obtain ⟨m, hm0⟩ : ∃ m : Later W1, m.w = W1 := ⟨Later.refl _, rfl⟩
  refine (fun h => hm0 ▸ h) ?_
  clear hm0
  go_wp2_with fail
  go_loopw [4, 17] (fun o i wr => (∃ m : Later W1, wr = m.w) ∧ ∃ (k : Nat) (xo : Option Addr) (cap : Nat), k ≤ K ∧ i = .int .i64 k ∧ o = .slice xo k cap ∧ OwnE wr W1.heap.size xo cap (pvs l k)) (fun _ i _ => K - (intOf i).toNat)
  case atStart => exact ⟨⟨m, rfl⟩, 0, _, 0, by omega, rfl, rfl, OwnE.empty _ _ _⟩
  case round =>
    clear m
    obtain ⟨⟨m, rfl⟩, k, xo, cap, hkK, rfl, rfl, hO⟩ := hrel
    have HhO := Lib.hid hO
    clear hO
    by_cases hlt : k < K
    · obtain ⟨b, off, rfl, hb, h1, h2, h3⟩ := Hlk.out k hlt
      have hbW : b < W1.heap.size := by omega
      have x1 := (m.cell _ _ hbW).trans ((HhB.out.cell (p := ⟨b, off + k * 3, none⟩) hb).trans h1)
      have x2 := (m.cell _ _ hbW).trans ((HhB.out.cell (p := ⟨b, off + k * 3 + 1, none⟩) hb).trans h2)
      have x3 := (m.cell _ _ hbW).trans ((HhB.out.cell (p := ⟨b, off + k * 3 + 2, none⟩) hb).trans h3)
      clear h1 h2 h3
      have hm := m.size
      have hxl : (pvs l k).length ≤ 1048576 := by rw [pvs_len]; omega
      go_wp2_with (first | (at_builtin; go_must (refine wpList_append_e rfl _ _ rfl W1.heap.size cap xo (pvs l k) (pv l k) (by rw [pvs_len]; rfl) (HhO.out.below ((Below.refl _ _).alloc (Nat.le_refl _) _)) (by show Value.slice (some ⟨m.w.heap.size + 1, 0, none⟩) 1 1 = _; simp) (by simp; omega) hxl ?_); intro ao1 cap1 w3 hown1 hB3))
      rw [pvs_succ] at hown1
      have hB4 : Below W1.heap.size W1 w3 := (m.below.alloc hm _).trans hB3
      clear x1 x2 x3
      have Hhown1 := Lib.hid hown1
      clear hown1
      have HhB4 := Lib.hid hB4
      clear hB4
      go_wp2_with fail
      go_roundw
      case rel => exact ⟨⟨⟨w3, HhB4.out⟩, rfl⟩, k + 1, ao1, cap1, by omega, by go_num, by rw [pvs_len], Hhown1.out⟩
      case measure => simp [intOf]; omega
    · obtain rfl : k = K := by omega
      clear hlt hkK
      have k0' := Hk0.out.later m
      have y0 := k0'.cell 0
      have y1 := k0'.cell 1
      have y2 := k0'.frozen 0
      have y3 := k0'.frozen 1
      simp at y0 y1
      have hC := implPerm_any (pvs l k) xo k cap m.w (by have := HhO.out.ints; exact this) (pvs_len l k).symm hK
      clear k0'
      cases hp : permB (pvs l k)
      · rw [hp] at hC
        have HE := Lib.hid (putV_no hp)
        clear hp
        go_wp2_with fail
        refine hC.mono ?_
        rintro e w2 ⟨rfl, hB2⟩
        obtain ⟨m, rfl⟩ : ∃ m2 : Later W1, m2.w = w2 := ⟨m.on hB2, rfl⟩
        clear hC hB2 y0 y1 y2 y3 HhO
        have k0' := Hk0.out.later m
        have y0 := k0'.cell 0
        have y1 := k0'.cell 1
        have y2 := k0'.frozen 0
        have y3 := k0'.frozen 1
        have y4 := k0'.lt
        simp at y0 y1
        have hF : Below w.heap.size w ((m.w.setCell ⟨w.heap.size, 0, none⟩ (.int .i64 0)).setCell ⟨w.heap.size, 1, none⟩ (.slice none 0 0)) := ((below_later HhB.out m).setCell (by simp) _).setCell (by simp) _
        clear k0'
        have HhF := Lib.hid hF
        clear hF
        go_wp2_with fail
        refine bodyPost_ret (v := .tuple #[.agg #[.int .i64 0, .slice none 0 0], .bool false]) (by simp [results, Tryz.results14, go_sem, y0, y1]) rfl ?_
        rw [HE.out]
        exact RetG.no rfl HhF.out
      · rw [hp] at hC
        have HE := Lib.hid (putV_of hp)
        have HP := Lib.hid hp
        have h7 := (permB_true hp).2.1
        have h1 := (permB_true hp).1
        rw [pvs_len] at h7 h1
        have hmk := run_make_ints k (by omega)
        clear hp
        go_wp2_with fail
        refine hC.mono ?_
        rintro e w2 ⟨rfl, hB2⟩
        obtain ⟨m, rfl⟩ : ∃ m2 : Later W1, m2.w = w2 := ⟨m.on hB2, rfl⟩
        clear hC hB2 y0 y1 y2 y3 HhO
        go_wp2_with fail
        clear hmk
        generalize hW2 : World.alloc _ _ = W2
        obtain ⟨hB2, hs3, kY, kG⟩ := alloc2 hW2
        have hBW := below_more m.below hB2
        have hBw := below_more' HhB.out hBW
        have hR : RowAt W2 m.w.heap.size k (List.replicate k 0) := by
          have := RowAt.of (w := W2) (b := m.w.heap.size) (xs := List.replicate k 0) kY (by simp; omega)
          simpa using this
        have kF := Hk0.out.below hBW (by have := Hk0.out.lt; omega)
        have hym := m.size
        clear hW2 kY hBW hB2 hs3 Hk0
        generalize m.w.heap.size = y at *
        clear m
        have hyw : w.heap.size < y := by omega
        have hyy : ¬ y + 1 = y := by omega
        have HPl : Hid (PrnAt W2 ao l k) := Lib.hid fun j hj => by
          obtain ⟨b, off, h1, h2, h3, h4, h5⟩ := Hlk.out j hj
          exact ⟨b, off, h1, Nat.lt_of_lt_of_le h2 hBw.size, (hBw.cell h2).trans h3, (hBw.cell h2).trans h4, (hBw.cell h2).trans h5⟩
        have HPb : Hid (∀ b off, ao = some ⟨b, off, none⟩ → 0 < k → ¬ b = y) := Lib.hid fun b off e h => by
          obtain ⟨b', off', h1, h2, -⟩ := Hlk.out 0 h
          rw [h1] at e
          simp only [Option.some.injEq, Addr.mk.injEq] at e
          omega
        have HSt := Lib.hid (PutI.start HP.out)
        clear HhB Hlk
        have HhBw := Lib.hid hBw
        clear hBw
        have HkG := Lib.hid kG
        clear kG
        have HkF := Lib.hid kF
        clear kF
        have HhR := Lib.hid hR
        clear hR
        have Hhyy := Lib.hid hyy
        clear hyy
        go_wp2_with fail
        go_loopw [8, 9] (fun s i wr => Only (fun b => b = y) W2.heap.size W2 wr ∧ ∃ (S j : Nat) (rs : List Int), j ≤ k ∧ i = .int .i64 ((j : Int) - 1) ∧ s = .int .i64 S ∧ PutI l k j rs S ∧ RowAt wr y k rs ∧ putRun l k j rs S = putV l k) (fun _ i _ => (intOf i + 1).toNat)
        case atStart => exact ⟨Only.refl _ _ _, 0, k, _, Nat.le_refl _, by go_num, rfl, HSt.out, HhR.out, HE.out.symm⟩
        case round =>
          clear HhR
          obtain ⟨hO, S, j, rs, hj, rfl, rfl, hI, hR, hV⟩ := hrel
          have HhO := Lib.hid hO
          clear hO
          have HhI := Lib.hid hI
          clear hI
          have HhR := Lib.hid hR
          clear hR
          have HhV := Lib.hid hV
          clear hV
          by_cases hlt : 0 < j
          · obtain ⟨i, rfl⟩ : ∃ i, j = i + 1 := ⟨j - 1, by omega⟩
            have hij : ((i + 1 : Nat) : Int) - 1 = (i : Int) := by omega
            rw [hij]
            obtain ⟨b, off, rfl, hb, x1, x2, x3⟩ := HPl.out i (by omega)
            have hby := HPb.out b off rfl (by omega)
            replace x1 := (HhO.out.cell (p := ⟨b, off + i * 3, none⟩) hb hby).trans x1
            replace x2 := (HhO.out.cell (p := ⟨b, off + i * 3 + 1, none⟩) hb hby).trans x2
            replace x3 := (HhO.out.cell (p := ⟨b, off + i * 3 + 2, none⟩) hb hby).trans x3
            go_wp2_with fail
            generalize hW3 : World.alloc _ _ = W3
            obtain ⟨hB3, -, kB⟩ := alloc1 hW3
            have hO3 := HhO.out.more hB3 HhO.out.size
            have hR3 := HhR.out.below hB3
            have hRl := HhR.out.lt
            have pl := kB.lt
            have p0 := kB.cell 0
            have p1 := kB.cell 1
            have p2 := kB.cell 2
            simp at p0 p1 p2
            obtain ⟨hv0, hvk, hvS⟩ := HhI.out.vertex HP.out (by omega : i < k)
            have HOk := Lib.hid (putOk_eq k S (pk l i) (pa l i))
            have hS7 : S < 128 := Nat.lt_of_lt_of_le HhI.out.lt (Nat.pow_le_pow_right (n := 2) (by decide) h7)
            have hIn := fun w => within_any (pk l i) 0 3 w
            have hIn2 := fun w => within_any (pa l i) 0 ((k : Int) - 1) w
            have hHas : (decide (0 ≤ pa l i) && decide (pa l i ≤ (k : Int) - 1)) = true → ∀ w, Calls Tryz.prog 60 #[.int .i64 S, .int .i64 (pa l i)] w fun e w' => e = .returned (.bool (S.testBit (pa l i).toNat)) ∧ w = w' := fun h w => by
              simp only [Bool.and_eq_true, decide_eq_true_eq] at h
              have := has_any (S : Int) (pa l i) h.1 (by omega) w
              rwa [hasN_nat] at this
            have HNo := Lib.hid (fun h => putRun_no (K := k) (S := S) (rs := rs) (l := l) (i := i) h)
            have HGo := Lib.hid (fun h => putRun_go (K := k) (S := S) (rs := rs) (l := l) (i := i) h)
            have HGood := Lib.hid (fun h => (putOk_true (K := k) (S := S) (k := pk l i) (a := pa l i) h))
            have HStep := Lib.hid (fun h => HhI.out.step HP.out (by omega : i < k) (k := pk l i) (a := pa l i) h)
            have HNb := Lib.hid (fun h => HhI.out.nb HP.out (by omega : i < k) (k := pk l i) (a := pa l i) h)
            have HMs := Lib.hid (fun u hu => HhI.out.miss HP.out (by omega : i < k) (u := u) hu)
            have kF3 := hO3.blk HkF.out (by have := HkF.out.lt; omega) (fun e => by have e2 : w.heap.size = y := e; omega)
            have kG3 := hO3.blk HkG.out (by have := HkG.out.lt; omega) (fun e => Hhyy.out e)
            have hpy : ¬ wr.heap.size = y := by omega
            clear hW3 kB hB3 HhO x1 x2 x3
            generalize wr.heap.size = pb at *
            generalize hkk : pk l i = kk at *
            generalize haa : pa l i = aa at *
            generalize hvv : pv l i = vv at *
            have HhO3 := Lib.hid hO3
            clear hO3
            have HhR3 := Lib.hid hR3
            clear hR3
            have HkF3 := Lib.hid kF3
            clear kF3
            have HkG3 := Lib.hid kG3
            clear kG3
            have Hhpy := Lib.hid hpy
            clear hpy
            have Hhkk := Lib.hid hkk
            clear hkk
            have Hhaa := Lib.hid haa
            clear haa
            have Hhvv := Lib.hid hvv
            clear hvv
            generalize (decide (0 ≤ kk) && decide (kk ≤ 3)) = B1 at *
            generalize (decide (0 ≤ aa) && decide (aa ≤ (k : Int) - 1)) = B2 at *
            cases ho : putOk k S kk aa
            · have hV2 : putV l k = none := by rw [← HhV.out]; exact HNo.out ho
              rw [ho] at HOk
              have f0 := HkF3.out.cell 0
              have f1 := HkF3.out.cell 1
              have f2 := HkF3.out.frozen 0
              have f3 := HkF3.out.frozen 1
              have f4 := HkF3.out.lt
              simp at f0 f1
              have hF : Below w.heap.size w ((W3.setCell ⟨w.heap.size, 0, none⟩ (.int .i64 0)).setCell ⟨w.heap.size, 1, none⟩ (.slice none 0 0)) :=
                ((HhBw.out.trans (HhO3.out.below HhBw.out.size fun b hb e => by have e2 : b = y := e; omega)).setCell (by simp) _).setCell (by simp) _
              clear ho HNo HGo HStep HNb HMs HGood
              have HhV2 := Lib.hid hV2
              clear hV2
              have HhF := Lib.hid hF
              clear hF
              cases B1
              · go_wp2_with (first | (go_at_call 59; refine (hIn _).mono ?_; rintro e w' ⟨rfl, rfl⟩))
                refine bodyPost_ret (v := .tuple #[.agg #[.int .i64 0, .slice none 0 0], .bool false]) (by simp [results, Tryz.results14, go_sem, f0, f1]) rfl ?_
                rw [HhV2.out]
                exact RetG.no rfl HhF.out
              · by_cases h0 : kk = 0
                · subst h0
                  have ha : (aa != -1) = true := by
                    have := HOk.out
                    rw [if_pos rfl] at this
                    rw [bne_iff_ne]; intro e; rw [e] at this; simp at this
                  go_wp2_with (first | (go_at_call 59; refine (hIn _).mono ?_; rintro e w' ⟨rfl, rfl⟩))
                  refine bodyPost_ret (v := .tuple #[.agg #[.int .i64 0, .slice none 0 0], .bool false]) (by simp [results, Tryz.results14, go_sem, f0, f1]) rfl ?_
                  rw [HhV2.out]
                  exact RetG.no rfl HhF.out
                · have h1 : (kk == 0) = false := by simpa using h0
                  have h2 : (kk != 0) = true := by simpa using h0
                  cases B2
                  · go_wp2_with (first | (go_at_call 59; with_reducible refine (hIn _).mono ?_; rintro e w' ⟨rfl, rfl⟩) | (go_at_call 59; with_reducible refine (hIn2 _).mono ?_; rintro e w' ⟨rfl, rfl⟩))
                    refine bodyPost_ret (v := .tuple #[.agg #[.int .i64 0, .slice none 0 0], .bool false]) (by simp [results, Tryz.results14, go_sem, f0, f1]) rfl ?_
                    rw [HhV2.out]
                    exact RetG.no rfl HhF.out
                  · have hb : S.testBit aa.toNat = false := by
                      have := HOk.out
                      rw [if_neg h0] at this
                      simpa using this.symm
                    have hH := hHas rfl
                    rw [hb] at hH
                    go_wp2_with (first | (go_at_call 59; with_reducible refine (hIn _).mono ?_; rintro e w' ⟨rfl, rfl⟩) | (go_at_call 59; with_reducible refine (hIn2 _).mono ?_; rintro e w' ⟨rfl, rfl⟩) | (go_at_call 60; refine (hH _).mono ?_; rintro e w' ⟨rfl, rfl⟩))
                    refine bodyPost_ret (v := .tuple #[.agg #[.int .i64 0, .slice none 0 0], .bool false]) (by simp [results, Tryz.results14, go_sem, f0, f1]) rfl ?_
                    rw [HhV2.out]
                    exact RetG.no rfl HhF.out
            · have hg := HGood.out ho
              obtain ⟨v, rfl⟩ : ∃ v : Nat, vv = (v : Int) := ⟨vv.toNat, by omega⟩
              have hV2 := HhV.out
              rw [HGo.out ho] at hV2
              have hSt := HStep.out ho
              obtain ⟨-, hT7, hTv⟩ := HNb.out ho
              simp only [Int.toNat_natCast] at hV2 hSt hTv HMs hvS
              have hvk2 : v < k := by omega
              have hpv := Nat.pow_le_pow_right (n := 2) (by decide) (show v ≤ 6 by omega)
              have hor : bits .or .i64 (S : Int) (pwN v) = ((S + 2 ^ v : Nat) : Int) := by
                rw [pwN_small v (by omega), bits_or_nat _ _ (by omega) (by omega), add_disj (by omega) (by omega)]
                apply Nat.eq_of_testBit_eq
                intro u
                rw [Nat.testBit_and, Nat.zero_testBit, Nat.testBit_two_pow]
                by_cases e : v = u
                · subst e; rw [hvS]; rfl
                · rw [decide_eq_false e, Bool.and_false]
              rw [ho] at HOk
              have hgg := HhI.out.vg
              have hlen := HhI.out.len
              have hWt : ∀ u, (putT rs kk aa).testBit u = true → u < k := fun u hu => by
                have h1 := HhI.out.within ho hu
                exact Nat.lt_of_not_le fun hc => by rw [testBit_ge HhI.out.lt hc] at h1; cases h1
              have hB1t : B1 = true := and_left_true HOk.out
              subst hB1t
              have g0 := HkG3.out.cell 0
              have g1 := HkG3.out.cell 1
              have g4 := HkG3.out.lt
              simp at g0 g1
              have hrow := fun (a : Nat) (ha : a < k) => (HhR3.out.cell a (by omega)).trans (by rw [hgg.row a (by omega)])
              have hrl := HhR3.out.lt
              have HWt := Lib.hid hWt
              have Hrow := Lib.hid hrow
              clear HNo HGo HStep HNb HGood hvS hWt hrow
              have HhV2 := Lib.hid hV2
              clear hV2
              have HhSt := Lib.hid hSt
              clear hSt
              have HhTv := Lib.hid hTv
              clear hTv
              have Hhor := Lib.hid hor
              clear hor
              have Hhgg := Lib.hid hgg
              clear hgg
              have Hhlen := Lib.hid hlen
              clear hlen
              have Hho := Lib.hid ho
              clear ho
              rcases (by omega : kk = 0 ∨ kk = 1 ∨ kk = 2 ∨ kk = 3) with rfl | rfl | rfl | rfl
              · obtain rfl := hg.2.1 rfl
                have hTe : (0 : Int) = ((putT rs 0 (-1) : Nat) : Int) := rfl
                clear hg hHas HOk
                generalize putT rs 0 (-1) = T at *
                have hC := implListB_any T hT7 W3
                rw [← hTe] at hC
                clear hTe
                go_wp2_with (first | (go_at_call 59; refine (hIn _).mono ?_; rintro e w' ⟨rfl, rfl⟩))
                refine hC.mono ?_
                rintro e w4 ⟨lo, lc, rfl, hB4, hL⟩
                replace hL : 0 < (els T).length → ∃ g, lo = some ⟨g, 0, none⟩ ∧ W3.heap.size ≤ g ∧ g < w4.heap.size ∧ ∀ k, k < (els T).length → w4.cell? ⟨g, k, none⟩ = some (.int .i64 (eln (els T) k : Int)) := hL
                have hO4 := HhO3.out.more hB4 HhO3.out.size
                have hR4 := HhR3.out.below hB4
                have q0 := (hB4.cell pl).trans p0
                replace g0 := (hB4.cell (p := ⟨y + 1, 0, none⟩) g4).trans g0
                replace g1 := (hB4.cell (p := ⟨y + 1, 1, none⟩) g4).trans g1
                have pl4 := Nat.lt_of_lt_of_le pl hB4.size
                replace g4 := Nat.lt_of_lt_of_le g4 hB4.size
                have HL := Lib.hid hL
                have HTt := Lib.hid (fun t ht => (els_has (S := T) (v := eln (els T) t) (N := 7) hT7 (by omega)).2 ⟨t, ht, rfl⟩)
                clear hL hB4 p0 p1 p2 hC hIn hIn2
                have hcT := cnt_le T
                have HhO4 := Lib.hid hO4
                clear hO4
                have HhR4 := Lib.hid hR4
                clear hR4
                go_wp2_with fail
                go_loopw [114] (fun ix wx => Only (fun b => b = y) w4.heap.size w4 wx ∧ ∃ t : Nat, t ≤ cnt T ∧ ix = .int .i64 t ∧ RowAt wx y k (joinV rs v T t)) (fun ix _ => cnt T - (intOf ix).toNat)
                case atStart => exact ⟨Only.refl _ _ _, 0, by omega, rfl, HhR4.out⟩
                case round =>
                  obtain ⟨hO, t, ht, rfl, hR⟩ := hrel
                  have z0 := (hO.cell (p := ⟨pb, 0, none⟩) pl4 Hhpy.out).trans q0
                  have z1 := (hO.cell (p := ⟨y + 1, 0, none⟩) g4 Hhyy.out).trans g0
                  have z2 := (hO.cell (p := ⟨y + 1, 1, none⟩) g4 Hhyy.out).trans g1
                  by_cases htt : t < cnt T
                  · obtain ⟨gl, rfl, hgl, hgl2, hgc⟩ := HL.out (by unfold cnt at htt; omega)
                    have z3 := (hO.cell (p := ⟨gl, t, none⟩) hgl2 (fun e => by have e2 : gl = y := e; omega)).trans (hgc t (by unfold cnt at htt; exact htt))
                    have hub := HTt.out t htt
                    have huk := HWt.out _ hub
                    have hne : eln (els T) t ≠ v := fun e => by rw [e, HhTv.out] at hub; cases hub
                    have hF := flip_any (joinV rs v T t) v (eln (els T) t) y k k wr (by rw [joinV_len, Hhlen.out]) hR (joinV_VG Hhgg.out hT7 HhTv.out) hvk2 huk (fun e => hne e.symm) (joinV_miss (by rw [Hhlen.out]; exact hvk2) (by rw [Hhlen.out]; exact huk) htt hne (HMs.out _ huk))
                    rw [← joinV_succ htt] at hF
                    clear hub huk hne hgc hR
                    generalize eln (els T) t = u at *
                    have HhO := Lib.hid hO
                    clear hO
                    go_wp2_with fail
                    refine hF.mono ?_
                    rintro e w5 ⟨rfl, hO5, hR5⟩
                    have hO6 := HhO.out.trans (hO5.mono HhO.out.size fun b _ h => h)
                    clear hF hO5 z0 z1 z2 z3 HhO
                    have HhO6 := Lib.hid hO6
                    clear hO6
                    have HhR5 := Lib.hid hR5
                    clear hR5
                    go_wp2_with fail
                    go_roundw
                    case rel => exact ⟨HhO6.out, t + 1, by omega, by go_num, HhR5.out⟩
                    case measure => first | (simp [intOf]; done) | (simp [intOf]; omega)
                  · obtain rfl : t = cnt T := by omega
                    have hO7 := HhO4.out.trans (hO.mono HhO4.out.size fun b _ h => h)
                    clear hO
                    have HhO7 := Lib.hid hO7
                    clear hO7
                    have HhR := Lib.hid hR
                    clear hR
                    have hor := Hhor.out
                    go_wp2_with fail
                    go_roundw
                    case rel => exact ⟨HhO7.out, S + 2 ^ v, i, _, by omega, by go_num, by first | rfl | rw [hor], HhSt.out, HhR.out, HhV2.out⟩
                    case measure => first | (simp [intOf]; done) | (simp [intOf]; omega)
              · obtain ⟨ha0, hak, haS⟩ := hg.2.2 (by decide)
                obtain ⟨a, rfl⟩ : ∃ a : Nat, aa = (a : Int) := ⟨aa.toNat, by omega⟩
                have hB2t : B2 = true := and_left_true (by have := HOk.out; rw [if_neg (by decide), Bool.true_and] at this; exact this)
                subst hB2t
                have hH := hHas rfl
                rw [haS] at hH
                rw [Int.toNat_natCast] at haS
                have hak2 : a < k := by omega
                have hpa := Nat.pow_le_pow_right (n := 2) (by decide) (show a ≤ 6 by omega)
                have hz := Hrow.out a hak2
                have hga := Hhgg.out.lt128 (by have := Hhlen.out; omega : a < rs.length)
                clear hg hHas HOk
                have hTe : pwN a = ((putT rs 1 (a : Int) : Nat) : Int) := by rw [pwN_small a (by omega)]; rfl
                generalize putT rs 1 (a : Int) = T at *
                have hC := implListB_any T hT7 W3
                rw [← hTe] at hC
                clear hTe
                go_wp2_with (first | (go_at_call 59; with_reducible refine (hIn _).mono ?_; rintro e w' ⟨rfl, rfl⟩) | (go_at_call 59; with_reducible refine (hIn2 _).mono ?_; rintro e w' ⟨rfl, rfl⟩) | (go_at_call 60; refine (hH _).mono ?_; rintro e w' ⟨rfl, rfl⟩))
                refine hC.mono ?_
                rintro e w4 ⟨lo, lc, rfl, hB4, hL⟩
                replace hL : 0 < (els T).length → ∃ g, lo = some ⟨g, 0, none⟩ ∧ W3.heap.size ≤ g ∧ g < w4.heap.size ∧ ∀ k, k < (els T).length → w4.cell? ⟨g, k, none⟩ = some (.int .i64 (eln (els T) k : Int)) := hL
                have hO4 := HhO3.out.more hB4 HhO3.out.size
                have hR4 := HhR3.out.below hB4
                have q0 := (hB4.cell pl).trans p0
                replace g0 := (hB4.cell (p := ⟨y + 1, 0, none⟩) g4).trans g0
                replace g1 := (hB4.cell (p := ⟨y + 1, 1, none⟩) g4).trans g1
                have pl4 := Nat.lt_of_lt_of_le pl hB4.size
                replace g4 := Nat.lt_of_lt_of_le g4 hB4.size
                have HL := Lib.hid hL
                have HTt := Lib.hid (fun t ht => (els_has (S := T) (v := eln (els T) t) (N := 7) hT7 (by omega)).2 ⟨t, ht, rfl⟩)
                clear hL hB4 p0 p1 p2 hC hIn hIn2
                have hcT := cnt_le T
                have HhO4 := Lib.hid hO4
                clear hO4
                have HhR4 := Lib.hid hR4
                clear hR4
                go_wp2_with fail
                go_loopw [114] (fun ix wx => Only (fun b => b = y) w4.heap.size w4 wx ∧ ∃ t : Nat, t ≤ cnt T ∧ ix = .int .i64 t ∧ RowAt wx y k (joinV rs v T t)) (fun ix _ => cnt T - (intOf ix).toNat)
                case atStart => exact ⟨Only.refl _ _ _, 0, by omega, rfl, HhR4.out⟩
                case round =>
                  obtain ⟨hO, t, ht, rfl, hR⟩ := hrel
                  have z0 := (hO.cell (p := ⟨pb, 0, none⟩) pl4 Hhpy.out).trans q0
                  have z1 := (hO.cell (p := ⟨y + 1, 0, none⟩) g4 Hhyy.out).trans g0
                  have z2 := (hO.cell (p := ⟨y + 1, 1, none⟩) g4 Hhyy.out).trans g1
                  by_cases htt : t < cnt T
                  · obtain ⟨gl, rfl, hgl, hgl2, hgc⟩ := HL.out (by unfold cnt at htt; omega)
                    have z3 := (hO.cell (p := ⟨gl, t, none⟩) hgl2 (fun e => by have e2 : gl = y := e; omega)).trans (hgc t (by unfold cnt at htt; exact htt))
                    have hub := HTt.out t htt
                    have huk := HWt.out _ hub
                    have hne : eln (els T) t ≠ v := fun e => by rw [e, HhTv.out] at hub; cases hub
                    have hF := flip_any (joinV rs v T t) v (eln (els T) t) y k k wr (by rw [joinV_len, Hhlen.out]) hR (joinV_VG Hhgg.out hT7 HhTv.out) hvk2 huk (fun e => hne e.symm) (joinV_miss (by rw [Hhlen.out]; exact hvk2) (by rw [Hhlen.out]; exact huk) htt hne (HMs.out _ huk))
                    rw [← joinV_succ htt] at hF
                    clear hub huk hne hgc hR
                    generalize eln (els T) t = u at *
                    have HhO := Lib.hid hO
                    clear hO
                    go_wp2_with fail
                    refine hF.mono ?_
                    rintro e w5 ⟨rfl, hO5, hR5⟩
                    have hO6 := HhO.out.trans (hO5.mono HhO.out.size fun b _ h => h)
                    clear hF hO5 z0 z1 z2 z3 HhO
                    have HhO6 := Lib.hid hO6
                    clear hO6
                    have HhR5 := Lib.hid hR5
                    clear hR5
                    go_wp2_with fail
                    go_roundw
                    case rel => exact ⟨HhO6.out, t + 1, by omega, by go_num, HhR5.out⟩
                    case measure => first | (simp [intOf]; done) | (simp [intOf]; omega)
                  · obtain rfl : t = cnt T := by omega
                    have hO7 := HhO4.out.trans (hO.mono HhO4.out.size fun b _ h => h)
                    clear hO
                    have HhO7 := Lib.hid hO7
                    clear hO7
                    have HhR := Lib.hid hR
                    clear hR
                    have hor := Hhor.out
                    go_wp2_with fail
                    go_roundw
                    case rel => exact ⟨HhO7.out, S + 2 ^ v, i, _, by omega, by go_num, by first | rfl | rw [hor], HhSt.out, HhR.out, HhV2.out⟩
                    case measure => first | (simp [intOf]; done) | (simp [intOf]; omega)
              · obtain ⟨ha0, hak, haS⟩ := hg.2.2 (by decide)
                obtain ⟨a, rfl⟩ : ∃ a : Nat, aa = (a : Int) := ⟨aa.toNat, by omega⟩
                have hB2t : B2 = true := and_left_true (by have := HOk.out; rw [if_neg (by decide), Bool.true_and] at this; exact this)
                subst hB2t
                have hH := hHas rfl
                rw [haS] at hH
                rw [Int.toNat_natCast] at haS
                have hak2 : a < k := by omega
                have hpa := Nat.pow_le_pow_right (n := 2) (by decide) (show a ≤ 6 by omega)
                have hz := Hrow.out a hak2
                have hga := Hhgg.out.lt128 (by have := Hhlen.out; omega : a < rs.length)
                clear hg hHas HOk
                have hTe : (gn rs a : Int) = ((putT rs 2 (a : Int) : Nat) : Int) := rfl
                generalize putT rs 2 (a : Int) = T at *
                have hC := implListB_any T hT7 W3
                rw [← hTe] at hC
                clear hTe
                go_wp2_with (first | (go_at_call 59; with_reducible refine (hIn _).mono ?_; rintro e w' ⟨rfl, rfl⟩) | (go_at_call 59; with_reducible refine (hIn2 _).mono ?_; rintro e w' ⟨rfl, rfl⟩) | (go_at_call 60; refine (hH _).mono ?_; rintro e w' ⟨rfl, rfl⟩))
                refine hC.mono ?_
                rintro e w4 ⟨lo, lc, rfl, hB4, hL⟩
                replace hL : 0 < (els T).length → ∃ g, lo = some ⟨g, 0, none⟩ ∧ W3.heap.size ≤ g ∧ g < w4.heap.size ∧ ∀ k, k < (els T).length → w4.cell? ⟨g, k, none⟩ = some (.int .i64 (eln (els T) k : Int)) := hL
                have hO4 := HhO3.out.more hB4 HhO3.out.size
                have hR4 := HhR3.out.below hB4
                have q0 := (hB4.cell pl).trans p0
                replace g0 := (hB4.cell (p := ⟨y + 1, 0, none⟩) g4).trans g0
                replace g1 := (hB4.cell (p := ⟨y + 1, 1, none⟩) g4).trans g1
                have pl4 := Nat.lt_of_lt_of_le pl hB4.size
                replace g4 := Nat.lt_of_lt_of_le g4 hB4.size
                have HL := Lib.hid hL
                have HTt := Lib.hid (fun t ht => (els_has (S := T) (v := eln (els T) t) (N := 7) hT7 (by omega)).2 ⟨t, ht, rfl⟩)
                clear hL hB4 p0 p1 p2 hC hIn hIn2
                have hcT := cnt_le T
                have HhO4 := Lib.hid hO4
                clear hO4
                have HhR4 := Lib.hid hR4
                clear hR4
                go_wp2_with fail
                go_loopw [114] (fun ix wx => Only (fun b => b = y) w4.heap.size w4 wx ∧ ∃ t : Nat, t ≤ cnt T ∧ ix = .int .i64 t ∧ RowAt wx y k (joinV rs v T t)) (fun ix _ => cnt T - (intOf ix).toNat)
                case atStart => exact ⟨Only.refl _ _ _, 0, by omega, rfl, HhR4.out⟩
                case round =>
                  obtain ⟨hO, t, ht, rfl, hR⟩ := hrel
                  have z0 := (hO.cell (p := ⟨pb, 0, none⟩) pl4 Hhpy.out).trans q0
                  have z1 := (hO.cell (p := ⟨y + 1, 0, none⟩) g4 Hhyy.out).trans g0
                  have z2 := (hO.cell (p := ⟨y + 1, 1, none⟩) g4 Hhyy.out).trans g1
                  by_cases htt : t < cnt T
                  · obtain ⟨gl, rfl, hgl, hgl2, hgc⟩ := HL.out (by unfold cnt at htt; omega)
                    have z3 := (hO.cell (p := ⟨gl, t, none⟩) hgl2 (fun e => by have e2 : gl = y := e; omega)).trans (hgc t (by unfold cnt at htt; exact htt))
                    have hub := HTt.out t htt
                    have huk := HWt.out _ hub
                    have hne : eln (els T) t ≠ v := fun e => by rw [e, HhTv.out] at hub; cases hub
                    have hF := flip_any (joinV rs v T t) v (eln (els T) t) y k k wr (by rw [joinV_len, Hhlen.out]) hR (joinV_VG Hhgg.out hT7 HhTv.out) hvk2 huk (fun e => hne e.symm) (joinV_miss (by rw [Hhlen.out]; exact hvk2) (by rw [Hhlen.out]; exact huk) htt hne (HMs.out _ huk))
                    rw [← joinV_succ htt] at hF
                    clear hub huk hne hgc hR
                    generalize eln (els T) t = u at *
                    have HhO := Lib.hid hO
                    clear hO
                    go_wp2_with fail
                    refine hF.mono ?_
                    rintro e w5 ⟨rfl, hO5, hR5⟩
                    have hO6 := HhO.out.trans (hO5.mono HhO.out.size fun b _ h => h)
                    clear hF hO5 z0 z1 z2 z3 HhO
                    have HhO6 := Lib.hid hO6
                    clear hO6
                    have HhR5 := Lib.hid hR5
                    clear hR5
                    go_wp2_with fail
                    go_roundw
                    case rel => exact ⟨HhO6.out, t + 1, by omega, by go_num, HhR5.out⟩
                    case measure => first | (simp [intOf]; done) | (simp [intOf]; omega)
                  · obtain rfl : t = cnt T := by omega
                    have hO7 := HhO4.out.trans (hO.mono HhO4.out.size fun b _ h => h)
                    clear hO
                    have HhO7 := Lib.hid hO7
                    clear hO7
                    have HhR := Lib.hid hR
                    clear hR
                    have hor := Hhor.out
                    go_wp2_with fail
                    go_roundw
                    case rel => exact ⟨HhO7.out, S + 2 ^ v, i, _, by omega, by go_num, by first | rfl | rw [hor], HhSt.out, HhR.out, HhV2.out⟩
                    case measure => first | (simp [intOf]; done) | (simp [intOf]; omega)
              · obtain ⟨ha0, hak, haS⟩ := hg.2.2 (by decide)
                obtain ⟨a, rfl⟩ : ∃ a : Nat, aa = (a : Int) := ⟨aa.toNat, by omega⟩
                have hB2t : B2 = true := and_left_true (by have := HOk.out; rw [if_neg (by decide), Bool.true_and] at this; exact this)
                subst hB2t
                have hH := hHas rfl
                rw [haS] at hH
                rw [Int.toNat_natCast] at haS
                have hak2 : a < k := by omega
                have hpa := Nat.pow_le_pow_right (n := 2) (by decide) (show a ≤ 6 by omega)
                have hz := Hrow.out a hak2
                have hga := Hhgg.out.lt128 (by have := Hhlen.out; omega : a < rs.length)
                clear hg hHas HOk
                have hTe : bits .or .i64 (gn rs a : Int) (pwN a) = ((putT rs 3 (a : Int) : Nat) : Int) := by rw [pwN_small a (by omega), bits_or_nat _ _ (by omega) (by omega)]; rfl
                generalize putT rs 3 (a : Int) = T at *
                have hC := fun w => implListB_any T hT7 w
                rw [← hTe] at hC
                clear hTe
                go_wp2_with (first | (go_at_call 59; with_reducible refine (hIn _).mono ?_; rintro e w' ⟨rfl, rfl⟩) | (go_at_call 59; with_reducible refine (hIn2 _).mono ?_; rintro e w' ⟨rfl, rfl⟩) | (go_at_call 60; refine (hH _).mono ?_; rintro e w' ⟨rfl, rfl⟩))
                obtain ⟨m, hm0⟩ : ∃ m : Later W3, m.w = W3 := ⟨Later.refl _, rfl⟩
                refine (fun h => hm0 ▸ h) ?_
                clear hm0
                refine wp_region_later m rfl (by kernel_rfl) (by kernel_rfl) ?_
                repeat (go_big_quiet_step (fail))
                refine wpQuiet_nil ?_
                rintro _ ⟨m, rfl⟩
                go_wp2_with fail
                refine (hC _).mono ?_
                rintro e w4 ⟨lo, lc, rfl, hB4, hL0⟩
                have hL : 0 < (els T).length → ∃ g, lo = some ⟨g, 0, none⟩ ∧ W3.heap.size ≤ g ∧ g < w4.heap.size ∧ ∀ k, k < (els T).length → w4.cell? ⟨g, k, none⟩ = some (.int .i64 (eln (els T) k : Int)) := fun h => by
                  obtain ⟨g, h1, h2, h3⟩ := hL0 h
                  exact ⟨g, h1, Nat.le_trans m.size h2, h3⟩
                replace hB4 := below_more m.below hB4
                clear hL0 m
                have hO4 := HhO3.out.more hB4 HhO3.out.size
                have hR4 := HhR3.out.below hB4
                have q0 := (hB4.cell pl).trans p0
                replace g0 := (hB4.cell (p := ⟨y + 1, 0, none⟩) g4).trans g0
                replace g1 := (hB4.cell (p := ⟨y + 1, 1, none⟩) g4).trans g1
                have pl4 := Nat.lt_of_lt_of_le pl hB4.size
                replace g4 := Nat.lt_of_lt_of_le g4 hB4.size
                have HL := Lib.hid hL
                have HTt := Lib.hid (fun t ht => (els_has (S := T) (v := eln (els T) t) (N := 7) hT7 (by omega)).2 ⟨t, ht, rfl⟩)
                clear hL hB4 p0 p1 p2 hC hIn hIn2
                have hcT := cnt_le T
                have HhO4 := Lib.hid hO4
                clear hO4
                have HhR4 := Lib.hid hR4
                clear hR4
                go_wp2_with fail
                go_loopw [114] (fun ix wx => Only (fun b => b = y) w4.heap.size w4 wx ∧ ∃ t : Nat, t ≤ cnt T ∧ ix = .int .i64 t ∧ RowAt wx y k (joinV rs v T t)) (fun ix _ => cnt T - (intOf ix).toNat)
                case atStart => exact ⟨Only.refl _ _ _, 0, by omega, rfl, HhR4.out⟩
                case round =>
                  obtain ⟨hO, t, ht, rfl, hR⟩ := hrel
                  have z0 := (hO.cell (p := ⟨pb, 0, none⟩) pl4 Hhpy.out).trans q0
                  have z1 := (hO.cell (p := ⟨y + 1, 0, none⟩) g4 Hhyy.out).trans g0
                  have z2 := (hO.cell (p := ⟨y + 1, 1, none⟩) g4 Hhyy.out).trans g1
                  by_cases htt : t < cnt T
                  · obtain ⟨gl, rfl, hgl, hgl2, hgc⟩ := HL.out (by unfold cnt at htt; omega)
                    have z3 := (hO.cell (p := ⟨gl, t, none⟩) hgl2 (fun e => by have e2 : gl = y := e; omega)).trans (hgc t (by unfold cnt at htt; exact htt))
                    have hub := HTt.out t htt
                    have huk := HWt.out _ hub
                    have hne : eln (els T) t ≠ v := fun e => by rw [e, HhTv.out] at hub; cases hub
                    have hF := flip_any (joinV rs v T t) v (eln (els T) t) y k k wr (by rw [joinV_len, Hhlen.out]) hR (joinV_VG Hhgg.out hT7 HhTv.out) hvk2 huk (fun e => hne e.symm) (joinV_miss (by rw [Hhlen.out]; exact hvk2) (by rw [Hhlen.out]; exact huk) htt hne (HMs.out _ huk))
                    rw [← joinV_succ htt] at hF
                    clear hub huk hne hgc hR
                    generalize eln (els T) t = u at *
                    have HhO := Lib.hid hO
                    clear hO
                    go_wp2_with fail
                    refine hF.mono ?_
                    rintro e w5 ⟨rfl, hO5, hR5⟩
                    have hO6 := HhO.out.trans (hO5.mono HhO.out.size fun b _ h => h)
                    clear hF hO5 z0 z1 z2 z3 HhO
                    have HhO6 := Lib.hid hO6
                    clear hO6
                    have HhR5 := Lib.hid hR5
                    clear hR5
                    go_wp2_with fail
                    go_roundw
                    case rel => exact ⟨HhO6.out, t + 1, by omega, by go_num, HhR5.out⟩
                    case measure => first | (simp [intOf]; done) | (simp [intOf]; omega)
                  · obtain rfl : t = cnt T := by omega
                    have hO7 := HhO4.out.trans (hO.mono HhO4.out.size fun b _ h => h)
                    clear hO
                    have HhO7 := Lib.hid hO7
                    clear hO7
                    have HhR := Lib.hid hR
                    clear hR
                    have hor := Hhor.out
                    go_wp2_with fail
                    go_roundw
                    case rel => exact ⟨HhO7.out, S + 2 ^ v, i, _, by omega, by go_num, by first | rfl | rw [hor], HhSt.out, HhR.out, HhV2.out⟩
                    case measure => first | (simp [intOf]; done) | (simp [intOf]; omega)
          · obtain rfl : j = 0 := by omega
            have hV2 : putV l k = some rs := HhV.out.symm
            have hlen := HhI.out.len
            have kF3 := HhO.out.blk HkF.out (by have := HkF.out.lt; omega) (fun e => by have e2 : w.heap.size = y := e; omega)
            have kG3 := HhO.out.blk HkG.out (by have := HkG.out.lt; omega) (fun e => Hhyy.out e)
            have g0 := kG3.cell 0
            have g1 := kG3.cell 1
            have f0 := kF3.cell 0
            have f1 := kF3.cell 1
            have f2 := kF3.frozen 0
            have f3 := kF3.frozen 1
            have f4 := kF3.lt
            simp at g0 g1 f0 f1
            have hF : Below w.heap.size w ((wr.setCell ⟨w.heap.size, 0, none⟩ (.int .i64 k)).setCell ⟨w.heap.size, 1, none⟩ (.slice (some ⟨y, 0, none⟩) k k)) :=
              ((HhBw.out.trans (HhO.out.below HhBw.out.size fun b hb e => by have e2 : b = y := e; omega)).setCell (by simp) _).setCell (by simp) _
            have hFR : RowAt ((wr.setCell ⟨w.heap.size, 0, none⟩ (.int .i64 k)).setCell ⟨w.heap.size, 1, none⟩ (.slice (some ⟨y, 0, none⟩) k k)) y k rs := (HhR.out.otherCell (by simp; omega)).otherCell (by simp; omega)
            clear kF3 kG3
            have HhV2 := Lib.hid hV2
            clear hV2
            have Hhlen := Lib.hid hlen
            clear hlen
            have HhF := Lib.hid hF
            clear hF
            have HhFR := Lib.hid hFR
            clear hFR
            go_wp2_with fail
            refine bodyPost_ret (v := .tuple #[.agg #[.int .i64 k, .slice (some ⟨y, 0, none⟩) k k], .bool true]) (by simp [results, Tryz.results14, go_sem, f0, f1]) rfl ?_
            rw [HhV2.out]
            exact RetG.of Hhlen.out rfl HhF.out (Nat.le_of_lt hyw) HhFR.out

end Go.Proofs.YtjikmjhpmkakoaaGreatDoor
