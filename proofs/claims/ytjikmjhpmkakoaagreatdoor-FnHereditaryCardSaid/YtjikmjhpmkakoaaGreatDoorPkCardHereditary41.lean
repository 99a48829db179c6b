/-
  GraphOfPrunes of the reference. For at most 2^20 prunes. UNDER WAY.
-/
import Derived.Test.YtjikmjhpmkakoaaGreatDoorPkCardHereditary40
import Derived.Test.YtjikmjhpmkakoaaGreatDoorPkCardHereditary21
namespace Go.Proofs.YtjikmjhpmkakoaaGreatDoor
open Go.RowKit

/-- AddEdge of the reference at two vertices of a graph whose rows lie in a row of their own. -/
theorem specAddE_any (rs : List Int) (a b gb cp N : Nat) (w : World) (hN : rs.length = N) (hR : RowAt w gb cp rs) (g : VG rs) (ha : a < N) (hb : b < N) (hab : a ≠ b) :
    Calls Tryz.prog 65 #[.agg #[.int .i64 N, .slice (some ⟨gb, 0, none⟩) N cp], .int .i64 a, .int .i64 b] w fun e w' => ∃ g1 cap ok, e = .returned (.tuple #[.agg #[.int .i64 N, .slice (some ⟨g1, 0, none⟩) N cap], .bool ok]) ∧ Below w.heap.size w w' ∧ w.heap.size ≤ g1 ∧ RowAt w' g1 cap (addE rs a b) := by
  subst hN
  have h7 := g.le
  have hA := specAddEdge_any rs.length rs a b _ cp w hR.ints (by omega) (by omega)
  have hV : addV rs.length rs a b = addE rs a b := by
    unfold addV; rw [if_pos (pair_ok g ha hb hab), Int.toNat_natCast, Int.toNat_natCast]
  rw [hV] at hA
  exact hA.mono fun e w' ⟨g1, cap, h⟩ => ⟨g1, cap, _, h⟩

theorem putV_len (l : List Int) (K : Nat) : ((putV l K).getD []).length ≤ 1048576 := by
  cases hp : permB (pvs l K)
  · rw [putV_no hp]; simp
  · have h1 := (permB_true hp).2.1
    rw [pvs_len] at h1
    rw [putV_of hp]
    cases h : putRun l K K (List.replicate K 0) 0 with
    | none => simp
    | some qs =>
      have := putRun_len _ _ _ _ h
      simp at this ⊢; omega

set_option maxRecDepth 100000 in
set_option maxHeartbeats 4000000 in
theorem specPut_any (l : List Int) (K : Nat) (ao : Option Addr) (c : Nat) (w : World) (hl : IntsAt w ao l) (hk : l.length = K * 3) (hK : K ≤ 1048576) :
    Calls Tryz.prog 17 #[.slice ao K c] w (RetG w ((putV l K).getD []) (putV l K).isSome) := by
  have hlk := hl.prn hk
  have Hlk := Lib.hid hlk
  clear hlk hl
  go_enter Tryz.func17, Tryz.ntmps17
  go_wp2_with fail
  generalize hW : World.alloc _ _ = W1
  obtain ⟨hB, hs1, k0, -⟩ := alloc2 hW
  have hs2 : w.heap.size < W1.heap.size := by omega
  clear hW hs1
  have HhB := Lib.hid hB
  clear hB
  have Hk0 := Lib.hid k0
  clear k0
  obtain ⟨m, hm0⟩ : ∃ m : Later W1, m.w = W1 := ⟨Later.refl _, rfl⟩
  refine (fun h => hm0 ▸ h) ?_
  clear hm0
  go_wp2_with fail
  go_loopw [4, 5] (fun o i wr => (∃ m : Later W1, wr = m.w) ∧ ∃ (k : Nat) (xo : Option Addr) (cap : Nat), k ≤ K ∧ i = .int .i64 k ∧ o = .slice xo k cap ∧ OwnE wr W1.heap.size xo cap (pvs l k)) (fun _ i _ => K - (intOf i).toNat)
  case atStart => exact ⟨⟨m, rfl⟩, 0, _, 0, by omega, rfl, rfl, OwnE.empty _ _ _⟩
  case round =>
    clear m
    obtain ⟨⟨m, rfl⟩, k, xo, cap, hkK, rfl, rfl, hO⟩ := hrel
    have HhO := Lib.hid hO
    clear hO
    by_cases hlt : k < K
    · obtain ⟨b, off, rfl, hb, h1, h2, h3⟩ := Hlk.out k hlt
      have hbW : b < W1.heap.size := by omega
      have x1 := (m.cell _ _ hbW).trans ((HhB.out.cell (p := ⟨b, off + k * 3, none⟩) hb).trans h1)
      have x2 := (m.cell _ _ hbW).trans ((HhB.out.cell (p := ⟨b, off + k * 3 + 1, none⟩) hb).trans h2)
      have x3 := (m.cell _ _ hbW).trans ((HhB.out.cell (p := ⟨b, off + k * 3 + 2, none⟩) hb).trans h3)
      clear h1 h2 h3
      have hm := m.size
      have hxl : (pvs l k).length ≤ 1048576 := by rw [pvs_len]; omega
      go_wp2_with (first | (at_builtin; go_must (refine wpList_append_e rfl _ _ rfl W1.heap.size cap xo (pvs l k) (pv l k) (by rw [pvs_len]; rfl) HhO.out rfl hm hxl ?_); intro ao1 cap1 w3 hown1 hB3))
      rw [pvs_succ] at hown1
      have hB4 : Below W1.heap.size W1 w3 := m.below.trans hB3
      clear x1 x2 x3
      have Hhown1 := Lib.hid hown1
      clear hown1
      have HhB4 := Lib.hid hB4
      clear hB4
      go_wp2_with fail
      go_roundw
      case rel => exact ⟨⟨⟨w3, HhB4.out⟩, rfl⟩, k + 1, ao1, cap1, by omega, by go_num, by rw [pvs_len], Hhown1.out⟩
      case measure => simp [intOf]; omega
    · obtain rfl : k = K := by omega
      clear hlt hkK
      have k0' := Hk0.out.later m
      have y0 := k0'.cell 0
      have y1 := k0'.cell 1
      have y2 := k0'.frozen 0
      have y3 := k0'.frozen 1
      simp at y0 y1
      have hC := specPerm_any (pvs l k) xo k cap m.w (by have := HhO.out.ints; exact this) (pvs_len l k).symm hK
      clear k0'
      cases hp : permB (pvs l k)
      · rw [hp] at hC
        have HE := Lib.hid (putV_no hp)
        clear hp
        go_wp2_with fail
        refine hC.mono ?_
        rintro e w2 ⟨rfl, hB2⟩
        obtain ⟨m, rfl⟩ : ∃ m2 : Later W1, m2.w = w2 := ⟨m.on hB2, rfl⟩
        clear hC hB2 y0 y1 y2 y3 HhO
        have k0' := Hk0.out.later m
        have y0 := k0'.cell 0
        have y1 := k0'.cell 1
        have y2 := k0'.frozen 0
        have y3 := k0'.frozen 1
        have y4 := k0'.lt
        simp at y0 y1
        have hF : Below w.heap.size w ((m.w.setCell ⟨w.heap.size, 0, none⟩ (.int .i64 0)).setCell ⟨w.heap.size, 1, none⟩ (.slice none 0 0)) := ((below_later HhB.out m).setCell (by simp) _).setCell (by simp) _
        clear k0'
        have HhF := Lib.hid hF
        clear hF
        go_wp2_with fail
        refine bodyPost_ret (v := .tuple #[.agg #[.int .i64 0, .slice none 0 0], .bool false]) (by simp [results, Tryz.results17, go_sem, y0, y1]) rfl ?_
        rw [HE.out]
        exact RetG.no rfl HhF.out
      · rw [hp] at hC
        have HE := Lib.hid (putV_of hp)
        have HP := Lib.hid hp
        have h7 := (permB_true hp).2.1
        have h1 := (permB_true hp).1
        rw [pvs_len] at h7 h1
        have hmk := run_make_ints k (by omega)
        clear hp
        go_wp2_with fail
        refine hC.mono ?_
        rintro e w2 ⟨rfl, hB2⟩
        obtain ⟨m, rfl⟩ : ∃ m2 : Later W1, m2.w = w2 := ⟨m.on hB2, rfl⟩
        clear hC hB2 y0 y1 y2 y3 HhO
        go_wp2_with fail
        clear hmk
        generalize hW2 : World.alloc _ _ = W2
        obtain ⟨hB2, hs3, kY, kG⟩ := alloc2 hW2
        have hBW := below_more m.below hB2
        have hBw := below_more' HhB.out hBW
        have hR : RowAt W2 m.w.heap.size k (List.replicate k 0) := by
          have := RowAt.of (w := W2) (b := m.w.heap.size) (xs := List.replicate k 0) kY (by simp; omega)
          simpa using this
        have kF := Hk0.out.below hBW (by have := Hk0.out.lt; omega)
        have hym := m.size
        clear hW2 kY hBW hB2 hs3 Hk0
        generalize m.w.heap.size = y at *
        clear m
        have hyw : w.heap.size < y := by omega
        have hyy : ¬ y + 1 = y := by omega
        have HPl : Hid (PrnAt W2 ao l k) := Lib.hid fun j hj => by
          obtain ⟨b, off, h1, h2, h3, h4, h5⟩ := Hlk.out j hj
          exact ⟨b, off, h1, Nat.lt_of_lt_of_le h2 hBw.size, (hBw.cell h2).trans h3, (hBw.cell h2).trans h4, (hBw.cell h2).trans h5⟩
        have HPb : Hid (∀ b off, ao = some ⟨b, off, none⟩ → 0 < k → ¬ b = y + 1) := Lib.hid fun b off e h => by
          obtain ⟨b', off', h1, h2, -⟩ := Hlk.out 0 h
          rw [h1] at e
          simp only [Option.some.injEq, Addr.mk.injEq] at e
          omega
        have HSt := Lib.hid (PutI.start HP.out)
        clear HhB Hlk
        have HhBw := Lib.hid hBw
        clear hBw
        have HkG := Lib.hid kG
        clear kG
        have HkF := Lib.hid kF
        clear kF
        have HhR := Lib.hid hR
        clear hR
        have Hhyy := Lib.hid hyy
        clear hyy
        go_wp2_with fail
        go_loopw [7, 8] (fun s i wr => Only (fun b => b = y + 1) W2.heap.size W2 wr ∧ ∃ (S j gb cp : Nat) (rs : List Int), j ≤ k ∧ i = .int .i64 ((j : Int) - 1) ∧ s = .int .i64 S ∧ PutI l k j rs S ∧ gb ≠ y + 1 ∧ y ≤ gb ∧ Blk wr (y + 1) #[.int .i64 k, .slice (some ⟨gb, 0, none⟩) k cp] 26 ∧ RowAt wr gb cp rs ∧ putRun l k j rs S = putV l k) (fun _ i _ => (intOf i + 1).toNat)
        case atStart => exact ⟨Only.refl _ _ _, 0, k, y, k, _, Nat.le_refl _, by go_num, rfl, HSt.out, by omega, Nat.le_refl _, HkG.out, HhR.out, HE.out.symm⟩
        case round =>
          clear HhR
          obtain ⟨hO, S, j, gb, cp, rs, hj, rfl, rfl, hI, hne, hgy, kb, hR, hV⟩ := hrel
          have HhO := Lib.hid hO
          clear hO
          have HhI := Lib.hid hI
          clear hI
          have HhR := Lib.hid hR
          clear hR
          have HhV := Lib.hid hV
          clear hV
          have Hkb := Lib.hid kb
          clear kb
          have Hhne := Lib.hid hne
          clear hne
          by_cases hlt : 0 < j
          · obtain ⟨i, rfl⟩ : ∃ i, j = i + 1 := ⟨j - 1, by omega⟩
            have hij : ((i + 1 : Nat) : Int) - 1 = (i : Int) := by omega
            rw [hij]
            obtain ⟨b, off, rfl, hb, x1, x2, x3⟩ := HPl.out i (by omega)
            have hby := HPb.out b off rfl (by omega)
            replace x1 := (HhO.out.cell (p := ⟨b, off + i * 3, none⟩) hb hby).trans x1
            replace x2 := (HhO.out.cell (p := ⟨b, off + i * 3 + 1, none⟩) hb hby).trans x2
            replace x3 := (HhO.out.cell (p := ⟨b, off + i * 3 + 2, none⟩) hb hby).trans x3
            go_wp2_with fail
            generalize hW3 : World.alloc _ _ = W3
            obtain ⟨hB3, -, kB⟩ := alloc1 hW3
            have hO3 := HhO.out.more hB3 HhO.out.size
            have hR3 := HhR.out.below hB3
            have hRl := HhR.out.lt
            have pl := kB.lt
            have p0 := kB.cell 0
            have p1 := kB.cell 1
            have p2 := kB.cell 2
            simp at p0 p1 p2
            obtain ⟨hv0, hvk, hvS⟩ := HhI.out.vertex HP.out (by omega : i < k)
            have HOk := Lib.hid (putOk_eq k S (pk l i) (pa l i))
            have hS7 : S < 128 := Nat.lt_of_lt_of_le HhI.out.lt (Nat.pow_le_pow_right (n := 2) (by decide) h7)
            have hIn := fun w => l1In_any (pk l i) 0 3 w
            have hIn2 := fun w => l1In_any (pa l i) 0 ((k : Int) - 1) w
            have HNo := Lib.hid (fun h => putRun_no (K := k) (S := S) (rs := rs) (l := l) (i := i) h)
            have HGo := Lib.hid (fun h => putRun_go (K := k) (S := S) (rs := rs) (l := l) (i := i) h)
            have HGood := Lib.hid (fun h => (putOk_true (K := k) (S := S) (k := pk l i) (a := pa l i) h))
            have HStep := Lib.hid (fun h => HhI.out.step HP.out (by omega : i < k) (k := pk l i) (a := pa l i) h)
            have HNb := Lib.hid (fun h => HhI.out.nb HP.out (by omega : i < k) (k := pk l i) (a := pa l i) h)
            have HMs := Lib.hid (fun u hu => HhI.out.miss HP.out (by omega : i < k) (u := u) hu)
            have kF3 := hO3.blk HkF.out (by have := HkF.out.lt; omega) (fun e => by have e2 : w.heap.size = y + 1 := e; omega)
            have kb3 := Hkb.out.below hB3 Hkb.out.lt
            have hbl := Hkb.out.lt
            have hpy : ¬ wr.heap.size = y + 1 := by omega
            clear hW3 kB hB3 HhO x1 x2 x3
            generalize wr.heap.size = pb at *
            generalize hkk : pk l i = kk at *
            generalize haa : pa l i = aa at *
            generalize hvv : pv l i = vv at *
            have HhO3 := Lib.hid hO3
            clear hO3
            have HhR3 := Lib.hid hR3
            clear hR3
            have HkF3 := Lib.hid kF3
            clear kF3
            have Hkb3 := Lib.hid kb3
            clear kb3
            have Hhpy := Lib.hid hpy
            clear hpy
            have Hhkk := Lib.hid hkk
            clear hkk
            have Hhaa := Lib.hid haa
            clear haa
            have Hhvv := Lib.hid hvv
            clear hvv
            generalize (decide (0 ≤ kk) && decide (kk ≤ 3)) = B1 at *
            generalize hB2 : (decide (0 ≤ aa) && decide (aa ≤ (k : Int) - 1)) = B2 at *
            cases ho : putOk k S kk aa
            · have hV2 : putV l k = none := by rw [← HhV.out]; exact HNo.out ho
              rw [ho] at HOk
              have f0 := HkF3.out.cell 0
              have f1 := HkF3.out.cell 1
              have f2 := HkF3.out.frozen 0
              have f3 := HkF3.out.frozen 1
              have f4 := HkF3.out.lt
              simp at f0 f1
              have hF : Below w.heap.size w ((W3.setCell ⟨w.heap.size, 0, none⟩ (.int .i64 0)).setCell ⟨w.heap.size, 1, none⟩ (.slice none 0 0)) :=
                ((HhBw.out.trans (HhO3.out.below HhBw.out.size fun b hb e => by have e2 : b = y + 1 := e; omega)).setCell (by simp) _).setCell (by simp) _
              clear ho HNo HGo HStep HNb HMs HGood
              have HhV2 := Lib.hid hV2
              clear hV2
              have HhF := Lib.hid hF
              clear hF
              have HB2 := Lib.hid hB2
              clear hB2
              cases B1
              · go_wp2_with (first | (go_at_call 54; refine (hIn _).mono ?_; rintro e w' ⟨rfl, rfl⟩))
                refine bodyPost_ret (v := .tuple #[.agg #[.int .i64 0, .slice none 0 0], .bool false]) (by simp [results, Tryz.results17, go_sem, f0, f1]) rfl ?_
                rw [HhV2.out]
                exact RetG.no rfl HhF.out
              · by_cases h0 : kk = 0
                · subst h0
                  have ha : (aa == -1) = false := by
                    have := HOk.out
                    rw [if_pos rfl] at this
                    rw [beq_eq_false_iff_ne]; intro e; rw [e] at this; simp at this
                  go_wp2_with (first | (go_at_call 54; refine (hIn _).mono ?_; rintro e w' ⟨rfl, rfl⟩))
                  refine bodyPost_ret (v := .tuple #[.agg #[.int .i64 0, .slice none 0 0], .bool false]) (by simp [results, Tryz.results17, go_sem, f0, f1]) rfl ?_
                  rw [HhV2.out]
                  exact RetG.no rfl HhF.out
                · have h1 : (kk == 0) = false := by simpa using h0
                  have h2 : (kk != 0) = true := by simpa using h0
                  by_cases hm1 : aa = -1
                  · subst hm1
                    go_wp2_with (first | (go_at_call 54; refine (hIn _).mono ?_; rintro e w' ⟨rfl, rfl⟩))
                    refine bodyPost_ret (v := .tuple #[.agg #[.int .i64 0, .slice none 0 0], .bool false]) (by simp [results, Tryz.results17, go_sem, f0, f1]) rfl ?_
                    rw [HhV2.out]
                    exact RetG.no rfl HhF.out
                  · have h3 : (aa == -1) = false := by simpa using hm1
                    cases B2
                    · go_wp2_with (first | (go_at_call 54; with_reducible refine (hIn _).mono ?_; rintro e w' ⟨rfl, rfl⟩) | (go_at_call 54; with_reducible refine (hIn2 _).mono ?_; rintro e w' ⟨rfl, rfl⟩))
                      refine bodyPost_ret (v := .tuple #[.agg #[.int .i64 0, .slice none 0 0], .bool false]) (by simp [results, Tryz.results17, go_sem, f0, f1]) rfl ?_
                      rw [HhV2.out]
                      exact RetG.no rfl HhF.out
                    · have hb : S.testBit aa.toNat = false := by
                        have := HOk.out
                        rw [if_neg h0] at this
                        simpa using this.symm
                      obtain ⟨a, rfl⟩ : ∃ a : Nat, aa = (a : Int) := ⟨aa.toNat, by have := HB2.out; simp at this; omega⟩
                      rw [Int.toNat_natCast] at hb
                      have hH : hasN (S : Int) a = false := by rw [hasN_nat]; exact hb
                      have hak : a < k := by have := HB2.out; simp at this; omega
                      go_wp2_with (first | (go_at_call 54; with_reducible refine (hIn _).mono ?_; rintro e w' ⟨rfl, rfl⟩) | (go_at_call 54; with_reducible refine (hIn2 _).mono ?_; rintro e w' ⟨rfl, rfl⟩))
                      refine bodyPost_ret (v := .tuple #[.agg #[.int .i64 0, .slice none 0 0], .bool false]) (by simp [results, Tryz.results17, go_sem, f0, f1]) rfl ?_
                      rw [HhV2.out]
                      exact RetG.no rfl HhF.out
            · have hg := HGood.out ho
              obtain ⟨v, rfl⟩ : ∃ v : Nat, vv = (v : Int) := ⟨vv.toNat, by omega⟩
              have hV2 := HhV.out
              rw [HGo.out ho] at hV2
              have hSt := HStep.out ho
              obtain ⟨-, hT7, hTv⟩ := HNb.out ho
              simp only [Int.toNat_natCast] at hV2 hSt hTv HMs hvS
              have hvk2 : v < k := by omega
              have hpv := Nat.pow_le_pow_right (n := 2) (by decide) (show v ≤ 6 by omega)
              have hor : wrap64 ((S : Int) + pwN v) = ((S + 2 ^ v : Nat) : Int) := by
                rw [pwN_small v (by omega)]
                exact (by decide +kernel : ∀ S : Fin 128, ∀ v : Fin 7, wrap64 ((S.val : Int) + ((2 ^ v.val : Nat) : Int)) = ((S.val + 2 ^ v.val : Nat) : Int)) ⟨S, hS7⟩ ⟨v, by omega⟩
              rw [ho] at HOk
              have hgg := HhI.out.vg
              have hlen := HhI.out.len
              have hWt : ∀ u, (putT rs kk aa).testBit u = true → u < k := fun u hu => by
                have h1 := HhI.out.within ho hu
                exact Nat.lt_of_not_le fun hc => by rw [testBit_ge HhI.out.lt hc] at h1; cases h1
              have hB1t : B1 = true := and_left_true HOk.out
              subst hB1t
              have g0 := Hkb3.out.cell 0
              have g1 := Hkb3.out.cell 1
              have g4 := Hkb3.out.lt
              simp at g0 g1
              have HWt := Lib.hid hWt
              have HB2 := Lib.hid hB2
              clear HNo HGo HStep HNb HGood hvS hWt hB2
              have HhV2 := Lib.hid hV2
              clear hV2
              have HhSt := Lib.hid hSt
              clear hSt
              have HhTv := Lib.hid hTv
              clear hTv
              have Hhor := Lib.hid hor
              clear hor
              have Hhgg := Lib.hid hgg
              clear hgg
              have Hhlen := Lib.hid hlen
              clear hlen
              have Hho := Lib.hid ho
              clear ho
              rcases (by omega : kk = 0 ∨ kk = 1 ∨ kk = 2 ∨ kk = 3) with rfl | rfl | rfl | rfl
              · obtain rfl := hg.2.1 rfl
                have hSv := Hhor.out
                have hSt := HhSt.out
                have hV2 := HhV2.out
                rw [put_0] at hSt hV2
                have HSt2 := Lib.hid hSt
                have HV2 := Lib.hid hV2
                clear hg HOk hSt hV2
                go_wp2_with (first | (go_at_call 54; refine (hIn _).mono ?_; rintro e w' ⟨rfl, rfl⟩))
                go_roundw
                case rel => exact ⟨HhO3.out, S + 2 ^ v, i, gb, cp, rs, by omega, by go_num, by rw [hSv], HSt2.out, Hhne.out, hgy, Hkb3.out, HhR3.out, HV2.out⟩
                case measure => first | (simp [intOf]; done) | (simp [intOf]; omega)
              · obtain ⟨ha0, hak, haS⟩ := hg.2.2 (by decide)
                obtain ⟨a, rfl⟩ : ∃ a : Nat, aa = (a : Int) := ⟨aa.toNat, by omega⟩
                rw [Int.toNat_natCast] at haS
                have hB2t : B2 = true := and_left_true (by have := HOk.out; rw [if_neg (by decide), Bool.true_and] at this; exact this)
                subst hB2t
                have hak2 : a < k := by omega
                have hH : hasN (S : Int) a = true := by rw [hasN_nat]; exact haS
                have hva : v ≠ a := fun e => by
                  have h1 := HhTv.out
                  rw [show putT rs 1 (a : Int) = 2 ^ a from rfl, e, Bool.eq_false_iff] at h1
                  exact h1 (pow_bit.2 rfl)
                have hone := HhI.out.one HP.out (by omega : i < k) Hho.out
                rw [Hhvv.out] at hone
                simp only [Int.toNat_natCast] at hone
                have hAd := specAddE_any rs v a gb cp k W3 Hhlen.out HhR3.out Hhgg.out hvk2 hak2 hva
                have hSt := HhSt.out
                have hV2 := HhV2.out
                rw [hone] at hSt hV2
                have HSt2 := Lib.hid hSt
                have HV2 := Lib.hid hV2
                have HAd := Lib.hid hAd
                have HSv := Lib.hid Hhor.out
                clear hg HOk hSt hV2 hone hAd hva haS HMs Hhor
                go_wp2_with (first | (go_at_call 54; with_reducible refine (hIn _).mono ?_; rintro e w' ⟨rfl, rfl⟩) | (go_at_call 54; with_reducible refine (hIn2 _).mono ?_; rintro e w' ⟨rfl, rfl⟩))
                refine (HAd.out).mono ?_
                rintro e w5 ⟨g5, cp5, ok5, rfl, hB5, hg5, hR5⟩
                have k5 := Hkb3.out.below hB5 Hkb3.out.lt
                have hOs := HhO3.out.size
                have hne6 : g5 ≠ y + 1 := by have := Hkb3.out.lt; omega
                have r0 := k5.cell 0
                have r1 := k5.cell 1
                have r2 := k5.frozen 0
                have r3 := k5.frozen 1
                have r4 := k5.lt
                simp at r0 r1
                have hO6 : Only (fun b => b = y + 1) W2.heap.size W2 ((w5.setCell ⟨y + 1, 0, none⟩ (.int .i64 k)).setCell ⟨y + 1, 1, none⟩ (.slice (some ⟨g5, 0, none⟩) k cp5)) :=
                  ((HhO3.out.more hB5 HhO3.out.size).setCell (p := ⟨y + 1, 0, none⟩) (.inl rfl) _).setCell (p := ⟨y + 1, 1, none⟩) (.inl rfl) _
                have k6 : Blk ((w5.setCell ⟨y + 1, 0, none⟩ (.int .i64 k)).setCell ⟨y + 1, 1, none⟩ (.slice (some ⟨g5, 0, none⟩) k cp5)) (y + 1) #[.int .i64 k, .slice (some ⟨g5, 0, none⟩) k cp5] 26 := by
                  have := (k5.store 0 (.int .i64 k)).store 1 (.slice (some ⟨g5, 0, none⟩) k cp5)
                  simpa using this
                have hR6 : RowAt ((w5.setCell ⟨y + 1, 0, none⟩ (.int .i64 k)).setCell ⟨y + 1, 1, none⟩ (.slice (some ⟨g5, 0, none⟩) k cp5)) g5 cp5 _ := (hR5.otherCell (by simp; omega)).otherCell (by simp; omega)
                have hgy6 : y ≤ g5 := by have := Hkb3.out.lt; omega
                have hpy2 := Hhpy.out
                have s0 : w5.cell? ⟨pb, 0, none⟩ = _ := (hB5.cell (p := ⟨pb, 0, none⟩) pl).trans p0
                have s1 := Nat.lt_of_lt_of_le pl hB5.size
                clear k5 hR5 hB5 hg5 hOs
                have HhO6 := Lib.hid hO6
                clear hO6
                have Hk6 := Lib.hid k6
                clear k6
                have HhR6 := Lib.hid hR6
                clear hR6
                have Hhne6 := Lib.hid hne6
                clear hne6
                have hSv := HSv.out
                go_wp2_with fail
                go_roundw
                case rel => exact ⟨HhO6.out, S + 2 ^ v, i, g5, cp5, _, by omega, by go_num, by first | rfl | rw [hSv], HSt2.out, Hhne6.out, hgy6, Hk6.out, HhR6.out, HV2.out⟩
                case measure => first | (simp [intOf]; done) | (simp [intOf]; omega)
              · obtain ⟨ha0, hak, haS⟩ := hg.2.2 (by decide)
                obtain ⟨a, rfl⟩ : ∃ a : Nat, aa = (a : Int) := ⟨aa.toNat, by omega⟩
                rw [Int.toNat_natCast] at haS
                have hB2t : B2 = true := and_left_true (by have := HOk.out; rw [if_neg (by decide), Bool.true_and] at this; exact this)
                subst hB2t
                have hak2 : a < k := by omega
                have hH : hasN (S : Int) a = true := by rw [hasN_nat]; exact haS
                have hz := (HhR3.out.cell a (by rw [Hhlen.out]; exact hak2)).trans (by rw [Hhgg.out.row a (by rw [Hhlen.out]; exact hak2)])
                have hgl3 := HhR3.out.lt
                have hT7 := Hhgg.out.lt128 (by have := Hhlen.out; omega : a < rs.length)
                have hsub : ∀ u, (gn rs a).testBit u = true → (putT rs 2 (a : Int)).testBit u = true := fun u hu => by
                  rw [show putT rs 2 (a : Int) = gn rs a from rfl]
                  exact hu
                have hTv2 : (gn rs a).testBit v = false := by
                  rw [Bool.eq_false_iff]
                  intro h
                  have := hsub v h
                  rw [HhTv.out] at this; cases this
                have hWt2 : ∀ u, (gn rs a).testBit u = true → u < k := fun u hu => HWt.out u (hsub u hu)
                have hSt := HhSt.out
                have hV2 := HhV2.out
                rw [put_2, Int.toNat_natCast] at hSt hV2
                have HSt2 := Lib.hid hSt
                have HV2 := Lib.hid hV2
                have HSv := Lib.hid Hhor.out
                have HTv := Lib.hid hTv2
                have HWt2 := Lib.hid hWt2
                clear hg HOk hSt hV2 haS HWt hsub hTv2 hWt2 HhTv HhSt HhV2 Hhor
                generalize gn rs a = T at *
                go_wp2_with (first | (go_at_call 54; with_reducible refine (hIn _).mono ?_; rintro e w' ⟨rfl, rfl⟩) | (go_at_call 54; with_reducible refine (hIn2 _).mono ?_; rintro e w' ⟨rfl, rfl⟩))
                refine (specListB_any T hT7 W3).mono ?_
                rintro e w4 ⟨lo, lc, rfl, hB4, hL⟩
                replace hL : 0 < (els T).length → ∃ g, lo = some ⟨g, 0, none⟩ ∧ W3.heap.size ≤ g ∧ g < w4.heap.size ∧ ∀ k, k < (els T).length → w4.cell? ⟨g, k, none⟩ = some (.int .i64 (eln (els T) k : Int)) := hL
                have hO4 := HhO3.out.more hB4 HhO3.out.size
                have hR4 := HhR3.out.below hB4
                have kb4 := Hkb3.out.below hB4 Hkb3.out.lt
                have q0 := (hB4.cell pl).trans p0
                have q1 := (hB4.cell pl).trans p1
                have q2 := (hB4.cell pl).trans p2
                have pl4 := Nat.lt_of_lt_of_le pl hB4.size
                have HL := Lib.hid hL
                have HTt := Lib.hid (fun t ht => (els_has (S := T) (v := eln (els T) t) (N := 7) hT7 (by omega)).2 ⟨t, ht, rfl⟩)
                clear hL hB4 p0 p1 p2 hIn hIn2 hz g0 g1
                have hcT := cnt_le T
                have HhO4 := Lib.hid hO4
                clear hO4
                have HhR4 := Lib.hid hR4
                clear hR4
                have Hkb4 := Lib.hid kb4
                clear kb4
                go_wp2_with fail
                go_loopw [11] (fun ix wx => Only (fun b => b = y + 1) w4.heap.size w4 wx ∧ ∃ t gc cp : Nat, t ≤ cnt T ∧ ix = .int .i64 t ∧ gc ≠ y + 1 ∧ y ≤ gc ∧ Blk wx (y + 1) #[.int .i64 k, .slice (some ⟨gc, 0, none⟩) k cp] 26 ∧ RowAt wx gc cp (joinV rs v T t)) (fun ix _ => cnt T - (intOf ix).toNat)
                case atStart => exact ⟨Only.refl _ _ _, 0, gb, cp, by omega, rfl, Hhne.out, hgy, Hkb4.out, HhR4.out⟩
                case round =>
                  clear Hhne hgy
                  skip
                  obtain ⟨hO, t, gc, cp, ht, rfl, hne, hgy, kb, hR⟩ := hrel
                  by_cases htt : t < cnt T
                  · obtain ⟨gl, rfl, hgl, hgl2, hgc⟩ := HL.out (by unfold cnt at htt; omega)
                    have gb4 := Hkb4.out.lt
                    have z0 := (hO.cell (p := ⟨pb, 0, none⟩) pl4 Hhpy.out).trans q0
                    have z3 := (hO.cell (p := ⟨gl, t, none⟩) hgl2 (fun e => by have e2 : gl = y + 1 := e; omega)).trans (hgc t (by unfold cnt at htt; exact htt))
                    have pl5 := Nat.lt_of_lt_of_le pl4 hO.size
                    have gl5 := Nat.lt_of_lt_of_le hgl2 hO.size
                    have x0 := kb.cell 0
                    have x1 := kb.cell 1
                    have ozr := kb.lt
                    simp at x0 x1
                    have hub := HTt.out t htt
                    have huk := HWt2.out _ hub
                    have hue : eln (els T) t ≠ v := fun e => by rw [e, HTv.out] at hub; cases hub
                    have hAd := fun w5 (hR5 : RowAt w5 gc cp (joinV rs v T t)) => specAddE_any (joinV rs v T t) v (eln (els T) t) gc cp k w5 (by rw [joinV_len, Hhlen.out]) hR5 (joinV_VG Hhgg.out hT7 HTv.out) hvk2 huk (fun e => hue e.symm)
                    rw [← joinV_succ htt] at hAd
                    have HAd := Lib.hid hAd
                    clear hub huk hue hgc hAd
                    generalize eln (els T) t = u at *
                    have HhO := Lib.hid hO
                    clear hO
                    have HhR := Lib.hid hR
                    clear hR
                    have Hkb := Lib.hid kb
                    clear kb
                    have Hhne := Lib.hid hne
                    clear hne
                    go_wp2_with fail
                    go_region_with ((go_at_call 65; refine (HAd.out _ (HhR.out.below (Below.refl _ wr).drew)).mono ?_; rintro e w5 ⟨g5, cp5, ok5, rfl, hB5, hg5, hR5⟩; have hB6 : Below wr.heap.size wr w5 := (Below.refl _ wr).drew.trans hB5; have k5 := Hkb.out.below hB6 Hkb.out.lt; have r0 := k5.cell 0; have r1 := k5.cell 1; have r2 := k5.frozen 0; have r3 := k5.frozen 1; have r4 := k5.lt; simp at r0 r1))
                    all_goals
                      have hg6 : wr.heap.size ≤ g5 := hg5
                      have hwo := HhO.out.size
                      have hne6 : g5 ≠ y + 1 := by omega
                      have hO6 : Only (fun b => b = y + 1) w4.heap.size w4 ((w5.setCell ⟨y + 1, 0, none⟩ (.int .i64 k)).setCell ⟨y + 1, 1, none⟩ (.slice (some ⟨g5, 0, none⟩) k cp5)) :=
                        ((HhO.out.more hB6 HhO.out.size).setCell (p := ⟨y + 1, 0, none⟩) (.inl rfl) _).setCell (p := ⟨y + 1, 1, none⟩) (.inl rfl) _
                      have k6 : Blk ((w5.setCell ⟨y + 1, 0, none⟩ (.int .i64 k)).setCell ⟨y + 1, 1, none⟩ (.slice (some ⟨g5, 0, none⟩) k cp5)) (y + 1) #[.int .i64 k, .slice (some ⟨g5, 0, none⟩) k cp5] 26 := by
                        have := (k5.store 0 (.int .i64 k)).store 1 (.slice (some ⟨g5, 0, none⟩) k cp5)
                        simpa using this
                      have hR6 : RowAt ((w5.setCell ⟨y + 1, 0, none⟩ (.int .i64 k)).setCell ⟨y + 1, 1, none⟩ (.slice (some ⟨g5, 0, none⟩) k cp5)) g5 cp5 (joinV rs v T (t + 1)) := (hR5.otherCell (by simp; omega)).otherCell (by simp; omega)
                      have hgy6 : y ≤ g5 := by omega
                      generalize World.setCell _ _ _ = W6 at *
                      clear k5 r0 r1 r2 r3 r4 hR5 hB6 hB5 hg5 hg6 z0 z3 x0 x1
                      have HhO6 := Lib.hid hO6
                      clear hO6
                      have Hk6 := Lib.hid k6
                      clear k6
                      have HhR6 := Lib.hid hR6
                      clear hR6
                      have Hhne6 := Lib.hid hne6
                      clear hne6
                      go_wp2_with fail
                      go_roundw
                      case rel => exact ⟨HhO6.out, t + 1, g5, cp5, by omega, by go_num, Hhne6.out, hgy6, Hk6.out, HhR6.out⟩
                      case measure => first | (simp [intOf]; done) | (simp [intOf]; omega)
                  · obtain rfl : t = cnt T := by omega
                    have z0 := (hO.cell (p := ⟨pb, 0, none⟩) pl4 Hhpy.out).trans q0
                    have z1 := (hO.cell (p := ⟨pb, 1, none⟩) pl4 Hhpy.out).trans q1
                    have z2 := (hO.cell (p := ⟨pb, 2, none⟩) pl4 Hhpy.out).trans q2
                    have pl5 := Nat.lt_of_lt_of_le pl4 hO.size
                    have hO7 := HhO4.out.trans (hO.mono HhO4.out.size fun b _ h => h)
                    have x0 := kb.cell 0
                    have x1 := kb.cell 1
                    have ozr := kb.lt
                    simp at x0 x1
                    clear hO
                    have HhO7 := Lib.hid hO7
                    clear hO7
                    have HhR := Lib.hid hR
                    clear hR
                    have Hkb := Lib.hid kb
                    clear kb
                    have Hhne := Lib.hid hne
                    clear hne
                    have hSv := HSv.out
                    go_wp2_with fail
                    go_roundw
                    case rel => exact ⟨HhO7.out, S + 2 ^ v, i, gc, cp, _, by omega, by go_num, by first | rfl | rw [hSv], HSt2.out, Hhne.out, hgy, Hkb.out, HhR.out, HV2.out⟩
                    case measure => first | (simp [intOf]; done) | (simp [intOf]; omega)
              · obtain ⟨ha0, hak, haS⟩ := hg.2.2 (by decide)
                obtain ⟨a, rfl⟩ : ∃ a : Nat, aa = (a : Int) := ⟨aa.toNat, by omega⟩
                rw [Int.toNat_natCast] at haS
                have hB2t : B2 = true := and_left_true (by have := HOk.out; rw [if_neg (by decide), Bool.true_and] at this; exact this)
                subst hB2t
                have hak2 : a < k := by omega
                have hH : hasN (S : Int) a = true := by rw [hasN_nat]; exact haS
                have hz := (HhR3.out.cell a (by rw [Hhlen.out]; exact hak2)).trans (by rw [Hhgg.out.row a (by rw [Hhlen.out]; exact hak2)])
                have hgl3 := HhR3.out.lt
                have hT7 := Hhgg.out.lt128 (by have := Hhlen.out; omega : a < rs.length)
                have hsub : ∀ u, (gn rs a).testBit u = true → (putT rs 3 (a : Int)).testBit u = true := fun u hu => by
                  rw [show putT rs 3 (a : Int) = gn rs a ||| 2 ^ a from rfl]
                  rw [Nat.testBit_or, hu]; rfl
                have hTv2 : (gn rs a).testBit v = false := by
                  rw [Bool.eq_false_iff]
                  intro h
                  have := hsub v h
                  rw [HhTv.out] at this; cases this
                have hWt2 : ∀ u, (gn rs a).testBit u = true → u < k := fun u hu => HWt.out u (hsub u hu)
                have hSt := HhSt.out
                have hV2 := HhV2.out
                have hva : v ≠ a := fun e => by
                  have h1 := HhTv.out
                  rw [show putT rs 3 (a : Int) = gn rs a ||| 2 ^ a from rfl, Nat.testBit_or, Bool.or_eq_false_iff] at h1
                  have h2 := h1.2
                  rw [e, Bool.eq_false_iff] at h2
                  exact h2 (pow_bit.2 rfl)
                have Hva := Lib.hid hva
                have hone := HhI.out.three HP.out (by omega : i < k) Hho.out
                rw [Hhvv.out] at hone
                simp only [Int.toNat_natCast] at hone
                rw [hone] at hSt hV2
                clear hone hva
                have HSt2 := Lib.hid hSt
                have HV2 := Lib.hid hV2
                have HSv := Lib.hid Hhor.out
                have HTv := Lib.hid hTv2
                have HWt2 := Lib.hid hWt2
                clear hg HOk hSt hV2 haS HWt hsub hTv2 hWt2 HhTv HhSt HhV2 Hhor
                generalize gn rs a = T at *
                go_wp2_with (first | (go_at_call 54; with_reducible refine (hIn _).mono ?_; rintro e w' ⟨rfl, rfl⟩) | (go_at_call 54; with_reducible refine (hIn2 _).mono ?_; rintro e w' ⟨rfl, rfl⟩))
                refine (specListB_any T hT7 W3).mono ?_
                rintro e w4 ⟨lo, lc, rfl, hB4, hL⟩
                replace hL : 0 < (els T).length → ∃ g, lo = some ⟨g, 0, none⟩ ∧ W3.heap.size ≤ g ∧ g < w4.heap.size ∧ ∀ k, k < (els T).length → w4.cell? ⟨g, k, none⟩ = some (.int .i64 (eln (els T) k : Int)) := hL
                have hO4 := HhO3.out.more hB4 HhO3.out.size
                have hR4 := HhR3.out.below hB4
                have kb4 := Hkb3.out.below hB4 Hkb3.out.lt
                have q0 := (hB4.cell pl).trans p0
                have q1 := (hB4.cell pl).trans p1
                have q2 := (hB4.cell pl).trans p2
                have pl4 := Nat.lt_of_lt_of_le pl hB4.size
                have HL := Lib.hid hL
                have HTt := Lib.hid (fun t ht => (els_has (S := T) (v := eln (els T) t) (N := 7) hT7 (by omega)).2 ⟨t, ht, rfl⟩)
                clear hL hB4 p0 p1 p2 hIn hIn2 hz g0 g1
                have hcT := cnt_le T
                have HhO4 := Lib.hid hO4
                clear hO4
                have HhR4 := Lib.hid hR4
                clear hR4
                have Hkb4 := Lib.hid kb4
                clear kb4
                go_wp2_with fail
                go_loopw [11] (fun ix wx => Only (fun b => b = y + 1) w4.heap.size w4 wx ∧ ∃ t gc cp : Nat, t ≤ cnt T ∧ ix = .int .i64 t ∧ gc ≠ y + 1 ∧ y ≤ gc ∧ Blk wx (y + 1) #[.int .i64 k, .slice (some ⟨gc, 0, none⟩) k cp] 26 ∧ RowAt wx gc cp (joinV rs v T t)) (fun ix _ => cnt T - (intOf ix).toNat)
                case atStart => exact ⟨Only.refl _ _ _, 0, gb, cp, by omega, rfl, Hhne.out, hgy, Hkb4.out, HhR4.out⟩
                case round =>
                  clear Hhne hgy
                  skip
                  obtain ⟨hO, t, gc, cp, ht, rfl, hne, hgy, kb, hR⟩ := hrel
                  by_cases htt : t < cnt T
                  · obtain ⟨gl, rfl, hgl, hgl2, hgc⟩ := HL.out (by unfold cnt at htt; omega)
                    have gb4 := Hkb4.out.lt
                    have z0 := (hO.cell (p := ⟨pb, 0, none⟩) pl4 Hhpy.out).trans q0
                    have z3 := (hO.cell (p := ⟨gl, t, none⟩) hgl2 (fun e => by have e2 : gl = y + 1 := e; omega)).trans (hgc t (by unfold cnt at htt; exact htt))
                    have pl5 := Nat.lt_of_lt_of_le pl4 hO.size
                    have gl5 := Nat.lt_of_lt_of_le hgl2 hO.size
                    have x0 := kb.cell 0
                    have x1 := kb.cell 1
                    have ozr := kb.lt
                    simp at x0 x1
                    have hub := HTt.out t htt
                    have huk := HWt2.out _ hub
                    have hue : eln (els T) t ≠ v := fun e => by rw [e, HTv.out] at hub; cases hub
                    have hAd := fun w5 (hR5 : RowAt w5 gc cp (joinV rs v T t)) => specAddE_any (joinV rs v T t) v (eln (els T) t) gc cp k w5 (by rw [joinV_len, Hhlen.out]) hR5 (joinV_VG Hhgg.out hT7 HTv.out) hvk2 huk (fun e => hue e.symm)
                    rw [← joinV_succ htt] at hAd
                    have HAd := Lib.hid hAd
                    clear hub huk hue hgc hAd
                    generalize eln (els T) t = u at *
                    have HhO := Lib.hid hO
                    clear hO
                    have HhR := Lib.hid hR
                    clear hR
                    have Hkb := Lib.hid kb
                    clear kb
                    have Hhne := Lib.hid hne
                    clear hne
                    go_wp2_with fail
                    go_region_with ((go_at_call 65; refine (HAd.out _ (HhR.out.below (Below.refl _ wr).drew)).mono ?_; rintro e w5 ⟨g5, cp5, ok5, rfl, hB5, hg5, hR5⟩; have hB6 : Below wr.heap.size wr w5 := (Below.refl _ wr).drew.trans hB5; have k5 := Hkb.out.below hB6 Hkb.out.lt; have r0 := k5.cell 0; have r1 := k5.cell 1; have r2 := k5.frozen 0; have r3 := k5.frozen 1; have r4 := k5.lt; simp at r0 r1))
                    all_goals
                      have hg6 : wr.heap.size ≤ g5 := hg5
                      have hwo := HhO.out.size
                      have hne6 : g5 ≠ y + 1 := by omega
                      have hO6 : Only (fun b => b = y + 1) w4.heap.size w4 ((w5.setCell ⟨y + 1, 0, none⟩ (.int .i64 k)).setCell ⟨y + 1, 1, none⟩ (.slice (some ⟨g5, 0, none⟩) k cp5)) :=
                        ((HhO.out.more hB6 HhO.out.size).setCell (p := ⟨y + 1, 0, none⟩) (.inl rfl) _).setCell (p := ⟨y + 1, 1, none⟩) (.inl rfl) _
                      have k6 : Blk ((w5.setCell ⟨y + 1, 0, none⟩ (.int .i64 k)).setCell ⟨y + 1, 1, none⟩ (.slice (some ⟨g5, 0, none⟩) k cp5)) (y + 1) #[.int .i64 k, .slice (some ⟨g5, 0, none⟩) k cp5] 26 := by
                        have := (k5.store 0 (.int .i64 k)).store 1 (.slice (some ⟨g5, 0, none⟩) k cp5)
                        simpa using this
                      have hR6 : RowAt ((w5.setCell ⟨y + 1, 0, none⟩ (.int .i64 k)).setCell ⟨y + 1, 1, none⟩ (.slice (some ⟨g5, 0, none⟩) k cp5)) g5 cp5 (joinV rs v T (t + 1)) := (hR5.otherCell (by simp; omega)).otherCell (by simp; omega)
                      have hgy6 : y ≤ g5 := by omega
                      generalize World.setCell _ _ _ = W6 at *
                      clear k5 r0 r1 r2 r3 r4 hR5 hB6 hB5 hg5 hg6 z0 z3 x0 x1
                      have HhO6 := Lib.hid hO6
                      clear hO6
                      have Hk6 := Lib.hid k6
                      clear k6
                      have HhR6 := Lib.hid hR6
                      clear hR6
                      have Hhne6 := Lib.hid hne6
                      clear hne6
                      go_wp2_with fail
                      go_roundw
                      case rel => exact ⟨HhO6.out, t + 1, g5, cp5, by omega, by go_num, Hhne6.out, hgy6, Hk6.out, HhR6.out⟩
                      case measure => first | (simp [intOf]; done) | (simp [intOf]; omega)
                  · obtain rfl : t = cnt T := by omega
                    have z0 := (hO.cell (p := ⟨pb, 0, none⟩) pl4 Hhpy.out).trans q0
                    have z1 := (hO.cell (p := ⟨pb, 1, none⟩) pl4 Hhpy.out).trans q1
                    have z2 := (hO.cell (p := ⟨pb, 2, none⟩) pl4 Hhpy.out).trans q2
                    have pl5 := Nat.lt_of_lt_of_le pl4 hO.size
                    have hO7 := HhO4.out.trans (hO.mono HhO4.out.size fun b _ h => h)
                    have x0 := kb.cell 0
                    have x1 := kb.cell 1
                    have ozr := kb.lt
                    simp at x0 x1
                    clear hO
                    have HhO7 := Lib.hid hO7
                    clear hO7
                    have HhR := Lib.hid hR
                    clear hR
                    have Hkb := Lib.hid kb
                    clear kb
                    have Hhne := Lib.hid hne
                    clear hne
                    have hAd := specAddE_any (joinV rs v T (cnt T)) v a gc cp k wr (by rw [joinV_len, Hhlen.out]) HhR.out (joinV_VG Hhgg.out hT7 HTv.out) hvk2 hak2 Hva.out
                    have HhAd := Lib.hid hAd
                    clear hAd
                    go_wp2_with fail
                    refine (HhAd.out).mono ?_
                    rintro e w5 ⟨g5, cp5, ok5, rfl, hB5, hg5, hR5⟩
                    have k5 := Hkb.out.below hB5 Hkb.out.lt
                    have hOs := HhO7.out.size
                    have hne6 : g5 ≠ y + 1 := by have := Hkb.out.lt; omega
                    have r0 := k5.cell 0
                    have r1 := k5.cell 1
                    have r2 := k5.frozen 0
                    have r3 := k5.frozen 1
                    have r4 := k5.lt
                    simp at r0 r1
                    have hO6 : Only (fun b => b = y + 1) W2.heap.size W2 ((w5.setCell ⟨y + 1, 0, none⟩ (.int .i64 k)).setCell ⟨y + 1, 1, none⟩ (.slice (some ⟨g5, 0, none⟩) k cp5)) :=
                      ((HhO7.out.more hB5 HhO7.out.size).setCell (p := ⟨y + 1, 0, none⟩) (.inl rfl) _).setCell (p := ⟨y + 1, 1, none⟩) (.inl rfl) _
                    have k6 : Blk ((w5.setCell ⟨y + 1, 0, none⟩ (.int .i64 k)).setCell ⟨y + 1, 1, none⟩ (.slice (some ⟨g5, 0, none⟩) k cp5)) (y + 1) #[.int .i64 k, .slice (some ⟨g5, 0, none⟩) k cp5] 26 := by
                      have := (k5.store 0 (.int .i64 k)).store 1 (.slice (some ⟨g5, 0, none⟩) k cp5)
                      simpa using this
                    have hR6 : RowAt ((w5.setCell ⟨y + 1, 0, none⟩ (.int .i64 k)).setCell ⟨y + 1, 1, none⟩ (.slice (some ⟨g5, 0, none⟩) k cp5)) g5 cp5 _ := (hR5.otherCell (by simp; omega)).otherCell (by simp; omega)
                    have hgy6 : y ≤ g5 := by have := Hkb.out.lt; omega
                    have hpy2 := Hhpy.out
                    have s0 : w5.cell? ⟨pb, 0, none⟩ = _ := (hB5.cell (p := ⟨pb, 0, none⟩) pl5).trans z0
                    have s1 := Nat.lt_of_lt_of_le pl5 hB5.size
                    clear k5 hR5 hB5 hg5 hOs
                    have HhO6 := Lib.hid hO6
                    clear hO6
                    have Hk6 := Lib.hid k6
                    clear k6
                    have HhR6 := Lib.hid hR6
                    clear hR6
                    have Hhne6 := Lib.hid hne6
                    clear hne6
                    have hSv := HSv.out
                    go_wp2_with fail
                    go_roundw
                    case rel => exact ⟨HhO6.out, S + 2 ^ v, i, g5, cp5, _, by omega, by go_num, by first | rfl | rw [hSv], HSt2.out, Hhne6.out, hgy6, Hk6.out, HhR6.out, HV2.out⟩
                    case measure => first | (simp [intOf]; done) | (simp [intOf]; omega)
          · obtain rfl : j = 0 := by omega
            have hV2 : putV l k = some rs := HhV.out.symm
            have hlen := HhI.out.len
            have kF3 := HhO.out.blk HkF.out (by have := HkF.out.lt; omega) (fun e => by have e2 : w.heap.size = y + 1 := e; omega)
            have g0 := Hkb.out.cell 0
            have g1 := Hkb.out.cell 1
            have f0 := kF3.cell 0
            have f1 := kF3.cell 1
            have f2 := kF3.frozen 0
            have f3 := kF3.frozen 1
            have f4 := kF3.lt
            simp at g0 g1 f0 f1
            have hF : Below w.heap.size w ((wr.setCell ⟨w.heap.size, 0, none⟩ (.int .i64 k)).setCell ⟨w.heap.size, 1, none⟩ (.slice (some ⟨gb, 0, none⟩) k cp)) :=
              ((HhBw.out.trans (HhO.out.below HhBw.out.size fun b hb e => by have e2 : b = y + 1 := e; omega)).setCell (by simp) _).setCell (by simp) _
            have hFR : RowAt ((wr.setCell ⟨w.heap.size, 0, none⟩ (.int .i64 k)).setCell ⟨w.heap.size, 1, none⟩ (.slice (some ⟨gb, 0, none⟩) k cp)) gb cp rs := (HhR.out.otherCell (by simp; omega)).otherCell (by simp; omega)
            have hgw : w.heap.size ≤ gb := by omega
            clear kF3
            have HhV2 := Lib.hid hV2
            clear hV2
            have Hhlen := Lib.hid hlen
            clear hlen
            have HhF := Lib.hid hF
            clear hF
            have HhFR := Lib.hid hFR
            clear hFR
            have Hhgw := Lib.hid hgw
            clear hgw
            go_wp2_with fail
            refine bodyPost_ret (v := .tuple #[.agg #[.int .i64 k, .slice (some ⟨gb, 0, none⟩) k cp], .bool true]) (by simp [results, Tryz.results17, go_sem, f0, f1]) rfl ?_
            rw [HhV2.out]
            exact RetG.of Hhlen.out rfl HhF.out Hhgw.out HhFR.out

end Go.Proofs.YtjikmjhpmkakoaaGreatDoor
