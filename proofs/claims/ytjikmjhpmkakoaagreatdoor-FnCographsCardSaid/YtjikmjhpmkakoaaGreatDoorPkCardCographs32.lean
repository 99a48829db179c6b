/-
  set of the program's cotreeReader: its mirror is rdI. For texts of at most 100 bytes.
  GraphOfCotree of the program. For texts of at most 100 bytes.
-/
import Derived.Test.YtjikmjhpmkakoaaGreatDoorPkCardCographs31
import Derived.Test.YtjikmjhpmkakoaaGreatDoorPkCardCographs12
namespace Go.Proofs.YtjikmjhpmkakoaaGreatDoor
open Go.RowKit

set_option maxRecDepth 100000 in
set_option maxHeartbeats 4000000 in
theorem rdSet_any (L : List UInt8) (hL : L.length ≤ 100) (rb : Nat) : ∀ (K F : Nat) (s : RdSt) (w : World), F ≤ K → RdOk L s → L.length - s.pos + 1 ≤ F → Blk w rb (rdCells L s) 89 →
    Calls Tryz.prog 88 #[.pointer (some ⟨rb, 0, none⟩)] w fun e w' => e = .returned (.int .i64 ((rdI L F none s).1 : Nat)) ∧ Only (fun b => b = rb) w.heap.size w w' ∧ Blk w' rb (rdCells L (rdI L F none s).2) 89 := by
  intro K
  induction K with
  | zero => intro F s w h1 h2 h3; omega
  | succ K ih =>
    intro F s w hF ok hfu hk
    obtain ⟨F, rfl⟩ : ∃ k, F = k + 1 := ⟨F - 1, by omega⟩
    replace ih := Lib.hid ih
    have hN := rdNext_at_any L s rb w hk hL ok
    obtain ⟨ok1, hp1, hp1'⟩ := rdNext_ok ok
    have hadv := rdNext_adv (L := L) (s := s)
    have hc8 : (rdNext L s).1.toNat < 256 := UInt8.toNat_lt _
    by_cases hc : (rdNext L s).1 = 40
    · have HR := Lib.hid (rdI_open (F := F) hc)
      have hpos := hadv (by rw [hc]; decide)
      rw [hc] at hN
      obtain ⟨ok2, hp2, -⟩ := rdNext_ok ok1
      have hN2 := fun (w' : World) (h : Blk w' rb (rdCells L (rdNext L s).2) 89) => rdNext_at_any L _ rb w' h hL ok1
      generalize rdI L (F + 1) none s = R at *
      generalize (rdNext L s).2 = s1 at *
      have HN2 := Lib.hid hN2
      clear hN2 hadv hc hc8
      go_enter Tryz.func88, Tryz.ntmps88
      go_wp2_with fail
      refine hN.mono ?_
      rintro e w1 ⟨rfl, hO1, hk1⟩
      have hN3 := HN2.out w1 hk1
      have HhO1 := Lib.hid hO1
      clear hO1
      clear hN hk HN2
      go_wp2_with fail
      refine hN3.mono ?_
      rintro e w2 ⟨rfl, hO2, hk2⟩
      have hO := HhO1.out.trans (hO2.mono HhO1.out.size fun _ _ h => h)
      clear hN3 hk1 hO2 HhO1
      generalize hc2 : (rdNext L s1).1 = c2 at *
      generalize (rdNext L s1).2 = s2 at *
      have hc28 : c2.toNat < 256 := UInt8.toNat_lt _
      clear hc2
      have hsz := hO.size
      go_wp2_with fail
      go_loopw [5] (fun o wr => ∃ (out G : Nat) (sx : RdSt), o = .int .i64 (out : Int) ∧ out < 128 ∧ RdOk L sx ∧ L.length - sx.pos + 1 ≤ G ∧ G ≤ F ∧ rdI L G (some (c2, out)) sx = R ∧ Only (fun b => b = rb) w2.heap.size w2 wr ∧ Blk wr rb (rdCells L sx) 89) (fun _ wr => L.length + 1 - posW wr rb)
      case atStart => exact ⟨0, F, s2, rfl, by omega, ok2, by have := ok2.pos; omega, Nat.le_refl _, HR.out.symm, Only.refl _ _ _, hk2⟩
      case round =>
        clear hk2 HR
        obtain ⟨out, G, sx, rfl, hout, okx, hG, hGF, hRx, hOx, kx⟩ := hrel
        obtain ⟨G, rfl⟩ : ∃ k, G = k + 1 := ⟨G - 1, by omega⟩
        have x9 := (kx.cell 9).trans (rdCells_bad L sx okx.len)
        have xl := kx.lt
        cases hb : sx.bad
        · rw [hb] at x9
          have hN := rdNext_at_any L sx rb wr kx hL okx
          obtain ⟨okn, hpn, -⟩ := rdNext_ok okx
          have hpw := posW_of kx okx.len
          have hpl := okx.pos
          by_cases hc3 : (rdNext L sx).1 = 32
          · have hadv := rdNext_adv (L := L) (s := sx) (by rw [hc3]; decide)
            rw [rdI_go hb hc3] at hRx
            rw [hc3] at hN
            generalize (rdNext L sx).2 = sy at *
            have hSet := fun (w' : World) (h : Blk w' rb (rdCells L sy) 89) => ih.out G sy w' (by omega) okn (by have := okn.pos; omega) h
            obtain ⟨hpt, okz, hpz⟩ := rdI_ok L G none sy okn (fun x e => by cases e)
            generalize rdI L G none sy = Z at *
            obtain ⟨part, sz⟩ := Z
            dsimp only at hSet hpt okz hpz hRx
            have HRx := Lib.hid hRx
            have HSet := Lib.hid hSet
            clear hRx hSet hc3 hb
            have HhOx := Lib.hid hOx
            clear hOx
            go_wp2_with fail
            refine hN.mono ?_
            rintro e w3 ⟨rfl, hO3, k3⟩
            have hS3 := HSet.out w3 k3
            have HhO3 := Lib.hid hO3
            clear hO3
            clear hN kx x9 HSet
            go_wp2_with fail
            refine hS3.mono ?_
            rintro e w4 ⟨rfl, hO4, k4⟩
            have hO5 := (HhOx.out.trans (HhO3.out.mono HhOx.out.size fun _ _ h => h)).trans (hO4.mono (Nat.le_trans HhOx.out.size HhO3.out.size) fun _ _ h => h)
            have hb4 := k4.lt
            clear hS3 hO4 k3 HhOx HhO3
            have HhO5 := Lib.hid hO5
            clear hO5
            go_wp2_with fail
            go_loopw [47] (fun i wr => ∃ k : Nat, i = .int .i64 (k : Int) ∧ k ≤ 7 ∧ Only (fun b => b = rb) w4.heap.size w4 wr ∧ Blk wr rb (rdCells L { sz with rows := joinTo c2 out part k sz.rows }) 89) (fun i _ => 7 - (intOf i).toNat)
            case atStart => exact ⟨0, rfl, by omega, Only.refl _ _ _, by rw [joinTo_zero]; exact k4⟩
            case round =>
              clear k4
              obtain ⟨k, rfl, hk7, hO6, k6⟩ := hrel
              by_cases hlt : k < 7
              · have hJl : (joinTo c2 out part k sz.rows).length = 7 := (joinTo_len _ _ _ _ _).trans okz.len
                have hkl : k < sz.rows.length := by rw [okz.len]; exact hlt
                have hr := (k6.cell (2 + k)).trans (rdCells_row L { sz with rows := joinTo c2 out part k sz.rows } hJl k hlt)
                dsimp only at hr
                rw [joinTo_at c2 out part k hkl] at hr
                have hrx := okz.lt k
                have hf := k6.frozen (2 + k)
                have hl6 := k6.lt
                have hA := fun w' : World => has_bit (S := part) (k := k) (by omega) w'
                have hB := fun w' : World => has_bit (S := out) (k := k) (by omega) w'
                have HJl := Lib.hid hJl
                clear hJl
                by_cases h42 : c2 = 42
                · have d4 : ((c2.toNat : Int) == 42) = true := by rw [h42]; decide
                  have hs := joinTo_step (out := out) (part := part) hkl rfl rfl
                  have hkeep := joinTo_keep (out := out) (part := part) hkl
                  rw [← h42] at hs hkeep
                  generalize hJ1 : joinTo c2 out part (k + 1) sz.rows = J1 at *
                  generalize joinTo c2 out part k sz.rows = J at *
                  generalize sz.rows.getD k 0 = x at *
                  have HE1 := Lib.hid hJ1
                  clear h42 hJ1
                  cases hA0 : part.testBit k <;> cases hB0 : out.testBit k
                  · have HJ : Hid (J1 = J) := Lib.hid (by rw [hs, hA0, hB0]; simp [hkeep])
                    simp only [hA0] at hA
                    simp only [hB0] at hB
                    clear hs hkeep hA0 hB0
                    have Hk6 := Lib.hid k6
                    clear k6
                    go_wp2_with (first | (go_at_call 60; refine (hA _).mono ?_; rintro e w' ⟨rfl, rfl⟩) | (go_at_call 60; refine (hB _).mono ?_; rintro e w' ⟨rfl, rfl⟩))
                    go_roundw
                    case rel => exact ⟨k + 1, by go_num, by omega, hO6, by rw [HE1.out, HJ.out]; exact Hk6.out⟩
                    case measure => simp [intOf]; omega
                  · have HJ : Hid (J1 = J.set k (x ||| part)) := Lib.hid (by rw [hs, hA0, hB0]; simp [hkeep])
                    simp only [hA0] at hA
                    simp only [hB0] at hB
                    clear hs hkeep hA0 hB0
                    have Hk6 := Lib.hid k6
                    clear k6
                    go_upto_region 16 with (first | (go_at_call 60; refine (hA _).mono ?_; rintro e w' ⟨rfl, rfl⟩) | (go_at_call 60; refine (hB _).mono ?_; rintro e w' ⟨rfl, rfl⟩))
                    obtain ⟨m, hm0⟩ : ∃ m : Later wr, m.w = wr := ⟨Later.refl _, rfl⟩
                    refine (fun h => hm0 ▸ h) ?_
                    clear hm0
                    go_still_tail 11, (by kernel_rfl)
                    refine wpList_drew_on m fun m => ?_
                    go_upto_region 17 with fail
                    have k7 := rd_or (Hk6.out.later m) (by dsimp only; simp [HJl.out]) hlt hrx hpt
                    have hOk7 := (hO6.trans (Only.of (m.below.mono hO6.size))).setCell (p := ⟨rb, 2 + k, none⟩) (.inl rfl) (.int .i64 (bits .or .i64 ((x : Nat) : Int) ((part : Nat) : Int)))
                    clear hr hf hl6 hO6 Hk6
                    generalize World.setCell _ _ _ = W7 at *
                    clear m
                    have Hk7 := Lib.hid k7
                    clear k7
                    go_wp2_with fail
                    go_roundw
                    case rel => exact ⟨k + 1, by go_num, by omega, hOk7, by rw [HE1.out, HJ.out]; exact Hk7.out⟩
                    case measure => simp [intOf]; omega
                  · have HJ : Hid (J1 = J.set k (x ||| out)) := Lib.hid (by rw [hs, hA0, hB0]; simp [hkeep])
                    simp only [hA0] at hA
                    simp only [hB0] at hB
                    clear hs hkeep hA0 hB0
                    have Hk6 := Lib.hid k6
                    clear k6
                    go_upto_region 14 with (first | (go_at_call 60; refine (hA _).mono ?_; rintro e w' ⟨rfl, rfl⟩) | (go_at_call 60; refine (hB _).mono ?_; rintro e w' ⟨rfl, rfl⟩))
                    obtain ⟨m, hm0⟩ : ∃ m : Later wr, m.w = wr := ⟨Later.refl _, rfl⟩
                    refine (fun h => hm0 ▸ h) ?_
                    clear hm0
                    go_still_tail 11, (by kernel_rfl)
                    refine wpList_drew_on m fun m => ?_
                    go_upto_region 15 with fail
                    have k7 := rd_or (Hk6.out.later m) (by dsimp only; simp [HJl.out]) hlt hrx hout
                    have hOk7 := (hO6.trans (Only.of (m.below.mono hO6.size))).setCell (p := ⟨rb, 2 + k, none⟩) (.inl rfl) (.int .i64 (bits .or .i64 ((x : Nat) : Int) ((out : Nat) : Int)))
                    clear hr hf hl6 hO6 Hk6
                    generalize World.setCell _ _ _ = W7 at *
                    clear m
                    have Hk7 := Lib.hid k7
                    clear k7
                    go_wp2_with (first | (go_at_call 60; refine (hA _).mono ?_; rintro e w' ⟨rfl, rfl⟩) | (go_at_call 60; refine (hB _).mono ?_; rintro e w' ⟨rfl, rfl⟩))
                    go_roundw
                    case rel => exact ⟨k + 1, by go_num, by omega, hOk7, by rw [HE1.out, HJ.out]; exact Hk7.out⟩
                    case measure => simp [intOf]; omega
                  · have HJ : Hid (J1 = (J.set k (x ||| out)).set k ((x ||| out) ||| part)) := Lib.hid (by rw [hs, hA0, hB0]; simp [hkeep])
                    simp only [hA0] at hA
                    simp only [hB0] at hB
                    clear hs hkeep hA0 hB0
                    have Hk6 := Lib.hid k6
                    clear k6
                    go_upto_region 14 with (first | (go_at_call 60; refine (hA _).mono ?_; rintro e w' ⟨rfl, rfl⟩) | (go_at_call 60; refine (hB _).mono ?_; rintro e w' ⟨rfl, rfl⟩))
                    obtain ⟨m, hm0⟩ : ∃ m : Later wr, m.w = wr := ⟨Later.refl _, rfl⟩
                    refine (fun h => hm0 ▸ h) ?_
                    clear hm0
                    go_still_tail 11, (by kernel_rfl)
                    refine wpList_drew_on m fun m => ?_
                    go_upto_region 15 with fail
                    have k7 := rd_or (Hk6.out.later m) (by dsimp only; simp [HJl.out]) hlt hrx hout
                    have hOk7 := (hO6.trans (Only.of (m.below.mono hO6.size))).setCell (p := ⟨rb, 2 + k, none⟩) (.inl rfl) (.int .i64 (bits .or .i64 ((x : Nat) : Int) ((out : Nat) : Int)))
                    clear hr hf hl6 hO6 Hk6
                    generalize World.setCell _ _ _ = W7 at *
                    clear m
                    have hJ7 : (J.set k (x ||| out)).length = 7 := by simp [HJl.out]
                    have hr := (k7.cell (2 + k)).trans (rdCells_row L { sz with rows := J.set k (x ||| out) } hJ7 k hlt)
                    dsimp only at hr
                    have hg7 : (J.set k (x ||| out)).getD k 0 = x ||| out := by simp [HJl.out, hlt]
                    rw [hg7] at hr
                    have hf := k7.frozen (2 + k)
                    have hl6 := k7.lt
                    have hrx7 := or_128 hrx hout
                    have hO6 := hOk7
                    clear hOk7 hJ7 hg7
                    generalize hxo : x ||| out = xo at *
                    have Hk7 := Lib.hid k7
                    clear k7
                    go_upto_region 16 with (first | (go_at_call 60; refine (hA _).mono ?_; rintro e w' ⟨rfl, rfl⟩) | (go_at_call 60; refine (hB _).mono ?_; rintro e w' ⟨rfl, rfl⟩))
                    obtain ⟨m, hm0⟩ : ∃ m : Later W7, m.w = W7 := ⟨Later.refl _, rfl⟩
                    refine (fun h => hm0 ▸ h) ?_
                    clear hm0
                    go_still_tail 11, (by kernel_rfl)
                    refine wpList_drew_on m fun m => ?_
                    go_upto_region 17 with fail
                    have k8 := rd_or (Hk7.out.later m) (by dsimp only; simp [HJl.out]) hlt hrx7 hpt
                    have hOk8 := (hO6.trans (Only.of (m.below.mono hO6.size))).setCell (p := ⟨rb, 2 + k, none⟩) (.inl rfl) (.int .i64 (bits .or .i64 ((xo : Nat) : Int) ((part : Nat) : Int)))
                    clear hr hf hl6 hO6 Hk7
                    generalize World.setCell _ _ _ = W7 at *
                    clear m
                    have Hk8 := Lib.hid k8
                    clear k8
                    go_wp2_with fail
                    go_roundw
                    case rel => exact ⟨k + 1, by go_num, by omega, hOk8, by rw [HE1.out, HJ.out]; exact Hk8.out⟩
                    case measure => simp [intOf]; omega
                · have d4 : ((c2.toNat : Int) == 42) = false := by
                    rw [beq_eq_false_iff_ne]
                    intro e
                    exact h42 (u8_eq (k := 42) (by omega))
                  have HJ : Hid (joinTo c2 out part (k + 1) sz.rows = joinTo c2 out part k sz.rows) := Lib.hid (by rw [joinTo_not out part _ _ h42, joinTo_not out part _ _ h42])
                  clear hr hf hrx h42
                  have Hk6 := Lib.hid k6
                  clear k6
                  go_wp2_with fail
                  go_roundw
                  case rel => exact ⟨k + 1, by go_num, by omega, hO6, by rw [HJ.out]; exact Hk6.out⟩
                  case measure => simp [intOf]; omega
              · obtain rfl : k = 7 := by omega
                rw [joinTo_full c2 out part okz.len] at k6
                have hor := bits_or_nat out part (by omega) (by omega)
                have hpw2 := posW_of k6 (by dsimp only; rw [rdJoin_len]; exact okz.len)
                dsimp only at hpw2
                have hO7 := HhO5.out.trans (hO6.mono HhO5.out.size fun _ _ h => h)
                have okq : RdOk L { sz with rows := rdJoin c2 out part sz.rows } := ⟨okz.pos, by dsimp only; rw [rdJoin_len]; exact okz.len, rdJoin_lt okz.lt hout hpt⟩
                have Hk6 := Lib.hid k6
                clear k6
                have HhO7 := Lib.hid hO7
                clear hO7
                have Hokq := Lib.hid okq
                clear okq
                go_wp2_with fail
                go_roundw
                case rel => exact ⟨out ||| part, G, { sz with rows := rdJoin c2 out part sz.rows }, by first | rfl | rw [hor], or_128 hout hpt, Hokq.out, by have := Hokq.out.pos; dsimp only at this ⊢; omega, by omega, HRx.out, HhO7.out, Hk6.out⟩
                case measure => rw [hpw, hpw2]; omega
          · have d3 : (((rdNext L sx).1.toNat : Int) == 32) = false := by
              rw [beq_eq_false_iff_ne]
              intro e
              exact hc3 (u8_eq (k := 32) (by omega))
            rw [rdI_stop hb hc3] at hRx
            generalize (rdNext L sx).1.toNat = cn at *
            generalize (rdNext L sx).2 = sy at *
            subst hRx
            clear hc3 hb
            have HhOx := Lib.hid hOx
            clear hOx
            go_wp2_with fail
            refine hN.mono ?_
            rintro e w3 ⟨rfl, hO3, k3⟩
            have HE := Lib.hid (hO.trans ((HhOx.out.trans (hO3.mono HhOx.out.size fun _ _ h => h)).mono hO.size fun _ _ h => h))
            clear hN hO3 HhOx kx x9
            have Hk3 := Lib.hid k3
            clear k3
            go_wp2_with fail
            go_ret
            exact ⟨rfl, HE.out, Hk3.out⟩
        · rw [hb] at x9
          rw [rdI_bad hb] at hRx
          subst hRx
          have HE := Lib.hid (hO.trans (hOx.mono hO.size fun _ _ h => h))
          clear hOx
          have Hkx := Lib.hid kx
          clear kx
          go_wp2_with fail
          go_ret
          exact ⟨rfl, HE.out, Hkx.out⟩
    · exact rdSet_leaf L hL rb F s w ok hk hc

end Go.Proofs.YtjikmjhpmkakoaaGreatDoor

namespace Go.Proofs.YtjikmjhpmkakoaaGreatDoor
open Go.RowKit

theorem rdCells_first (L : List UInt8) : rdCells L ⟨0, List.replicate 7 0, false⟩ = #[.string (bs L), .int .i64 0, .int .i64 0, .int .i64 0, .int .i64 0, .int .i64 0, .int .i64 0, .int .i64 0, .int .i64 0, .bool false] := by
  simp [rdCells, List.replicate]

theorem str_eq {a b : ByteArray} (h : a = b) : (a.toList == b.toList) = true := by rw [h]; simp
theorem str_ne {a b : ByteArray} (h : ¬a = b) : (a.toList == b.toList) = false := by
  rw [beq_eq_false_iff_ne, ByteArray.toList_eq, ByteArray.toList_eq]
  intro e
  exact h (ByteArray.ext (Array.toList_inj.1 e))

set_option maxRecDepth 100000 in
set_option maxHeartbeats 4000000 in
theorem implGoc_any (L : List UInt8) (hL : L.length ≤ 100) (w : World) :
    Calls Tryz.prog 31 #[.string (bs L)] w (RetGc L w) := by
  have hz := bs_size L
  obtain ⟨hr7, okR⟩ := gotR_ok L
  have hS := fun (rb : Nat) (w' : World) (h : Blk w' rb (rdCells L ⟨0, List.replicate 7 0, false⟩) 89) => rdSet_any L hL rb (L.length + 1) (L.length + 1) _ w' (Nat.le_refl _) (rd0_ok L) (by dsimp only; omega) h
  have hS2 : ∀ (rb : Nat) (w' : World), Blk w' rb (rdCells L ⟨0, List.replicate 7 0, false⟩) 89 → Calls Tryz.prog 88 #[.pointer (some ⟨rb, 0, none⟩)] w' fun e w'' => e = .returned (.int .i64 ((gotR L).1 : Nat)) ∧ Only (fun b => b = rb) w'.heap.size w' w'' ∧ Blk w'' rb (rdCells L (gotR L).2) 89 := hS
  clear hS
  have hI := got_iff L
  have hNo := got_none (L := L)
  have hlen := gotF_len L
  have hcn := cnt_le (gotR L).1
  have hrow : ∀ k, k < (gotF L).length → gi (gotF L) k = ((gotR L).2.rows.getD k 0 : Nat) := fun k hk => by
    have hk2 : k < (gotR L).2.rows.length := by rw [okR.len]; omega
    unfold gotF gi
    rw [hlen] at hk
    simp [hk, hk2]
  generalize gotF L = f at *
  have hcnt := fun w' => implCount_any (gotR L).1 hr7 w'
  rw [← hlen] at hcnt hcn
  clear hlen
  generalize (gotR L).1 = S at *
  generalize (gotR L).2 = s at *
  have d0 : decide (100 < (L.length : Int)) = false := decide_eq_false (by omega)
  go_enter Tryz.func31, Tryz.ntmps31
  go_upto_region 4 with fail
  generalize hW : World.alloc _ _ = W1
  obtain ⟨hB, hs, k0, k1⟩ := alloc2 hW
  have k1' : Blk W1 (w.heap.size + 1) (rdCells L ⟨0, List.replicate 7 0, false⟩) 89 := by rw [rdCells_first]; exact k1
  have hs1 := hS2 _ W1 k1'
  have hl1 := k1.lt
  generalize hrb : w.heap.size + 1 = rb at *
  clear hS2 hW k1 k1' d0
  have HhB := Lib.hid hB
  clear hB
  have Hk0 := Lib.hid k0
  clear k0
  go_wp2_with fail
  refine hs1.mono ?_
  rintro e w2 ⟨rfl, hO2, k2⟩
  have hc2 := hcnt w2
  clear hs1 hcnt
  have HhO2 := Lib.hid hO2
  clear hO2
  have Hk2 := Lib.hid k2
  clear k2
  go_wp2_with fail
  refine hc2.mono ?_
  rintro e w3 ⟨rfl, hB3⟩
  have k3 := Hk2.out.below hB3 Hk2.out.lt
  have hO3 := HhO2.out.more hB3 HhO2.out.size
  have hcl := clone_any f ⟨rb, 2, none⟩ f.length 7 w3 (fun h0 => ⟨rb, 2, rfl, k3.lt, fun k hk => by
    rw [hrow k hk]
    exact (k3.cell (2 + k)).trans (rdCells_row L s okR.len k (by omega))⟩) rfl (by omega)
  have hsl : ∀ w', (Instr.sliceAt 87 (.pointer (some ⟨rb, 2, none⟩)) none (some (.int .i64 (f.length : Int))) none).run Tryz.prog w' = .ok (.slice (some ⟨rb, 2, none⟩) f.length 7) w' := fun w' => by
    have h7 : Tryz.prog.arrayLen 87 = 7 := by kernel_rfl
    rw [run_sliceAt_array_h w' 87 ⟨rb, 2, none⟩ (by rw [h7]; kernel_rfl) .i64 (f.length : Int) (by omega) (by rw [h7]; omega), h7]
    simp [slicedAt, go_sem]
  have x9 := (k3.cell 9).trans (rdCells_bad L s okR.len)
  have xl := k3.lt
  clear hc2 hB3 Hk2 HhO2
  have Hk3 := Lib.hid k3
  clear k3
  have HhO3 := Lib.hid hO3
  clear hO3
  go_wp2_with fail
  refine hcl.mono ?_
  rintro e w4 ⟨ao, ca, rfl, hao, hOw, hB4⟩
  have k4 := Hk3.out.below hB4 Hk3.out.lt
  have hO4 := HhO3.out.more hB4 HhO3.out.size
  have hw3 : w.heap.size < w3.heap.size := Nat.lt_trans (by omega) Hk3.out.lt
  have hF := hOw.intsX (X := fun b => b = w.heap.size) (fun b hb e => by have e2 : b = w.heap.size := e; omega)
  clear hcl hsl x9 xl hOw hao Hk3 HhO3 hB4
  go_upto_region 6 with fail
  generalize hW5 : World.alloc _ _ = W5
  obtain ⟨hB5, hs5, k5⟩ := alloc1 hW5
  have kr := k4.below hB5 k4.lt
  have hO5 := hO4.more hB5 hO4.size
  have hF5 := hF.only (Only.of hB5)
  have u0 := k5.cell 0
  have u1 := k5.cell 1
  have ul := k5.lt
  simp at u0 u1
  have hCt := implCotree_any f.length f ao ca W5 hF5.ints (by omega)
  generalize w4.heap.size = gB at *
  clear hW5 hB5 hs5 k4 hO4 hF
  have Hkr := Lib.hid kr
  clear kr
  have HhO5 := Lib.hid hO5
  clear hO5
  have HhF5 := Lib.hid hF5
  clear hF5
  have Hk5 := Lib.hid k5
  clear k5
  go_wp2_with fail
  refine hCt.mono ?_
  rintro e w6 ⟨rfl, hB6⟩
  have kr := Hkr.out.below hB6 Hkr.out.lt
  have hO6 := HhO5.out.more hB6 HhO5.out.size
  have hF6 := HhF5.out.only (Only.of hB6)
  have kg := Hk5.out.below hB6 Hk5.out.lt
  have x9 := (kr.cell 9).trans (rdCells_bad L s okR.len)
  have xl := kr.lt
  have kz := hO6.blk Hk0.out Hk0.out.lt (by omega)
  have v0 := kz.cell 0
  have v1 := kz.cell 1
  have v2 := kz.frozen 0
  have v3 := kz.frozen 1
  have vl := kz.lt
  have u0 := kg.cell 0
  have u1 := kg.cell 1
  have ul := kg.lt
  simp at v0 v1 u0 u1
  clear hCt Hkr HhO5 HhF5 Hk5 hB6
  have HE := Lib.hid (HhB.out.trans (hO6.below HhB.out.size fun b hb e => by have e2 : b = rb := e; omega))
  have HF := Lib.hid hF6
  clear hO6 kr kz hl1 HhB Hk0 hrow
  generalize hbad : s.bad = bad at *
  generalize cogB f.length f = cg at *
  generalize hct : ctS f.length f = ct at *
  clear hct hbad
  cases bad
  · cases cg
    · have hno := hNo (fun h => by have := (hI.2 h).2.1; cases this)
      clear hI hNo
      have Hhno := Lib.hid hno
      clear hno
      go_wp2_with fail
      refine bodyPost_ret (v := .tuple #[.agg #[.int .i64 0, .slice none 0 0], .bool false]) (by simp [results, Tryz.results31, go_sem, v0, v1, v2, v3, vl]) rfl ?_
      exact ⟨(HE.out.setCell (by simp) _).setCell (by simp) _, .inr ⟨rfl, Hhno.out⟩⟩
    · by_cases he : ct = bs L
      · have hct2 := hI.1 ⟨rfl, rfl, he⟩
        clear hI hNo
        have d3 := str_eq he
        clear he
        have Hhct2 := Lib.hid hct2
        clear hct2
        go_wp2_with fail
        refine bodyPost_ret (v := .tuple #[.agg #[.int .i64 f.length, .slice ao f.length ca], .bool true]) (by simp [results, Tryz.results31, go_sem, v0, v1, v2, v3, vl]) rfl ?_
        exact ⟨(HE.out.setCell (by simp) _).setCell (by simp) _, .inl ⟨f, ao, ca, rfl, Hhct2.out, (HF.out.only (((Only.refl (fun b => b = w.heap.size) _ _).setCell (p := ⟨w.heap.size, 0, none⟩) (.inl rfl) _).setCell (p := ⟨w.heap.size, 1, none⟩) (.inl rfl) _)).ints⟩⟩
      · have hno := hNo (fun h => he (hI.2 h).2.2)
        clear hI hNo
        have d3 := str_ne he
        clear he
        have Hhno := Lib.hid hno
        clear hno
        go_wp2_with fail
        refine bodyPost_ret (v := .tuple #[.agg #[.int .i64 0, .slice none 0 0], .bool false]) (by simp [results, Tryz.results31, go_sem, v0, v1, v2, v3, vl]) rfl ?_
        exact ⟨(HE.out.setCell (by simp) _).setCell (by simp) _, .inr ⟨rfl, Hhno.out⟩⟩
  · have hno := hNo (fun h => by have := (hI.2 h).1; cases this)
    clear hI hNo
    have Hhno := Lib.hid hno
    clear hno
    go_wp2_with fail
    refine bodyPost_ret (v := .tuple #[.agg #[.int .i64 0, .slice none 0 0], .bool false]) (by simp [results, Tryz.results31, go_sem, v0, v1, v2, v3, vl]) rfl ?_
    exact ⟨(HE.out.setCell (by simp) _).setCell (by simp) _, .inr ⟨rfl, Hhno.out⟩⟩

end Go.Proofs.YtjikmjhpmkakoaaGreatDoor
