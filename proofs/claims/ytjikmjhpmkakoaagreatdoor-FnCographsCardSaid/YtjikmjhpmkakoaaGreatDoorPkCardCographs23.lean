/-
  FormatSet of a set of one vertex, the text of a cotree and CotreeOf on both sides. For at most 2^20 rows.
-/
import Derived.Test.YtjikmjhpmkakoaaGreatDoorPkCardCographs20
import Derived.Test.YtjikmjhpmkakoaaGreatDoorPkCardCographs22
import Derived.Test.YtjikmjhpmkakoaaGreatDoorPkCardCographs05
namespace Go.Proofs.YtjikmjhpmkakoaaGreatDoor
open Go.RowKit

theorem nil_app (s : ByteArray) : (⟨#[]⟩ : ByteArray) ++ s = s := ByteArray.ext (by simp [ByteArray.data_append])
theorem numS_one {v : Nat} (h : v < 10) : numS v = bs [digB v] := by unfold numS; rw [if_pos h]; rfl
/-- The text before and behind the one round. -/
def stS (s : ByteArray) (k : Nat) : ByteArray := if k = 0 then ⟨#[]⟩ else s
theorem stS_zero (s : ByteArray) : stS s 0 = ⟨#[]⟩ := rfl
theorem stS_one (s : ByteArray) : stS s 1 = s := rfl
theorem toList_one (b : UInt8) : (bs [b]).toList ≠ [] := by
  unfold bs ByteArray.toList ByteArray.toList.loop
  simp [ByteArray.size, ByteArray.toList.loop]
theorem one_ne {S : Nat} (h1 : cnt S = 1) : S ≠ 0 := fun e => by
  subst e
  have : cnt 0 = 0 := by decide
  omega
theorem one_list {S : Nat} (h1 : cnt S = 1) {w : World} {ao : Option Addr} (hN : NatsAt w ao (els S)) : ∃ b off, ao = some ⟨b, off, none⟩ ∧ b < w.heap.size ∧ w.cell? ⟨b, off, none⟩ = some (.int .i64 (low S : Int)) := by
  have e : (els S).length = 1 := h1
  obtain ⟨b, off, h, hb, hc⟩ := hN (by omega)
  exact ⟨b, off, h, hb, hc 0 (by omega)⟩

set_option maxRecDepth 100000 in
set_option maxHeartbeats 1000000 in
theorem specFmtOne_at (S : Nat) (h7 : S < 128) (h1 : cnt S = 1) (v : Nat) (hlow : low S = v) (w : World) :
    Calls Tryz.prog 125 #[.int .i64 S] w fun e w' => e = .returned (.string (bs [digB v])) ∧ Below w.heap.size w w' := by
  have hv : v < 7 := by rw [← hlow]; exact (low_facts h7 (one_ne h1)).2.1
  have HE := Lib.hid (numS_one (v := v) (by omega))
  have hL := specListN_any S h7 w
  rw [h1] at hL
  have HF := Lib.hid (fun w => fmt_any v (by omega) w)
  have HA := Lib.hid (nil_app (numS v))
  go_enter Tryz.func125, Tryz.ntmps125
  go_wp2_with fail
  refine hL.mono ?_
  rintro e w2 ⟨ao, cap, rfl, hB2, hN⟩
  obtain ⟨b, off, rfl, hb, hc⟩ := one_list h1 hN
  clear hN hL h1
  rw [hlow] at hc
  clear hlow
  generalize numS v = s1 at *
  have HhB2 := Lib.hid hB2
  clear hB2
  have Hhv := Lib.hid hv
  clear hv
  obtain ⟨m, hm0⟩ : ∃ m : Later w2, m.w = w2 := ⟨Later.refl _, rfl⟩
  refine (fun h => hm0 ▸ h) ?_
  clear hm0
  go_wp2_with fail
  go_loopw [4, 5] (fun s i wr => (∃ m : Later w2, wr = m.w) ∧ ∃ j : Nat, j ≤ 1 ∧ i = .int .i64 j ∧ s = .string (stS s1 j)) (fun _ i _ => 1 - (intOf i).toNat)
  case atStart => exact ⟨⟨m, rfl⟩, 0, by omega, rfl, rfl⟩
  case round =>
    obtain ⟨⟨m, rfl⟩, j, hj, rfl, rfl⟩ := hrel
    rcases (by omega : j = 0 ∨ j = 1) with rfl | rfl
    · have hsz : ¬9223372036854775807 < (stS s1 0).size + s1.size := by rw [stS_zero, HE.out, bs_size]; show ¬9223372036854775807 < 0 + 1; omega
      go_wp2_with fail
      refine (Calls.later m (HF.out _)).mono ?_
      rintro e w' ⟨rfl, m, rfl⟩
      go_wp2_with fail
      go_roundw
      case rel => exact ⟨⟨m, rfl⟩, 1, by omega, rfl, by rw [stS_zero, HA.out, stS_one]⟩
      case measure => simp [intOf]
    · have hd : ¬(stS s1 1).toList = [] := by rw [stS_one, HE.out]; exact toList_one _
      have HS : Hid (stS s1 1 = bs [digB v]) := Lib.hid (by rw [stS_one, HE.out])
      go_wp2_with fail
      go_ret
      exact ⟨by rw [← HS.out]; rfl, below_more' HhB2.out m.below⟩

set_option maxRecDepth 100000 in
set_option maxHeartbeats 1000000 in
theorem implFmtOne_at (S : Nat) (h7 : S < 128) (h1 : cnt S = 1) (v : Nat) (hlow : low S = v) (w : World) :
    Calls Tryz.prog 124 #[.int .i64 S] w fun e w' => e = .returned (.string (bs [digB v])) ∧ Below w.heap.size w w' := by
  have hv : v < 7 := by rw [← hlow]; exact (low_facts h7 (one_ne h1)).2.1
  have HE := Lib.hid (numS_one (v := v) (by omega))
  have hL := implListN_any S h7 w
  rw [h1] at hL
  have HF := Lib.hid (fun w => itoa_any v (by omega) w)
  have HA := Lib.hid (nil_app (numS v))
  have h0 : ((S : Int) == 0) = false := by rw [beq_eq_false_iff_ne]; have := one_ne h1; omega
  have hdig : ∀ (w2 : World) (ao : Option Addr) (cap : Nat), NatsAt w2 ao (els S) → Calls Tryz.prog 149 #[.slice ao 1 cap] w2 fun e w' => e = .returned (.string (bs [digB v])) ∧ Below w2.heap.size w2 w' := fun w2 ao cap hN => by
    obtain ⟨b, off, rfl, hb, hc⟩ := one_list h1 hN
    clear hN hL h1 h0
    rw [hlow] at hc
    generalize numS v = s1 at *
    have Hhv := Lib.hid hv
    clear hv
    go_enter Tryz.func149, Tryz.ntmps149
    go_wp2_with fail
    go_loopw [3, 8] (fun s i wr => (∃ m : Later w2, wr = m.w) ∧ ∃ j : Nat, j ≤ 1 ∧ i = .int .i64 j ∧ s = .string (stS s1 j)) (fun _ i _ => 1 - (intOf i).toNat)
    case atStart => exact ⟨⟨Later.refl _, rfl⟩, 0, by omega, rfl, rfl⟩
    case round =>
      obtain ⟨⟨m, rfl⟩, j, hj, rfl, rfl⟩ := hrel
      rcases (by omega : j = 0 ∨ j = 1) with rfl | rfl
      · have hsz : ¬9223372036854775807 < (stS s1 0).size + s1.size := by rw [stS_zero, HE.out, bs_size]; show ¬9223372036854775807 < 0 + 1; omega
        go_wp2_with fail
        refine (HF.out _).mono ?_
        rintro e w' ⟨rfl, rfl⟩
        go_wp2_with fail
        go_roundw
        case rel => exact ⟨⟨m, rfl⟩, 1, by omega, rfl, by rw [stS_zero, HA.out, stS_one]⟩
        case measure => simp [intOf]
      · have HS : Hid (stS s1 1 = bs [digB v]) := Lib.hid (by rw [stS_one, HE.out])
        go_wp2_with fail
        go_ret
        exact ⟨by rw [← HS.out]; rfl, m.below⟩
  go_enter Tryz.func124, Tryz.ntmps124
  go_wp2_with fail
  refine hL.mono ?_
  rintro e w2 ⟨ao, cap, rfl, hB2, hN⟩
  have hD := hdig w2 ao cap hN
  clear hN hL hdig
  go_wp2_with fail
  refine hD.mono ?_
  rintro e w3 ⟨rfl, hB3⟩
  have HBB := Lib.hid (below_more' hB2 hB3)
  clear hB2 hB3 hD
  go_wp2_with fail
  go_ret
  exact ⟨rfl, HBB.out⟩

theorem specFmtOne_any (S : Nat) (h7 : S < 128) (h1 : cnt S = 1) (w : World) :
    Calls Tryz.prog 125 #[.int .i64 S] w fun e w' => e = .returned (.string (bs [digB (low S)])) ∧ Below w.heap.size w w' := specFmtOne_at S h7 h1 _ rfl w
theorem implFmtOne_any (S : Nat) (h7 : S < 128) (h1 : cnt S = 1) (w : World) :
    Calls Tryz.prog 124 #[.int .i64 S] w fun e w' => e = .returned (.string (bs [digB (low S)])) ∧ Below w.heap.size w w' := implFmtOne_at S h7 h1 _ rfl w

/-! ### The texts -/

theorem bodyT_le {rs : List Int} {t : Nat → List UInt8} {S : Nat} {ps : List Nat} (hP : Pts rs S ps) (h7 : S < 128) (ht : ∀ P ∈ ps, (t P).length + 5 ≤ 6 * cnt P) (i : Nat) (hi : i ≤ ps.length) : (bodyT t (ps.take i)).length ≤ 42 := by
  have h1 := body_len hP h7 ht i hi
  have h2 := cnt_le (orLs (ps.take i))
  omega
theorem pow2_fin : ∀ s : Fin 128, s.val ≠ 0 → (s.val &&& (s.val - 1) = 0 ↔ cnt s.val = 1) := by decide +kernel

set_option maxRecDepth 100000 in
set_option maxHeartbeats 4000000 in
theorem specText_any (f h : List Int) (N : Nat) (fo ho : Option Addr) (fc hc : Nat) (c : Co f h) (hp : noP4 f) (hN : f.length = N) : ∀ (k S : Nat) (w : World), cnt S ≤ k → 1 ≤ cnt S → S < 2 ^ N → IntsAt w fo f → IntsAt w ho h →
    Calls Tryz.prog 80 #[.agg #[.int .i64 N, .slice fo N fc], .agg #[.int .i64 N, .slice ho N hc], .int .i64 S] w fun e w' => e = .returned (.string (bs (txtF f h k S))) ∧ Below w.heap.size w w' := by
  have hN2 : h.length = N := by rw [← c.len]; exact hN
  have hN7 : N ≤ 7 := by rw [← hN]; exact c.gf.le
  intro k
  induction k with
  | zero => intro S w hk h1; omega
  | succ k ih =>
    intro S w hk h1 hS hfo hho
    have h7 : S < 128 := Nat.lt_of_lt_of_le hS (by have := Nat.pow_le_pow_right (n := 2) (by decide) hN7; omega)
    replace ih := Lib.hid ih
    have hPf := fun (w' : World) (h : IntsAt w' fo f) => specParts_any f S fo fc w' h c.gf.graph (by rw [hN]; exact hS)
    have hPh := fun (w' : World) (hh : IntsAt w' ho h) => specParts_any h S ho hc w' hh c.gh.graph (by rw [hN2]; exact hS)
    rw [hN] at hPf
    rw [hN2] at hPh
    have hcc := cnt_le S
    by_cases hone : cnt S = 1
    · have HTX := Lib.hid (txtF_one (f := f) (h := h) (k := k) hone)
      go_enter Tryz.func80, Tryz.ntmps80
      go_wp2_with fail
      generalize hW : World.alloc _ _ = W1
      obtain ⟨hB, -, k0, k1⟩ := alloc2 hW
      replace hfo := hfo.below hB
      replace hho := hho.below hB
      have hb0 := k0.lt
      have hc0 := k0.cell 0
      have hc1 := k0.cell 1
      have hd0 := k1.lt
      have he0 := k1.cell 0
      have he1 := k1.cell 1
      simp at hc0 hc1 he0 he1
      have HhB := Lib.hid hB
      clear hW hB k0 k1
      have hF := fun m : Later W1 => specFmtOne_any S h7 hone m.w
      have hC := fun m : Later W1 => specCount_any S h7 m.w
      rw [hone] at hC
      clear hPf hPh ih hk h1 hone
      obtain ⟨m, hm0⟩ : ∃ m : Later W1, m.w = W1 := ⟨Later.refl _, rfl⟩
      refine (fun h => hm0 ▸ h) ?_
      clear hm0
      go_wp2_with fail
      refine (Calls.later m (hC m)).mono ?_
      rintro e w' ⟨rfl, m, rfl⟩
      go_wp2_with fail
      refine (Calls.later m (hF m)).mono ?_
      rintro e w' ⟨rfl, m, rfl⟩
      go_wp2_with fail
      go_ret
      exact ⟨by rw [HTX.out]; rfl, below_later HhB.out m⟩
    · have h2 : 2 ≤ cnt S := by omega
      go_enter Tryz.func80, Tryz.ntmps80
      go_wp2_with fail
      generalize hW : World.alloc _ _ = W1
      obtain ⟨hB, -, k0, k1⟩ := alloc2 hW
      replace hfo := hfo.below hB
      replace hho := hho.below hB
      have hb0 := k0.lt
      have hc0 := k0.cell 0
      have hc1 := k0.cell 1
      have hd0 := k1.lt
      have he0 := k1.cell 0
      have he1 := k1.cell 1
      simp at hc0 hc1 he0 he1
      have HhB := Lib.hid hB
      clear hW hB k0 k1
      have hC := fun m : Later W1 => specCount_any S h7 m.w
      have hd : ((cnt S : Int) == 1) = false := by rw [beq_eq_false_iff_ne]; omega
      have hPF := parts_pts c.gf (S := S) (by rw [hN]; exact hS)
      have hPH := parts_pts c.gh (S := S) (by rw [hN2]; exact hS)
      have hor := cog_parts c hp (S := S) (by rw [hN]; exact hS) h2
      by_cases hser : (partsOf f S).length = 1
      · have HTX := Lib.hid (txtF_ser (f := f) (h := h) (k := k) hone hser)
        have hn := hor.resolve_left fun e => e hser
        have hd1 : (((ints (partsOf f S)).length : Int) == 1) = true := by rw [ints_len, beq_iff_eq]; omega
        clear hPF hor hser
        obtain ⟨m, hm0⟩ : ∃ m : Later W1, m.w = W1 := ⟨Later.refl _, rfl⟩
        refine (fun h => hm0 ▸ h) ?_
        clear hm0
        have hpf := fun m : Later W1 => hPf m.w (hfo.later m)
        generalize ints (partsOf f S) = L0 at *
        have HPh := Lib.hid hPh
        clear hPf hPh hone
        go_wp2_with fail
        refine (Calls.later m (hC m)).mono ?_
        rintro e w' ⟨rfl, m, rfl⟩
        clear hC hd
        go_wp2_with fail
        refine (hpf m).mono ?_
        rintro e w2 ⟨lo, lc, rfl, hB2, -⟩
        obtain ⟨m, rfl⟩ : ∃ m2 : Later W1, m2.w = w2 := ⟨m.on hB2, rfl⟩
        clear hB2 hpf
        have hph := HPh.out m.w (hho.later m)
        clear HPh
        go_wp2_with fail
        refine hph.mono ?_
        rintro e w2 ⟨lo2, lc2, rfl, hB2, hL⟩
        replace hL := hL.ints
        clear hph
        obtain ⟨m, rfl⟩ : ∃ m2 : Later W1, m2.w = w2 := ⟨m.on hB2, rfl⟩
        clear hB2
        go_wp2_with fail
        clear hd1
        replace hfo := hfo.later m
        replace hho := hho.later m
        replace hc0 : m.w.cell? _ = _ := (m.cell _ _ hb0).trans hc0
        replace hc1 : m.w.cell? _ = _ := (m.cell _ _ hb0).trans hc1
        replace he0 : m.w.cell? _ = _ := (m.cell _ _ hd0).trans he0
        replace he1 : m.w.cell? _ = _ := (m.cell _ _ hd0).trans he1
        replace hb0 := Nat.lt_of_lt_of_le hb0 m.size
        replace hd0 := Nat.lt_of_lt_of_le hd0 m.size
        replace HhB := Lib.hid (below_later HhB.out m)
        generalize m.w = W2 at *
        clear m
        have hP := hPH
        clear hPH
        have hl7 := partsOf_len h S
        have HIH : Hid (∀ (i : Nat) (m : Later W2), i < (partsOf h S).length → Calls Tryz.prog 80 #[.agg #[.int .i64 N, .slice fo N fc], .agg #[.int .i64 N, .slice ho N hc], .int .i64 (gi (ints (partsOf h S)) i)] m.w fun e w' => e = .returned (.string (bs (txtF f h k (eln (partsOf h S) i)))) ∧ Below m.w.heap.size m.w w') := Lib.hid fun i m hi => by
          have e : gi (ints (partsOf h S)) i = (eln (partsOf h S) i : Int) := gi_map _ _ hi
          obtain ⟨l1, l2⟩ := hP.less h7 hn (eln_mem hi)
          rw [e]
          exact ih.out _ m.w (by omega) (by omega) ((hP.at hi).1.lt hS) (hfo.later m) (hho.later m)
        have HBT := Lib.hid (fun i (hi : i < (partsOf h S).length) => bodyT_take (t := txtF f h k) hi)
        have HTL := Lib.hid (fun i (hi : i ≤ (partsOf h S).length) => bodyT_le (t := txtF f h k) hP h7 (fun P hP' => by
          obtain ⟨l1, l2⟩ := hP.less h7 hn hP'
          exact txt_len c hp k P ((hP.each P hP').1.lt (by rw [hN]; exact hS)) (by omega) (by omega)) i hi)
        have hll := ints_len (partsOf h S)
        clear hP hn ih
        generalize partsOf h S = ps at *
        generalize ints ps = L at *
        clear hfo hho
        obtain ⟨m, hm0⟩ : ∃ m : Later W2, m.w = W2 := ⟨Later.refl _, rfl⟩
        refine (fun h => hm0 ▸ h) ?_
        clear hm0
        go_loopw [7, 9] (fun s i wr => (∃ m : Later W2, wr = m.w) ∧ ∃ j : Nat, j ≤ ps.length ∧ i = .int .i64 j ∧ s = .string (bs ([40, 42] ++ bodyT (txtF f h k) (ps.take j)))) (fun _ i _ => ps.length - (intOf i).toNat)
        case atStart => exact ⟨⟨m, rfl⟩, 0, by omega, rfl, rfl⟩
        case round =>
          obtain ⟨⟨m, rfl⟩, j, hj, rfl, rfl⟩ := hrel
          by_cases hlt : j < ps.length
          · obtain ⟨b, off, rfl, hb, hcL⟩ := hL (by omega)
            have x0 := hcL j (by omega)
            have hih := fun m => HIH.out j m hlt
            have hts := HTL.out j hj
            have HB := Lib.hid (HBT.out j hlt)
            have hjl : j < L.length := by omega
            have hsz : (bs ([40, 42] ++ bodyT (txtF f h k) (ps.take j))).size ≤ 200 := by rw [bs_size]; simp; omega
            have hsz2 : (bs (txtF f h k (eln ps j))).size ≤ 200 := by
              have := HTL.out (j + 1) hlt
              rw [HBT.out j hlt] at this
              rw [bs_size]; simp at this; omega
            have HA : Hid (∀ X Y : List UInt8, bs X ++ (⟨#[32]⟩ : ByteArray) ++ bs Y = bs (X ++ (32 :: Y))) := Lib.hid fun X Y => by
              have e : (⟨#[32]⟩ : ByteArray) = bs [32] := rfl
              rw [e, bs_app, bs_app]; simp
            have HA2 : Hid (∀ X Y : List UInt8, bs X ++ ((⟨#[32]⟩ : ByteArray) ++ bs Y) = bs (X ++ (32 :: Y))) := Lib.hid fun X Y => by
              have e : (⟨#[32]⟩ : ByteArray) = bs [32] := rfl
              rw [e, bs_app, bs_app]; simp
            clear hcL hll hts HIH HTL HBT
            generalize gi L j = Pj at *
            generalize eln ps j = Q at *
            generalize hX : [40, 42] ++ bodyT (txtF f h k) (ps.take j) = X at *
            generalize txtF f h k Q = Y at *
            have HhX := Lib.hid hX
            clear hX
            go_wp2_with fail
            refine wp_region_later m rfl (by kernel_rfl) (by kernel_rfl) ?_
            repeat (go_big_quiet_step ((first | (go_at_call 80; exact Calls.later _ (hih _)))))
            refine wpQuiet_nil ?_
            rintro _ ⟨m, rfl⟩
            go_wp2_with fail
            go_roundw
            case rel => exact ⟨⟨m, rfl⟩, j + 1, by omega, by go_num, by rw [HB.out, ← List.append_assoc, HhX.out, HA.out]⟩
            case measure => simp [intOf]; omega
          · obtain rfl : j = ps.length := by omega
            have hts := HTL.out ps.length (Nat.le_refl _)
            have hsz : (bs ([40, 42] ++ bodyT (txtF f h k) (ps.take ps.length))).size ≤ 200 := by rw [bs_size]; simp at hts ⊢; omega
            have HZ : Hid (bs ([40, 42] ++ bodyT (txtF f h k) (ps.take ps.length)) ++ (⟨#[41]⟩ : ByteArray) = bs (txtF f h (k + 1) S)) := Lib.hid (by
              have e : (⟨#[41]⟩ : ByteArray) = bs [41] := rfl
              rw [e, bs_app, List.take_length, HTX.out])
            clear hts HIH HTL HBT
            generalize [40, 42] ++ bodyT (txtF f h k) (ps.take ps.length) = X at *
            go_wp2_with fail
            go_ret
            exact ⟨by rw [← HZ.out]; rfl, below_later HhB.out m⟩
      · have HTX := Lib.hid (txtF_par (f := f) (h := h) (k := k) hone hser)
        have hn := hser
        have Hhn := Lib.hid hn
        clear hn
        have hd1 : (((ints (partsOf f S)).length : Int) == 1) = false := by rw [ints_len, beq_eq_false_iff_ne]; omega
        clear hPH hor hPh
        obtain ⟨m, hm0⟩ : ∃ m : Later W1, m.w = W1 := ⟨Later.refl _, rfl⟩
        refine (fun h => hm0 ▸ h) ?_
        clear hm0
        have hpf := fun m : Later W1 => hPf m.w (hfo.later m)
        clear hPf hone
        go_wp2_with fail
        refine (Calls.later m (hC m)).mono ?_
        rintro e w' ⟨rfl, m, rfl⟩
        clear hC hd
        go_wp2_with fail
        refine (hpf m).mono ?_
        rintro e w2 ⟨lo2, lc2, rfl, hB2, hL⟩
        replace hL := hL.ints
        obtain ⟨m, rfl⟩ : ∃ m2 : Later W1, m2.w = w2 := ⟨m.on hB2, rfl⟩
        clear hB2 hpf
        go_wp2_with fail
        clear hd1 hser
        replace hfo := hfo.later m
        replace hho := hho.later m
        replace hc0 : m.w.cell? _ = _ := (m.cell _ _ hb0).trans hc0
        replace hc1 : m.w.cell? _ = _ := (m.cell _ _ hb0).trans hc1
        replace he0 : m.w.cell? _ = _ := (m.cell _ _ hd0).trans he0
        replace he1 : m.w.cell? _ = _ := (m.cell _ _ hd0).trans he1
        replace hb0 := Nat.lt_of_lt_of_le hb0 m.size
        replace hd0 := Nat.lt_of_lt_of_le hd0 m.size
        replace HhB := Lib.hid (below_later HhB.out m)
        generalize m.w = W2 at *
        clear m
        have hP := hPF
        have hn := Hhn.out
        clear hPF Hhn
        have hl7 := partsOf_len f S
        have HIH : Hid (∀ (i : Nat) (m : Later W2), i < (partsOf f S).length → Calls Tryz.prog 80 #[.agg #[.int .i64 N, .slice fo N fc], .agg #[.int .i64 N, .slice ho N hc], .int .i64 (gi (ints (partsOf f S)) i)] m.w fun e w' => e = .returned (.string (bs (txtF f h k (eln (partsOf f S) i)))) ∧ Below m.w.heap.size m.w w') := Lib.hid fun i m hi => by
          have e : gi (ints (partsOf f S)) i = (eln (partsOf f S) i : Int) := gi_map _ _ hi
          obtain ⟨l1, l2⟩ := hP.less h7 hn (eln_mem hi)
          rw [e]
          exact ih.out _ m.w (by omega) (by omega) ((hP.at hi).1.lt hS) (hfo.later m) (hho.later m)
        have HBT := Lib.hid (fun i (hi : i < (partsOf f S).length) => bodyT_take (t := txtF f h k) hi)
        have HTL := Lib.hid (fun i (hi : i ≤ (partsOf f S).length) => bodyT_le (t := txtF f h k) hP h7 (fun P hP' => by
          obtain ⟨l1, l2⟩ := hP.less h7 hn hP'
          exact txt_len c hp k P ((hP.each P hP').1.lt (by rw [hN]; exact hS)) (by omega) (by omega)) i hi)
        have hll := ints_len (partsOf f S)
        clear hP hn ih
        generalize partsOf f S = ps at *
        generalize ints ps = L at *
        clear hfo hho
        obtain ⟨m, hm0⟩ : ∃ m : Later W2, m.w = W2 := ⟨Later.refl _, rfl⟩
        refine (fun h => hm0 ▸ h) ?_
        clear hm0
        go_loopw [7, 9] (fun s i wr => (∃ m : Later W2, wr = m.w) ∧ ∃ j : Nat, j ≤ ps.length ∧ i = .int .i64 j ∧ s = .string (bs ([40, 43] ++ bodyT (txtF f h k) (ps.take j)))) (fun _ i _ => ps.length - (intOf i).toNat)
        case atStart => exact ⟨⟨m, rfl⟩, 0, by omega, rfl, rfl⟩
        case round =>
          obtain ⟨⟨m, rfl⟩, j, hj, rfl, rfl⟩ := hrel
          by_cases hlt : j < ps.length
          · obtain ⟨b, off, rfl, hb, hcL⟩ := hL (by omega)
            have x0 := hcL j (by omega)
            have hih := fun m => HIH.out j m hlt
            have hts := HTL.out j hj
            have HB := Lib.hid (HBT.out j hlt)
            have hjl : j < L.length := by omega
            have hsz : (bs ([40, 43] ++ bodyT (txtF f h k) (ps.take j))).size ≤ 200 := by rw [bs_size]; simp; omega
            have hsz2 : (bs (txtF f h k (eln ps j))).size ≤ 200 := by
              have := HTL.out (j + 1) hlt
              rw [HBT.out j hlt] at this
              rw [bs_size]; simp at this; omega
            have HA : Hid (∀ X Y : List UInt8, bs X ++ (⟨#[32]⟩ : ByteArray) ++ bs Y = bs (X ++ (32 :: Y))) := Lib.hid fun X Y => by
              have e : (⟨#[32]⟩ : ByteArray) = bs [32] := rfl
              rw [e, bs_app, bs_app]; simp
            have HA2 : Hid (∀ X Y : List UInt8, bs X ++ ((⟨#[32]⟩ : ByteArray) ++ bs Y) = bs (X ++ (32 :: Y))) := Lib.hid fun X Y => by
              have e : (⟨#[32]⟩ : ByteArray) = bs [32] := rfl
              rw [e, bs_app, bs_app]; simp
            clear hcL hll hts HIH HTL HBT
            generalize gi L j = Pj at *
            generalize eln ps j = Q at *
            generalize hX : [40, 43] ++ bodyT (txtF f h k) (ps.take j) = X at *
            generalize txtF f h k Q = Y at *
            have HhX := Lib.hid hX
            clear hX
            go_wp2_with fail
            refine wp_region_later m rfl (by kernel_rfl) (by kernel_rfl) ?_
            repeat (go_big_quiet_step ((first | (go_at_call 80; exact Calls.later _ (hih _)))))
            refine wpQuiet_nil ?_
            rintro _ ⟨m, rfl⟩
            go_wp2_with fail
            go_roundw
            case rel => exact ⟨⟨m, rfl⟩, j + 1, by omega, by go_num, by rw [HB.out, ← List.append_assoc, HhX.out, HA.out]⟩
            case measure => simp [intOf]; omega
          · obtain rfl : j = ps.length := by omega
            have hts := HTL.out ps.length (Nat.le_refl _)
            have hsz : (bs ([40, 43] ++ bodyT (txtF f h k) (ps.take ps.length))).size ≤ 200 := by rw [bs_size]; simp at hts ⊢; omega
            have HZ : Hid (bs ([40, 43] ++ bodyT (txtF f h k) (ps.take ps.length)) ++ (⟨#[41]⟩ : ByteArray) = bs (txtF f h (k + 1) S)) := Lib.hid (by
              have e : (⟨#[41]⟩ : ByteArray) = bs [41] := rfl
              rw [e, bs_app, List.take_length, HTX.out])
            clear hts HIH HTL HBT
            generalize [40, 43] ++ bodyT (txtF f h k) (ps.take ps.length) = X at *
            go_wp2_with fail
            go_ret
            exact ⟨by rw [← HZ.out]; rfl, below_later HhB.out m⟩

set_option maxRecDepth 100000 in
set_option maxHeartbeats 4000000 in
theorem implText_any (f h : List Int) (N : Nat) (fo ho : Option Addr) (fc hc : Nat) (c : Co f h) (hp : noP4 f) (hN : f.length = N) : ∀ (k S : Nat) (w : World), cnt S ≤ k → 1 ≤ cnt S → S < 2 ^ N → IntsAt w fo f → IntsAt w ho h →
    Calls Tryz.prog 77 #[.agg #[.int .i64 N, .slice fo N fc], .agg #[.int .i64 N, .slice ho N hc], .int .i64 S] w fun e w' => e = .returned (.string (bs (txtF f h k S))) ∧ Below w.heap.size w w' := by
  have hN2 : h.length = N := by rw [← c.len]; exact hN
  have hN7 : N ≤ 7 := by rw [← hN]; exact c.gf.le
  intro k
  induction k with
  | zero => intro S w hk h1; omega
  | succ k ih =>
    intro S w hk h1 hS hfo hho
    have h7 : S < 128 := Nat.lt_of_lt_of_le hS (by have := Nat.pow_le_pow_right (n := 2) (by decide) hN7; omega)
    replace ih := Lib.hid ih
    have hPf := fun (w' : World) (h : IntsAt w' fo f) => implParts_any f S fo fc w' h c.gf.graph (by rw [hN]; exact hS)
    have hPh := fun (w' : World) (hh : IntsAt w' ho h) => implParts_any h S ho hc w' hh c.gh.graph (by rw [hN2]; exact hS)
    rw [hN] at hPf
    rw [hN2] at hPh
    have hcc := cnt_le S
    by_cases hone : cnt S = 1
    · have HTX := Lib.hid (txtF_one (f := f) (h := h) (k := k) hone)
      have hbt : (bits BinOp.and IntKind.i64 (S : Int) ((S : Int) - 1) == 0) = true := by
        rw [show ((S : Int) - 1) = ((S - 1 : Nat) : Int) by have := one_ne hone; omega, bits_and_nat _ _ (by omega) (by omega), (pow2_fin ⟨S, h7⟩ (one_ne hone)).2 hone]; rfl
      go_enter Tryz.func77, Tryz.ntmps77
      go_wp2_with fail
      generalize hW : World.alloc _ _ = W1
      obtain ⟨hB, -, k0, k1⟩ := alloc2 hW
      replace hfo := hfo.below hB
      replace hho := hho.below hB
      have hb0 := k0.lt
      have hc0 := k0.cell 0
      have hc1 := k0.cell 1
      have hd0 := k1.lt
      have he0 := k1.cell 0
      have he1 := k1.cell 1
      simp at hc0 hc1 he0 he1
      have HhB := Lib.hid hB
      clear hW hB k0 k1
      have hF := fun m : Later W1 => implFmtOne_any S h7 hone m.w
      clear hPf hPh ih hk h1 hone
      obtain ⟨m, hm0⟩ : ∃ m : Later W1, m.w = W1 := ⟨Later.refl _, rfl⟩
      refine (fun h => hm0 ▸ h) ?_
      clear hm0
      go_wp2_with fail
      refine (Calls.later m (hF m)).mono ?_
      rintro e w' ⟨rfl, m, rfl⟩
      go_wp2_with fail
      go_ret
      exact ⟨by rw [HTX.out]; rfl, below_later HhB.out m⟩
    · have h2 : 2 ≤ cnt S := by omega
      have hbt : (bits BinOp.and IntKind.i64 (S : Int) ((S : Int) - 1) == 0) = false := by
        have h0 : S ≠ 0 := fun e => by subst e; exact absurd h1 (by decide)
        rw [show ((S : Int) - 1) = ((S - 1 : Nat) : Int) by omega, bits_and_nat _ _ (by omega) (by omega), beq_eq_false_iff_ne]
        exact fun e => hone ((pow2_fin ⟨S, h7⟩ h0).1 (by have e2 : ((S &&& (S - 1) : Nat) : Int) = 0 := e; show S &&& (S - 1) = 0; omega))
      go_enter Tryz.func77, Tryz.ntmps77
      go_wp2_with fail
      generalize hW : World.alloc _ _ = W1
      obtain ⟨hB, -, k0, k1⟩ := alloc2 hW
      replace hfo := hfo.below hB
      replace hho := hho.below hB
      have hb0 := k0.lt
      have hc0 := k0.cell 0
      have hc1 := k0.cell 1
      have hd0 := k1.lt
      have he0 := k1.cell 0
      have he1 := k1.cell 1
      simp at hc0 hc1 he0 he1
      have HhB := Lib.hid hB
      clear hW hB k0 k1
      have hPF := parts_pts c.gf (S := S) (by rw [hN]; exact hS)
      have hPH := parts_pts c.gh (S := S) (by rw [hN2]; exact hS)
      have hor := cog_parts c hp (S := S) (by rw [hN]; exact hS) h2
      by_cases hser : (partsOf f S).length = 1
      · have HTX := Lib.hid (txtF_ser (f := f) (h := h) (k := k) hone hser)
        have hn := hor.resolve_left fun e => e hser
        have hd1 : (((ints (partsOf f S)).length : Int) == 1) = true := by rw [ints_len, beq_iff_eq]; omega
        clear hPF hor hser
        obtain ⟨m, hm0⟩ : ∃ m : Later W1, m.w = W1 := ⟨Later.refl _, rfl⟩
        refine (fun h => hm0 ▸ h) ?_
        clear hm0
        have hpf := fun m : Later W1 => hPf m.w (hfo.later m)
        generalize ints (partsOf f S) = L0 at *
        have HPh := Lib.hid hPh
        clear hPf hPh hone
        go_wp2_with fail
        refine (hpf m).mono ?_
        rintro e w2 ⟨lo, lc, rfl, hB2, -⟩
        obtain ⟨m, rfl⟩ : ∃ m2 : Later W1, m2.w = w2 := ⟨m.on hB2, rfl⟩
        clear hB2 hpf
        have hph := HPh.out m.w (hho.later m)
        clear HPh
        go_wp2_with fail
        refine hph.mono ?_
        rintro e w2 ⟨lo2, lc2, rfl, hB2, hL⟩
        replace hL := hL.ints
        clear hph
        obtain ⟨m, rfl⟩ : ∃ m2 : Later W1, m2.w = w2 := ⟨m.on hB2, rfl⟩
        clear hB2
        go_wp2_with fail
        clear hd1
        replace hfo := hfo.later m
        replace hho := hho.later m
        replace hc0 : m.w.cell? _ = _ := (m.cell _ _ hb0).trans hc0
        replace hc1 : m.w.cell? _ = _ := (m.cell _ _ hb0).trans hc1
        replace he0 : m.w.cell? _ = _ := (m.cell _ _ hd0).trans he0
        replace he1 : m.w.cell? _ = _ := (m.cell _ _ hd0).trans he1
        replace hb0 := Nat.lt_of_lt_of_le hb0 m.size
        replace hd0 := Nat.lt_of_lt_of_le hd0 m.size
        replace HhB := Lib.hid (below_later HhB.out m)
        generalize m.w = W2 at *
        clear m
        have hP := hPH
        clear hPH
        have hl7 := partsOf_len h S
        have HIH : Hid (∀ (i : Nat) (m : Later W2), i < (partsOf h S).length → Calls Tryz.prog 77 #[.agg #[.int .i64 N, .slice fo N fc], .agg #[.int .i64 N, .slice ho N hc], .int .i64 (gi (ints (partsOf h S)) i)] m.w fun e w' => e = .returned (.string (bs (txtF f h k (eln (partsOf h S) i)))) ∧ Below m.w.heap.size m.w w') := Lib.hid fun i m hi => by
          have e : gi (ints (partsOf h S)) i = (eln (partsOf h S) i : Int) := gi_map _ _ hi
          obtain ⟨l1, l2⟩ := hP.less h7 hn (eln_mem hi)
          rw [e]
          exact ih.out _ m.w (by omega) (by omega) ((hP.at hi).1.lt hS) (hfo.later m) (hho.later m)
        have HBT := Lib.hid (fun i (hi : i < (partsOf h S).length) => bodyT_take (t := txtF f h k) hi)
        have HTL := Lib.hid (fun i (hi : i ≤ (partsOf h S).length) => bodyT_le (t := txtF f h k) hP h7 (fun P hP' => by
          obtain ⟨l1, l2⟩ := hP.less h7 hn hP'
          exact txt_len c hp k P ((hP.each P hP').1.lt (by rw [hN]; exact hS)) (by omega) (by omega)) i hi)
        have hll := ints_len (partsOf h S)
        clear hP hn ih
        generalize partsOf h S = ps at *
        generalize ints ps = L at *
        clear hfo hho
        obtain ⟨m, hm0⟩ : ∃ m : Later W2, m.w = W2 := ⟨Later.refl _, rfl⟩
        refine (fun h => hm0 ▸ h) ?_
        clear hm0
        go_loopw [7, 29] (fun s i wr => (∃ m : Later W2, wr = m.w) ∧ ∃ j : Nat, j ≤ ps.length ∧ i = .int .i64 j ∧ s = .string (bs ([40, 42] ++ bodyT (txtF f h k) (ps.take j)))) (fun _ i _ => ps.length - (intOf i).toNat)
        case atStart => exact ⟨⟨m, rfl⟩, 0, by omega, rfl, rfl⟩
        case round =>
          obtain ⟨⟨m, rfl⟩, j, hj, rfl, rfl⟩ := hrel
          by_cases hlt : j < ps.length
          · obtain ⟨b, off, rfl, hb, hcL⟩ := hL (by omega)
            have x0 := hcL j (by omega)
            have hih := fun m => HIH.out j m hlt
            have hts := HTL.out j hj
            have HB := Lib.hid (HBT.out j hlt)
            have hjl : j < L.length := by omega
            have hsz : (bs ([40, 42] ++ bodyT (txtF f h k) (ps.take j))).size ≤ 200 := by rw [bs_size]; simp; omega
            have hsz2 : (bs (txtF f h k (eln ps j))).size ≤ 200 := by
              have := HTL.out (j + 1) hlt
              rw [HBT.out j hlt] at this
              rw [bs_size]; simp at this; omega
            have HA : Hid (∀ X Y : List UInt8, bs X ++ (⟨#[32]⟩ : ByteArray) ++ bs Y = bs (X ++ (32 :: Y))) := Lib.hid fun X Y => by
              have e : (⟨#[32]⟩ : ByteArray) = bs [32] := rfl
              rw [e, bs_app, bs_app]; simp
            have HA2 : Hid (∀ X Y : List UInt8, bs X ++ ((⟨#[32]⟩ : ByteArray) ++ bs Y) = bs (X ++ (32 :: Y))) := Lib.hid fun X Y => by
              have e : (⟨#[32]⟩ : ByteArray) = bs [32] := rfl
              rw [e, bs_app, bs_app]; simp
            clear hcL hll hts HIH HTL HBT
            generalize gi L j = Pj at *
            generalize eln ps j = Q at *
            generalize hX : [40, 42] ++ bodyT (txtF f h k) (ps.take j) = X at *
            generalize txtF f h k Q = Y at *
            have HhX := Lib.hid hX
            clear hX
            go_wp2_with fail
            refine (Calls.later m (hih m)).mono ?_
            rintro e w' ⟨rfl, m, rfl⟩
            go_wp2_with fail
            go_roundw
            case rel => exact ⟨⟨m, rfl⟩, j + 1, by omega, by go_num, by rw [HB.out, ← List.append_assoc, HhX.out, HA2.out]⟩
            case measure => simp [intOf]; omega
          · obtain rfl : j = ps.length := by omega
            have hts := HTL.out ps.length (Nat.le_refl _)
            have hsz : (bs ([40, 42] ++ bodyT (txtF f h k) (ps.take ps.length))).size ≤ 200 := by rw [bs_size]; simp at hts ⊢; omega
            have HZ : Hid (bs ([40, 42] ++ bodyT (txtF f h k) (ps.take ps.length)) ++ (⟨#[41]⟩ : ByteArray) = bs (txtF f h (k + 1) S)) := Lib.hid (by
              have e : (⟨#[41]⟩ : ByteArray) = bs [41] := rfl
              rw [e, bs_app, List.take_length, HTX.out])
            clear hts HIH HTL HBT
            generalize [40, 42] ++ bodyT (txtF f h k) (ps.take ps.length) = X at *
            go_wp2_with fail
            go_ret
            exact ⟨by rw [← HZ.out]; rfl, below_later HhB.out m⟩
      · have HTX := Lib.hid (txtF_par (f := f) (h := h) (k := k) hone hser)
        have hn := hser
        have Hhn := Lib.hid hn
        clear hn
        have hd1 : (((ints (partsOf f S)).length : Int) == 1) = false := by rw [ints_len, beq_eq_false_iff_ne]; omega
        clear hPH hor hPh
        obtain ⟨m, hm0⟩ : ∃ m : Later W1, m.w = W1 := ⟨Later.refl _, rfl⟩
        refine (fun h => hm0 ▸ h) ?_
        clear hm0
        have hpf := fun m : Later W1 => hPf m.w (hfo.later m)
        clear hPf hone
        go_wp2_with fail
        refine (hpf m).mono ?_
        rintro e w2 ⟨lo2, lc2, rfl, hB2, hL⟩
        replace hL := hL.ints
        obtain ⟨m, rfl⟩ : ∃ m2 : Later W1, m2.w = w2 := ⟨m.on hB2, rfl⟩
        clear hB2 hpf
        go_wp2_with fail
        clear hd1 hser
        replace hfo := hfo.later m
        replace hho := hho.later m
        replace hc0 : m.w.cell? _ = _ := (m.cell _ _ hb0).trans hc0
        replace hc1 : m.w.cell? _ = _ := (m.cell _ _ hb0).trans hc1
        replace he0 : m.w.cell? _ = _ := (m.cell _ _ hd0).trans he0
        replace he1 : m.w.cell? _ = _ := (m.cell _ _ hd0).trans he1
        replace hb0 := Nat.lt_of_lt_of_le hb0 m.size
        replace hd0 := Nat.lt_of_lt_of_le hd0 m.size
        replace HhB := Lib.hid (below_later HhB.out m)
        generalize m.w = W2 at *
        clear m
        have hP := hPF
        have hn := Hhn.out
        clear hPF Hhn
        have hl7 := partsOf_len f S
        have HIH : Hid (∀ (i : Nat) (m : Later W2), i < (partsOf f S).length → Calls Tryz.prog 77 #[.agg #[.int .i64 N, .slice fo N fc], .agg #[.int .i64 N, .slice ho N hc], .int .i64 (gi (ints (partsOf f S)) i)] m.w fun e w' => e = .returned (.string (bs (txtF f h k (eln (partsOf f S) i)))) ∧ Below m.w.heap.size m.w w') := Lib.hid fun i m hi => by
          have e : gi (ints (partsOf f S)) i = (eln (partsOf f S) i : Int) := gi_map _ _ hi
          obtain ⟨l1, l2⟩ := hP.less h7 hn (eln_mem hi)
          rw [e]
          exact ih.out _ m.w (by omega) (by omega) ((hP.at hi).1.lt hS) (hfo.later m) (hho.later m)
        have HBT := Lib.hid (fun i (hi : i < (partsOf f S).length) => bodyT_take (t := txtF f h k) hi)
        have HTL := Lib.hid (fun i (hi : i ≤ (partsOf f S).length) => bodyT_le (t := txtF f h k) hP h7 (fun P hP' => by
          obtain ⟨l1, l2⟩ := hP.less h7 hn hP'
          exact txt_len c hp k P ((hP.each P hP').1.lt (by rw [hN]; exact hS)) (by omega) (by omega)) i hi)
        have hll := ints_len (partsOf f S)
        clear hP hn ih
        generalize partsOf f S = ps at *
        generalize ints ps = L at *
        clear hfo hho
        obtain ⟨m, hm0⟩ : ∃ m : Later W2, m.w = W2 := ⟨Later.refl _, rfl⟩
        refine (fun h => hm0 ▸ h) ?_
        clear hm0
        go_loopw [7, 29] (fun s i wr => (∃ m : Later W2, wr = m.w) ∧ ∃ j : Nat, j ≤ ps.length ∧ i = .int .i64 j ∧ s = .string (bs ([40, 43] ++ bodyT (txtF f h k) (ps.take j)))) (fun _ i _ => ps.length - (intOf i).toNat)
        case atStart => exact ⟨⟨m, rfl⟩, 0, by omega, rfl, rfl⟩
        case round =>
          obtain ⟨⟨m, rfl⟩, j, hj, rfl, rfl⟩ := hrel
          by_cases hlt : j < ps.length
          · obtain ⟨b, off, rfl, hb, hcL⟩ := hL (by omega)
            have x0 := hcL j (by omega)
            have hih := fun m => HIH.out j m hlt
            have hts := HTL.out j hj
            have HB := Lib.hid (HBT.out j hlt)
            have hjl : j < L.length := by omega
            have hsz : (bs ([40, 43] ++ bodyT (txtF f h k) (ps.take j))).size ≤ 200 := by rw [bs_size]; simp; omega
            have hsz2 : (bs (txtF f h k (eln ps j))).size ≤ 200 := by
              have := HTL.out (j + 1) hlt
              rw [HBT.out j hlt] at this
              rw [bs_size]; simp at this; omega
            have HA : Hid (∀ X Y : List UInt8, bs X ++ (⟨#[32]⟩ : ByteArray) ++ bs Y = bs (X ++ (32 :: Y))) := Lib.hid fun X Y => by
              have e : (⟨#[32]⟩ : ByteArray) = bs [32] := rfl
              rw [e, bs_app, bs_app]; simp
            have HA2 : Hid (∀ X Y : List UInt8, bs X ++ ((⟨#[32]⟩ : ByteArray) ++ bs Y) = bs (X ++ (32 :: Y))) := Lib.hid fun X Y => by
              have e : (⟨#[32]⟩ : ByteArray) = bs [32] := rfl
              rw [e, bs_app, bs_app]; simp
            clear hcL hll hts HIH HTL HBT
            generalize gi L j = Pj at *
            generalize eln ps j = Q at *
            generalize hX : [40, 43] ++ bodyT (txtF f h k) (ps.take j) = X at *
            generalize txtF f h k Q = Y at *
            have HhX := Lib.hid hX
            clear hX
            go_wp2_with fail
            refine (Calls.later m (hih m)).mono ?_
            rintro e w' ⟨rfl, m, rfl⟩
            go_wp2_with fail
            go_roundw
            case rel => exact ⟨⟨m, rfl⟩, j + 1, by omega, by go_num, by rw [HB.out, ← List.append_assoc, HhX.out, HA2.out]⟩
            case measure => simp [intOf]; omega
          · obtain rfl : j = ps.length := by omega
            have hts := HTL.out ps.length (Nat.le_refl _)
            have hsz : (bs ([40, 43] ++ bodyT (txtF f h k) (ps.take ps.length))).size ≤ 200 := by rw [bs_size]; simp at hts ⊢; omega
            have HZ : Hid (bs ([40, 43] ++ bodyT (txtF f h k) (ps.take ps.length)) ++ (⟨#[41]⟩ : ByteArray) = bs (txtF f h (k + 1) S)) := Lib.hid (by
              have e : (⟨#[41]⟩ : ByteArray) = bs [41] := rfl
              rw [e, bs_app, List.take_length, HTX.out])
            clear hts HIH HTL HBT
            generalize [40, 43] ++ bodyT (txtF f h k) (ps.take ps.length) = X at *
            go_wp2_with fail
            go_ret
            exact ⟨by rw [← HZ.out]; rfl, below_later HhB.out m⟩

end Go.Proofs.YtjikmjhpmkakoaaGreatDoor
