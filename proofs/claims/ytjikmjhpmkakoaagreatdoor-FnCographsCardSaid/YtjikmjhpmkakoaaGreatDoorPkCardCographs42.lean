/-
  TwinOrder of the program. For at most 2^20 rows.
  TwinOrder of the program: the loop. For at most 2^20 rows.
-/
import Derived.Test.YtjikmjhpmkakoaaGreatDoorPkCardCographs26
import Derived.Test.YtjikmjhpmkakoaaGreatDoorPkCardCographs29
namespace Go.Proofs.YtjikmjhpmkakoaaGreatDoor
open Go.RowKit

set_option maxHeartbeats 400000 in
theorem containsF_any (xs : List Int) (K : Nat) (caps : Array Value) (p : Nat → Bool) (ao : Option Addr) (n c : Nat) (w : World) (hx : IntsAt w ao xs) (hn : xs.length = n) (hl : n ≤ 1048576)
    (hE : ∀ args w, Sem.run Tryz.prog (callFunc K args) w = .ok (.enter K args) w) (hK : ∀ (m : Later w) (j : Nat), j < n → Calls Tryz.prog K (#[.int .i64 (gi xs j)] ++ caps) m.w fun e w' => e = .returned (.bool (p j)) ∧ Below m.w.heap.size m.w w') :
    Calls Tryz.prog 126 #[.slice ao n c, .func (.func K) #[] caps] w fun e w' => e = .returned (.bool (firstB p n).isSome) ∧ Below w.heap.size w w' := by
  have hF := indexFunc_any xs K caps p ao n c w hx hn hl hE hK
  have HV : Hid ((firstB p n).isSome = decide (0 ≤ idxV (firstB p n))) := Lib.hid (by
    cases firstB p n with
    | none => rfl
    | some k => symm; show decide (0 ≤ (k : Int)) = true; rw [decide_eq_true (by omega)])
  generalize idxV (firstB p n) = v at *
  clear hK hE
  go_enter Tryz.func126, Tryz.ntmps126
  go_wp2_with fail
  refine hF.mono ?_
  rintro e w2 ⟨rfl, hB2⟩
  clear hF
  have HhB2 := Lib.hid hB2
  clear hB2
  go_wp2_with fail
  go_ret
  exact ⟨by rw [HV.out]; rfl, HhB2.out⟩
/-- The program's test of two twins. -/
def twQ (rs : List Int) (S v w : Nat) : Bool := decide (w ≠ v) && decide (nDiff ((gn rs v ^^^ gn rs w) &&& S) (2 ^ v ||| 2 ^ w) = 0)
theorem twQ_eq {rs : List Int} (g : VG rs) {S v w : Nat} (hS : S < 2 ^ rs.length) (hv : S.testBit v = true) (hw : S.testBit w = true) : twQ rs S v w = twB rs S v w := by
  rw [Bool.eq_iff_iff, twB_iff g hS]
  unfold twQ tw
  rw [Bool.and_eq_true, decide_eq_true_eq, decide_eq_true_eq]
  constructor
  · rintro ⟨h1, h2⟩
    refine ⟨hv, hw, fun e => h1 e.symm, fun c hc h3 h4 => ?_⟩
    have h5 : (nDiff ((gn rs v ^^^ gn rs w) &&& S) (2 ^ v ||| 2 ^ w)).testBit c = false := by rw [h2]; simp
    rw [testBit_nDiff, Nat.testBit_and, Nat.testBit_xor, hc, Nat.testBit_or, Nat.testBit_two_pow, Nat.testBit_two_pow, decide_eq_false (fun e : v = c => h3 e.symm), decide_eq_false (fun e : w = c => h4 e.symm)] at h5
    unfold ad
    cases q1 : (gn rs v).testBit c <;> cases q2 : (gn rs w).testBit c <;> simp_all
  · rintro ⟨-, -, h1, h2⟩
    refine ⟨fun e => h1 e.symm, Nat.eq_of_testBit_eq fun c => ?_⟩
    rw [Nat.zero_testBit, testBit_nDiff, Nat.testBit_and, Nat.testBit_xor, Nat.testBit_or, Nat.testBit_two_pow, Nat.testBit_two_pow]
    cases hc : S.testBit c
    · simp
    · by_cases e1 : v = c
      · simp [e1]
      · by_cases e2 : w = c
        · simp [e2]
        · have := h2 c hc (fun e => e1 e.symm) (fun e => e2 e.symm)
          unfold ad at this
          rw [this]; simp
/-- One of the members is a twin. -/
theorem hasTw_first {rs : List Int} (g : VG rs) {S v : Nat} (hS : S < 2 ^ rs.length) (hv : S.testBit v = true) : (firstB (fun j => twQ rs S v (eln (els S) j)) (cnt S)).isSome = hasTw rs S v := by
  rw [Bool.eq_iff_iff, hasTw_iff g hS]
  constructor
  · intro h
    cases hq : firstB (fun j => twQ rs S v (eln (els S) j)) (cnt S) with
    | none => rw [hq] at h; cases h
    | some j =>
      obtain ⟨h1, h2⟩ := firstB_some hq
      have h3 := (els_at hS g.le h1).2
      rw [twQ_eq g hS hv h3] at h2
      exact ⟨_, (twB_iff g hS).1 h2⟩
  · rintro ⟨w, ht⟩
    obtain ⟨j, hj, rfl⟩ := (els_has hS g.le).1 ht.2.1
    cases hq : firstB (fun j => twQ rs S v (eln (els S) j)) (cnt S) with
    | some j => rfl
    | none =>
      have := firstB_no hq j hj
      rw [twQ_eq g hS hv ht.2.1, (twB_iff g hS).2 ht] at this; cases this

set_option maxRecDepth 100000 in
set_option maxHeartbeats 1000000 in
theorem twTest_any (rs : List Int) (ro : Option Addr) (rc S v u bv bg bS : Nat) (w : World) (g : VG rs) (hr : IntsAt w ro rs) (hS : S < 128) (hv : v < rs.length) (hu : u < rs.length)
    (v0 : w.cell? ⟨bv, 0, none⟩ = some (.int .i64 v)) (v4 : bv < w.heap.size) (g0 : w.cell? ⟨bg, 0, none⟩ = some (.int .i64 rs.length)) (g1 : w.cell? ⟨bg, 1, none⟩ = some (.slice ro rs.length rc)) (g4 : bg < w.heap.size) (s0 : w.cell? ⟨bS, 0, none⟩ = some (.int .i64 S)) (s4 : bS < w.heap.size) :
    Calls Tryz.prog 127 #[.int .i64 u, .pointer (some ⟨bv, 0, none⟩), .pointer (some ⟨bg, 0, none⟩), .pointer (some ⟨bS, 0, none⟩)] w fun e w' => e = .returned (.bool (twQ rs S v u)) ∧ Below w.heap.size w w' := by
  have h7 := g.le
  have hor : bits .or .i64 (pwN v) (pwN u) = ((2 ^ v ||| 2 ^ u : Nat) : Int) := by
    have h1 := Nat.pow_le_pow_right (n := 2) (by decide) (show v ≤ 6 by omega)
    have h2 := Nat.pow_le_pow_right (n := 2) (by decide) (show u ≤ 6 by omega)
    rw [pwN_small v (by omega), pwN_small u (by omega), bits_or_nat _ _ (by omega) (by omega)]
  have hor2 : bits .or .i64 ((2 : Int) ^ v) ((2 : Int) ^ u) = ((2 ^ v ||| 2 ^ u : Nat) : Int) := by rw [← hor, pwN_small v (by omega), pwN_small u (by omega)]; simp
  have hgv := g.lt128 hv
  have hgu := g.lt128 hu
  have hx7 : gn rs v ^^^ gn rs u < 128 := Nat.xor_lt_two_pow (n := 7) hgv hgu
  have q1 : bits .xor .i64 (gn rs v : Int) (gn rs u : Int) = ((gn rs v ^^^ gn rs u : Nat) : Int) := bits_xor_nat _ _ (by omega) (by omega)
  have q2 : bits .and .i64 ((gn rs v ^^^ gn rs u : Nat) : Int) (S : Int) = (((gn rs v ^^^ gn rs u) &&& S : Nat) : Int) := bits_and_nat _ _ (by omega) (by omega)
  have ha7 : (gn rs v ^^^ gn rs u) &&& S < 128 := Nat.lt_of_le_of_lt Nat.and_le_left hx7
  have q3 : bits .andNot .i64 (((gn rs v ^^^ gn rs u) &&& S : Nat) : Int) ((2 ^ v ||| 2 ^ u : Nat) : Int) = ((nDiff ((gn rs v ^^^ gn rs u) &&& S) (2 ^ v ||| 2 ^ u) : Nat) : Int) := bits_andNot_nat _ _ (by omega)
  have HQ : Hid (twQ rs S v u = (decide (u ≠ v) && decide (nDiff ((gn rs v ^^^ gn rs u) &&& S) (2 ^ v ||| 2 ^ u) = 0))) := rfl
  obtain ⟨rb, rofs, hro, hrb, hrc⟩ := hr.graph g
  subst hro
  have hcv := hrc v hv
  have hcu := hrc u hu
  clear hrc
  generalize nDiff ((gn rs v ^^^ gn rs u) &&& S) (2 ^ v ||| 2 ^ u) = D at *
  generalize (gn rs v ^^^ gn rs u) &&& S = X2 at *
  generalize gn rs v ^^^ gn rs u = X1 at *
  generalize 2 ^ v ||| 2 ^ u = PR at *
  by_cases huv : u = v
  · have HE : Hid (twQ rs S v u = false) := Lib.hid (by rw [HQ.out, decide_eq_false (fun h => h huv)]; rfl)
    have d3 : ((u : Int) != (v : Int)) = false := by subst huv; simp
    clear huv
    go_enter Tryz.func127, Tryz.ntmps127
    go_wp2_with fail
    refine wp_region_later (Later.refl w) rfl (by kernel_rfl) (by kernel_rfl) ?_
    repeat (go_big_quiet_step (fail))
    refine wpQuiet_nil ?_
    rintro _ ⟨m, rfl⟩
    go_wp2_with fail
    refine wp_region_later m rfl (by kernel_rfl) (by kernel_rfl) ?_
    repeat (go_big_quiet_step (fail))
    refine wpQuiet_nil ?_
    rintro _ ⟨m, rfl⟩
    go_wp2_with fail
    go_ret
    exact ⟨retB (by rw [HE.out]), m.below⟩
  · have d3 : ((u : Int) != (v : Int)) = true := by rw [bne_iff_ne]; omega
    have HE : Hid (twQ rs S v u = ((D : Int) == 0)) := Lib.hid (by rw [HQ.out, decide_eq_true huv, Bool.true_and, Bool.eq_iff_iff, decide_eq_true_eq, beq_iff_eq]; omega)
    clear huv
    go_enter Tryz.func127, Tryz.ntmps127
    go_wp2_with fail
    refine wp_region_later (Later.refl w) rfl (by kernel_rfl) (by kernel_rfl) ?_
    repeat (go_big_quiet_step (fail))
    refine wpQuiet_nil ?_
    rintro _ ⟨m, rfl⟩
    go_wp2_with fail
    refine wp_region_later m rfl (by kernel_rfl) (by kernel_rfl) ?_
    repeat (go_big_quiet_step (fail))
    refine wpQuiet_nil ?_
    rintro _ ⟨m, rfl⟩
    go_wp2_with fail
    go_ret
    exact ⟨retB (by rw [HE.out]), m.below⟩

set_option maxRecDepth 100000 in
set_option maxHeartbeats 1000000 in
theorem implTwinIn_any (rs : List Int) (ro : Option Addr) (rc S v : Nat) (w : World) (g : VG rs) (hr : IntsAt w ro rs) (hS : S < 2 ^ rs.length) (hv : S.testBit v = true) :
    Calls Tryz.prog 84 #[.agg #[.int .i64 rs.length, .slice ro rs.length rc], .int .i64 S, .int .i64 v] w fun e w' => e = .returned (.bool (hasTw rs S v)) ∧ Below w.heap.size w w' := by
  have h7 : S < 128 := by have := g.pow.1; omega
  have hvl := testBit_lt hS hv
  have HE := Lib.hid (hasTw_first g hS hv)
  have hel := fun j (hj : j < cnt S) => (els_at hS g.le hj).1
  have hcl := cnt_le S
  go_enter Tryz.func84, Tryz.ntmps84
  go_wp2_with fail
  generalize hW : World.alloc _ _ = W1
  obtain ⟨hB, -, k0, k1, k2⟩ := alloc3 hW
  replace hr := hr.below hB
  have g0 := k0.cell 0
  have g1 := k0.cell 1
  have g4 := k0.lt
  have s0 := k1.cell 0
  have s4 := k1.lt
  have v0 := k2.cell 0
  have v4 := k2.lt
  simp at g0 g1 s0 v0
  have HhB := Lib.hid hB
  clear hW hB k0 k1 k2
  have HT := Lib.hid (fun (w' : World) (h : Below W1.heap.size W1 w') (u : Nat) (hu : u < rs.length) => twTest_any rs ro rc S v u (w.heap.size + 2) w.heap.size (w.heap.size + 1) w' g (hr.below h) h7 hvl hu ((h.cell v4).trans v0) (Nat.lt_of_lt_of_le v4 h.size) ((h.cell g4).trans g0) ((h.cell g4).trans g1) (Nat.lt_of_lt_of_le g4 h.size) ((h.cell s4).trans s0) (Nat.lt_of_lt_of_le s4 h.size))
  have HLO : Hid (∀ w, Calls Tryz.prog 47 #[.int .i64 S] w (fun e w' => ∃ ao cap, e = .returned (.slice ao (cnt S) cap) ∧ Below w.heap.size w w' ∧ IntsAt w' ao ((els S).map Int.ofNat))) := fun w => by
    have := implListOf_any (S : Int) w
    rw [listOf_nat h7] at this
    exact this.mono (fun e w' ⟨ao, cap, h1, h2, h3⟩ => ⟨ao, cap, by rw [h1, List.length_map]; rfl, h2, h3.ints⟩)
  clear hr hv
  obtain ⟨m, hm0⟩ : ∃ m : Later W1, m.w = W1 := ⟨Later.refl _, rfl⟩
  refine (fun h => hm0 ▸ h) ?_
  clear hm0
  go_wp2_with fail
  refine (HLO.out _).mono ?_
  rintro e w5 ⟨lo, lc, rfl, hB5, hL⟩
  obtain ⟨m, rfl⟩ : ∃ m2 : Later W1, m2.w = w5 := ⟨m.on hB5, rfl⟩
  clear hB5 HLO
  have hCF := containsF_any ((els S).map Int.ofNat) 127 #[.pointer (some ⟨w.heap.size + 2, 0, none⟩), .pointer (some ⟨w.heap.size, 0, none⟩), .pointer (some ⟨w.heap.size + 1, 0, none⟩)] (fun j => twQ rs S v (eln (els S) j)) lo (cnt S) lc m.w hL (by simp; rfl) (by omega) (fun _ _ => rfl) (fun m2 j hj => by
    rw [gi_map _ _ hj]
    exact HT.out m2.w (below_more m.below m2.below) _ (hel j hj))
  rw [HE.out] at hCF
  clear hL HT hel
  go_wp2_with fail
  refine (Calls.later m (hCF)).mono ?_
  rintro e w' ⟨rfl, m, rfl⟩
  go_wp2_with fail
  go_ret
  exact ⟨rfl, below_later HhB.out m⟩

theorem twNext_els {rs : List Int} (g : VG rs) {S : Nat} (hS : S < 2 ^ rs.length) : twNext rs S = (els S).find? fun v : Nat => hasTw rs S v := by
  rw [els_eq hS g.le]
  unfold twNext firstB elsTo
  rw [List.find?_filter]
  congr 1
  funext v
  cases h : hasTw rs S v
  · simp
  · obtain ⟨w, ht⟩ := (hasTw_iff g hS).1 h
    simp [ht.1]

end Go.Proofs.YtjikmjhpmkakoaaGreatDoor

namespace Go.Proofs.YtjikmjhpmkakoaaGreatDoor
open Go.RowKit

set_option maxRecDepth 100000 in
set_option maxHeartbeats 2000000 in
theorem implTw_any (n : Int) (rs : List Int) (ro : Option Addr) (rc : Nat) (w : World) (hr : IntsAt w ro rs) (hrl : rs.length ≤ 1048576) :
    Calls Tryz.prog 26 #[.agg #[.int .i64 n, .slice ro rs.length rc]] w (RetO w (twI n rs)) := by
  go_enter Tryz.func26, Tryz.ntmps26
  go_wp2_with fail
  have hrw := hr
  generalize hW : w.alloc _ = W1
  obtain ⟨hB, -, k0⟩ := alloc1 hW
  replace hr := hr.below hB
  have hb0 := k0.lt
  have hc0 := k0.cell 0
  have hc1 := k0.cell 1
  simp at hc0 hc1
  clear hW k0
  have HhB := Lib.hid hB
  clear hB
  obtain ⟨m, hm0⟩ : ∃ m : Later W1, m.w = W1 := ⟨Later.refl _, rfl⟩
  refine (fun h => hm0 ▸ h) ?_
  clear hm0
  cases hv : isGraphB n rs
  · have HE := Lib.hid (twI_no hv)
    go_wp2_with (first | (go_at_call 45; refine (Calls.later m (implIsGraph_any _ _ _ _ _ (hr.later m) hrl)).mono ?_; rintro e w' ⟨rfl, m, rfl⟩))
    go_ret2
    exact ⟨none, 0, by rw [HE.out]; rfl, below_later HhB.out m, by rw [HE.out]; exact .inl (OwnL.nil _ _)⟩
  · have HE : Hid (twI n rs = (twV n rs).map ints) := rfl
    have Hhv := Lib.hid hv
    obtain ⟨rfl, g⟩ := VG.of hv
    have HEV := Lib.hid (twV_of hv)
    obtain ⟨ca1, ca2⟩ := cnt_full g
    have Hcf := Lib.hid (cnt_leN (all_lt rs.length) g.le)
    have hg1 := g.pos
    have hg2 := g.le
    obtain ⟨hp1, hp2⟩ := g.pow
    have hp4 : 2 ^ rs.length - 1 < 2 ^ rs.length := by omega
    have hAll := fun w => implAll_any rs.length (.slice ro rs.length rc) hg2 w
    generalize hFull : 2 ^ rs.length - 1 = full at *
    have Hhp4 := Lib.hid hp4
    clear hp4
    go_wp2_with (first | (go_at_call 45; refine (Calls.later m (implIsGraph_any _ _ _ _ _ (hr.later m) hrl)).mono ?_; rw [hv]; rintro e w' ⟨rfl, m, rfl⟩; have hbm := Nat.lt_of_lt_of_le hb0 m.size) | (go_at_call 46; refine (hAll _).mono ?_; rintro e w3 ⟨rfl, hB3⟩))
    have hB4 := below_more' ((below_later HhB.out m).alloc (below_later HhB.out m).size _) hB3
    have h3s : W1.heap.size ≤ w3.heap.size := Nat.le_trans (m.below.alloc m.size _).size hB3.size
    have hB5 := below_more (m.below.alloc m.size _) hB3
    generalize (⟨m.w.heap.size, 0, none⟩ : Addr) = na at *
    generalize hW2 : w3.alloc _ = W2
    obtain ⟨hB2, hs2, k2⟩ := alloc1 hW2
    replace hB5 := below_more hB5 hB2
    replace hB4 := below_more' hB4 hB2
    replace hc0 := (hB5.cell (p := ⟨w.heap.size, 0, none⟩) hb0).trans hc0
    replace hc1 := (hB5.cell (p := ⟨w.heap.size, 1, none⟩) hb0).trans hc1
    have hb02 : w.heap.size < W2.heap.size := Nat.lt_of_lt_of_le hb0 hB5.size
    have hlw : w.heap.size < w3.heap.size := Nat.lt_of_lt_of_le hb0 h3s
    have hl2 : w3.heap.size < W2.heap.size := by omega
    clear hW2 hB2 hs2 hB5 h3s hbm hB3 hr hb0 hAll hv
    generalize w3.heap.size = lB at *
    clear m w3 HhB
    have hx0 : ¬(fun b => b = lB) w.heap.size := fun e => by have e2 : w.heap.size = lB := e; omega
    have hO := OwnE.empty W2 W2.heap.size na
    have HR : Hid (∀ m : LateX (fun b => b = lB) W2, IntsAt m.w ro rs) := fun m => hrw.below (hB4.trans (m.only.below (Nat.le_of_lt hb02) fun b hb h => by have h2 : b = lB := h; omega))
    have HhB4 := Lib.hid hB4
    clear hB4
    have HhO := Lib.hid hO
    clear hO
    go_wp2_with fail
    go_loopw [4] (fun o wr => ∃ m : LateX (fun b => b = lB) W2, wr = m.w ∧ ∃ (f S : Nat) (xs : List Nat) (ao : Option Addr) (cap : Nat), cnt S ≤ f ∧ S < 2 ^ rs.length ∧ xs.length + cnt S ≤ 7 ∧ 1 ≤ cnt S ∧ o = .slice ao (ints xs).length cap ∧ Blk m.w lB #[.int .i64 S] 3 ∧ OwnE m.w W2.heap.size ao cap (ints xs) ∧ twRun rs rs.length full [] = twRun rs f S xs) (fun _ wr => cnt (cellN wr lB))
    case atStart => exact ⟨LateX.refl _ _, rfl, rs.length, full, [], _, _, Hcf.out, Hhp4.out, by simp; omega, ca1, rfl, k2, HhO.out, rfl⟩
    case round =>
      obtain ⟨m, rfl, f, S, xs, ao, cap, hSf, hS, hlen, h1c, rfl, hbk, hO, hV⟩ := hrel
      have z := hbk.cell 0
      simp at z
      have zl := hbk.lt
      have hms := m.size
      have hS128 : S < 128 := by omega
      have hcl := cnt_le S
      have hCC := fun w2 : World => implCount_any S hS128 w2
      by_cases h0 : ¬1 < cnt S
      · have hone : cnt S = 1 := by omega
        have HE2 := Lib.hid (HE.out.trans (congrArg (Option.map ints) (HEV.out.trans (hV.trans (twRun_end (by omega))))))
        have d0 : decide (1 < (cnt S : Int)) = false := decide_eq_false (by omega)
        have hL := fun w2 : World => implListN_any S hS128 w2
        rw [hone] at hL
        have HSo := Lib.hid (fun (w2 : World) (ao : Option Addr) (h : NatsAt w2 ao (els S)) => one_listW hone h)
        have hl7 : (ints xs).length ≤ 1048576 := by rw [ints_len]; omega
        have HEL : Hid (ints (xs ++ els S) = ints xs ++ [(low S : Int)]) := Lib.hid (by rw [one_els hone]; simp [ints])
        have HLN : Hid ((ints (xs ++ els S)).length = (ints xs).length + 1) := Lib.hid (by rw [HEL.out]; simp)
        have HBf := Lib.hid (HhB4.out.trans (m.only.below (Nat.le_of_lt hb02) fun b hb h => by have h2 : b = lB := h; omega))
        clear hV h1c hlen hSf
        have HhO := Lib.hid hO
        clear hO
        have Hhbk := Lib.hid hbk
        clear hbk
        generalize m.w = W3 at *
        clear m
        obtain ⟨m, hm0⟩ : ∃ m : Later W3, m.w = W3 := ⟨Later.refl _, rfl⟩
        refine (fun h => hm0 ▸ h) ?_
        clear hm0
        go_wp2_with fail
        refine (hCC m.w).mono ?_
        rintro e w6 ⟨rfl, hB6⟩
        obtain ⟨m, rfl⟩ : ∃ m6 : Later W3, m6.w = w6 := ⟨m.on hB6, rfl⟩
        have z2 := (m.cell lB 0 zl).trans z
        clear hB6 hCC hone
        go_wp2_with fail
        refine (hL m.w).mono ?_
        rintro e w7 ⟨lo, lc, rfl, hB7, hN⟩
        obtain ⟨b, off, rfl, hb, hcl2⟩ := HSo.out _ _ hN
        obtain ⟨m, rfl⟩ : ∃ m6 : Later W3, m6.w = w7 := ⟨m.on hB7, rfl⟩
        have hms3 : W2.heap.size ≤ m.w.heap.size := Nat.le_trans hms m.size
        clear hL hB7 hN HSo z2
        generalize low S = v at *
        go_wp2_with (at_builtin; go_must (refine wpList_append_x rfl _ _ rfl W2.heap.size cap ao (ints xs) (v : Int) b off lc rfl (HhO.out.later m) rfl hcl2 hms3 (by omega) ?_); intro ao' cap' w1 hown1 hB1)
        rw [← HEL.out] at hown1
        have hX := Lib.hid (OwnE.mono' hown1 (Nat.le_of_lt hb02))
        have HBB : Hid (Below w.heap.size w w1) := Lib.hid ((HBf.out.trans (m.below.mono HBf.out.size)).trans (hB1.mono (Nat.le_of_lt hb02)))
        clear hown1 hB1
        go_wp2_with fail
        go_ret2
        exact ⟨ao', cap', by rw [HE2.out]; show _ = Ending.returned (.tuple #[.slice ao' (ints (xs ++ els S)).length cap', .bool true]); rw [HLN.out]; rfl, HBB.out, by rw [HE2.out]; exact hX.out⟩
      · have h00 : 1 < cnt S := by omega
        have d0 : decide (1 < (cnt S : Int)) = true := decide_eq_true (by omega)
        have hr3 := HR.out m
        have hO3 := m.only
        have hc03 := (hO3.cell (p := ⟨w.heap.size, 0, none⟩) hb02 hx0).trans hc0
        have hc13 := (hO3.cell (p := ⟨w.heap.size, 1, none⟩) hb02 hx0).trans hc1
        have hb03 := Nat.lt_of_lt_of_le hb02 hms
        have hFi := find_first (fun v : Nat => hasTw rs S v) (els S)
        rw [← twNext_els g hS] at hFi
        have HLO : Hid (∀ w, Calls Tryz.prog 47 #[.int .i64 S] w (fun e w' => ∃ ao cap, e = .returned (.slice ao (cnt S) cap) ∧ Below w.heap.size w w' ∧ IntsAt w' ao ((els S).map Int.ofNat))) := fun w => by
          have := implListOf_any (S : Int) w
          rw [listOf_nat hS128] at this
          exact this.mono (fun e w' ⟨ao, cap, h1, h2, h3⟩ => ⟨ao, cap, by rw [h1, List.length_map]; rfl, h2, h3.ints⟩)
        have HSl := Lib.hid hS
        have Hhbk := Lib.hid hbk
        clear hbk
        have HhO := Lib.hid hO
        clear hO
        have HhV := Lib.hid hV
        clear hV
        have HhSf := Lib.hid hSf
        clear hSf
        have Hhlen := Lib.hid hlen
        clear hlen
        have HhO3 := Lib.hid hO3
        clear hO3
        have Hh1c := Lib.hid h1c
        clear h1c
        generalize m.w = W3 at *
        clear m
        have HC : Hid (∀ (m2 : Later W3) (v : Nat), S.testBit v = true → Calls Tryz.prog 83 #[.int .i64 v, .pointer (some ⟨w.heap.size, 0, none⟩), .pointer (some ⟨lB, 0, none⟩)] m2.w fun e w' => e = .returned (.bool (hasTw rs S v)) ∧ Below m2.w.heap.size m2.w w') := by
          intro m v hvS
          have hti := implTwinIn_any rs ro rc S v m.w g (hr3.later m) HSl.out hvS
          clear hFi
          have z3 := (m.cell lB 0 zl).trans z
          go_enter Tryz.func83, Tryz.ntmps83
          go_wp2_with fail
          refine hti.mono ?_
          rintro e w4 ⟨rfl, hB4⟩
          go_wp2_with fail
          go_ret
          exact ⟨rfl, hB4⟩
        have hels := fun j (hj : j < cnt S) => (els_at HSl.out g.le hj).2
        obtain ⟨m, hm0⟩ : ∃ m : Later W3, m.w = W3 := ⟨Later.refl _, rfl⟩
        refine (fun h => hm0 ▸ h) ?_
        clear hm0
        rcases hFi with ⟨hF1, hF2⟩ | ⟨j, hj, hF1, hF2⟩
        all_goals
          go_wp2_with fail
          refine (hCC m.w).mono ?_
          rintro e w6 ⟨rfl, hB6⟩
          obtain ⟨m, rfl⟩ : ∃ m6 : Later W3, m6.w = w6 := ⟨m.on hB6, rfl⟩
          clear hB6 hCC
        · have HE2 := Lib.hid (HE.out.trans (congrArg (Option.map ints) (HEV.out.trans (HhV.out.trans (by
            obtain ⟨f', rfl⟩ : ∃ f', f = f' + 1 := ⟨f - 1, by have := HhSf.out; omega⟩
            exact twRun_none (by omega) hF2)))))
          have HBf := Lib.hid (HhB4.out.trans (HhO3.out.below (Nat.le_of_lt hb02) fun b hb h => by have h2 : b = lB := h; omega))
          clear hF2
          go_wp2_with fail
          refine (HLO.out _).mono ?_
          rintro e w5 ⟨lo, lc, rfl, hB5, hL⟩
          obtain ⟨m, rfl⟩ : ∃ m2 : Later W3, m2.w = w5 := ⟨m.on hB5, rfl⟩
          clear hB5
          go_wp2_with fail
          refine (Calls.later m (indexFunc_any ((els S).map Int.ofNat) 83 #[.pointer (some ⟨w.heap.size, 0, none⟩), .pointer (some ⟨lB, 0, none⟩)] (fun j => hasTw rs S (eln (els S) j)) lo (cnt S) lc m.w hL (by simp; rfl) (by have := cnt_le S; omega) (fun _ _ => rfl) (fun m2 j hj => by rw [gi_map _ _ hj]; exact HC.out ⟨m2.w, below_more m.below m2.below⟩ (eln (els S) j) (hels j hj)))).mono ?_
          rw [show cnt S = (els S).length from rfl, hF1]
          rintro e w' ⟨rfl, m, rfl⟩
          clear hL HC HLO hF1
          go_wp2_with fail
          go_ret2
          exact ⟨none, 0, by rw [HE2.out]; rfl, HBf.out.trans (m.below.mono (Nat.le_of_lt hb03)), by rw [HE2.out]; exact .inl (OwnL.nil _ _)⟩
        · obtain ⟨hk1, hk2, hk3, hk4⟩ := twNext_left g HSl.out hF2
          have HN := Lib.hid (show twRun rs rs.length full [] = twRun rs (f - 1) (S - 2 ^ eln (els S) j) (xs ++ [eln (els S) j]) from HhV.out.trans (by
            obtain ⟨f', rfl⟩ : ∃ f', f = f' + 1 := ⟨f - 1, by have := HhSf.out; omega⟩
            exact twRun_some (by omega) hF2))
          obtain ⟨mf1, mf2⟩ := minus_facts g.le HSl.out hk2
          have Hmf1 := Lib.hid mf1
          clear mf1
          have Hmf2 := Lib.hid mf2
          clear mf2
          have hl7 : (ints xs).length ≤ 1048576 := by rw [ints_len]; have := Hhlen.out; omega
          have hjc : j < cnt S := hj
          have hjn : idxV (some j) = (j : Int) := rfl
          have hq : bits .andNot .i64 (S : Int) (pwN (eln (els S) j)) = ((S - 2 ^ eln (els S) j : Nat) : Int) := by
            rw [pwN_small _ (by omega), bits_andNot_nat _ _ (by omega), nDiff_pow (by omega) hk2]
          have hS2 : S - 2 ^ eln (els S) j < S := by omega
          clear hF2 hk2
          go_wp2_with fail
          refine (HLO.out _).mono ?_
          rintro e w5 ⟨lo, lc, rfl, hB5, hL⟩
          obtain ⟨m, rfl⟩ : ∃ m2 : Later W3, m2.w = w5 := ⟨m.on hB5, rfl⟩
          clear hB5
          go_wp2_with fail
          refine (Calls.later m (indexFunc_any ((els S).map Int.ofNat) 83 #[.pointer (some ⟨w.heap.size, 0, none⟩), .pointer (some ⟨lB, 0, none⟩)] (fun j => hasTw rs S (eln (els S) j)) lo (cnt S) lc m.w hL (by simp; rfl) (by have := cnt_le S; omega) (fun _ _ => rfl) (fun m2 j hj => by rw [gi_map _ _ hj]; exact HC.out ⟨m2.w, below_more m.below m2.below⟩ (eln (els S) j) (hels j hj)))).mono ?_
          rw [show cnt S = (els S).length from rfl, hF1, hjn]
          rintro e w' ⟨rfl, m, rfl⟩
          clear hL HC hF1 hjn
          go_wp2_with fail
          refine (HLO.out _).mono ?_
          rintro e w5 ⟨lo, lc, rfl, hB5, hL⟩
          obtain ⟨m, rfl⟩ : ∃ m2 : Later W3, m2.w = w5 := ⟨m.on hB5, rfl⟩
          obtain ⟨lb, lofs, rfl, hlb, hlc⟩ := hL (by simp; omega)
          have hlj := hlc j (by simpa using hj)
          rw [gi_map _ _ hj] at hlj
          clear hB5 hlc hL HLO
          generalize eln (els S) j = v at *
          generalize S - 2 ^ v = S2 at *
          go_wp2_with fail
          have hms3 := m.size
          have zl3 : lB < m.w.heap.size := by omega
          have hO4 : Only (fun b => b = lB) W2.heap.size W2 m.w := HhO3.out.more m.below hms
          have kb := Hhbk.out.below m.below zl
          have hm2 : W2.heap.size ≤ m.w.heap.size := by omega
          have HX : Hid (∀ w1 w2, Below m.w.heap.size m.w w1 → Below W2.heap.size w1 w2 → Only (fun b => b = lB) W2.heap.size W2 w2 ∧ Blk w2 lB #[.int .i64 S] 3 ∧ w2.cell? ⟨lB, 0, none⟩ = some (.int .i64 S) ∧ w2.frozen? ⟨lB, 0, none⟩ = false) := fun w1 w2 h1 h2 =>
            have k2 := (kb.below h1 zl3).below h2 hl2
            ⟨(hO4.more h1 hm2).more h2 (Nat.le_refl _), k2, k2.cell 0, k2.frozen 0⟩
          clear kb hO4
          go_region_law (refine step_append_e (by rfl) _ _ (by rfl) W2.heap.size cap ao (ints xs) (v : Int) m.w.heap.size (by rfl) ?_ (by rfl) ?_ ?_ ?_ ?_; refine (HhO.out.later m).below ?_; (first | exact ((Below.refl _ _).alloc (Nat.le_refl _) _).drew | exact (Below.refl _ _).drew.alloc (Nat.le_refl _) _); (first | exact cell_new (by simp) | exact cell_new (w := m.w) rfl); (simp; omega);  omega; intro ao2 cap2 w2 hown2 hBw2; obtain ⟨hO2, kb2, y0, y1⟩ := HX.out _ w2 (by first | exact ((Below.refl _ _).alloc (Nat.le_refl _) _).drew | exact (Below.refl _ _).drew.alloc (Nat.le_refl _) _) hBw2)
          all_goals
            have hOF := hO2.setCell (p := ⟨lB, 0, none⟩) (.inl rfl) (.int .i64 S2)
            rw [← ints_snoc] at hown2
            have hEF := hown2.setB' (a := ⟨lB, 0, none⟩) hl2 (.int .i64 S2)
            have hBF : Blk (w2.setCell ⟨lB, 0, none⟩ (.int .i64 S2)) lB #[.int .i64 S2] 3 := by
              have := kb2.store 0 (.int .i64 S2)
              simpa using this
            clear hO2 hown2 kb2 hBw2 y0 y1 HX
            have HhOF := Lib.hid hOF
            clear hOF
            have HhEF := Lib.hid hEF
            clear hEF
            have HhBF := Lib.hid hBF
            clear hBF
            go_wp2_with fail
            go_roundw
            case rel => exact ⟨⟨_, HhOF.out⟩, rfl, f - 1, S2, xs ++ [v], ao2, cap2, by have := HhSf.out; have := Hmf2.out; omega, Hmf1.out, by have := Hhlen.out; have := Hmf2.out; simp; omega, by have := Hmf2.out; omega, by simp [ints_len], HhBF.out, HhEF.out, HN.out⟩
            case measure => rw [cellN_blk HhBF.out, cellN_blk (Hhbk.out.later _)]; have := Hmf2.out; omega

end Go.Proofs.YtjikmjhpmkakoaaGreatDoor
