/-
  l2Copy, l2Pair, AddEdge of the reference. For at most 2^20 rows and at least one.
  How the laws' arguments are opened: a slice of integers, inside a struct or by itself. No conditions.
-/
import Derived.Test.YtjikmjhpmkakoaaGreatDoorPkCardCographs05
import Derived.Test.YtjikmjhpmkakoaaGreatDoorPkCardCographs06
import Derived.StillTailTactics
import Derived.Test.YtjikmjhpmkakoaaGreatDoorPkCardCographs01
import Derived.ProofKit
import Derived.OpenShut
import Derived.ChangeOld
import Derived.Lib.SmallJoins
namespace Go.Proofs.YtjikmjhpmkakoaaGreatDoor
open Go.RowKit

set_option maxRecDepth 100000 in
set_option maxHeartbeats 1000000 in
theorem l2Copy_any (n : Int) (rs : List Int) (ro : Option Addr) (rc : Nat) (w : World) (hr : IntsAt w ro rs) (hrl : rs.length ≤ 1048576) (h0 : 0 < rs.length) :
    Calls Tryz.prog 114 #[.agg #[.int .i64 n, .slice ro rs.length rc]] w fun e w' => ∃ g1 cap, e = .returned (.agg #[.int .i64 n, .slice (some ⟨g1, 0, none⟩) rs.length cap]) ∧ Below w.heap.size w w' ∧ w.heap.size ≤ g1 ∧ RowAt w' g1 cap rs := by
  obtain ⟨rb, rofs, rfl, hrb, -⟩ := hr h0
  go_enter Tryz.func114, Tryz.ntmps114
  go_wp2_with fail
  generalize hW : World.alloc _ _ = W1
  obtain ⟨hB, hs, k0, k1⟩ := alloc2 hW
  replace hr := hr.upto.below hB (Nat.le_refl _)
  have hS' : ∀ w', Below (w.heap.size + 1) W1 w' → Below (w.heap.size + 1) W1 w' ∧ w'.cell? ⟨w.heap.size, 0, none⟩ = some (.int .i64 n) ∧ w'.cell? ⟨w.heap.size, 1, none⟩ = some (.slice (some ⟨rb, rofs, none⟩) rs.length rc) := fun w' h => by
    have c0 := k0.cell 0
    have c1 := k0.cell 1
    simp at c0 c1
    exact ⟨h, (h.cell (by simp)).trans c0, (h.cell (by simp)).trans c1⟩
  clear hW
  have HhB := Lib.hid hB
  clear hB
  obtain ⟨m, hm0⟩ : ∃ m : Later W1, m.w = W1 := ⟨Later.refl _, rfl⟩
  refine (fun h => hm0 ▸ h) ?_
  clear hm0
  have hB0 : Below (w.heap.size + 1) W1 m.w := m.below.mono (by omega)
  go_region_held3 (fun w' => Below (w.heap.size + 1) W1 w' ∧ w'.cell? ⟨w.heap.size, 0, none⟩ = some (.int .i64 n) ∧ w'.cell? ⟨w.heap.size, 1, none⟩ = some (.slice (some ⟨rb, rofs, none⟩) rs.length rc))
    (exact hS' _ (by first | exact hB0.drew | assumption | exact Below.alloc (And.left (by assumption : Below (w.heap.size + 1) W1 _ ∧ _)) (Nat.le_trans (by omega) (And.left (by assumption : Below (w.heap.size + 1) W1 _ ∧ _)).size) _ | exact ((And.left (by assumption : Below (w.heap.size + 1) W1 _ ∧ _)).setCell (by simp) _).setCell (by simp) _))
    (first
      | ((refine step_append_copy (by rfl) _ _ (by rfl) W1.heap.size _ ⟨rb, rofs, none⟩ rs rc (by rfl) (by rfl) (hr.below (B' := w.heap.size + 1) (And.left (by assumption : Below (w.heap.size + 1) W1 _ ∧ _)) (Nat.le_succ _)).ints (And.left (by assumption : Below (w.heap.size + 1) W1 _ ∧ _)).size (by omega) ?_); intro ao1 cap1 w1 hne1 hown1 hBw1; have hB2 : Below W1.heap.size W1 w1 := ((m.below.drew).alloc m.size _).trans (hBw1.mono (Nat.le_trans m.size (Nat.le_of_lt (by simp)))); have hB3 : Below (w.heap.size + 1) W1 w1 := hB2.mono (by omega); have y1 := k1.below hB2 k1.lt; have y2 := y1.cell 0; have y3 := y1.cell 1; have y4 := y1.frozen 0; have y5 := y1.frozen 1))
  simp at y2 y3
  obtain ⟨g1, rfl, hg1, hR⟩ := hown1.row h0
  have hF : Below w.heap.size w ((w1.setCell ⟨w.heap.size + 1, 0, none⟩ (.int .i64 n)).setCell ⟨w.heap.size + 1, 1, none⟩ (.slice (some ⟨g1, 0, none⟩) rs.length cap1)) :=
    ((HhB.out.trans (hB2.mono HhB.out.size)).setCell (by simp) _).setCell (by simp) _
  have hRF : RowAt ((w1.setCell ⟨w.heap.size + 1, 0, none⟩ (.int .i64 n)).setCell ⟨w.heap.size + 1, 1, none⟩ (.slice (some ⟨g1, 0, none⟩) rs.length cap1)) g1 cap1 rs :=
    (hR.otherCell (by simp; omega)).otherCell (by simp; omega)
  have hgw : w.heap.size ≤ g1 := by omega
  have HhF := Lib.hid hF
  clear hF
  have HhRF := Lib.hid hRF
  clear hRF
  have HhR := Lib.hid hR
  clear hR
  have Hhown1 := Lib.hid hown1
  clear hown1
  have Hhgw := Lib.hid hgw
  clear hgw
  go_wp2_with fail
  refine bodyPost_ret (v := .agg #[.int .i64 n, .slice (some ⟨g1, 0, none⟩) rs.length cap1]) (by simp [results, Tryz.results114, go_sem, y2, y3]) rfl ?_
  exact ⟨g1, cap1, rfl, HhF.out, Hhgw.out, HhRF.out⟩

theorem wpList_drew_on {W : World} {P : Program} {ops : Array Oper} {Q : Exit → Act → World → Prop} {rest : List Oper} {a : Act} (m : Later W) (h : ∀ m' : Later W, wpList P ops Q rest a m'.w) : wpList P ops Q rest a m.w.drew :=
  h ⟨m.w.drew, m.below.drew⟩

/-- Are v and w two vertices? -/
def pairB (n : Int) (rs : List Int) (v w : Int) : Bool := isGraphB n rs && (decide (0 ≤ v) && (decide (0 ≤ w) && (decide (v < n) && (decide (w < n) && (v != w)))))

set_option maxRecDepth 100000 in
set_option maxHeartbeats 1000000 in
theorem l2Pair_any (n : Int) (rs : List Int) (v v2 : Int) (ro : Option Addr) (rc : Nat) (w : World) (hr : IntsAt w ro rs) (hrl : rs.length ≤ 1048576) :
    Calls Tryz.prog 115 #[.agg #[.int .i64 n, .slice ro rs.length rc], .int .i64 v, .int .i64 v2] w fun e w' => e = .returned (.bool (pairB n rs v v2)) ∧ Below w.heap.size w w' := by
  have HE : Hid (pairB n rs v v2 = (isGraphB n rs && (decide (0 ≤ v) && (decide (0 ≤ v2) && (decide (v < n) && (decide (v2 < n) && (v != v2))))))) := rfl
  go_enter Tryz.func115, Tryz.ntmps115
  go_wp2_with fail
  generalize hW : w.alloc _ = W1
  obtain ⟨hB, -, k0⟩ := alloc1 hW
  replace hr := hr.below hB
  have hb0 := k0.lt
  have hc0 := k0.cell 0
  have hc1 := k0.cell 1
  simp at hc0 hc1
  clear hW k0
  have HhB := Lib.hid hB
  clear hB
  obtain ⟨m, hm0⟩ : ∃ m : Later W1, m.w = W1 := ⟨Later.refl _, rfl⟩
  refine (fun h => hm0 ▸ h) ?_
  clear hm0
  have hG := fun m : Later W1 => specIsGraph_any n rs ro rc m.w (hr.later m) hrl
  generalize isGraphB n rs = b at *
  cases b
  · go_wp2_with (first | (go_at_call 12; refine (Calls.later m (hG _)).mono ?_; rintro e w' ⟨rfl, m, rfl⟩))
    go_ret
    exact ⟨retB (by rw [HE.out]; rfl), below_later HhB.out m⟩
  cases h1 : decide (0 ≤ v)
  · go_wp2_with (first | (go_at_call 12; refine (Calls.later m (hG _)).mono ?_; rintro e w' ⟨rfl, m, rfl⟩))
    go_ret
    exact ⟨retB (by rw [HE.out, h1]; rfl), below_later HhB.out m⟩
  cases h2 : decide (0 ≤ v2)
  · go_wp2_with (first | (go_at_call 12; refine (Calls.later m (hG _)).mono ?_; rintro e w' ⟨rfl, m, rfl⟩))
    go_ret
    exact ⟨retB (by rw [HE.out, h1, h2]; rfl), below_later HhB.out m⟩
  cases h3 : decide (v < n)
  · go_wp2_with (first | (go_at_call 12; refine (Calls.later m (hG _)).mono ?_; rintro e w' ⟨rfl, m, rfl⟩))
    go_ret
    exact ⟨retB (by rw [HE.out, h1, h2, h3]; rfl), below_later HhB.out m⟩
  cases h4 : decide (v2 < n)
  · go_wp2_with (first | (go_at_call 12; refine (Calls.later m (hG _)).mono ?_; rintro e w' ⟨rfl, m, rfl⟩))
    go_ret
    exact ⟨retB (by rw [HE.out, h1, h2, h3, h4]; rfl), below_later HhB.out m⟩
  go_wp2_with (first | (go_at_call 12; refine (Calls.later m (hG _)).mono ?_; rintro e w' ⟨rfl, m, rfl⟩))
  go_ret
  exact ⟨retB (by rw [HE.out, h1, h2, h3, h4]; simp), below_later HhB.out m⟩

theorem pairB_true {n : Int} {rs : List Int} {v w : Int} (h : pairB n rs v w = true) : n = rs.length ∧ VG rs ∧ ∃ a b : Nat, v = a ∧ w = b ∧ a < rs.length ∧ b < rs.length ∧ a ≠ b := by
  unfold pairB at h
  simp only [Bool.and_eq_true, decide_eq_true_eq, bne_iff_ne, ne_eq] at h
  obtain ⟨hg, h1, h2, h3, h4, h5⟩ := h
  obtain ⟨rfl, g⟩ := VG.of hg
  exact ⟨rfl, g, v.toNat, w.toNat, by omega, by omega, by omega, by omega, by omega⟩

/-- AddEdge: the rows behind it. -/
def addV (n : Int) (rs : List Int) (v w : Int) : List Int := if pairB n rs v w = true then addE rs v.toNat w.toNat else rs
def addOk (n : Int) (rs : List Int) (v w : Int) : Bool := pairB n rs v w && !eb rs v.toNat w.toNat
theorem addV_len (n : Int) (rs : List Int) (v w : Int) : (addV n rs v w).length = rs.length := by unfold addV; split; exact addE_len _ _ _; rfl

set_option maxRecDepth 100000 in
set_option maxHeartbeats 1000000 in
theorem specAddEdge_any (n : Int) (rs : List Int) (v v2 : Int) (ro : Option Addr) (rc : Nat) (w : World) (hr : IntsAt w ro rs) (hrl : rs.length ≤ 1048576) (h0 : 0 < rs.length) :
    Calls Tryz.prog 65 #[.agg #[.int .i64 n, .slice ro rs.length rc], .int .i64 v, .int .i64 v2] w fun e w' => ∃ g1 cap, e = .returned (.tuple #[.agg #[.int .i64 n, .slice (some ⟨g1, 0, none⟩) rs.length cap], .bool (addOk n rs v v2)]) ∧ Below w.heap.size w w' ∧ w.heap.size ≤ g1 ∧ RowAt w' g1 cap (addV n rs v v2) := by
  have HE : Hid (addOk n rs v v2 = (pairB n rs v v2 && !eb rs v.toNat v2.toNat)) := rfl
  have HV : Hid (addV n rs v v2 = if pairB n rs v v2 = true then addE rs v.toNat v2.toNat else rs) := rfl
  go_enter Tryz.func65, Tryz.ntmps65
  go_wp2_with fail
  generalize hW : World.alloc _ _ = W1
  obtain ⟨hB, hs, k0, k1⟩ := alloc2 hW
  replace hr := hr.below hB
  clear hW
  have hb0 := k0.lt
  have hc0 := k0.cell 0
  have hc1 := k0.cell 1
  simp at hc0 hc1
  obtain ⟨m, hm0⟩ : ∃ m : Later W1, m.w = W1 := ⟨Later.refl _, rfl⟩
  refine (fun h => hm0 ▸ h) ?_
  clear hm0
  go_wp2_with fail
  refine (l2Copy_any n rs ro rc m.w (hr.later m) hrl h0).mono ?_
  rintro e w2 ⟨g1, cap, rfl, hB2, hg1, hR⟩
  have hms := m.size
  replace hg1 := Nat.le_trans hms hg1
  have hgl := hR.lt
  obtain ⟨m, rfl⟩ : ∃ m2 : Later W1, m2.w = w2 := ⟨m.on hB2, rfl⟩
  clear hms hB2
  have hb0' := Nat.lt_of_lt_of_le hb0 m.size
  go_wp2_with fail
  generalize hW2 : World.alloc _ _ = W2
  obtain ⟨hB2, hs2, k2⟩ := alloc1 hW2
  replace hR := hR.below hB2
  replace hr := (hr.later m).below hB2
  replace hc0 := (hB2.cell (p := ⟨w.heap.size, 0, none⟩) hb0').trans ((m.cell _ _ hb0).trans hc0)
  replace hc1 := (hB2.cell (p := ⟨w.heap.size, 1, none⟩) hb0').trans ((m.cell _ _ hb0).trans hc1)
  replace k1 := (k1.later m).below hB2 (k1.later m).lt
  have hBw := (below_later hB m).trans (hB2.mono (by have := (below_later hB m).size; omega))
  replace hb0 := Nat.lt_of_lt_of_le hb0' hB2.size
  have hne : g1 ≠ m.w.heap.size := by omega
  have how : w.heap.size + 1 < m.w.heap.size := by have := m.size; omega
  replace hgl := hR.lt
  have ho := k2.lt
  have ho0 := k2.cell 0
  have ho1 := k2.cell 1
  simp at ho0 ho1
  clear hW2 hb0' k0 hB
  generalize m.w.heap.size = o at *
  clear hB2 m hs2
  have hwr := k1.lt
  have hrw : ∀ (k : Nat) (y : Value) (m : Later W2), Blk m.w (w.heap.size + 1) #[.int .i64 0, .slice none 0 0] 26 := fun _ _ m => k1.later m
  have hg1w : w.heap.size + 1 < g1 := by omega
  clear hs
  have Hhne := Lib.hid hne
  clear hne
  have Hhow := Lib.hid how
  clear how
  have hP := fun m : Later W2 => l2Pair_any n rs v v2 ro rc m.w (hr.later m) hrl
  have hFin : ∀ (m : Later W2), Below w.heap.size w ((m.w.setCell ⟨w.heap.size + 1, 0, none⟩ (.int .i64 n)).setCell ⟨w.heap.size + 1, 1, none⟩ (.slice (some ⟨g1, 0, none⟩) rs.length cap)) := fun m =>
    ((below_later hBw m).setCell (by simp) _).setCell (by simp) _
  have hFinR : ∀ (m : Later W2), RowAt ((m.w.setCell ⟨w.heap.size + 1, 0, none⟩ (.int .i64 n)).setCell ⟨w.heap.size + 1, 1, none⟩ (.slice (some ⟨g1, 0, none⟩) rs.length cap)) g1 cap rs := fun m =>
    ((hR.below m.below).otherCell (by simp; omega)).otherCell (by simp; omega)
  obtain ⟨m, hm0⟩ : ∃ m : Later W2, m.w = W2 := ⟨Later.refl _, rfl⟩
  refine (fun h => hm0 ▸ h) ?_
  clear hm0
  cases hp : pairB n rs v v2
  · have HE2 : Hid (addOk n rs v v2 = false) := Lib.hid (by rw [HE.out, hp]; rfl)
    have HV2 : Hid (addV n rs v v2 = rs) := Lib.hid (by rw [HV.out, hp]; rfl)
    rw [hp] at hP
    clear HE HV hp
    refine (Calls.later _ (hP m)).mono ?_
    rintro e w' ⟨rfl, m, rfl⟩
    clear hP
    have km := k1.later m
    have y0 := km.cell 0
    have y1 := km.cell 1
    have y2 := km.frozen 0
    have y3 := km.frozen 1
    simp at y0 y1
    have hF := hFin m
    have hFR := hFinR m
    clear hFin hFinR km hrw k1 k2
    have HhF := Lib.hid hF
    clear hF
    have HhFR := Lib.hid hFR
    clear hFR
    go_wp2_with fail
    refine bodyPost_ret (v := .tuple #[.agg #[.int .i64 n, .slice (some ⟨g1, 0, none⟩) rs.length cap], .bool false]) (by simp [results, Tryz.results65, go_sem, y0, y1]) rfl ?_
    exact ⟨g1, cap, by rw [HE2.out], HhF.out, by omega, by rw [HV2.out]; exact HhFR.out⟩
  · obtain ⟨rfl, g, a, b, rfl, rfl, ha, hb, hab⟩ := pairB_true hp
    have hN7 := g.le
    rw [hp] at hP
    have HE2 : Hid (addOk rs.length rs a b = !eb rs a b) := Lib.hid (by rw [HE.out, hp]; rfl)
    have HV2 : Hid (addV rs.length rs a b = addE rs a b) := Lib.hid (by rw [HV.out, if_pos hp]; simp)
    clear HE HV hp
    refine (Calls.later _ (hP m)).mono ?_
    rintro e w' ⟨rfl, m, rfl⟩
    clear hP
    have hE := fun m : Later W2 => l2Edge_any rs a b ro rc m.w (hr.later m) g ha hb
    have HT : Hid ((gn rs a).testBit b = eb rs a b) := rfl
    rw [HT.out] at hE
    cases he : eb rs a b
    · have HS := Lib.hid (addE_set g ha hb hab he)
      rw [he] at hE HE2
      clear he
      go_wp2_with fail
      refine (Calls.later _ (hE m)).mono ?_
      rintro e w' ⟨rfl, m, rfl⟩
      clear hE
      have z1 := hR.cell a ha
      have z2 := hR.frozen a
      have z3 := hR.cell b hb
      have z4 := hR.frozen b
      rw [g.row a ha] at z1
      rw [g.row b hb] at z3
      have hga := g.lt128 ha
      have hgb := g.lt128 hb
      have HPa := Lib.hid (pwN_small a (by omega))
      have HPb := Lib.hid (pwN_small b (by omega))
      obtain ⟨hpa1, hpa2⟩ := pwN_pos a (by omega)
      obtain ⟨hpb1, hpb2⟩ := pwN_pos b (by omega)
      clear hFin hFinR k2 hrw
      go_wp2_with fail
      go_still_tail 11, (by kernel_rfl)
      refine wpList_drew_on m fun m => ?_
      go_wp2_with fail
      generalize hW3 : World.setCell _ _ _ = W3
      have q1 : (gn rs a : Int) + pwN b = ((gn rs a + 2 ^ b : Nat) : Int) := by rw [HPb.out, Int.natCast_add]
      have q2 : (gn rs b : Int) + pwN a = ((gn rs b + 2 ^ a : Nat) : Int) := by rw [HPa.out, Int.natCast_add]
      rw [q1] at hW3
      clear q1
      have Hq2 := Lib.hid q2
      clear q2
      have hO3 : Only (fun x => x = g1) W2.heap.size W2 W3 := hW3 ▸ (Only.of (X := fun x => x = g1) m.below).setCell (p := ⟨g1, a, none⟩) (.inl rfl) _
      have hR3 : RowAt W3 g1 cap (rs.set a ((gn rs a + 2 ^ b : Nat) : Int)) := hW3 ▸ (hR.below m.below).store a _
      have x1 := (hO3.cell (p := ⟨o, 1, none⟩) ho (fun e => Hhne.out (Eq.symm e))).trans ho1
      have x0 := (hO3.cell (p := ⟨o, 0, none⟩) ho (fun e => Hhne.out (Eq.symm e))).trans ho0
      have x2 := hR3.frozen b
      have x3 := hR3.cell b (by simpa using hb)
      have x4 : gi (rs.set a ((gn rs a + 2 ^ b : Nat) : Int)) b = (gn rs b : Int) := by rw [← g.row b hb]; simp [gi, hab]
      rw [x4] at x3
      have k3 := hO3.blk k1 hwr (fun e => by have e2 : w.heap.size + 1 = g1 := e; omega)
      have y0 := k3.cell 0
      have y1 := k3.cell 1
      have y2 := k3.frozen 0
      have y3 := k3.frozen 1
      simp at y0 y1
      have hB3 : Below w.heap.size w W3 := hBw.trans (hO3.below hBw.size fun x hx e => by have e2 : x = g1 := e; omega)
      have b1 := Nat.lt_of_lt_of_le ho hO3.size
      have b2 := Nat.lt_of_lt_of_le hgl hO3.size
      have b3 := Nat.lt_of_lt_of_le hwr hO3.size
      clear hW3 x4 hO3 ho0 ho1 hc0 hc1 z1 z2 z3 z4 hb0 ho hgl hwr hR hr hBw m
      have hne := Hhne.out
      have HhR3 := Lib.hid hR3
      clear hR3
      have HhB3 := Lib.hid hB3
      clear hB3
      have Hk3 := Lib.hid k3
      clear k3
      obtain ⟨m, hm0⟩ : ∃ m : Later W3, m.w = W3 := ⟨Later.refl _, rfl⟩
      refine (fun h => hm0 ▸ h) ?_
      clear hm0
      go_wp2_with fail
      go_still_tail 11, (by kernel_rfl)
      refine wpList_drew_on m fun m => ?_
      go_wp2_with fail
      rw [Hq2.out]
      obtain ⟨W4, hW4⟩ : ∃ W4, W4 = m.w.setCell ⟨g1, b, none⟩ (.int .i64 ((gn rs b + 2 ^ a : Nat) : Int)) := ⟨_, rfl⟩
      rw [← hW4]
      have k4 := (Hk3.out.later m).other (a := ⟨g1, b, none⟩) (.int .i64 ((gn rs b + 2 ^ a : Nat) : Int)) (by simp; omega)
      rw [← hW4] at k4
      have v0 := k4.cell 0
      have v1 := k4.cell 1
      simp at v0 v1
      have hF : Below w.heap.size w ((W4.setCell ⟨w.heap.size + 1, 0, none⟩ (.int .i64 rs.length)).setCell ⟨w.heap.size + 1, 1, none⟩ (.slice (some ⟨g1, 0, none⟩) rs.length cap)) :=
        ((hW4 ▸ (below_later HhB3.out m).setCell (by simp; omega) _ : Below w.heap.size w W4).setCell (by simp) _).setCell (by simp) _
      have hFR : RowAt ((W4.setCell ⟨w.heap.size + 1, 0, none⟩ (.int .i64 rs.length)).setCell ⟨w.heap.size + 1, 1, none⟩ (.slice (some ⟨g1, 0, none⟩) rs.length cap)) g1 cap (addE rs a b) :=
        HS.out ▸ ((hW4 ▸ (HhR3.out.below m.below).store b _ : RowAt W4 g1 cap _).otherCell (by simp; omega)).otherCell (by simp; omega)
      clear hW4 k4
      refine bodyPost_ret (v := .tuple #[.agg #[.int .i64 rs.length, .slice (some ⟨g1, 0, none⟩) rs.length cap], .bool true]) (by simp [results, Tryz.results65, go_sem, v0, v1]) rfl ?_
      exact ⟨g1, cap, by rw [HE2.out]; rfl, hF, by omega, by rw [HV2.out]; exact hFR⟩
    · have HQ := Lib.hid (addE_there g ha hb he)
      rw [he] at hE HE2
      clear he
      go_wp2_with fail
      refine (Calls.later _ (hE m)).mono ?_
      rintro e w' ⟨rfl, m, rfl⟩
      clear hE
      have km := k1.later m
      have y0 := km.cell 0
      have y1 := km.cell 1
      have y2 := km.frozen 0
      have y3 := km.frozen 1
      simp at y0 y1
      have hF := hFin m
      have hFR := hFinR m
      clear hFin hFinR km hrw k1 k2
      have HhF := Lib.hid hF
      clear hF
      have HhFR := Lib.hid hFR
      clear hFR
      go_wp2_with fail
      refine bodyPost_ret (v := .tuple #[.agg #[.int .i64 rs.length, .slice (some ⟨g1, 0, none⟩) rs.length cap], .bool false]) (by simp [results, Tryz.results65, go_sem, y0, y1]) rfl ?_
      exact ⟨g1, cap, by rw [HE2.out]; rfl, HhF.out, by omega, by rw [HV2.out, HQ.out]; exact HhFR.out⟩

theorem pair_ok {rs : List Int} (g : VG rs) {a b : Nat} (ha : a < rs.length) (hb : b < rs.length) (hne : a ≠ b) : pairB rs.length rs a b = true := by
  unfold pairB
  rw [g.graph, decide_eq_true (by omega), decide_eq_true (by omega), decide_eq_true (by omega), decide_eq_true (by omega)]
  simp; omega
theorem RowAt.ints {w : World} {g cap : Nat} {xs : List Int} (h : RowAt w g cap xs) : IntsAt w (some ⟨g, 0, none⟩) xs := (h.own (base := 0) (Nat.zero_le _)).ints
theorem IntsAt.only {w w' : World} {ao : Option Addr} {xs : List Int} {X : Nat → Prop} (h : IntsAt w ao xs) (hO : Only X w.heap.size w w') (hx : ∀ b off, ao = some ⟨b, off, none⟩ → ¬X b) : IntsAt w' ao xs := fun h0 => by
  obtain ⟨b, off, e, hlt, hc⟩ := h h0
  exact ⟨b, off, e, Nat.lt_of_lt_of_le hlt hO.size, fun k hk => by rw [hO.cell (p := ⟨b, off + k, none⟩) hlt (hx b off e)]; exact hc k hk⟩

end Go.Proofs.YtjikmjhpmkakoaaGreatDoor

namespace Go.Proofs.YtjikmjhpmkakoaaGreatDoor
open Go.RowKit Go.ChangeShapes Go.WideShapes Go.ChangeAt

theorem own : ownKnob Tryz.prog.godebug = none := by kernel_rfl
theorem laidOut : laidOutB Tryz.prog = true := by kernel_rfl
end Go.Proofs.YtjikmjhpmkakoaaGreatDoor
