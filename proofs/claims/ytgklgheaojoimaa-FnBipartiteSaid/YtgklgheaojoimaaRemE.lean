/-
  RemoveEdge of the reference: the rows stay as many as they were. For at most 2^20 rows and at least one.
-/
import Derived.Test.YtgklgheaojoimaaAddE
namespace Go.Proofs.Ytgklgheaojoimaa
open Go.RowKit

set_option maxRecDepth 100000 in
set_option maxHeartbeats 1000000 in
theorem specRemoveEdge_any (n : Int) (rs : List Int) (v v2 : Int) (ro : Option Addr) (rc : Nat) (w : World) (hr : IntsAt w ro rs) (hrl : rs.length ≤ 1048576) (h0 : 0 < rs.length) :
    Calls Try.prog 141 #[.agg #[.int .i64 n, .slice ro rs.length rc], .int .i64 v, .int .i64 v2] w fun e w' => ∃ g1 cap ok f', e = .returned (.tuple #[.agg #[.int .i64 n, .slice (some ⟨g1, 0, none⟩) rs.length cap], .bool ok]) ∧ Below w.heap.size w w' ∧ w.heap.size ≤ g1 ∧ RowAt w' g1 cap f' ∧ f'.length = rs.length := by
  go_enter Try.func141, Try.ntmps141
  go_wp2_with fail
  generalize hW : World.alloc _ _ = W1
  obtain ⟨hB, hs, k0, k1⟩ := alloc2 hW
  replace hr := hr.below hB
  clear hW
  have hb0 := k0.lt
  have hc0 := k0.cell 0
  have hc1 := k0.cell 1
  simp at hc0 hc1
  obtain ⟨m, hm0⟩ : ∃ m : Later W1, m.w = W1 := ⟨Later.refl _, rfl⟩
  refine (fun h => hm0 ▸ h) ?_
  clear hm0
  go_wp2_with fail
  refine (l2Copy_any n rs ro rc m.w (hr.later m) hrl h0).mono ?_
  rintro e w2 ⟨g1, cap, rfl, hB2, hg1, hR⟩
  have hms := m.size
  replace hg1 := Nat.le_trans hms hg1
  have hgl := hR.lt
  obtain ⟨m, rfl⟩ : ∃ m2 : Later W1, m2.w = w2 := ⟨m.on hB2, rfl⟩
  clear hms hB2
  have hb0' := Nat.lt_of_lt_of_le hb0 m.size
  go_wp2_with fail
  generalize hW2 : World.alloc _ _ = W2
  obtain ⟨hB2, hs2, k2⟩ := alloc1 hW2
  replace hR := hR.below hB2
  replace hr := (hr.later m).below hB2
  replace hc0 := (hB2.cell (p := ⟨w.heap.size, 0, none⟩) hb0').trans ((m.cell _ _ hb0).trans hc0)
  replace hc1 := (hB2.cell (p := ⟨w.heap.size, 1, none⟩) hb0').trans ((m.cell _ _ hb0).trans hc1)
  replace k1 := (k1.later m).below hB2 (k1.later m).lt
  have hBw := (below_later hB m).trans (hB2.mono (by have := (below_later hB m).size; omega))
  replace hb0 := Nat.lt_of_lt_of_le hb0' hB2.size
  have hne : g1 ≠ m.w.heap.size := by omega
  have how : w.heap.size + 1 < m.w.heap.size := by have := m.size; omega
  replace hgl := hR.lt
  have ho := k2.lt
  have ho0 := k2.cell 0
  have ho1 := k2.cell 1
  simp at ho0 ho1
  clear hW2 hb0' k0 hB
  generalize m.w.heap.size = o at *
  clear hB2 m hs2
  have hwr := k1.lt
  have hrw : ∀ (k : Nat) (y : Value) (m : Later W2), Blk m.w (w.heap.size + 1) #[.int .i64 0, .slice none 0 0] 26 := fun _ _ m => k1.later m
  have hg1w : w.heap.size + 1 < g1 := by omega
  clear hs
  have Hhne := Lib.hid hne
  clear hne
  have Hhow := Lib.hid how
  clear how
  have hP := fun m : Later W2 => l2Pair_any n rs v v2 ro rc m.w (hr.later m) hrl
  have hFin : ∀ (m : Later W2), Below w.heap.size w ((m.w.setCell ⟨w.heap.size + 1, 0, none⟩ (.int .i64 n)).setCell ⟨w.heap.size + 1, 1, none⟩ (.slice (some ⟨g1, 0, none⟩) rs.length cap)) := fun m =>
    ((below_later hBw m).setCell (by simp) _).setCell (by simp) _
  have hFinR : ∀ (m : Later W2), RowAt ((m.w.setCell ⟨w.heap.size + 1, 0, none⟩ (.int .i64 n)).setCell ⟨w.heap.size + 1, 1, none⟩ (.slice (some ⟨g1, 0, none⟩) rs.length cap)) g1 cap rs := fun m =>
    ((hR.below m.below).otherCell (by simp; omega)).otherCell (by simp; omega)
  obtain ⟨m, hm0⟩ : ∃ m : Later W2, m.w = W2 := ⟨Later.refl _, rfl⟩
  refine (fun h => hm0 ▸ h) ?_
  clear hm0
  cases hp : pairB n rs v v2
  · rw [hp] at hP
    clear hp
    refine (Calls.later _ (hP m)).mono ?_
    rintro e w' ⟨rfl, m, rfl⟩
    clear hP
    have km := k1.later m
    have y0 := km.cell 0
    have y1 := km.cell 1
    have y2 := km.frozen 0
    have y3 := km.frozen 1
    simp at y0 y1
    have hF := hFin m
    have hFR := hFinR m
    clear hFin hFinR km hrw k1 k2
    have HhF := Lib.hid hF
    clear hF
    have HhFR := Lib.hid hFR
    clear hFR
    go_wp2_with fail
    refine bodyPost_ret (v := .tuple #[.agg #[.int .i64 n, .slice (some ⟨g1, 0, none⟩) rs.length cap], .bool false]) (by simp [results, Try.results141, go_sem, y0, y1]) rfl ?_
    exact ⟨g1, cap, _, rs, rfl, HhF.out, by omega, HhFR.out, rfl⟩
  · obtain ⟨rfl, g, a, b, rfl, rfl, ha, hb, hab⟩ := pairB_true hp
    have hN7 := g.le
    rw [hp] at hP
    clear hp
    refine (Calls.later _ (hP m)).mono ?_
    rintro e w' ⟨rfl, m, rfl⟩
    clear hP
    have hE := fun m : Later W2 => l2Edge_any rs a b ro rc m.w (hr.later m) g ha hb
    have HT : Hid ((gn rs a).testBit b = eb rs a b) := rfl
    rw [HT.out] at hE
    cases he : eb rs a b
    rotate_left
    · rw [he] at hE
      clear he
      go_wp2_with fail
      refine (Calls.later _ (hE m)).mono ?_
      rintro e w' ⟨rfl, m, rfl⟩
      clear hE
      have z1 := hR.cell a ha
      have z2 := hR.frozen a
      have z3 := hR.cell b hb
      have z4 := hR.frozen b
      rw [g.row a ha] at z1
      rw [g.row b hb] at z3
      have hga := g.lt128 ha
      have hgb := g.lt128 hb
      have HPa := Lib.hid (pwN_small a (by omega))
      have HPb := Lib.hid (pwN_small b (by omega))
      obtain ⟨hpa1, hpa2⟩ := pwN_pos a (by omega)
      obtain ⟨hpb1, hpb2⟩ := pwN_pos b (by omega)
      clear hFin hFinR k2 hrw
      go_wp2_with fail
      go_still_tail 11, (by kernel_rfl)
      refine wpList_drew_on m fun m => ?_
      go_wp2_with fail
      generalize hW3 : World.setCell _ _ _ = W3
      obtain ⟨ya, hya⟩ : ∃ ya, ya = (gn rs a : Int) - pwN b := ⟨_, rfl⟩
      rw [← hya] at hW3
      clear hya
      have hO3 : Only (fun x => x = g1) W2.heap.size W2 W3 := hW3 ▸ (Only.of (X := fun x => x = g1) m.below).setCell (p := ⟨g1, a, none⟩) (.inl rfl) _
      have hR3 : RowAt W3 g1 cap (rs.set a ya) := hW3 ▸ (hR.below m.below).store a _
      have x1 := (hO3.cell (p := ⟨o, 1, none⟩) ho (fun e => Hhne.out (Eq.symm e))).trans ho1
      have x0 := (hO3.cell (p := ⟨o, 0, none⟩) ho (fun e => Hhne.out (Eq.symm e))).trans ho0
      have x2 := hR3.frozen b
      have x3 := hR3.cell b (by simpa using hb)
      have x4 : gi (rs.set a ya) b = (gn rs b : Int) := by rw [← g.row b hb]; simp [gi, hab]
      rw [x4] at x3
      have k3 := hO3.blk k1 hwr (fun e => by have e2 : w.heap.size + 1 = g1 := e; omega)
      have y0 := k3.cell 0
      have y1 := k3.cell 1
      have y2 := k3.frozen 0
      have y3 := k3.frozen 1
      simp at y0 y1
      have hB3 : Below w.heap.size w W3 := hBw.trans (hO3.below hBw.size fun x hx e => by have e2 : x = g1 := e; omega)
      have b1 := Nat.lt_of_lt_of_le ho hO3.size
      have b2 := Nat.lt_of_lt_of_le hgl hO3.size
      have b3 := Nat.lt_of_lt_of_le hwr hO3.size
      clear hW3 x4 hO3 ho0 ho1 hc0 hc1 z1 z2 z3 z4 hb0 ho hgl hwr hR hr hBw m
      have hne := Hhne.out
      have HhR3 := Lib.hid hR3
      clear hR3
      have HhB3 := Lib.hid hB3
      clear hB3
      have Hk3 := Lib.hid k3
      clear k3
      obtain ⟨m, hm0⟩ : ∃ m : Later W3, m.w = W3 := ⟨Later.refl _, rfl⟩
      refine (fun h => hm0 ▸ h) ?_
      clear hm0
      go_wp2_with fail
      go_still_tail 11, (by kernel_rfl)
      refine wpList_drew_on m fun m => ?_
      go_wp2_with fail
      obtain ⟨yz, hyz⟩ : ∃ yz, yz = (gn rs b : Int) - pwN a := ⟨_, rfl⟩
      rw [← hyz]
      obtain ⟨W4, hW4⟩ : ∃ W4, W4 = m.w.setCell ⟨g1, b, none⟩ (.int .i64 yz) := ⟨_, rfl⟩
      rw [← hW4]
      have k4 := (Hk3.out.later m).other (a := ⟨g1, b, none⟩) (.int .i64 yz) (by simp; omega)
      rw [← hW4] at k4
      have v0 := k4.cell 0
      have v1 := k4.cell 1
      simp at v0 v1
      have hF : Below w.heap.size w ((W4.setCell ⟨w.heap.size + 1, 0, none⟩ (.int .i64 rs.length)).setCell ⟨w.heap.size + 1, 1, none⟩ (.slice (some ⟨g1, 0, none⟩) rs.length cap)) :=
        ((hW4 ▸ (below_later HhB3.out m).setCell (by simp; omega) _ : Below w.heap.size w W4).setCell (by simp) _).setCell (by simp) _
      have hFR : RowAt ((W4.setCell ⟨w.heap.size + 1, 0, none⟩ (.int .i64 rs.length)).setCell ⟨w.heap.size + 1, 1, none⟩ (.slice (some ⟨g1, 0, none⟩) rs.length cap)) g1 cap ((rs.set a ya).set b yz) :=
        ((hW4 ▸ (HhR3.out.below m.below).store b _ : RowAt W4 g1 cap _).otherCell (by simp; omega)).otherCell (by simp; omega)
      clear hW4 k4
      refine bodyPost_ret (v := .tuple #[.agg #[.int .i64 rs.length, .slice (some ⟨g1, 0, none⟩) rs.length cap], .bool true]) (by simp [results, Try.results141, go_sem, v0, v1]) rfl ?_
      exact ⟨g1, cap, _, _, rfl, hF, by omega, hFR, by simp⟩
    · rw [he] at hE
      clear he
      go_wp2_with fail
      refine (Calls.later _ (hE m)).mono ?_
      rintro e w' ⟨rfl, m, rfl⟩
      clear hE
      have km := k1.later m
      have y0 := km.cell 0
      have y1 := km.cell 1
      have y2 := km.frozen 0
      have y3 := km.frozen 1
      simp at y0 y1
      have hF := hFin m
      have hFR := hFinR m
      clear hFin hFinR km hrw k1 k2
      have HhF := Lib.hid hF
      clear hF
      have HhFR := Lib.hid hFR
      clear hFR
      go_wp2_with fail
      refine bodyPost_ret (v := .tuple #[.agg #[.int .i64 rs.length, .slice (some ⟨g1, 0, none⟩) rs.length cap], .bool false]) (by simp [results, Try.results141, go_sem, y0, y1]) rfl ?_
      exact ⟨g1, cap, _, rs, rfl, HhF.out, by omega, HhFR.out, rfl⟩

end Go.Proofs.Ytgklgheaojoimaa
