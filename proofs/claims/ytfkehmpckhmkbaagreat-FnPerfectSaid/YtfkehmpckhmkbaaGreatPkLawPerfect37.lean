/-
  RemoveEdge of the reference: the rows stay as many as they were. For at most 2^20 rows and at least one.
  A graph with an edge less. No conditions.
  What the search for an orientation keeps: the holes of five vertices, as long as it does not fail. No conditions.
  What falls from round to round of the search for an orientation: the sum of the rows that are left. No conditions.
-/
import Derived.Test.YtfkehmpckhmkbaaGreatPkLawPerfect07
import Derived.Test.YtfkehmpckhmkbaaGreatPkLawPerfect05
import Derived.Test.YtfkehmpckhmkbaaGreatPkLawPerfect04
import Derived.Test.YtfkehmpckhmkbaaGreatPkLawPerfect36
import Derived.Test.YtfkehmpckhmkbaaGreatPkLawPerfect31
namespace Go.Proofs.YtfkehmpckhmkbaaGreat
open Go.RowKit

/-- f' are the rows without the edge. -/
def RmIs (n : Int) (rs : List Int) (v v2 : Int) (f' : List Int) : Prop :=
  pairB n rs v v2 = true → f' = if eb rs v.toNat v2.toNat = true then (rs.set v.toNat ((gn rs v.toNat : Int) - pwN v2.toNat)).set v2.toNat ((gn rs v2.toNat : Int) - pwN v.toNat) else rs

set_option maxRecDepth 100000 in
set_option maxHeartbeats 1000000 in
theorem specRemoveEdge_all (n : Int) (rs : List Int) (v v2 : Int) (ro : Option Addr) (rc : Nat) (w : World) (hr : IntsAt w ro rs) (hrl : rs.length ≤ 1048576) (h0 : 0 < rs.length) :
    Calls Tryz.prog 83 #[.agg #[.int .i64 n, .slice ro rs.length rc], .int .i64 v, .int .i64 v2] w fun e w' => ∃ g1 cap ok f', e = .returned (.tuple #[.agg #[.int .i64 n, .slice (some ⟨g1, 0, none⟩) rs.length cap], .bool ok]) ∧ Below w.heap.size w w' ∧ w.heap.size ≤ g1 ∧ RowAt w' g1 cap f' ∧ f'.length = rs.length ∧ RmIs n rs v v2 f' := by
  go_enter Tryz.func83, Tryz.ntmps83
  go_wp2_with fail
  generalize hW : World.alloc _ _ = W1
  obtain ⟨hB, hs, k0, k1⟩ := alloc2 hW
  replace hr := hr.below hB
  clear hW
  have hb0 := k0.lt
  have hc0 := k0.cell 0
  have hc1 := k0.cell 1
  simp at hc0 hc1
  obtain ⟨m, hm0⟩ : ∃ m : Later W1, m.w = W1 := ⟨Later.refl _, rfl⟩
  refine (fun h => hm0 ▸ h) ?_
  clear hm0
  go_wp2_with fail
  refine (l2Copy_any n rs ro rc m.w (hr.later m) hrl h0).mono ?_
  rintro e w2 ⟨g1, cap, rfl, hB2, hg1, hR⟩
  have hms := m.size
  replace hg1 := Nat.le_trans hms hg1
  have hgl := hR.lt
  obtain ⟨m, rfl⟩ : ∃ m2 : Later W1, m2.w = w2 := ⟨m.on hB2, rfl⟩
  clear hms hB2
  have hb0' := Nat.lt_of_lt_of_le hb0 m.size
  go_wp2_with fail
  generalize hW2 : World.alloc _ _ = W2
  obtain ⟨hB2, hs2, k2⟩ := alloc1 hW2
  replace hR := hR.below hB2
  replace hr := (hr.later m).below hB2
  replace hc0 := (hB2.cell (p := ⟨w.heap.size, 0, none⟩) hb0').trans ((m.cell _ _ hb0).trans hc0)
  replace hc1 := (hB2.cell (p := ⟨w.heap.size, 1, none⟩) hb0').trans ((m.cell _ _ hb0).trans hc1)
  replace k1 := (k1.later m).below hB2 (k1.later m).lt
  have hBw := (below_later hB m).trans (hB2.mono (by have := (below_later hB m).size; omega))
  replace hb0 := Nat.lt_of_lt_of_le hb0' hB2.size
  have hne : g1 ≠ m.w.heap.size := by omega
  have how : w.heap.size + 1 < m.w.heap.size := by have := m.size; omega
  replace hgl := hR.lt
  have ho := k2.lt
  have ho0 := k2.cell 0
  have ho1 := k2.cell 1
  simp at ho0 ho1
  clear hW2 hb0' k0 hB
  generalize m.w.heap.size = o at *
  clear hB2 m hs2
  have hwr := k1.lt
  have hrw : ∀ (k : Nat) (y : Value) (m : Later W2), Blk m.w (w.heap.size + 1) #[.int .i64 0, .slice none 0 0] 26 := fun _ _ m => k1.later m
  have hg1w : w.heap.size + 1 < g1 := by omega
  clear hs
  have Hhne := Lib.hid hne
  clear hne
  have Hhow := Lib.hid how
  clear how
  have hP := fun m : Later W2 => l2Pair_any n rs v v2 ro rc m.w (hr.later m) hrl
  have hFin : ∀ (m : Later W2), Below w.heap.size w ((m.w.setCell ⟨w.heap.size + 1, 0, none⟩ (.int .i64 n)).setCell ⟨w.heap.size + 1, 1, none⟩ (.slice (some ⟨g1, 0, none⟩) rs.length cap)) := fun m =>
    ((below_later hBw m).setCell (by simp) _).setCell (by simp) _
  have hFinR : ∀ (m : Later W2), RowAt ((m.w.setCell ⟨w.heap.size + 1, 0, none⟩ (.int .i64 n)).setCell ⟨w.heap.size + 1, 1, none⟩ (.slice (some ⟨g1, 0, none⟩) rs.length cap)) g1 cap rs := fun m =>
    ((hR.below m.below).otherCell (by simp; omega)).otherCell (by simp; omega)
  obtain ⟨m, hm0⟩ : ∃ m : Later W2, m.w = W2 := ⟨Later.refl _, rfl⟩
  refine (fun h => hm0 ▸ h) ?_
  clear hm0
  cases hp : pairB n rs v v2
  · have HQ : Hid (RmIs n rs v v2 rs) := fun h => by rw [hp] at h; cases h
    rw [hp] at hP
    clear hp
    refine (Calls.later _ (hP m)).mono ?_
    rintro e w' ⟨rfl, m, rfl⟩
    clear hP
    have km := k1.later m
    have y0 := km.cell 0
    have y1 := km.cell 1
    have y2 := km.frozen 0
    have y3 := km.frozen 1
    simp at y0 y1
    have hF := hFin m
    have hFR := hFinR m
    clear hFin hFinR km hrw k1 k2
    have HhF := Lib.hid hF
    clear hF
    have HhFR := Lib.hid hFR
    clear hFR
    go_wp2_with fail
    refine bodyPost_ret (v := .tuple #[.agg #[.int .i64 n, .slice (some ⟨g1, 0, none⟩) rs.length cap], .bool false]) (by simp [results, Tryz.results83, go_sem, y0, y1]) rfl ?_
    exact ⟨g1, cap, _, rs, rfl, HhF.out, by omega, HhFR.out, rfl, HQ.out⟩
  · obtain ⟨rfl, g, a, b, rfl, rfl, ha, hb, hab⟩ := pairB_true hp
    have hN7 := g.le
    rw [hp] at hP
    clear hp
    refine (Calls.later _ (hP m)).mono ?_
    rintro e w' ⟨rfl, m, rfl⟩
    clear hP
    have hE := fun m : Later W2 => l2Edge_any rs a b ro rc m.w (hr.later m) g ha hb
    have HT : Hid ((gn rs a).testBit b = eb rs a b) := rfl
    rw [HT.out] at hE
    cases he : eb rs a b
    rotate_left
    · have HQ : Hid (RmIs rs.length rs a b ((rs.set a ((gn rs a : Int) - pwN b)).set b ((gn rs b : Int) - pwN a))) := fun _ => by rw [Int.toNat_natCast, Int.toNat_natCast, if_pos he]
      rw [he] at hE
      clear he
      go_wp2_with fail
      refine (Calls.later _ (hE m)).mono ?_
      rintro e w' ⟨rfl, m, rfl⟩
      clear hE
      have z1 := hR.cell a ha
      have z2 := hR.frozen a
      have z3 := hR.cell b hb
      have z4 := hR.frozen b
      rw [g.row a ha] at z1
      rw [g.row b hb] at z3
      have hga := g.lt128 ha
      have hgb := g.lt128 hb
      have HPa := Lib.hid (pwN_small a (by omega))
      have HPb := Lib.hid (pwN_small b (by omega))
      obtain ⟨hpa1, hpa2⟩ := pwN_pos a (by omega)
      obtain ⟨hpb1, hpb2⟩ := pwN_pos b (by omega)
      clear hFin hFinR k2 hrw
      go_wp2_with fail
      go_still_tail 11, (by kernel_rfl)
      refine wpList_drew_on m fun m => ?_
      go_wp2_with fail
      generalize hW3 : World.setCell _ _ _ = W3
      obtain ⟨ya, hya⟩ : ∃ ya, ya = (gn rs a : Int) - pwN b := ⟨_, rfl⟩
      rw [← hya] at hW3 HQ
      clear hya
      have hO3 : Only (fun x => x = g1) W2.heap.size W2 W3 := hW3 ▸ (Only.of (X := fun x => x = g1) m.below).setCell (p := ⟨g1, a, none⟩) (.inl rfl) _
      have hR3 : RowAt W3 g1 cap (rs.set a ya) := hW3 ▸ (hR.below m.below).store a _
      have x1 := (hO3.cell (p := ⟨o, 1, none⟩) ho (fun e => Hhne.out (Eq.symm e))).trans ho1
      have x0 := (hO3.cell (p := ⟨o, 0, none⟩) ho (fun e => Hhne.out (Eq.symm e))).trans ho0
      have x2 := hR3.frozen b
      have x3 := hR3.cell b (by simpa using hb)
      have x4 : gi (rs.set a ya) b = (gn rs b : Int) := by rw [← g.row b hb]; simp [gi, hab]
      rw [x4] at x3
      have k3 := hO3.blk k1 hwr (fun e => by have e2 : w.heap.size + 1 = g1 := e; omega)
      have y0 := k3.cell 0
      have y1 := k3.cell 1
      have y2 := k3.frozen 0
      have y3 := k3.frozen 1
      simp at y0 y1
      have hB3 : Below w.heap.size w W3 := hBw.trans (hO3.below hBw.size fun x hx e => by have e2 : x = g1 := e; omega)
      have b1 := Nat.lt_of_lt_of_le ho hO3.size
      have b2 := Nat.lt_of_lt_of_le hgl hO3.size
      have b3 := Nat.lt_of_lt_of_le hwr hO3.size
      clear hW3 x4 hO3 ho0 ho1 hc0 hc1 z1 z2 z3 z4 hb0 ho hgl hwr hR hr hBw m
      have hne := Hhne.out
      have HhR3 := Lib.hid hR3
      clear hR3
      have HhB3 := Lib.hid hB3
      clear hB3
      have Hk3 := Lib.hid k3
      clear k3
      obtain ⟨m, hm0⟩ : ∃ m : Later W3, m.w = W3 := ⟨Later.refl _, rfl⟩
      refine (fun h => hm0 ▸ h) ?_
      clear hm0
      go_wp2_with fail
      go_still_tail 11, (by kernel_rfl)
      refine wpList_drew_on m fun m => ?_
      go_wp2_with fail
      obtain ⟨yz, hyz⟩ : ∃ yz, yz = (gn rs b : Int) - pwN a := ⟨_, rfl⟩
      rw [← hyz]
      rw [← hyz] at HQ
      obtain ⟨W4, hW4⟩ : ∃ W4, W4 = m.w.setCell ⟨g1, b, none⟩ (.int .i64 yz) := ⟨_, rfl⟩
      rw [← hW4]
      have k4 := (Hk3.out.later m).other (a := ⟨g1, b, none⟩) (.int .i64 yz) (by simp; omega)
      rw [← hW4] at k4
      have v0 := k4.cell 0
      have v1 := k4.cell 1
      simp at v0 v1
      have hF : Below w.heap.size w ((W4.setCell ⟨w.heap.size + 1, 0, none⟩ (.int .i64 rs.length)).setCell ⟨w.heap.size + 1, 1, none⟩ (.slice (some ⟨g1, 0, none⟩) rs.length cap)) :=
        ((hW4 ▸ (below_later HhB3.out m).setCell (by simp; omega) _ : Below w.heap.size w W4).setCell (by simp) _).setCell (by simp) _
      have hFR : RowAt ((W4.setCell ⟨w.heap.size + 1, 0, none⟩ (.int .i64 rs.length)).setCell ⟨w.heap.size + 1, 1, none⟩ (.slice (some ⟨g1, 0, none⟩) rs.length cap)) g1 cap ((rs.set a ya).set b yz) :=
        ((hW4 ▸ (HhR3.out.below m.below).store b _ : RowAt W4 g1 cap _).otherCell (by simp; omega)).otherCell (by simp; omega)
      clear hW4 k4
      refine bodyPost_ret (v := .tuple #[.agg #[.int .i64 rs.length, .slice (some ⟨g1, 0, none⟩) rs.length cap], .bool true]) (by simp [results, Tryz.results83, go_sem, v0, v1]) rfl ?_
      exact ⟨g1, cap, _, _, rfl, hF, by omega, hFR, by simp, HQ.out⟩
    · have HQ : Hid (RmIs rs.length rs a b rs) := fun _ => by rw [Int.toNat_natCast, Int.toNat_natCast, if_neg (by rw [he]; decide)]
      rw [he] at hE
      clear he
      go_wp2_with fail
      refine (Calls.later _ (hE m)).mono ?_
      rintro e w' ⟨rfl, m, rfl⟩
      clear hE
      have km := k1.later m
      have y0 := km.cell 0
      have y1 := km.cell 1
      have y2 := km.frozen 0
      have y3 := km.frozen 1
      simp at y0 y1
      have hF := hFin m
      have hFR := hFinR m
      clear hFin hFinR km hrw k1 k2
      have HhF := Lib.hid hF
      clear hF
      have HhFR := Lib.hid hFR
      clear hFR
      go_wp2_with fail
      refine bodyPost_ret (v := .tuple #[.agg #[.int .i64 rs.length, .slice (some ⟨g1, 0, none⟩) rs.length cap], .bool false]) (by simp [results, Tryz.results83, go_sem, y0, y1]) rfl ?_
      exact ⟨g1, cap, _, rs, rfl, HhF.out, by omega, HhFR.out, rfl, HQ.out⟩

theorem specRemoveEdge_any (n : Int) (rs : List Int) (v v2 : Int) (ro : Option Addr) (rc : Nat) (w : World) (hr : IntsAt w ro rs) (hrl : rs.length ≤ 1048576) (h0 : 0 < rs.length) :
    Calls Tryz.prog 83 #[.agg #[.int .i64 n, .slice ro rs.length rc], .int .i64 v, .int .i64 v2] w fun e w' => ∃ g1 cap ok f', e = .returned (.tuple #[.agg #[.int .i64 n, .slice (some ⟨g1, 0, none⟩) rs.length cap], .bool ok]) ∧ Below w.heap.size w w' ∧ w.heap.size ≤ g1 ∧ RowAt w' g1 cap f' ∧ f'.length = rs.length :=
  (specRemoveEdge_all n rs v v2 ro rc w hr hrl h0).mono fun _ _ ⟨g1, cap, ok, f', h1, h2, h3, h4, h5, _⟩ => ⟨g1, cap, ok, f', h1, h2, h3, h4, h5⟩

end Go.Proofs.YtfkehmpckhmkbaaGreat

namespace Go.Proofs.YtfkehmpckhmkbaaGreat
open Go.RowKit

def remE (rs : List Int) (v w : Nat) : List Int := rowsOf rs.length fun i j => eb rs i j && !isE v w i j
theorem remE_len (rs : List Int) (v w : Nat) : (remE rs v w).length = rs.length := rowsOf_len _ _
theorem remE_eb {rs : List Int} {v w i j : Nat} (hi : i < rs.length) (hj : j < rs.length) : eb (remE rs v w) i j = (eb rs i j && !isE v w i j) := eb_rowsOf hi hj
theorem remE_VG {rs : List Int} (g : VG rs) {v w : Nat} : VG (remE rs v w) :=
  rowsOf_VG g.pos g.le (fun i hi => by rw [eb_irr g hi]; rfl) (fun i hi j hj => by rw [eb_sym g hi hj, isE_sym])
theorem remE_none {rs : List Int} (g : VG rs) {v w : Nat} (hv : v < rs.length) (hw : w < rs.length) (h : eb rs v w = false) : remE rs v w = rs := by
  refine (rows_of g fun i hi j hj => ?_).symm
  cases e : isE v w i j
  · simp
  · have h2 := h
    rw [eb_sym g hv hw] at h2
    rcases isE_true.1 e with ⟨rfl, rfl⟩ | ⟨rfl, rfl⟩
    · rw [h]; rfl
    · rw [h2]; rfl
/-- The two stores that take an edge away. -/
theorem remE_set {rs : List Int} (g : VG rs) {v w : Nat} (hv : v < rs.length) (hw : w < rs.length) (hne : v ≠ w) (h : eb rs v w = true) :
    (rs.set v ((gn rs v : Int) - pwN w)).set w ((gn rs w : Int) - pwN v) = remE rs v w := by
  have h2 := h
  rw [eb_sym g hv hw] at h2
  have h7 := g.le
  refine gi_ext (by simp [remE_len]) fun i hi => ?_
  simp only [List.length_set] at hi
  unfold remE
  rw [rowsOf_at hi]
  have hcase : ∀ a b, a < rs.length → b < rs.length → eb rs a b = true → (gn rs a : Int) - pwN b = ((accB (fun j => eb rs a j && !decide (j = b)) rs.length : Nat) : Int) := by
    intro a b ha hb hh
    have hs : subN (2 ^ b) (gn rs a) := pow_sub hh
    have h1 := nDiff_minus (g.lt128 ha) hs
    have h3 := hs.le
    rw [pwN_small b (by omega)]
    have h4 : nDiff (gn rs a) (2 ^ b) = accB (fun j => eb rs a j && !decide (j = b)) rs.length := by
      apply Nat.eq_of_testBit_eq
      intro j
      rw [accB_bit, testBit_nDiff, Nat.testBit_two_pow]
      by_cases hj : j < rs.length
      · rw [decide_eq_true hj, Bool.true_and]
        show (eb rs a j && _) = _
        congr 2
        rw [Bool.eq_iff_iff]; simp; omega
      · rw [decide_eq_false hj, Bool.false_and, testBit_ge (g.lt a ha) (by omega)]; rfl
    rw [← h4, h1]
    omega
  by_cases e1 : i = w
  · subst e1
    have : gi ((rs.set v ((gn rs v : Int) - pwN i)).set i ((gn rs i : Int) - pwN v)) i = (gn rs i : Int) - pwN v := by simp [gi, hi]
    rw [this, hcase i v hi hv h2]
    congr 1
    exact accB_congr _ fun j hj => by unfold isE; congr 2; rw [Bool.eq_iff_iff]; simp; omega
  · by_cases e2 : i = v
    · subst e2
      have e3 : w ≠ i := fun e => e1 e.symm
      have : gi ((rs.set i ((gn rs i : Int) - pwN w)).set w ((gn rs w : Int) - pwN i)) i = (gn rs i : Int) - pwN w := by simp [gi, hi, e3]
      rw [this, hcase i w hi hw h]
      congr 1
      exact accB_congr _ fun j hj => by unfold isE; congr 2; rw [Bool.eq_iff_iff]; simp; omega
    · have e3 : w ≠ i := fun e => e1 e.symm
      have e4 : v ≠ i := fun e => e2 e.symm
      have : gi ((rs.set v ((gn rs v : Int) - pwN w)).set w ((gn rs w : Int) - pwN v)) i = gi rs i := by simp [gi, e3, e4]
      rw [this, g.row i hi]
      congr 1
      have hr := rows_eb g
      have : gn rs i = accB (eb rs i) rs.length := by
        have h3 := rowsOf_gn (p := eb rs) hi
        rw [hr] at h3; exact h3
      rw [this]
      exact accB_congr _ fun j hj => by unfold isE; rw [decide_eq_false e2, decide_eq_false e1]; simp
/-- RemoveEdge at two vertices of a graph. -/
theorem RmIs.eq {rs f : List Int} (g : VG rs) {v w : Nat} (hv : v < rs.length) (hw : w < rs.length) (hne : v ≠ w) (h : RmIs rs.length rs v w f) : f = remE rs v w := by
  have hp : pairB rs.length rs v w = true := by
    unfold pairB
    rw [g.graph]
    simp only [Bool.true_and, Bool.and_eq_true, decide_eq_true_eq, bne_iff_ne]
    omega
  rw [h hp, Int.toNat_natCast, Int.toNat_natCast]
  cases he : eb rs v w
  · rw [if_neg (by decide), remE_none g hv hw he]
  · rw [if_pos rfl, remE_set g hv hw hne he]

end Go.Proofs.YtfkehmpckhmkbaaGreat

namespace Go.Proofs.YtfkehmpckhmkbaaGreat

/-- What is left still bears each hole of five vertices. -/
def KeepC5 (rs left : List Int) : Prop := ∀ a b c d e, C5 rs a b c d e → C5 left a b c d e
theorem KeepC5.refl (rs : List Int) : KeepC5 rs rs := fun _ _ _ _ _ h => h
theorem remE_ad {rs : List Int} {v w i j : Nat} (hi : i < rs.length) (hj : j < rs.length) : ad (remE rs v w) i j = (ad rs i j && !isE v w i j) := remE_eb hi hj
theorem isE_no {v w i j : Nat} (h1 : (i, j) ≠ (v, w)) (h2 : rev2 (i, j) ≠ (v, w)) : isE v w i j = false := by
  rw [Bool.eq_false_iff]
  intro h
  rcases isE_true.1 h with ⟨rfl, rfl⟩ | ⟨rfl, rfl⟩
  · exact h1 rfl
  · exact h2 rfl
theorem remE_C5 {rs : List Int} (g : VG rs) {v w a b c d e : Nat} (h : C5 rs a b c d e) (hn : ∀ p ∈ [(a, b), (b, c), (c, d), (d, e), (e, a)], p ≠ (v, w) ∧ rev2 p ≠ (v, w)) : C5 (remE rs v w) a b c d e := by
  have ha := h.lt g 0
  have hb := h.lt g 1
  have hc := h.lt g 2
  have hd := h.lt g 3
  have he := h.lt g 4
  have yes : ∀ i j, i < rs.length → j < rs.length → ad rs i j = true → ((i, j) ≠ (v, w) ∧ rev2 (i, j) ≠ (v, w)) → ad (remE rs v w) i j = true := fun i j hi hj h1 h2 => by
    rw [remE_ad hi hj, h1, isE_no h2.1 h2.2]; rfl
  have no : ∀ i j, i < rs.length → j < rs.length → ad rs i j = false → ad (remE rs v w) i j = false := fun i j hi hj h1 => by
    rw [remE_ad hi hj, h1]; rfl
  exact ⟨yes a b ha hb h.ab (hn _ (by simp)), yes b c hb hc h.bc (hn _ (by simp)), yes c d hc hd h.cd (hn _ (by simp)), yes d e hd he h.de (hn _ (by simp)), yes e a he ha h.ea (hn _ (by simp)),
    no a c ha hc h.ac, no a d ha hd h.a_d, no b d hb hd h.bd, no b e hb he h.be, no c e hc he h.ce⟩
/-- One arc that was forced is taken away. -/
theorem KeepC5.step {rs left cur : List Int} (gl : VG left) (gc : VG cur) (h : KeepC5 rs left) (hc : KeepC5 rs cur) {s p : Nat × Nat} {es : List (Nat × Nat)} (hs : ad left s.1 s.2 = true) (hF : Fs left s es) (hC : ∀ p ∈ es, ∀ q ∈ nxV left p.1 p.2, q ∈ es)
    (hno : rev2 s ∉ es) (hp : p ∈ es) : KeepC5 rs (remE cur p.1 p.2) := fun a b c d e h5 =>
  remE_C5 gc (hc _ _ _ _ _ h5) fun q hq => ⟨fun e => hno (forced_c5 gl (h _ _ _ _ _ h5) hs hF hC hq (.inl (by rw [e]; exact hp))), fun e => hno (forced_c5 gl (h _ _ _ _ _ h5) hs hF hC hq (.inr (by rw [e]; exact hp)))⟩
/-- Where no edge is left there was no hole. -/
theorem KeepC5.none {rs left : List Int} (g : VG rs) (gl : VG left) (h : KeepC5 rs left) (he : edgesTo left left.length = []) : ¬c5 rs := fun hc => by
  obtain ⟨a, b, c, d, e, h5⟩ := c5_get g hc
  have h6 := (h _ _ _ _ _ h5).ab
  obtain ⟨ha, hb⟩ := ad_lt gl h6
  have hne : a ≠ b := fun e => by rw [e, ad_irr gl] at h6; cases h6
  have key : ∀ i j, i < left.length → j < left.length → i < j → ad left i j = true → False := fun i j hi hj hij hh => by
    have := mem_edgesTo (rs := left) (e := (i, j)) (n := left.length) |>.2 ⟨hi, hij, by show j < _; omega, hh⟩
    rw [he] at this
    cases this
  rcases Nat.lt_or_ge a b with h1 | h1
  · exact key a b ha hb h1 h6
  · exact key b a hb ha (by omega) (by rw [ad_symm gl]; exact h6)
/-- The first edge that is left is one. -/
theorem edge_head {left : List Int} (_gl : VG left) {p : Nat × Nat} (h : p ∈ edgesTo left left.length) : ad left p.1 p.2 = true := (mem_edgesTo.1 h).2.2.2

end Go.Proofs.YtfkehmpckhmkbaaGreat

namespace Go.Proofs.YtfkehmpckhmkbaaGreat
open Go.RowKit

def sumTo (f : Nat → Nat) : Nat → Nat
  | 0 => 0
  | k + 1 => sumTo f k + f k
theorem sumTo_le {f h : Nat → Nat} : ∀ k, (∀ i, i < k → f i ≤ h i) → sumTo f k ≤ sumTo h k
  | 0, _ => Nat.le_refl _
  | k + 1, hh => by
    have ih := sumTo_le (f := f) (h := h) k (fun i hi => hh i (by omega))
    have := hh k (by omega)
    show sumTo f k + f k ≤ sumTo h k + h k
    omega
theorem sumTo_lt {f h : Nat → Nat} : ∀ k, (∀ i, i < k → f i ≤ h i) → (∃ i, i < k ∧ f i < h i) → sumTo f k < sumTo h k
  | 0, _, h => by obtain ⟨i, h1, -⟩ := h; omega
  | k + 1, hh, hx => by
    obtain ⟨i, h1, h2⟩ := hx
    show sumTo f k + f k < sumTo h k + h k
    have hk := hh k (by omega)
    by_cases e : i = k
    · subst e
      have := sumTo_le (f := f) (h := h) i (fun j hj => hh j (by omega))
      omega
    · have := sumTo_lt k (fun j hj => hh j (by omega)) ⟨i, by omega, h2⟩
      omega
theorem sumTo_congr {f h : Nat → Nat} : ∀ k, (∀ i, i < k → f i = h i) → sumTo f k = sumTo h k
  | 0, _ => rfl
  | k + 1, hh => by
    show sumTo f k + f k = sumTo h k + h k
    rw [sumTo_congr k (fun i hi => hh i (by omega)), hh k (by omega)]
def sumG (rs : List Int) : Nat := sumTo (gn rs) rs.length
theorem remE_gn {rs : List Int} {v w i : Nat} (hi : i < rs.length) : gn (remE rs v w) i ≤ gn rs i := by
  have hs : subN (gn (remE rs v w) i) (gn rs i) := fun j hj => by
    unfold remE at hj
    rw [rowsOf_gn hi, accB_bit] at hj
    simp only [Bool.and_eq_true] at hj
    exact hj.2.1
  exact hs.le
theorem sumG_le (rs : List Int) (v w : Nat) : sumG (remE rs v w) ≤ sumG rs := by
  unfold sumG
  rw [remE_len]
  exact sumTo_le _ fun i hi => remE_gn hi
theorem sumG_lt {rs : List Int} {v w : Nat} (hv : v < rs.length) (hw : w < rs.length) (h : eb rs v w = true) : sumG (remE rs v w) < sumG rs := by
  unfold sumG
  rw [remE_len]
  refine sumTo_lt _ (fun i hi => remE_gn hi) ⟨v, hv, ?_⟩
  refine Nat.lt_of_le_of_ne (remE_gn hv) fun e => ?_
  have h1 : eb (remE rs v w) v w = eb rs v w := by unfold eb; rw [e]
  rw [remE_eb hv hw, h] at h1
  simp [isE_true.2 (.inl ⟨rfl, rfl⟩)] at h1

/-- The number in cell k of block b. -/
def cellAt (w : World) (b k : Nat) : Nat := match w.cell? ⟨b, k, none⟩ with | some v => (intOf v).toNat | none => 0
/-- The sum of the first n cells of the row that the struct in block s points to by its second cell. -/
def rowSum (w : World) (s n : Nat) : Nat := match w.cell? ⟨s, 1, none⟩ with | some (.slice (some ⟨lb, _, _⟩) _ _) => sumTo (cellAt w lb) n | _ => 0
theorem rowSum_eq {w : World} {s lb cap c : Nat} {x : Value} {rs : List Int} {T : TypeId} (hS : Blk w s #[x, .slice (some ⟨lb, 0, none⟩) rs.length c] T) (hR : RowAt w lb cap rs) : rowSum w s rs.length = sumG rs := by
  have h1 := hS.cell 1
  simp at h1
  unfold rowSum
  rw [h1]
  refine sumTo_congr _ fun i hi => ?_
  unfold cellAt
  rw [hR.cell i hi]
  rfl

end Go.Proofs.YtfkehmpckhmkbaaGreat
