/-
  The walk of the reference's OrientationOf. For at most 2^20 rows.
-/
import Derived.Test.YtfkehmpckhmkbaaGreatPkLawPerfect37
import Derived.Test.YtfkehmpckhmkbaaGreatPkLawPerfect38
import Derived.Test.YtfkehmpckhmkbaaGreatPkLawPerfect10
import Derived.Deep.CutRange
namespace Go.Proofs.YtfkehmpckhmkbaaGreat
open Go.RowKit

/-- An orientation has been returned, or none; one only of a graph without a hole of five vertices. -/
def RetOr (n : Int) (rs : List Int) (w : World) (e : Ending) (w' : World) : Prop := ∃ (a : Option Addr) (k c : Nat) (ok : Bool), e = .returned (.tuple #[.agg #[.slice a k c], .bool ok]) ∧ Below w.heap.size w w' ∧ (ok = true → isGraphB n rs = true ∧ ¬c5 rs)

/-- The memory at the head of the outer loop: the struct o, its row, the result's cell, the struct of what is left and its row. -/
structure OrSt (rs : List Int) (W w : World) (oB tB rB sB : Nat) (left : List Int) : Prop where
  below : Below W.heap.size W w
  o : Blk w oB #[.slice (some ⟨tB, 0, none⟩) rs.length rs.length] 52
  r : Blk w rB #[.slice none 0 0] 52
  t : ∃ ys : List Int, ys.length = rs.length ∧ Blk w tB (intRow ys) 3
  s : ∃ lb cap, lb ≠ tB ∧ Blk w sB #[.int .i64 rs.length, .slice (some ⟨lb, 0, none⟩) rs.length cap] 26 ∧ RowAt w lb cap left
  vg : VG left
  len : left.length = rs.length
  keep : KeepC5 rs left
theorem OrSt.later {rs left : List Int} {W w w' : World} {oB tB rB sB : Nat} (h : OrSt rs W w oB tB rB sB left) (hb : Below w.heap.size w w') : OrSt rs W w' oB tB rB sB left where
  below := below_more h.below hb
  o := h.o.below hb h.o.lt
  r := h.r.below hb h.r.lt
  t := by obtain ⟨ys, h1, h2⟩ := h.t; exact ⟨ys, h1, h2.below hb h2.lt⟩
  s := by obtain ⟨lb, cap, h1, h2, h3⟩ := h.s; exact ⟨lb, cap, h1, h2.below hb h2.lt, h3.below hb⟩
  vg := h.vg
  len := h.len
  keep := h.keep

/-- Lists in fresh blocks are let alone by a store below. -/
theorem OwnV.putLow {w : World} {base : Nat} {v : Value} {xs : List Value} (h : OwnV w base v xs) {a : Addr} (ha : a.block < base) (u : Value) : OwnV (w.setCell a u) base v xs := by
  obtain ⟨h0, h1 | ⟨g, cap, cur, hv, hg, hh, r⟩⟩ := h
  · exact ⟨h0, .inl h1⟩
  · exact ⟨h0, .inr ⟨g, cap, cur, hv, hg, by rw [Below.heap_setCell _ _ _ _ (by omega)]; exact hh, r⟩⟩
theorem ValsOf.putLow {w : World} {xs : List Value} {es : List (Nat × Nat)} {B : Nat} (h : ValsOf w xs es) (hF : FreshV B xs) {a : Addr} (ha : a.block < B) (u : Value) : ValsOf (w.setCell a u) xs es :=
  ⟨h.1, fun k e he => by
    obtain ⟨g, h1, h2⟩ := h.2 k e he
    obtain ⟨g9, n9, c9, h9, e9⟩ := hF _ (List.mem_of_getElem? h1)
    simp only [Value.slice.injEq, Option.some.injEq, Addr.mk.injEq] at e9
    exact ⟨g, h1, by rw [Below.heap_setCell _ _ _ _ (by omega)]; exact h2⟩⟩
/-- A store into the row of the orientation. -/
theorem OrSt.putT {rs left : List Int} {W w : World} {oB tB rB sB : Nat} (h : OrSt rs W w oB tB rB sB left) (hW : W.heap.size ≤ tB) (ho : oB ≠ tB) (hr : rB ≠ tB) (hs : sB ≠ tB) (k : Nat) (x : Int) : OrSt rs W (w.setCell ⟨tB, k, none⟩ (.int .i64 x)) oB tB rB sB left where
  below := h.below.setCell hW _
  o := h.o.other _ ho
  r := h.r.other _ hr
  t := by
    obtain ⟨ys, h1, h2⟩ := h.t
    have := h2.store k (.int .i64 x)
    rw [intRow_set] at this
    exact ⟨ys.set k x, by simpa using h1, this⟩
  s := by obtain ⟨lb, cap, h1, h2, h3⟩ := h.s; exact ⟨lb, cap, h1, h2.other _ hs, h3.otherCell h1⟩
  vg := h.vg
  len := h.len
  keep := h.keep
/-- What is left is another graph, in another row. -/
theorem OrSt.putS {rs left f : List Int} {W w : World} {oB tB rB sB g1 cap1 : Nat} (h : OrSt rs W w oB tB rB sB left) (hW : W.heap.size ≤ sB) (ho : oB ≠ sB) (hr : rB ≠ sB) (hs : tB ≠ sB) (hR : RowAt w g1 cap1 f) (hg : g1 ≠ tB) (hg2 : g1 ≠ sB) (hv : VG f) (hl : f.length = rs.length) (hk : KeepC5 rs f) :
    OrSt rs W ((w.setCell ⟨sB, 0, none⟩ (.int .i64 rs.length)).setCell ⟨sB, 1, none⟩ (.slice (some ⟨g1, 0, none⟩) rs.length cap1)) oB tB rB sB f where
  below := (h.below.setCell hW _).setCell hW _
  o := (h.o.other _ ho).other _ ho
  r := (h.r.other _ hr).other _ hr
  t := by obtain ⟨ys, h1, h2⟩ := h.t; exact ⟨ys, h1, (h2.other _ hs).other _ hs⟩
  s := by
    obtain ⟨lb, cap, -, h2, -⟩ := h.s
    have h3 := (h2.store 0 (.int .i64 rs.length)).store 1 (.slice (some ⟨g1, 0, none⟩) rs.length cap1)
    exact ⟨g1, cap1, hg, h3, (hR.otherCell hg2).otherCell hg2⟩
  vg := hv
  len := hl
  keep := hk

theorem ori_round {left cur : List Int} {es : List (Nat × Nat)} {x y u v t : Nat} (gc : VG cur) (hx : x < cur.length) (hy : y < cur.length) (hu : u < cur.length) (hv : v < cur.length) (hor : eb cur x y = true ∨ sumG cur < sumG left) (hle : sumG cur ≤ sumG left)
    (hsd : ∀ j, j < t → es[j]? = some (x, y) → eb cur x y = false) (hp : es[t]? = some (u, v)) :
    (eb (remE cur u v) x y = true ∨ sumG (remE cur u v) < sumG left) ∧ sumG (remE cur u v) ≤ sumG left ∧ (∀ j, j < t + 1 → es[j]? = some (x, y) → eb (remE cur u v) x y = false) := by
  have h1 := sumG_le cur u v
  refine ⟨?_, by omega, fun j hj hjp => ?_⟩
  · rcases hor with h | h
    · cases hE : isE u v x y
      · left; rw [remE_eb hx hy, h, hE]; rfl
      · right
        have huv : eb cur u v = true := by
          rcases isE_true.1 hE with ⟨rfl, rfl⟩ | ⟨rfl, rfl⟩
          · exact h
          · rw [eb_sym gc hu hv]; exact h
        have := sumG_lt hu hv huv
        omega
    · right; omega
  · rw [remE_eb hx hy]
    by_cases e : j = t
    · subst e
      rw [hp] at hjp
      obtain ⟨rfl, rfl⟩ : u = x ∧ v = y := by simpa using hjp
      rw [isE_true.2 (.inl ⟨rfl, rfl⟩)]; simp
    · rw [hsd j (by omega) hjp]; rfl
/-- RemoveEdge at two vertices of a graph. -/
theorem specRemE_any {cur : List Int} (g : VG cur) {u v : Nat} (hu : u < cur.length) (hv : v < cur.length) (hne : u ≠ v) (lb cap : Nat) (w : World) (hR : RowAt w lb cap cur) :
    Calls Tryz.prog 83 #[.agg #[.int .i64 cur.length, .slice (some ⟨lb, 0, none⟩) cur.length cap], .int .i64 u, .int .i64 v] w fun e w' => ∃ g1 cap1 ok, e = .returned (.tuple #[.agg #[.int .i64 cur.length, .slice (some ⟨g1, 0, none⟩) cur.length cap1], .bool ok]) ∧ Below w.heap.size w w' ∧ w.heap.size ≤ g1 ∧ RowAt w' g1 cap1 (remE cur u v) :=
  (specRemoveEdge_all cur.length cur u v (some ⟨lb, 0, none⟩) cap w hR.ints (by have := g.le; omega) g.pos).mono fun e w' ⟨g1, cap1, ok, f', h1, h2, h3, h4, _, h6⟩ => ⟨g1, cap1, ok, h1, h2, h3, by rw [← RmIs.eq g hu hv hne h6]; exact h4⟩

set_option maxRecDepth 100000 in
set_option maxHeartbeats 4000000 in
theorem specOrient_any (n : Int) (rs : List Int) (ro : Option Addr) (rc : Nat) (w : World) (hr : IntsAt w ro rs) (hrl : rs.length ≤ 1048576) :
    Calls Tryz.prog 50 #[.agg #[.int .i64 n, .slice ro rs.length rc]] w (RetOr n rs w) := by
  go_enter Tryz.func50, Tryz.ntmps50
  go_wp2_with fail
  generalize hW : World.alloc _ _ = W1
  obtain ⟨hB, hs, k0, k1⟩ := alloc2 hW
  replace hr := hr.below hB
  clear hW
  have hb0 := k0.lt
  have hc0 := k0.cell 0
  have hc1 := k0.cell 1
  simp at hc0 hc1
  have hG := specIsGraph_any n rs ro rc W1 hr hrl
  cases hv : isGraphB n rs
  · rw [hv] at hG
    clear hv
    refine hG.mono ?_
    rintro e w' ⟨rfl, hB2⟩
    have k2 := k1.below hB2 k1.lt
    have z0 := k2.cell 0
    have z1 := k2.frozen 0
    simp at z0
    have HB := Lib.hid (hB.trans (hB2.mono hB.size))
    go_wp2_with fail
    refine bodyPost_ret (v := .tuple #[.agg #[.slice none 0 0], .bool false]) (by simp [results, Tryz.results50, go_sem, z0]) rfl ?_
    exact ⟨_, _, _, _, rfl, HB.out.setCell (by simp) _, fun h => by cases h⟩
  · obtain ⟨rfl, g⟩ := VG.of hv
    have Hv := Lib.hid hv
    have hg1 := g.pos
    have hg2 := g.le
    rw [hv] at hG
    clear hv
    refine hG.mono ?_
    rintro e w' ⟨rfl, hB2⟩
    obtain ⟨m, rfl⟩ : ∃ m2 : Later W1, m2.w = w' := ⟨⟨w', hB2⟩, rfl⟩
    clear hB2 hG
    have hmk := run_make_ints rs.length (by omega)
    have hbm := Nat.lt_of_lt_of_le hb0 m.size
    go_upto_region 4 with fail
    clear hmk
    generalize hW : World.alloc _ _ = W2
    obtain ⟨hB2, hs2, kT, kO⟩ := alloc2 hW
    replace hr := (hr.later m).below hB2
    replace k0 := (k0.later m).below hB2 (k0.later m).lt
    replace k1 := (k1.later m).below hB2 (k1.later m).lt
    replace hc0 := (hB2.cell (p := ⟨w.heap.size, 0, none⟩) hbm).trans ((m.cell _ 0 hb0).trans hc0)
    replace hc1 := (hB2.cell (p := ⟨w.heap.size, 1, none⟩) hbm).trans ((m.cell _ 1 hb0).trans hc1)
    have hb2 := Nat.lt_of_lt_of_le hbm hB2.size
    go_wp2_with fail
    refine (l2Copy_any rs.length rs ro rc W2 hr hrl (by omega)).mono ?_
    rintro e w3 ⟨lb, lcap, rfl, hB3, hlb, hRL⟩
    go_upto_region 5 with fail
    generalize hW3 : World.alloc _ _ = W4
    obtain ⟨hB4, hs4, kS⟩ := alloc1 hW3
    have hBW := (hB.trans (m.below.mono hB.size)).trans ((hB2.mono (hB.trans (m.below.mono hB.size)).size))
    have hB34 : Below W2.heap.size W2 W4 := hB3.trans (hB4.mono hB3.size)
    have hBa := hBW.trans (hB34.mono hBW.size)
    have st : OrSt rs w W4 (m.w.heap.size + 1) m.w.heap.size (w.heap.size + 1) w3.heap.size rs := ⟨hBa, kO.below hB34 kO.lt, k1.below hB34 k1.lt, ⟨_, by simp, kT.below hB34 kT.lt⟩, ⟨lb, lcap, by have := kT.lt; omega, kS, hRL.below hB4⟩, g, rfl, KeepC5.refl rs⟩
    have hrT : w.heap.size + 1 < m.w.heap.size := by have := m.size; omega
    have hTS : m.w.heap.size + 1 < w3.heap.size := by have := hB3.size; omega
    clear hW hW3 hB4 hBW hB34 hBa kS kO k1 kT k0 hc0 hc1 hb2 hRL hlb hB3 hB2 hr hs2 hs4
    generalize hoB : m.w.heap.size + 1 = oB at *
    generalize m.w.heap.size = tB at *
    generalize w3.heap.size = sB at *
    go_loopw [3] (fun f wr => f = .bool false ∧ ∃ left, OrSt rs w wr oB tB (w.heap.size + 1) sB left) (fun _ wr => rowSum wr sB rs.length)
    case atStart => exact ⟨rfl, rs, st⟩
    case round =>
      clear st
      obtain ⟨rfl, left, st⟩ := hrel
      obtain ⟨lb, cap, hne, kS, hRL⟩ := st.s
      have hE := fun (w' : World) (h : Below wr.heap.size wr w') => (by
        have h2 := specEdges_all left.length left (some ⟨lb, 0, none⟩) cap w' (hRL.ints.below h) (by have := st.len; omega)
        rw [edgesV_of st.vg.graph, st.len] at h2
        exact h2 : Calls Tryz.prog 80 #[.agg #[.int .i64 rs.length, .slice (some ⟨lb, 0, none⟩) rs.length cap]] w' (RetEs w' (edgesTo left rs.length)))
      have HEd : Hid (∀ p, p ∈ edgesTo left left.length → ad left p.1 p.2 = true) := fun p h => edge_head st.vg h
      have HNo := Lib.hid (st.keep.none g st.vg)
      rw [st.len] at HEd HNo
      have hs0 := kS.cell 0
      have hs1 := kS.cell 1
      simp at hs0 hs1
      have hsb := kS.lt
      generalize hES : edgesTo left rs.length = ES at *
      have HhES := Lib.hid hES
      clear hES
      have Hst := Lib.hid st
      clear st
      go_wp2_with fail
      refine (hE wr (Below.refl _ _)).mono ?_
      rintro e w5 ⟨ao, ac, xs, rfl, hB5, -, hV5⟩
      have hxl := hV5.1
      cases hc : ES with
      | nil =>
        rw [hc] at hxl
        obtain rfl : xs = [] := List.eq_nil_of_length_eq_zero hxl
        have st5 := Hst.out.later hB5
        have o0 := st5.o.cell 0
        have r0 := st5.r.cell 0
        have r1 := st5.r.frozen 0
        have ob := st5.o.lt
        have rb := st5.r.lt
        simp at o0 r0
        have HB5 := Lib.hid st5.below
        have HOk := Lib.hid (HNo.out hc)
        clear st5 hV5 hE hxl hc
        go_wp2_with fail
        refine bodyPost_ret (v := .tuple #[.agg #[.slice (some ⟨tB, 0, none⟩) rs.length rs.length], .bool true]) (by simp [results, Tryz.results50, go_sem, r0]) rfl ?_
        exact ⟨_, _, _, _, rfl, HB5.out.setCell (by simp) _, fun _ => ⟨Hv.out, HOk.out⟩⟩
      | cons p ps =>
        have hp0 : ES[0]? = some p := by rw [hc]; rfl
        have hpm : p ∈ ES := by rw [hc]; exact List.mem_cons_self
        have hxs : 0 < xs.length := by rw [hxl, hc]; simp
        have hpe := HEd.out p hpm
        have hE5 := hE w5 hB5
        replace hs0 := (hB5.cell (p := ⟨sB, 0, none⟩) hsb).trans hs0
        replace hs1 := (hB5.cell (p := ⟨sB, 1, none⟩) hsb).trans hs1
        replace hsb := Nat.lt_of_lt_of_le hsb hB5.size
        have Hhp0 := Lib.hid hp0
        clear hp0
        clear hV5 hE hc hpm hxl
        go_wp2_with fail
        refine hE5.mono ?_
        rintro e w6 ⟨ao6, ac6, xs6, rfl, hB6, hO6, hV6⟩
        obtain ⟨gp, h1, hgp, p0, p1⟩ := hV6.at2 Hhp0.out
        obtain ⟨eb6, rfl, -, heb, hce⟩ := hO6.cells (List.getElem?_eq_some_iff.1 h1).1
        have hx6 := (List.getElem?_eq_some_iff.1 h1).1
        have hce0 := hce 0 _ h1
        replace hs0 := (hB6.cell (p := ⟨sB, 0, none⟩) hsb).trans hs0
        replace hs1 := (hB6.cell (p := ⟨sB, 1, none⟩) hsb).trans hs1
        replace hsb := Nat.lt_of_lt_of_le hsb hB6.size
        have hB7 := below_more hB5 hB6
        have st6 := Hst.out.later hB7
        have hRL6 := hRL.below hB7
        obtain ⟨x, y⟩ := p
        dsimp only at p0 p1
        clear hce hO6 hV6 hE5 hB5 hB6 h1
        have Hst6 := Lib.hid st6
        clear st6
        have HhB7 := Lib.hid hB7
        clear hB7
        go_upto_region 7 with fail
        have hFo := fun (w' : World) (h : Below w6.heap.size w6 w') => (by
          have h2 := specForced_any left.length left x y (some ⟨lb, 0, none⟩) cap w' (hRL6.ints.below h) (by have := Hst.out.len; omega)
          rw [Hst.out.len] at h2
          exact h2 : Calls Tryz.prog 81 #[.agg #[.int .i64 rs.length, .slice (some ⟨lb, 0, none⟩) rs.length cap], .int .i64 x, .int .i64 y] w' (fun e w'' => ∃ es, FaIs rs.length left x y es ∧ ∃ ao cap xs, e = .returned (.slice ao xs.length cap) ∧ Below w'.heap.size w' w'' ∧ OwnV w'' w'.heap.size (.slice ao xs.length cap) xs ∧ ValsOf w'' xs es ∧ FreshV w'.heap.size xs))
        have hS : ∀ w', Below w6.heap.size w6 w' → Below w6.heap.size w6 w' ∧ w'.cell? ⟨sB, 0, none⟩ = some (.int .i64 rs.length) ∧ w'.cell? ⟨sB, 1, none⟩ = some (.slice (some ⟨lb, 0, none⟩) rs.length cap) ∧ w'.cell? ⟨gp, 0, none⟩ = some (.int .i64 x) ∧ w'.cell? ⟨gp, 1, none⟩ = some (.int .i64 y) := fun w' h =>
          ⟨h, (h.cell hsb).trans hs0, (h.cell hsb).trans hs1, (h.cell hgp).trans p0, (h.cell hgp).trans p1⟩
        have HhFo := Lib.hid hFo
        clear hFo
        go_region_held3 (fun w' => Below w6.heap.size w6 w' ∧ w'.cell? ⟨sB, 0, none⟩ = some (.int .i64 rs.length) ∧ w'.cell? ⟨sB, 1, none⟩ = some (.slice (some ⟨lb, 0, none⟩) rs.length cap) ∧ w'.cell? ⟨gp, 0, none⟩ = some (.int .i64 x) ∧ w'.cell? ⟨gp, 1, none⟩ = some (.int .i64 y))
          (exact hS _ (by first | exact (Below.refl _ _).drew | assumption))
          (first | (go_at_call 81; go_must (refine (HhFo.out _ (And.left (by assumption : Below w6.heap.size w6 _ ∧ _))).mono ?_); rintro e w7 ⟨es, hFa, aF, cF, xF, rfl, hB8, hOF, hVF, hFF⟩; have hB9 := below_more (And.left (by assumption : Below w6.heap.size w6 _ ∧ _)) hB8))
        have hedg : edgB rs.length left x y = true := by
          obtain ⟨hx, hy⟩ := ad_lt Hst.out.vg hpe
          have hgr := Hst.out.vg.graph
          rw [Hst.out.len] at hx hy hgr
          have hbit : (gn left x).testBit y = true := hpe
          unfold edgB
          rw [hgr, Int.toNat_natCast, Int.toNat_natCast, hbit]
          simp only [Bool.true_and, Bool.and_true, Bool.and_eq_true, decide_eq_true_eq]
          omega
        rcases hFa with ⟨hf, -⟩ | ⟨-, hFs, hCl⟩
        · rw [hf] at hedg; cases hedg
        have h49 := hFs.len Hst.out.vg
        have hxF := hVF.1
        have hFd := fun nn => specFind_any es y x xF aF _ cF (w7.drewN nn) hOF hVF (by omega)
        have HM := Lib.hid (fdV_neg (es := es) (p := (y, x)))
        generalize fdV es (y, x) = D at *
        have st7 := Hst6.out.later hB9
        have z0 := (hB9.cell (p := ⟨gp, 0, none⟩) hgp).trans p0
        have z1 := (hB9.cell (p := ⟨gp, 1, none⟩) hgp).trans p1
        have hgp7 := Nat.lt_of_lt_of_le hgp hB9.size
        clear hS HhFo hedg
        have HhFd := Lib.hid hFd
        clear hFd
        have Hst7 := Lib.hid st7
        clear st7
        have HhFs := Lib.hid hFs
        clear hFs
        have HhCl := Lib.hid hCl
        clear hCl
        have HhxF := Lib.hid hxF
        clear hxF
        go_upto_region 8 with fail
        go_quiet ((go_at_call 82; exact Calls.quiet_of_same ((HhFd.out _).mono fun _ _ h => ⟨h.1, h.2.symm⟩)))
        have hBq : Below w7.heap.size w7 (w7.drewN nq) := ⟨rfl, rfl, rfl, Nat.le_refl _, fun _ _ => rfl⟩
        by_cases hD : D < 0
        · have d1 : decide (0 ≤ D) = false := decide_eq_false (by omega)
          have HNm := Lib.hid (HM.out.1 hD)
          have st8 := Hst7.out.later hBq
          have Hst8 := Lib.hid st8
          clear st8
          go_upto_region 11 with fail
          have hOF8 : OwnV (w7.drewN nq) w6.heap.size (.slice aF xF.length cF) xF := hOF.below hBq
          have hVF8 := hVF.below hBq
          replace hFF : FreshV w6.heap.size xF := hFF
          have htB : tB < w6.heap.size := by obtain ⟨_, -, h⟩ := Hst6.out.t; exact h.lt
          have hs8 : w6.heap.size ≤ (w7.drewN nq).heap.size := Nat.le_trans hB9.size hBq.size
          have HSum : Hid (rowSum wr sB rs.length = sumG left) := by
            have h2 := rowSum_eq (rs := left) (s := sB) (lb := lb) (cap := cap) (c := cap) (x := .int .i64 rs.length) (T := 26) (by rw [Hst.out.len]; exact kS) hRL
            rw [Hst.out.len] at h2; exact h2
          have HSeed := Lib.hid HhFs.out.seed
          generalize w7.drewN nq = w8 at *
          go_loopw [8] (fun i wq => ∃ t : Nat, i = .int .i64 t ∧ t ≤ xF.length ∧ ∃ cur, OrSt rs w wq oB tB (w.heap.size + 1) sB cur ∧ OwnV wq w6.heap.size (.slice aF xF.length cF) xF ∧ ValsOf wq xF es ∧ w6.heap.size ≤ wq.heap.size ∧ (eb cur x y = true ∨ sumG cur < sumG left) ∧ sumG cur ≤ sumG left ∧ (∀ j, j < t → es[j]? = some (x, y) → eb cur x y = false)) (fun i _ => xF.length - (intOf i).toNat)
          case atStart => exact ⟨0, rfl, by omega, left, Hst8.out, hOF8, hVF8, hs8, .inl hpe, Nat.le_refl _, fun j h => by omega⟩
          case round =>
            obtain ⟨t, rfl, ht, cur, st, hO, hV, hsz, hor, hle, hsd⟩ := hrel
            by_cases hlt : t < xF.length
            · have hte : t < es.length := by have := HhxF.out; omega
              obtain ⟨⟨u, v⟩, hp⟩ : ∃ p, es[t]? = some p := ⟨_, List.getElem?_eq_getElem hte⟩
              have hpm : (u, v) ∈ es := List.mem_of_getElem? hp
              obtain ⟨gq, x1, hgq, q0, q1⟩ := hV.at2 hp
              obtain ⟨eF, heFa, heFb, heF, hcF⟩ := hO.cells (by omega)
              subst heFa
              have c1 := hcF t _ x1
              have hgF : w6.heap.size ≤ gq := by
                obtain ⟨g9, n9, c9, h9, e9⟩ := hFF _ (List.mem_of_getElem? x1)
                simp only [Value.slice.injEq, Option.some.injEq, Addr.mk.injEq] at e9
                omega
              have hed : ad left u v = true := Fc.edge hpe (HhFs.out.fc _ hpm)
              have hne : u ≠ v := fun e => by rw [e, ad_irr Hst8.out.vg] at hed; cases hed
              obtain ⟨hul, hvl⟩ := ad_lt Hst8.out.vg hed
              obtain ⟨hxl, hyl⟩ := ad_lt Hst8.out.vg hpe
              rw [Hst8.out.len] at hul hvl hxl hyl
              have hle7 := g.le
              obtain ⟨lb2, cap2, hlt2, kS2, hR2⟩ := st.s
              have HRound := Lib.hid (ori_round st.vg (by rw [st.len]; exact hxl) (by rw [st.len]; exact hyl) (by rw [st.len]; exact hul) (by rw [st.len]; exact hvl) hor hle hsd hp)
              have HKeep := Lib.hid (KeepC5.step Hst8.out.vg st.vg Hst8.out.keep st.keep hpe HhFs.out HhCl.out HNm.out hpm)
              have HRem := Lib.hid fun (w' : World) (h : RowAt w' lb2 cap2 cur) => (by
                have h2 := specRemE_any st.vg (by rw [st.len]; exact hul) (by rw [st.len]; exact hvl) hne lb2 cap2 w' h
                rw [st.len] at h2
                exact h2 : Calls Tryz.prog 83 #[.agg #[.int .i64 rs.length, .slice (some ⟨lb2, 0, none⟩) rs.length cap2], .int .i64 u, .int .i64 v] w' fun e w'' => ∃ g1 cap1 ok, e = .returned (.tuple #[.agg #[.int .i64 rs.length, .slice (some ⟨g1, 0, none⟩) rs.length cap1], .bool ok]) ∧ Below w'.heap.size w' w'' ∧ w'.heap.size ≤ g1 ∧ RowAt w'' g1 cap1 (remE cur u v))
              have HRv := Lib.hid (remE_VG (v := u) (w := v) st.vg)
              have HRl := Lib.hid ((remE_len cur u v).trans st.len)
              obtain ⟨ys, hys, kT⟩ := st.t
              have o0 := st.o.cell 0
              simp at o0
              have ol := st.o.lt
              have tl := kT.lt
              have t0 : _ = some (Value.int .i64 (gi ys u)) := (kT.cell u).trans (intRow_get ys u (by omega))
              have t1 := kT.frozen u
              generalize gi ys u = yu at *
              clear hor hle hsd x1 hcF kT hys hpm hed hp hxl hyl
              have Hst := Lib.hid st
              clear st
              have HhO := Lib.hid hO
              clear hO
              have HhV := Lib.hid hV
              clear hV
              have Hhne := Lib.hid hne
              clear hne
              have Hhlt2 := Lib.hid hlt2
              clear hlt2
              have HhR2 := Lib.hid hR2
              clear hR2
              have HkS2 := Lib.hid kS2
              clear kS2
              dsimp only at q0 q1
              go_upto_region 13 with fail
              obtain ⟨m, hm0⟩ : ∃ m : Later wr, m.w = wr := ⟨Later.refl _, rfl⟩
              refine (fun h => hm0 ▸ h) ?_
              clear hm0
              go_still_tail 27, (by kernel_rfl)
              refine wpList_drew_on m fun m => ?_
              go_upto_region 14 with fail
              generalize bits BinOp.or IntKind.i64 yu (pwN v) = Z at *
              have hsb6 : sB < w6.heap.size := hsb
              have hWT : w.heap.size ≤ tB := by omega
              have hoT : oB ≠ tB := by omega
              have hrT2 : w.heap.size + 1 ≠ tB := by omega
              have hsT : sB ≠ tB := by omega
              have htF : tB < w6.heap.size := htB
              have st9 := (Hst.out.later m.below).putT hWT hoT hrT2 hsT u Z
              have hO9 := (HhO.out.below m.below).putLow (a := ⟨tB, u, none⟩) htF (.int .i64 Z)
              have hV9 := (HhV.out.below m.below).putLow hFF (a := ⟨tB, u, none⟩) htF (.int .i64 Z)
              have hR9 : RowAt (m.w.setCell ⟨tB, u, none⟩ (.int .i64 Z)) lb2 cap2 cur := (HhR2.out.below m.below).otherCell Hhlt2.out
              have kS9 := (HkS2.out.below m.below HkS2.out.lt).other (a := ⟨tB, u, none⟩) (.int .i64 Z) hsT
              have hA9 : Only (fun b => b = tB) wr.heap.size wr (m.w.setCell ⟨tB, u, none⟩ (.int .i64 Z)) := Only.setCell (X := fun b => b = tB) (Only.of m.below) (p := ⟨tB, u, none⟩) (.inl rfl) _
              have e0 := (hA9.cell (p := ⟨eF, t, none⟩) heF (fun e => by have e2 : eF = tB := e; omega)).trans c1
              have e1 := (hA9.cell (p := ⟨gq, 0, none⟩) hgq (fun e => by have e2 : gq = tB := e; omega)).trans q0
              have e2 := (hA9.cell (p := ⟨gq, 1, none⟩) hgq (fun e => by have e2 : gq = tB := e; omega)).trans q1
              have hs9 := hA9.size
              clear c1 q0 q1 o0 t0 t1 tl ol
              generalize World.setCell _ _ _ = W9 at *
              clear m hA9
              have hsb9 : sB < w6.heap.size := hsb
              have hA0 : Only (fun b => b = sB) W9.heap.size W9 W9.drew := Only.of (Below.refl _ _).drew
              have hT0 : ∀ w', Only (fun b => b = sB) W9.heap.size W9 w' → Only (fun b => b = sB) W9.heap.size W9 w' ∧ w'.cell? ⟨eF, t, none⟩ = some (.slice (some ⟨gq, 0, none⟩) 2 2) ∧ w'.cell? ⟨gq, 0, none⟩ = some (.int .i64 u) ∧ w'.cell? ⟨gq, 1, none⟩ = some (.int .i64 v) := fun w' h =>
                ⟨h, (h.cell (p := ⟨eF, t, none⟩) (by show eF < _; omega) (fun e => by have e2 : eF = sB := e; omega)).trans e0, (h.cell (p := ⟨gq, 0, none⟩) (by show gq < _; omega) (fun e => by have e2 : gq = sB := e; omega)).trans e1, (h.cell (p := ⟨gq, 1, none⟩) (by show gq < _; omega) (fun e => by have e2 : gq = sB := e; omega)).trans e2⟩
              have s0 := kS9.cell 0
              have s1 := kS9.cell 1
              have s4 := kS9.lt
              simp at s0 s1
              have Hst9 := Lib.hid st9
              clear st9
              have HhO9 := Lib.hid hO9
              clear hO9
              have HhV9 := Lib.hid hV9
              clear hV9
              have HkS9 := Lib.hid kS9
              clear kS9
              refine wp_region_B (fun w' => Only (fun b => b = sB) W9.heap.size W9 w' ∧ w'.cell? ⟨eF, t, none⟩ = some (.slice (some ⟨gq, 0, none⟩) 2 2) ∧ w'.cell? ⟨gq, 0, none⟩ = some (.int .i64 u) ∧ w'.cell? ⟨gq, 1, none⟩ = some (.int .i64 v)) (fun w' => w'.cell? ⟨sB, 0, none⟩ = some (.int .i64 rs.length) ∧ w'.cell? ⟨sB, 1, none⟩ = some (.slice (some ⟨lb2, 0, none⟩) rs.length cap2)) [17] (by kernel_rfl) (hT0 _ hA0) (⟨s0, s1⟩) (fun hM => ?_)
              refine wpAnyB_take (i := 0) (v := ?_) true rfl (by kernel_rfl) (by kernel_rfl) (by kernel_rfl) (by kernel_rfl) (by kernel_rfl) (fun _ _ _ h => h) (Or.inl ⟨by rfl, ?_⟩) hM (fun hM2 => ?_)
              rotate_left
              · (intro w hSw; have hSl := hSw.2 rfl; replace hSw := hSw.1; (try dsimp only at hSl); (try dsimp only at hSw); go_simp; try with_reducible rfl)
              replace hM := hM2
              clear hM2
              try simp only [List.getElem_toArray, List.getElem_cons_zero, Act.put, List.setIfInBounds_toArray, List.set_cons_zero, List.set_cons_succ]
              refine wpAnyB_take (i := 1) (v := ?_) false rfl (by kernel_rfl) (by kernel_rfl) (by kernel_rfl) (by kernel_rfl) (by kernel_rfl) (fun _ _ _ h => h) (Or.inl ⟨by rfl, ?_⟩) hM (fun hM2 => ?_)
              rotate_left
              · (intro w hSw; replace hSw := hSw.1; (try dsimp only at hSw); go_simp; try with_reducible rfl)
              replace hM := hM2
              clear hM2
              try simp only [List.getElem_toArray, List.getElem_cons_succ, List.getElem_cons_zero, Act.put, List.setIfInBounds_toArray, List.set_cons_zero, List.set_cons_succ]
              refine wpAnyB_take (i := 2) (v := ?_) false rfl (by kernel_rfl) (by kernel_rfl) (by kernel_rfl) (by kernel_rfl) (by kernel_rfl) (fun _ _ _ h => h) (Or.inl ⟨by rfl, ?_⟩) hM (fun hM2 => ?_)
              rotate_left
              · (intro w hSw; replace hSw := hSw.1; (try dsimp only at hSw); go_simp; try with_reducible rfl)
              replace hM := hM2
              clear hM2
              try simp only [List.getElem_toArray, List.getElem_cons_succ, List.getElem_cons_zero, Act.put, List.setIfInBounds_toArray, List.set_cons_zero, List.set_cons_succ]
              refine wpAnyB_take (i := 3) (v := ?_) false rfl (by kernel_rfl) (by kernel_rfl) (by kernel_rfl) (by kernel_rfl) (by kernel_rfl) (fun _ _ _ h => h) (Or.inl ⟨by rfl, ?_⟩) hM (fun hM2 => ?_)
              rotate_left
              · (intro w hSw; replace hSw := hSw.1; (try dsimp only at hSw); go_simp; try with_reducible rfl)
              replace hM := hM2
              clear hM2
              try simp only [List.getElem_toArray, List.getElem_cons_succ, List.getElem_cons_zero, Act.put, List.setIfInBounds_toArray, List.set_cons_zero, List.set_cons_succ]
              refine wpAnyB_take (i := 4) (v := ?_) false rfl (by kernel_rfl) (by kernel_rfl) (by kernel_rfl) (by kernel_rfl) (by kernel_rfl) (fun _ _ _ h => h) (Or.inl ⟨by rfl, ?_⟩) hM (fun hM2 => ?_)
              rotate_left
              · (intro w hSw; replace hSw := hSw.1; (try dsimp only at hSw); go_simp; try with_reducible rfl)
              replace hM := hM2
              clear hM2
              try simp only [List.getElem_toArray, List.getElem_cons_succ, List.getElem_cons_zero, Act.put, List.setIfInBounds_toArray, List.set_cons_zero, List.set_cons_succ]
              refine wpAnyB_take (i := 5) (v := ?_) false rfl (by kernel_rfl) (by kernel_rfl) (by kernel_rfl) (by kernel_rfl) (by kernel_rfl) (fun _ _ _ h => h) (Or.inl ⟨by rfl, ?_⟩) hM (fun hM2 => ?_)
              rotate_left
              · (intro w hSw; replace hSw := hSw.1; (try dsimp only at hSw); go_simp; try with_reducible rfl)
              replace hM := hM2
              clear hM2
              try simp only [List.getElem_toArray, List.getElem_cons_succ, List.getElem_cons_zero, Act.put, List.setIfInBounds_toArray, List.set_cons_zero, List.set_cons_succ]
              refine wpAnyB_take (i := 6) (v := ?_) false rfl (by kernel_rfl) (by kernel_rfl) (by kernel_rfl) (by kernel_rfl) (by kernel_rfl) (fun _ _ _ h => h) (Or.inl ⟨by rfl, ?_⟩) hM (fun hM2 => ?_)
              rotate_left
              · (intro w hSw; replace hSw := hSw.1; (try dsimp only at hSw); go_simp; try with_reducible rfl)
              replace hM := hM2
              clear hM2
              try simp only [List.getElem_toArray, List.getElem_cons_succ, List.getElem_cons_zero, Act.put, List.setIfInBounds_toArray, List.set_cons_zero, List.set_cons_succ]
              refine wpAnyB_take (i := 7) (v := ?_) false rfl (by kernel_rfl) (by kernel_rfl) (by kernel_rfl) (by kernel_rfl) (by kernel_rfl) (fun _ _ _ h => h) (Or.inl ⟨by rfl, ?_⟩) hM (fun hM2 => ?_)
              rotate_left
              · (intro w hSw; replace hSw := hSw.1; (try dsimp only at hSw); go_simp; try with_reducible rfl)
              replace hM := hM2
              clear hM2
              try simp only [List.getElem_toArray, List.getElem_cons_succ, List.getElem_cons_zero, Act.put, List.setIfInBounds_toArray, List.set_cons_zero, List.set_cons_succ]
              refine wpAnyB_take (i := 8) (v := ?_) false rfl (by kernel_rfl) (by kernel_rfl) (by kernel_rfl) (by kernel_rfl) (by kernel_rfl) (fun _ _ _ h => h) (Or.inl ⟨by rfl, ?_⟩) hM (fun hM2 => ?_)
              rotate_left
              · (intro w hSw; replace hSw := hSw.1; (try dsimp only at hSw); go_simp; try with_reducible rfl)
              replace hM := hM2
              clear hM2
              try simp only [List.getElem_toArray, List.getElem_cons_succ, List.getElem_cons_zero, Act.put, List.setIfInBounds_toArray, List.set_cons_zero, List.set_cons_succ]
              refine wpAnyB_take (i := 9) (v := ?_) false rfl (by kernel_rfl) (by kernel_rfl) (by kernel_rfl) (by kernel_rfl) (by kernel_rfl) (fun _ _ _ h => h) (Or.inl ⟨by rfl, ?_⟩) hM (fun hM2 => ?_)
              rotate_left
              · (intro w hSw; replace hSw := hSw.1; (try dsimp only at hSw); go_simp; try with_reducible rfl)
              replace hM := hM2
              clear hM2
              try simp only [List.getElem_toArray, List.getElem_cons_succ, List.getElem_cons_zero, Act.put, List.setIfInBounds_toArray, List.set_cons_zero, List.set_cons_succ]
              refine wpAnyB_take (i := 10) (v := ?_) false rfl (by kernel_rfl) (by kernel_rfl) (by kernel_rfl) (by kernel_rfl) (by kernel_rfl) (fun _ _ _ h => h) (Or.inl ⟨by rfl, ?_⟩) hM (fun hM2 => ?_)
              rotate_left
              · (intro w hSw; replace hSw := hSw.1; (try dsimp only at hSw); go_simp; try with_reducible rfl)
              replace hM := hM2
              clear hM2
              try simp only [List.getElem_toArray, List.getElem_cons_succ, List.getElem_cons_zero, Act.put, List.setIfInBounds_toArray, List.set_cons_zero, List.set_cons_succ]
              refine wpAnyB_take (i := 11) (v := ?_) false rfl (by kernel_rfl) (by kernel_rfl) (by kernel_rfl) (by kernel_rfl) (by kernel_rfl) (fun _ _ _ h => h) (Or.inl ⟨by rfl, ?_⟩) hM (fun hM2 => ?_)
              rotate_left
              · (intro w hSw; replace hSw := hSw.1; (try dsimp only at hSw); go_simp; try with_reducible rfl)
              replace hM := hM2
              clear hM2
              try simp only [List.getElem_toArray, List.getElem_cons_succ, List.getElem_cons_zero, Act.put, List.setIfInBounds_toArray, List.set_cons_zero, List.set_cons_succ]
              refine wpAnyB_take (i := 12) (v := ?_) false rfl (by kernel_rfl) (by kernel_rfl) (by kernel_rfl) (by kernel_rfl) (by kernel_rfl) (fun _ _ _ h => h) (Or.inl ⟨by rfl, ?_⟩) hM (fun hM2 => ?_)
              rotate_left
              · (intro w hSw; replace hSw := hSw.1; (try dsimp only at hSw); go_simp; try with_reducible rfl)
              replace hM := hM2
              clear hM2
              try simp only [List.getElem_toArray, List.getElem_cons_succ, List.getElem_cons_zero, Act.put, List.setIfInBounds_toArray, List.set_cons_zero, List.set_cons_succ]
              refine wpAnyB_one (i := 13) (by kernel_rfl) rfl (fun K hK => ?_)
              (go_simp; go_at_call 83; refine (HRem.out _ (hR9.below (Below.refl _ _).drew)).mono ?_; rintro e w10 ⟨g5, cp5, ok5, rfl, hB5, hg5, hR5⟩; have k5 := HkS9.out.drew.below hB5 s4; have hO5 : Only (fun b => b = sB) W9.heap.size W9 w10 := hA0.trans (Only.of (hB5.mono (Nat.le_refl _))); dsimp only)
              refine hK.out _ _ (meetB.both (hT0 _ hO5) ⟨by simpa using k5.cell 0, by simpa using k5.cell 1⟩) (fun hM2 => ?_)
              clear hK K
              replace hM := hM2
              clear hM2
              try simp only [List.getElem_toArray, List.getElem_cons_succ, List.getElem_cons_zero, Act.put, List.setIfInBounds_toArray, List.set_cons_zero, List.set_cons_succ]
              have z0 := k5.cell 0
              have z1 := k5.cell 1
              have z2 := k5.frozen 0
              have z3 := k5.frozen 1
              have z4 := k5.lt
              simp at z0 z1
              have hBd : Below W9.heap.size W9 w10 := (Below.refl _ _).drew.trans hB5
              have st10 := Hst9.out.later hBd
              have hO10 := HhO9.out.below hBd
              have hV10 := HhV9.out.below hBd
              have hg6 : W9.heap.size ≤ g5 := hg5
              refine wpAnyB_take (i := 14) (v := ?_) false rfl (by kernel_rfl) (by kernel_rfl) (by kernel_rfl) (by kernel_rfl) (by kernel_rfl) (fun _ _ _ h => h) (Or.inl ⟨by rfl, ?_⟩) hM (fun hM2 => ?_)
              rotate_left
              · (intro w hSw; replace hSw := hSw.1; (try dsimp only at hSw); go_simp; try with_reducible rfl)
              replace hM := hM2
              clear hM2
              try simp only [List.getElem_toArray, List.getElem_cons_succ, List.getElem_cons_zero, Act.put, List.setIfInBounds_toArray, List.set_cons_zero, List.set_cons_succ]
              refine wpAnyB_take (i := 15) (v := ?_) false rfl (by kernel_rfl) (by kernel_rfl) (by kernel_rfl) (by kernel_rfl) (by kernel_rfl) (fun _ _ _ h => h) (Or.inl ⟨by rfl, ?_⟩) hM (fun hM2 => ?_)
              rotate_left
              · (intro w hSw; replace hSw := hSw.1; (try dsimp only at hSw); go_simp; try with_reducible rfl)
              replace hM := hM2
              clear hM2
              try simp only [List.getElem_toArray, List.getElem_cons_succ, List.getElem_cons_zero, Act.put, List.setIfInBounds_toArray, List.set_cons_zero, List.set_cons_succ]
              refine wpAnyB_take (i := 16) (v := ?_) false rfl (by kernel_rfl) (by kernel_rfl) (by kernel_rfl) (by kernel_rfl) (by kernel_rfl) (fun _ _ _ h => h) (Or.inl ⟨by rfl, ?_⟩) hM (fun hM2 => ?_)
              rotate_left
              · (intro w hSw; replace hSw := hSw.1; (try dsimp only at hSw); go_simp; try with_reducible rfl)
              replace hM := hM2
              clear hM2
              try simp only [List.getElem_toArray, List.getElem_cons_succ, List.getElem_cons_zero, Act.put, List.setIfInBounds_toArray, List.set_cons_zero, List.set_cons_succ]
              have hO6 : Only (fun b => b = sB) W9.heap.size W9 ((w10.setCell ⟨sB, 0, none⟩ (.int .i64 rs.length)).setCell ⟨sB, 1, none⟩ (.slice (some ⟨g5, 0, none⟩) rs.length cp5)) := Only.setCell (X := fun b => b = sB) (Only.setCell (X := fun b => b = sB) hO5 (p := ⟨sB, 0, none⟩) (.inl rfl) _) (p := ⟨sB, 1, none⟩) (.inl rfl) _
              refine wpAnyB_one (i := 17) (by kernel_rfl) rfl (fun K hK => ?_)
              go_simp
              refine hK.out _ _ (meetB.late (hT0 _ hO6) (by kernel_rfl)) (fun hM2 => ?_)
              clear hK K
              replace hM := hM2
              clear hM2
              try simp only [List.getElem_toArray, List.getElem_cons_succ, List.getElem_cons_zero, Act.put, List.setIfInBounds_toArray, List.set_cons_zero, List.set_cons_succ]
              refine wpAnyB_done (by kernel_rfl) ?_ _
              have st11 := st10.putS (by omega) (by omega) (by omega) (by omega) hR5 (by omega) (by omega) HRv.out HRl.out HKeep.out
              have hO11 := (hO10.putLow (a := ⟨sB, 0, none⟩) hsb9 (.int .i64 rs.length)).putLow (a := ⟨sB, 1, none⟩) hsb9 (.slice (some ⟨g5, 0, none⟩) rs.length cp5)
              have hV11 := (hV10.putLow hFF (a := ⟨sB, 0, none⟩) hsb9 (.int .i64 rs.length)).putLow hFF (a := ⟨sB, 1, none⟩) hsb9 (.slice (some ⟨g5, 0, none⟩) rs.length cp5)
              have hs11 := hO6.size
              clear z0 z1 z2 z3 z4 k5 hO6 hO5 hT0 hM s0 s1 s4 hB5 hg5 hR5 hA0 e0 e1 e2 st10 hO10 hV10 hBd HkS9 hR9
              generalize World.setCell _ _ _ = W11 at *
              have Hst11 := Lib.hid st11
              clear st11
              have HhO11 := Lib.hid hO11
              clear hO11
              have HhV11 := Lib.hid hV11
              clear hV11
              go_wp2_with fail
              go_roundw
              case rel => exact ⟨t + 1, by go_num, by omega, remE cur u v, Hst11.out, HhO11.out, HhV11.out, by omega, HRound.out⟩
              case measure => simp [intOf]; omega
            · obtain rfl : t = xF.length := by omega
              have hfin : sumG cur < sumG left := by
                obtain ⟨j, hj, e⟩ := List.mem_iff_getElem.1 HSeed.out
                have := hsd j (by have := HhxF.out; omega) (by rw [List.getElem?_eq_getElem hj, e])
                rcases hor with h | h
                · rw [this] at h; cases h
                · exact h
              have hnew := (by
                obtain ⟨lb2, cap2, -, h2, h3⟩ := st.s
                have h4 := rowSum_eq (rs := cur) (s := sB) (by rw [st.len]; exact h2) h3
                rw [st.len] at h4; exact h4 : rowSum _ sB rs.length = sumG cur)
              have Hst := Lib.hid st
              clear st
              have HhO := Lib.hid hO
              clear hO
              have HhV := Lib.hid hV
              clear hV
              have Hhsd := Lib.hid hsd
              clear hsd
              have Hhor := Lib.hid hor
              clear hor
              go_wp2_with fail
              go_roundw
              case rel => exact ⟨by trivial, cur, Hst.out⟩
              case measure => rw [hnew, HSum.out]; exact hfin
        · have d1 : decide (0 ≤ D) = true := decide_eq_true (by omega)
          have st8 := Hst7.out.later hBq
          have r0 := st8.r.cell 0
          have r1 := st8.r.frozen 0
          have rb := st8.r.lt
          simp at r0
          have HB8 := Lib.hid st8.below
          clear st8
          go_wp2_with fail
          refine bodyPost_ret (v := .tuple #[.agg #[.slice none 0 0], .bool false]) (by simp [results, Tryz.results50, go_sem, r0]) rfl ?_
          exact ⟨_, _, _, _, rfl, HB8.out.setCell (by simp) _, fun h => by cases h⟩

end Go.Proofs.YtfkehmpckhmkbaaGreat
