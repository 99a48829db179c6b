/-
  OrientationOf of the program on a graph without a path of four vertices: there is one.
-/
import Derived.Test.YtjikmjhpmkakoaaGreatDoorPkCardCographs37
import Derived.Test.YtjikmjhpmkakoaaGreatDoorPkCardCographs38
import Derived.Test.YtjikmjhpmkakoaaGreatDoorPkCardCographs39
import Derived.Test.YtjikmjhpmkakoaaGreatDoorPkCardCographs06
import Derived.Test.YtjikmjhpmkakoaaGreatDoorPkCardCographs17
import Derived.Test.YtjikmjhpmkakoaaGreatDoorPkCardCographs01
import Derived.Deep.CutRange
import Derived.Deep.RegionWith
import Derived.Deep.RegionLaw
import Derived.Deep.RegionHeld3
namespace Go.Proofs.YtjikmjhpmkakoaaGreatDoor
open Go.RowKit

theorem ori_blk2 {w : World} {b : Nat} {x y u v : Value} {T : TypeId} (h : Blk w b #[x, y] T) : Blk ((w.setCell ⟨b, 0, none⟩ u).setCell ⟨b, 1, none⟩ v) b #[u, v] T := by simpa using (h.store 0 u).store 1 v
theorem ori_blk1 {w : World} {b : Nat} {x u : Value} {T : TypeId} (h : Blk w b #[x] T) : Blk (w.setCell ⟨b, 0, none⟩ u) b #[u] T := by simpa using h.store 0 u
/-- The memory behind the first statement: a copy of the graph, and a row of zeros. -/
structure OriAt (rs : List Int) (W w : World) (lb lcap tB sB oB : Nat) : Prop where
  s : Blk w sB #[.int .i64 rs.length, .slice (some ⟨lb, 0, none⟩) rs.length lcap] 26
  o : Blk w oB #[.slice (some ⟨tB, 0, none⟩) rs.length rs.length] 123
  t : Blk w tB (intRow (List.replicate rs.length 0)) 3
  r : RowAt w lb lcap rs
  below : Below W.heap.size W w
  ne : W.heap.size ≤ tB ∧ W.heap.size ≤ sB ∧ W.heap.size ≤ oB ∧ W.heap.size ≤ lb ∧ tB ≠ sB ∧ tB ≠ oB ∧ sB ≠ oB ∧ lb ≠ tB ∧ lb ≠ sB ∧ lb ≠ oB
/-- An orientation has been returned. -/
def RetOw (n : Nat) (w : World) (e : Ending) (w' : World) : Prop := ∃ (tB : Nat) (ys : List Int), e = .returned (.tuple #[.agg #[.slice (some ⟨tB, 0, none⟩) n n], .bool true]) ∧ Below w.heap.size w w' ∧ ys.length = n ∧ (∀ v, v < n → ∃ y : Nat, gi ys v = (y : Int) ∧ y < 2 ^ n) ∧ w.heap.size ≤ tB ∧ Blk w' tB (intRow ys) 3

set_option maxRecDepth 100000 in
set_option maxHeartbeats 4000000 in
theorem implOrient_any (rs : List Int) (ro : Option Addr) (rc : Nat) (w : World) (hr : IntsAt w ro rs) (hv : isGraphB rs.length rs = true) (hp : noP4 rs) :
    Calls Tryz.prog 135 #[.agg #[.int .i64 rs.length, .slice ro rs.length rc]] w (RetOw rs.length w) := by
  have g := (VG.of hv).2
  have hg1 := g.pos
  have hg2 := g.le
  go_enter Tryz.func135, Tryz.ntmps135
  go_upto_region 1 with fail
  generalize hW : World.alloc _ _ = W1
  obtain ⟨hB, hs, k0, k1⟩ := alloc2 hW
  have hr0 := hr
  replace hr := hr.below hB
  have hb0 := k0.lt
  have hb1 := k1.lt
  have hc0 := k0.cell 0
  have hc1 := k0.cell 1
  simp at hc0 hc1
  clear hW
  have hcp := fun (w' : World) (h : Below W1.heap.size W1 w') => copyGraph_any rs.length rs ro rc w' (hr.below h) (by omega) g.pos
  have hmk := run_make_ints rs.length (by omega)
  have hS' : ∀ w', Below W1.heap.size W1 w' → Below W1.heap.size W1 w' ∧ w'.cell? ⟨w.heap.size, 0, none⟩ = some (.int .i64 rs.length) ∧ w'.cell? ⟨w.heap.size, 1, none⟩ = some (.slice ro rs.length rc) := fun w' h => ⟨h, (h.cell hb0).trans hc0, (h.cell hb0).trans hc1⟩
  have HhB := Lib.hid hB
  clear hB
  have Hhs := Lib.hid hs
  clear hs
  have Hk0 := Lib.hid k0
  clear k0
  have Hk1 := Lib.hid k1
  clear k1
  have Hhr0 := Lib.hid hr0
  clear hr0
  have Hhr := Lib.hid hr
  clear hr
  have Hhcp := Lib.hid hcp
  clear hcp
  go_cut [4, 5, 20] from 15 to 24 (fun v4 v5 v20 wx => ∃ (lb lcap tB sB oB : Nat), v4 = .pointer (some ⟨sB, 0, none⟩) ∧ v5 = .pointer (some ⟨oB, 0, none⟩) ∧ v20 = .slice (some ⟨tB, 0, none⟩) rs.length rs.length ∧ OriAt rs W1 wx lb lcap tB sB oB)
  case first =>
    go_region_held3 (fun w' => Below W1.heap.size W1 w' ∧ w'.cell? ⟨w.heap.size, 0, none⟩ = some (.int .i64 rs.length) ∧ w'.cell? ⟨w.heap.size, 1, none⟩ = some (.slice ro rs.length rc))
      (exact hS' _ (by ((repeat' (first | assumption | exact (Below.refl _ _).drew | exact Below.refl _ _ | exact And.left (by assumption) | (refine Below.drew ?_) | (refine Below.alloc ?_ ?_ _) | (refine Below.setCell ?_ ?_ _))) <;> (first | assumption | (simp; done) | (simp; omega) | (dsimp only; omega) | omega))))
      (first | (go_at_call 123; go_must (refine (Hhcp.out _ (And.left (by assumption : Below W1.heap.size W1 _ ∧ _))).mono ?_); rintro e w5 ⟨lb, lcap, rfl, hB5, hlb, hR5⟩; have hB6 := below_more (And.left (by assumption : Below W1.heap.size W1 _ ∧ _)) hB5; have hs6 := hB6.size; have hs5 := hB5.size; (try (simp at hs5)); (try (have q0 : W1.heap.size < w5.heap.size := by omega)); (try (have q1 : W1.heap.size + 1 < w5.heap.size := by omega)); (try (have q2 : W1.heap.size + 1 + 1 < w5.heap.size := by omega)); have f00 := (fun (h : W1.heap.size < _) => hB5.cell (p := ⟨W1.heap.size, 0, none⟩) h); have f01 := (fun (h : W1.heap.size < _) => hB5.cell (p := ⟨W1.heap.size, 1, none⟩) h); have f10 := (fun (h : W1.heap.size + 1 < _) => hB5.cell (p := ⟨W1.heap.size + 1, 0, none⟩) h); have f11 := (fun (h : W1.heap.size + 1 < _) => hB5.cell (p := ⟨W1.heap.size + 1, 1, none⟩) h); have f20 := (fun (h : W1.heap.size + 1 + 1 < _) => hB5.cell (p := ⟨W1.heap.size + 1 + 1, 0, none⟩) h); have f21 := (fun (h : W1.heap.size + 1 + 1 < _) => hB5.cell (p := ⟨W1.heap.size + 1 + 1, 1, none⟩) h); have g00 := (fun (h : W1.heap.size < _) => hB5.frozen (p := ⟨W1.heap.size, 0, none⟩) h); have g01 := (fun (h : W1.heap.size < _) => hB5.frozen (p := ⟨W1.heap.size, 1, none⟩) h); have g10 := (fun (h : W1.heap.size + 1 < _) => hB5.frozen (p := ⟨W1.heap.size + 1, 0, none⟩) h); have g11 := (fun (h : W1.heap.size + 1 < _) => hB5.frozen (p := ⟨W1.heap.size + 1, 1, none⟩) h); have g20 := (fun (h : W1.heap.size + 1 + 1 < _) => hB5.frozen (p := ⟨W1.heap.size + 1 + 1, 0, none⟩) h); have g21 := (fun (h : W1.heap.size + 1 + 1 < _) => hB5.frozen (p := ⟨W1.heap.size + 1 + 1, 1, none⟩) h); (try (simp at f00)); (try (replace f00 := f00 (by omega))); (try (simp at f01)); (try (replace f01 := f01 (by omega))); (try (simp at f10)); (try (replace f10 := f10 (by omega))); (try (simp at f11)); (try (replace f11 := f11 (by omega))); (try (simp at f20)); (try (replace f20 := f20 (by omega))); (try (simp at f21)); (try (replace f21 := f21 (by omega))); (try (simp at g00)); (try (replace g00 := g00 (by omega))); (try (simp at g01)); (try (replace g01 := g01 (by omega))); (try (simp at g10)); (try (replace g10 := g10 (by omega))); (try (simp at g11)); (try (replace g11 := g11 (by omega))); (try (simp at g20)); (try (replace g20 := g20 (by omega))); (try (simp at g21)); (try (replace g21 := g21 (by omega)))))
    all_goals
      have hlt5 := hR5.lt
      try (simp at hlb)
      go_wp2_with fail
      go_meet
      case rel =>
        refine ⟨lb, lcap, _, _, _, rfl, rfl, rfl, ⟨?_, ?_, ?_, ?_, ?_, ?_⟩⟩
        · (clear hB6; (repeat' (first | (with_reducible exact Blk.made _ _ _ rfl) | (with_reducible exact Blk.made _ _ _ (by simp; done)) | (with_reducible apply ori_blk2) | (with_reducible apply ori_blk1) | (with_reducible refine Blk.drew ?_) | (with_reducible refine Blk.alloc ?_ _) | (with_reducible refine Blk.other ?_ _ (by first | (simp; done) | (simp; omega) | (dsimp only; omega))) | (with_reducible refine Blk.below ?_ (by assumption) (by first | (simp; done) | (simp; omega))))))
        · (clear hB6; (repeat' (first | (with_reducible exact Blk.made _ _ _ rfl) | (with_reducible exact Blk.made _ _ _ (by simp; done)) | (with_reducible apply ori_blk2) | (with_reducible apply ori_blk1) | (with_reducible refine Blk.drew ?_) | (with_reducible refine Blk.alloc ?_ _) | (with_reducible refine Blk.other ?_ _ (by first | (simp; done) | (simp; omega) | (dsimp only; omega))) | (with_reducible refine Blk.below ?_ (by assumption) (by first | (simp; done) | (simp; omega))))))
        · (clear hB6; (repeat' (first | (with_reducible exact Blk.made _ _ _ rfl) | (with_reducible exact Blk.made _ _ _ (by simp; done)) | (with_reducible apply ori_blk2) | (with_reducible apply ori_blk1) | (with_reducible refine Blk.drew ?_) | (with_reducible refine Blk.alloc ?_ _) | (with_reducible refine Blk.other ?_ _ (by first | (simp; done) | (simp; omega) | (dsimp only; omega))) | (with_reducible refine Blk.below ?_ (by assumption) (by first | (simp; done) | (simp; omega))))))
        · (repeat' (first | assumption | (with_reducible refine RowAt.below ?_ ((Below.refl _ _).alloc (Nat.le_refl _) _)) | (with_reducible refine RowAt.otherCell ?_ (by first | (simp; done) | (simp; omega) | (dsimp only; omega)))))
        · ((repeat' (first | assumption | exact (Below.refl _ _).drew | exact Below.refl _ _ | exact And.left (by assumption) | (refine Below.drew ?_) | (refine Below.alloc ?_ ?_ _) | (refine Below.setCell ?_ ?_ _))) <;> (first | assumption | (simp; done) | (simp; omega) | (dsimp only; omega) | omega))
        · simp
          omega
  case rest =>
    obtain ⟨lb, lcap, tB, sB, oB, rfl, rfl, rfl, st⟩ := hcut
    have hsW := Hhs.out
    have y0 := (st.below.cell (p := ⟨w.heap.size, 0, none⟩) hb0).trans hc0
    have y1 := (st.below.cell (p := ⟨w.heap.size, 1, none⟩) hb0).trans hc1
    have yl := Nat.lt_of_lt_of_le hb0 st.below.size
    have hG := implIsGraph_any rs.length rs ro rc wc (Hhr.out.below st.below) (by omega)
    rw [hv] at hG
    have st0 : OwSt rs.length w wc oB tB (w.heap.size + 1) sB lb lcap (List.replicate rs.length 0) rs := ⟨HhB.out.trans (st.below.mono HhB.out.size), st.o, Hk1.out.below st.below hb1, st.t, st.s, st.r⟩
    have hne := st.ne
    have hwt : w.heap.size + 1 < tB ∧ w.heap.size + 1 < sB ∧ w.heap.size + 1 < oB ∧ w.heap.size + 1 < lb := by omega
    obtain ⟨nT, nS, nO, nL⟩ := hwt
    obtain ⟨-, -, -, -, n1, n2, n3, n4, n5, n6⟩ := hne
    clear st hc0 hc1 hb0 hmk hS' hb1 Hhr Hhr0 Hhcp Hhs Hk0 Hk1 HhB
    generalize hrB : w.heap.size + 1 = rB at *
    have hWT : w.heap.size ≤ tB := by omega
    have hWr : w.heap.size ≤ rB := by omega
    have hWL : w.heap.size ≤ lb := by omega
    have hTr : rB ≠ tB := by omega
    have hLr : rB ≠ lb := by omega
    have hOT : oB ≠ tB := Ne.symm n2
    have hST : sB ≠ tB := Ne.symm n1
    have hOL : oB ≠ lb := Ne.symm n6
    have hSL : sB ≠ lb := Ne.symm n5
    clear hrB
    go_wp2_with fail
    refine hG.mono ?_
    rintro e w2 ⟨rfl, hB2⟩
    replace st0 := st0.later hB2
    clear hG hB2 y0 y1 yl
    have kS := st0.s
    have s0 := kS.cell 0
    have s1 := kS.cell 1
    have sl := kS.lt
    simp at s0 s1
    have hE := implEdges_all rs.length rs (some ⟨lb, 0, none⟩) lcap w2 st0.row.ints (by omega)
    rw [edgesV_of hv] at hE
    go_wp2_with fail
    refine hE.mono ?_
    rintro e w3 ⟨ao, ac, xs, rfl, hB3, hO3, hV3⟩
    replace st0 := st0.later hB3
    clear hE hB3 s0 s1 sl kS
    go_wp2_with fail
    go_loopw [6] (fun f wr => ∃ (left ys : List Int) (ao : Option Addr) (ac : Nat) (xs : List Value), f = .slice ao xs.length ac ∧ OwSt rs.length w wr oB tB rB sB lb lcap ys left ∧ VG left ∧ left.length = rs.length ∧ noP4 left ∧ SmallR rs.length ys ∧ OwnV wr 0 (.slice ao xs.length ac) xs ∧ ValsOf wr xs (edgesTo left rs.length)) (fun _ wr => rowSum wr sB rs.length)
    case atStart => exact ⟨rs, _, ao, ac, xs, rfl, st0, g, rfl, hp, SmallR.zero _, hO3.mono (Nat.zero_le _), hV3⟩
    case round =>
      clear st0 hO3 hV3
      obtain ⟨left, ys, ao, ac, xs, rfl, st, gl, hll, hpl, hsm, hO, hV⟩ := hrel
      have hxl := hV.1
      have kS := st.s
      have s0 := kS.cell 0
      have s1 := kS.cell 1
      have sl := kS.lt
      have lT := st.t.lt
      have lL := st.row.lt
      simp at s0 s1
      have HEd : Hid (∀ p, p ∈ edgesTo left left.length → ad left p.1 p.2 = true) := fun p h => edge_head gl h
      rw [hll] at HEd
      have HSum : Hid (rowSum wr sB rs.length = sumG left) := by
        have h2 := rowSum_eq (rs := left) (s := sB) (lb := lb) (cap := lcap) (c := lcap) (x := .int .i64 rs.length) (T := 26) (by rw [hll]; exact kS) st.row
        rw [hll] at h2; exact h2
      generalize edgesTo left rs.length = ES at *
      cases hc : ES with
      | nil =>
        rw [hc] at hxl
        obtain rfl : xs = [] := List.eq_nil_of_length_eq_zero hxl
        have o0 := st.o.cell 0
        have r0 := st.r.cell 0
        have r1 := st.r.frozen 0
        have ob := st.o.lt
        have rb := st.r.lt
        simp at o0 r0
        have Hst := Lib.hid st
        clear st
        have Hhsm := Lib.hid hsm
        clear hsm
        clear hO hV hxl hc kS s0 s1 sl
        go_wp2_with fail
        refine bodyPost_ret (v := .tuple #[.agg #[.slice (some ⟨tB, 0, none⟩) rs.length rs.length], .bool true]) (by simp [results, Tryz.results135, go_sem, r0]) rfl ?_
        exact ⟨tB, ys, rfl, Hst.out.below.setCell hWr _, Hhsm.out.1, Hhsm.out.2, hWT, Hst.out.t.other _ (fun e => hTr (Eq.symm e))⟩
      | cons p ps =>
        have hp0 : ES[0]? = some p := by rw [hc]; rfl
        have hpe := HEd.out p (by rw [hc]; exact List.mem_cons_self)
        have hxs : 0 < xs.length := by rw [hxl, hc]; simp
        obtain ⟨gp, x1, hgp, p0, p1⟩ := hV.at2 hp0
        obtain ⟨eb6, rfl, -, heb, hce⟩ := hO.cells hxs
        have hce0 := hce 0 _ x1
        obtain ⟨x, y⟩ := p
        dsimp only at p0 p1 hpe
        obtain ⟨hx, hy⟩ := ad_lt gl hpe
        have hFo := fun m : Later wr => (by
          have h2 := implForced_any left x y (some ⟨lb, 0, none⟩) lcap m.w (st.row.ints.later m) gl hx hy
          rw [hll] at h2
          exact h2 : Calls Tryz.prog 152 #[.agg #[.int .i64 rs.length, .slice (some ⟨lb, 0, none⟩) rs.length lcap], .int .i64 x, .int .i64 y] m.w (RetFd left x y m.w))
        clear hp0 hc hce x1 hO hV hxl kS
        have Hst := Lib.hid st
        clear st
        have Hhsm := Lib.hid hsm
        clear hsm
        go_upto_region 7 with fail
        obtain ⟨m, hm0⟩ : ∃ m : Later wr, m.w = wr := ⟨Later.refl _, rfl⟩
        refine (fun h => hm0 ▸ h) ?_
        clear hm0
        refine wp_region_later m rfl (by kernel_rfl) (by kernel_rfl) ?_
        repeat (go_big_quiet_step (fail))
        refine wpQuiet_nil ?_
        rintro _ ⟨m, rfl⟩
        go_wp2_with fail
        refine (hFo m).mono ?_
        rintro e w7 ⟨es, aF, cF, xF, vF, rfl, hFs, hCl, hB7, hOF, hVF, hFF⟩
        have st7 := Hst.out.later (below_more m.below hB7)
        have hBm := below_more m.below hB7
        have hwB : wr.heap.size ≤ m.w.heap.size := m.size
        have hBw7 := hB7.size
        have HRm := Lib.hid (RmTo.zero (es := es) gl (show eb left x y = true from hpe))
        have HDone := Lib.hid fun (cur : List Int) (r : RmTo left x y es es.length cur) => r.done gl hpl hpe hFs hCl
        have hNo : (y, x) ∉ es := fun h => fc_no_turn gl hpl hpe (hFs.fc _ h)
        have h49 := hFs.len gl
        have hxl9 : xF.length ≤ 1048576 := by have := hVF.1; omega
        have hxF := hVF.1
        have HhxF := Lib.hid hxF
        clear hxF
        have HLt := Lib.hid hFs.lt
        have q0 := (hBm.cell (p := ⟨gp, 0, none⟩) hgp).trans p0
        have q1 := (hBm.cell (p := ⟨gp, 1, none⟩) hgp).trans p1
        generalize m.w.heap.size = B at *
        clear p0 p1 hFo Hst hFs hCl hBm hB7 m s0 s1 sl hce0 heb
        go_wp2_with fail
        generalize hW8 : World.alloc _ _ = W8
        obtain ⟨hB8, hs8, k8⟩ := alloc1 hW8
        replace st7 := st7.later hB8
        replace hOF := hOF.below hB8
        replace hVF := hVF.below hB8
        have kl := k8.lt
        have kc0 := k8.cell 0
        have kc1 := k8.cell 1
        simp at kc0 kc1
        have hIx := implIndex_any es (y, x) (.slice (some ⟨w7.heap.size, 0, none⟩) 2 2) xF aF B cF W8 hOF hVF hxl9 ⟨_, rfl, kl, kc0, kc1⟩
        have hD : fdV es (y, x) < 0 := fdV_neg.2 hNo
        have hB78 := hB8.size
        generalize fdV es (y, x) = D at *
        have d1 : decide (0 ≤ D) = false := decide_eq_false (by omega)
        clear hW8 hB8 hs8 k8 hNo q0 q1 hgp
        have Hst7 := Lib.hid st7
        clear st7
        have HhOF := Lib.hid hOF
        clear hOF
        have HhVF := Lib.hid hVF
        clear hVF
        have Hh49 := Lib.hid h49
        clear h49
        refine hIx.mono ?_
        rintro e w9 ⟨rfl, hB9⟩
        replace st7 := Hst7.out.later hB9
        replace hOF := HhOF.out.below hB9
        replace hVF := HhVF.out.below hB9
        have hs9 := hB9.size
        have hs9B : B ≤ w9.heap.size := by omega
        have hTB : tB < B := by omega
        have hLB : lb < B := by omega
        clear hIx kl kc0 kc1 hB9 Hst7 HhOF HhVF hs9 hB78 hBw7 hwB hD lT lL
        go_wp2_with fail
        go_loopw [59] (fun i wq => ∃ (t : Nat) (ys : List Int), i = .int .i64 t ∧ t ≤ xF.length ∧ OwSt rs.length w wq oB tB rB sB lb lcap ys left ∧ SmallR rs.length ys ∧ OwnV wq B (.slice aF xF.length cF) xF ∧ ValsOf wq xF es ∧ B ≤ wq.heap.size) (fun i _ => xF.length - (intOf i).toNat)
        case atStart => exact ⟨0, ys, rfl, by omega, st7, Hhsm.out, hOF, hVF, hs9B⟩
        case round =>
          clear st7 hOF hVF Hhsm hs9B
          obtain ⟨t, ys, rfl, ht, st, hsm, hO, hV, hsz⟩ := hrel
          by_cases hlt : t < xF.length
          · have hte : t < es.length := by have := HhxF.out; omega
            obtain ⟨⟨u, v⟩, hp2⟩ : ∃ p, es[t]? = some p := ⟨_, List.getElem?_eq_getElem hte⟩
            obtain ⟨hu, hv2⟩ := HLt.out _ (List.mem_of_getElem? hp2)
            dsimp only at hu hv2
            rw [hll] at hu hv2
            obtain ⟨gq, x1, hgq, q0, q1⟩ := hV.at2 hp2
            obtain ⟨eF, heFa, -, heF, hcF⟩ := hO.cells (by omega)
            subst heFa
            have c1 := hcF t _ x1
            dsimp only at q0 q1
            have o0 := st.o.cell 0
            simp at o0
            have ol := st.o.lt
            have tl := st.t.lt
            have t0 : _ = some (Value.int .i64 (gi ys u)) := (st.t.cell u).trans (intRow_get ys u (by rw [hsm.1]; exact hu))
            have t1 := st.t.frozen u
            have HP := Lib.hid (hsm.put hg2 hu hv2)
            generalize gi ys u = yu at *
            clear hcF x1 hp2 hte
            have Hst := Lib.hid st
            clear st
            have HhO := Lib.hid hO
            clear hO
            have HhV := Lib.hid hV
            clear hV
            have Hhsm := Lib.hid hsm
            clear hsm
            go_upto_region 14 with fail
            obtain ⟨m, hm0⟩ : ∃ m : Later wr, m.w = wr := ⟨Later.refl _, rfl⟩
            refine (fun h => hm0 ▸ h) ?_
            clear hm0
            go_still_tail 13, (by kernel_rfl)
            refine wpList_drew_on m fun m => ?_
            go_upto_region 15 with fail
            generalize bits BinOp.or IntKind.i64 yu (pwN v) = Z at *
            have st9 := (Hst.out.later m.below).putT hWT hOT hTr hST n4 u Z
            have hO9 := (HhO.out.below m.below).putLow (a := ⟨tB, u, none⟩) hTB (.int .i64 Z)
            have hV9 := (HhV.out.below m.below).putLow hFF (a := ⟨tB, u, none⟩) hTB (.int .i64 Z)
            have hs9 : B ≤ (m.w.setCell ⟨tB, u, none⟩ (.int .i64 Z)).heap.size := by have := m.size; simp; omega
            clear c1 q0 q1 o0 t0 t1 tl ol heF hgq Hst HhO HhV
            generalize World.setCell _ _ _ = W9 at *
            clear m
            have Hst9 := Lib.hid st9
            clear st9
            have HhO9 := Lib.hid hO9
            clear hO9
            have HhV9 := Lib.hid hV9
            clear hV9
            go_wp2_with fail
            go_roundw
            case rel => exact ⟨t + 1, ys.set u Z, by go_num, by omega, Hst9.out, HP.out, HhO9.out, HhV9.out, hs9⟩
            case measure => simp [intOf]; omega
          · obtain rfl : t = xF.length := by omega
            have Hst := Lib.hid st
            clear st
            have HhO := Lib.hid hO
            clear hO
            have HhV := Lib.hid hV
            clear hV
            have Hhsm := Lib.hid hsm
            clear hsm
            go_wp2_with fail
            go_loopw [79] (fun i wq => ∃ (t : Nat) (cur : List Int), i = .int .i64 t ∧ t ≤ xF.length ∧ OwSt rs.length w wq oB tB rB sB lb lcap ys cur ∧ RmTo left x y es t cur ∧ OwnV wq B (.slice aF xF.length cF) xF ∧ ValsOf wq xF es ∧ B ≤ wq.heap.size) (fun i _ => xF.length - (intOf i).toNat)
            case atStart => exact ⟨0, left, rfl, by omega, Hst.out, HRm.out, HhO.out, HhV.out, hsz⟩
            case round =>
              clear Hst HhO HhV hsz HRm
              obtain ⟨t, cur, rfl, ht, st, r, hO, hV, hsz⟩ := hrel
              have hcl := r.len.trans hll
              by_cases hlt : t < xF.length
              · have hte : t < es.length := by have := HhxF.out; omega
                obtain ⟨⟨u, v⟩, hp2⟩ : ∃ p, es[t]? = some p := ⟨_, List.getElem?_eq_getElem hte⟩
                obtain ⟨hu, hv2⟩ := HLt.out _ (List.mem_of_getElem? hp2)
                dsimp only at hu hv2
                obtain ⟨gq, x1, hgq, q0, q1⟩ := hV.at2 hp2
                obtain ⟨eF, heFa, -, heF, hcF⟩ := hO.cells (by omega)
                subst heFa
                have c1 := hcF t _ x1
                dsimp only at q0 q1
                have kS := st.s
                have s0 := kS.cell 0
                have s1 := kS.cell 1
                have sl := kS.lt
                simp at s0 s1
                have ll := st.row.lt
                have t0 := st.row.cell u (by rw [r.len]; exact hu)
                have HH := fun w' => has_eb r.vg (u := u) (v := v) (by rw [r.len]; exact hu) (by omega) w'
                cases he : eb cur u v
                · have HK := Lib.hid (r.keep hu hv2 hp2 he)
                  simp only [he] at HH
                  rw [hll] at hu hv2
                  generalize gi cur u = cu at *
                  clear hcF x1 hp2 hte kS he r
                  have Hst := Lib.hid st
                  clear st
                  have HhO := Lib.hid hO
                  clear hO
                  have HhV := Lib.hid hV
                  clear hV
                  go_upto_region 19 with fail
                  obtain ⟨m, hm0⟩ : ∃ m : Later wr, m.w = wr := ⟨Later.refl _, rfl⟩
                  refine (fun h => hm0 ▸ h) ?_
                  clear hm0
                  refine wp_region_later m rfl (by kernel_rfl) (by kernel_rfl) ?_
                  repeat (go_big_quiet_step ((first | (go_at_call 60; exact Calls.later_same _ (HH _)))))
                  refine wpQuiet_nil ?_
                  rintro _ ⟨m, rfl⟩
                  go_wp2_with fail
                  go_roundw
                  case rel => exact ⟨t + 1, cur, by go_num, by omega, Hst.out.later m.below, HK.out, HhO.out.below m.below, HhV.out.below m.below, by have := m.size; omega⟩
                  case measure => simp [intOf]; omega
                · have HK := Lib.hid (r.rem hx hy hu hv2 hp2 he)
                  have hne : u ≠ v := fun e => by
                    subst e
                    rw [eb_irr r.vg (by rw [r.len]; exact hu)] at he; cases he
                  rw [hll] at hu hv2
                  have hFl := fun m : Later wr => flipRem_any cur u v lb lcap rs.length m.w hcl (st.row.below m.below) r.vg hu hv2 hne he
                  simp only [he] at HH
                  generalize gi cur u = cu at *
                  clear hcF x1 hp2 hte kS he r
                  have Hst := Lib.hid st
                  clear st
                  have HhO := Lib.hid hO
                  clear hO
                  have HhV := Lib.hid hV
                  clear hV
                  go_upto_region 19 with fail
                  obtain ⟨m, hm0⟩ : ∃ m : Later wr, m.w = wr := ⟨Later.refl _, rfl⟩
                  refine (fun h => hm0 ▸ h) ?_
                  clear hm0
                  refine wp_region_later m rfl (by kernel_rfl) (by kernel_rfl) ?_
                  repeat (go_big_quiet_step ((first | (go_at_call 60; exact Calls.later_same _ (HH _)))))
                  refine wpQuiet_nil ?_
                  rintro _ ⟨m, rfl⟩
                  go_upto_region 20 with fail
                  go_still_tail 7, (by kernel_rfl)
                  refine wpList_drew_on m fun m => ?_
                  go_wp2_with fail
                  refine (hFl m).mono ?_
                  rintro e w8 ⟨rfl, hO8, hR8⟩
                  have st8 := (Hst.out.later m.below).flip hWL hOL hLr hSL (Ne.symm n4) hO8 hR8
                  have hOV8 := OwnV.onlyR (HhO.out.below m.below) hO8 (fun b e => by have e2 : b = lb := e; omega)
                  have hV8 := (HhV.out.below m.below).onlyF hFF hO8 (fun b e => by have e2 : b = lb := e; omega)
                  have hs8 : B ≤ w8.heap.size := by have := hO8.size; have := m.size; omega
                  clear hFl HH c1 q0 q1 t0 s0 s1 sl ll heF hgq Hst HhO HhV hO8 hR8 m
                  have Hst8 := Lib.hid st8
                  clear st8
                  have HhOV8 := Lib.hid hOV8
                  clear hOV8
                  have HhV8 := Lib.hid hV8
                  clear hV8
                  go_wp2_with fail
                  go_roundw
                  case rel => exact ⟨t + 1, remE cur u v, by go_num, by omega, Hst8.out, HK.out, HhOV8.out, HhV8.out, hs8⟩
                  case measure => simp [intOf]; omega
              · have hte : t = es.length := by have := HhxF.out; omega
                subst hte
                obtain ⟨hpc, hsum⟩ := HDone.out cur r
                have hE := (by
                  have h2 := implEdges_all rs.length cur (some ⟨lb, 0, none⟩) lcap wr st.row.ints (by omega)
                  rw [edgesV_of (by rw [← hcl]; exact r.vg.graph), hcl] at h2
                  exact h2 : Calls Tryz.prog 151 #[.agg #[.int .i64 rs.length, .slice (some ⟨lb, 0, none⟩) rs.length lcap]] wr (RetEs wr (edgesTo cur rs.length)))
                have kS := st.s
                have s0 := kS.cell 0
                have s1 := kS.cell 1
                have sl := kS.lt
                simp at s0 s1
                have d2 : decide ((es.length : Int) < (xF.length : Int)) = false := decide_eq_false (by omega)
                clear hO hV kS
                have Hst := Lib.hid st
                clear st
                go_wp2_with fail
                refine hE.mono ?_
                rintro e w10 ⟨ao, ac, xs, rfl, hB10, hO10, hV10⟩
                have st10 := Hst.out.later hB10
                have hnew := (by
                  have h4 := rowSum_eq (rs := cur) (s := sB) (by rw [hcl]; exact st10.s) st10.row
                  rw [hcl] at h4; exact h4 : rowSum _ sB rs.length = sumG cur)
                clear hE s0 s1 sl Hst hB10
                go_wp2_with fail
                go_roundw
                case rel => exact ⟨cur, ys, ao, ac, xs, rfl, st10, r.vg, hcl, hpc, Hhsm.out, hO10.mono (Nat.zero_le _), hV10⟩
                case measure => rw [hnew, HSum.out]; exact hsum

end Go.Proofs.YtjikmjhpmkakoaaGreatDoor
