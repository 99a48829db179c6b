/-
  The walk of the reference's ForcedArcs. For at most 2^20 rows.
-/
import Derived.Test.YtfkehmpckhmkbaaGreatPkLawPerfect36
import Derived.Deep.RegionHeld3
import Derived.Deep.CutRange
namespace Go.Proofs.YtfkehmpckhmkbaaGreat
open Go.RowKit

theorem OwnV.oneF (w : World) (x : Value) : OwnV (w.alloc (.cells #[x] 24)) w.heap.size (.slice (some ⟨w.heap.size, 0, none⟩) 1 1) [x] :=
  ⟨by simp, .inr ⟨w.heap.size, 1, #[x], rfl, Nat.le_refl _, by show (w.heap.push _)[w.heap.size]? = _; simp, by simp, by unfold maxLen; omega, by simp, by simp⟩⟩
/-- Another list's row is let alone by what grows. -/
theorem OwnV.grownNe {w w' : World} {base g n c : Nat} {v : Value} {xs : List Value} (h : OwnV w base (.slice (some ⟨g, 0, none⟩) n c) xs) (hg : w.grownBy w' v.ownBlock) (hne : v.ownBlock ≠ some g) : OwnV w' base (.slice (some ⟨g, 0, none⟩) n c) xs := by
  obtain ⟨h0, ⟨h1, -⟩ | ⟨g2, cap, cur, hv, hb, hh, r⟩⟩ := h
  · cases h1
  · have hv2 := hv
    simp only [Value.slice.injEq, Option.some.injEq, Addr.mk.injEq] at hv2
    obtain ⟨⟨rfl, -, -⟩, -, -⟩ := hv2
    exact ⟨h0, .inr ⟨g, cap, cur, hv, hb, (hg.block g (Array.getElem?_eq_some_iff.1 hh).1 (fun e => hne e.symm)).trans hh, r⟩⟩
/-- Where a list has grown, its row is not that of a list of fresh slices. -/
theorem own_ne {w w' : World} {base bl B gl nl cl g1 n1 c1 g0 : Nat} {v : Value} {xs ys xl : List Value} (hl : OwnV w bl (.slice (some ⟨gl, 0, none⟩) nl cl) xl) (hf : FreshV B xl) (h0 : 0 < xl.length)
    (hx : xs[0]? = some (.slice (some ⟨g0, 0, none⟩) 2 2)) (hg0 : g0 < B) (hg : w.grownBy w' v.ownBlock) (hne : v.ownBlock ≠ some gl) (ho : OwnV w' base (.slice (some ⟨g1, 0, none⟩) n1 c1) (xs ++ ys)) : g1 ≠ gl := by
  rintro rfl
  have hl2 := hl.grownNe hg hne
  obtain ⟨ga, ea, -, -, ha⟩ := hl2.cells h0
  obtain ⟨gb, eb, -, -, hb⟩ := ho.cells (by rw [List.length_append]; have := (List.getElem?_eq_some_iff.1 hx).1; omega)
  simp only [Option.some.injEq, Addr.mk.injEq] at ea eb
  obtain ⟨rfl, -, -⟩ := ea
  obtain ⟨rfl, -, -⟩ := eb
  have e1 := ha 0 _ (List.getElem?_eq_getElem h0)
  have e2 := hb 0 _ (by rw [List.getElem?_append_left (List.getElem?_eq_some_iff.1 hx).1]; exact hx)
  rw [e1] at e2
  obtain ⟨g, n, c, h1, h2⟩ := hf _ (List.getElem_mem h0)
  rw [h2] at e2
  simp only [Option.some.injEq, Value.slice.injEq, Addr.mk.injEq] at e2
  omega

set_option maxRecDepth 100000 in
set_option maxHeartbeats 4000000 in
theorem specForced_any (n : Int) (rs : List Int) (a b : Nat) (ro : Option Addr) (rc : Nat) (w : World) (hr : IntsAt w ro rs) (hrl : rs.length ≤ 1048576) :
    Calls Tryz.prog 81 #[.agg #[.int .i64 n, .slice ro rs.length rc], .int .i64 a, .int .i64 b] w fun e w' => ∃ es, FaIs n rs a b es ∧ ∃ ao cap xs, e = .returned (.slice ao xs.length cap) ∧ Below w.heap.size w w' ∧ OwnV w' w.heap.size (.slice ao xs.length cap) xs ∧ ValsOf w' xs es ∧ FreshV w.heap.size xs := by
  go_enter Tryz.func81, Tryz.ntmps81
  go_wp2_with fail
  generalize hW : w.alloc _ = W1
  obtain ⟨hB, hs, k0⟩ := alloc1 hW
  replace hr := hr.below hB
  have hb0 := k0.lt
  have hc0 := k0.cell 0
  have hc1 := k0.cell 1
  simp at hc0 hc1
  clear hW k0
  have HhB := Lib.hid hB
  clear hB
  have hE := specHasEdge_any n rs a b ro rc W1 hr hrl
  cases hv : edgB n rs a b
  · rw [hv] at hE
    refine hE.mono ?_
    rintro e w' ⟨rfl, hB2⟩
    go_wp2_with fail
    go_ret
    exact ⟨[], .inl ⟨hv, rfl⟩, _, _, [], rfl, ((HhB.out.trans (hB2.mono HhB.out.size)).alloc (Nat.le_trans HhB.out.size hB2.size) _), (OwnV.empty w').mono (Nat.le_trans HhB.out.size hB2.size), ValsOf.nil _, FreshV.nil _⟩
  · have hv2 := hv
    unfold edgB at hv2
    simp only [Bool.and_eq_true, decide_eq_true_eq] at hv2
    obtain ⟨hg, -, -, ha, hb, -⟩ := hv2
    obtain ⟨rfl, g⟩ := VG.of hg
    replace ha : a < rs.length := by omega
    replace hb : b < rs.length := by omega
    have HV := Lib.hid hv
    rw [hv] at hE
    clear hv hg hs
    refine hE.mono ?_
    rintro e w' ⟨rfl, hB2⟩
    obtain ⟨m, rfl⟩ : ∃ m2 : Later W1, m2.w = w' := ⟨⟨w', hB2⟩, rfl⟩
    clear hB2 hE
    go_wp2_with fail
    generalize hWa : m.w.alloc _ = Wa
    have hsa : Wa.heap.size = m.w.heap.size + 1 := by rw [← hWa]; simp
    have hCa : Wa.heap[m.w.heap.size]? = some (.cells #[.int .i64 a, .int .i64 b] 3) := by rw [← hWa, heap_alloc_new]
    have hBa : Below m.w.heap.size m.w Wa := (alloc1 hWa).1
    have hVa := (ValsOf.nil Wa).push hCa
    generalize hWb : Wa.alloc _ = Wb
    have hBb := (alloc1 hWb).1
    have hOb := OwnV.oneF Wa (.slice (some ⟨m.w.heap.size, 0, none⟩) 2 2)
    rw [hWb, hsa] at hOb
    have hVb := hVa.below hBb
    have hBm := m.below.trans ((hBa.trans (hBb.mono hBa.size)).mono m.size)
    have hms := m.size
    obtain ⟨m1, rfl⟩ : ∃ m2 : Later W1, m2.w = Wb := ⟨⟨Wb, hBm⟩, rfl⟩
    have hFs : Fs rs (a, b) [(a, b)] := ⟨by simp, fun p hp => by rw [List.mem_singleton] at hp; subst hp; exact ⟨ha, hb⟩, fun p hp => by rw [List.mem_singleton] at hp; subst hp; exact .base, by simp⟩
    replace hOb := hOb.mono (base' := W1.heap.size) (by omega)
    have hfr : FreshV w.heap.size [.slice (some ⟨m.w.heap.size, 0, none⟩) 2 2] := (FreshV.nil _).push (by omega)
    clear hWa hsa hCa hBa hVa hWb hBb hBm hms
    go_loopw [7, 8] (fun o i wr => (∃ m : Later W1, wr = m.w) ∧ ∃ k : Nat, i = .int .i64 k ∧ ∃ ao cap xs es, o = .slice ao xs.length cap ∧ OwnV wr W1.heap.size (.slice ao xs.length cap) xs ∧ ValsOf wr xs es ∧ Fs rs (a, b) es ∧ k ≤ es.length ∧ (∀ j p, j < k → es[j]? = some p → ∀ q ∈ nxV rs p.1 p.2, q ∈ es) ∧ FreshV w.heap.size xs) (fun _ i _ => 50 - (intOf i).toNat)
    case atStart => exact ⟨⟨m1, rfl⟩, 0, rfl, _, _, [_], _, rfl, hOb, hVb, hFs, by omega, fun j p h => by omega, hfr⟩
    case round =>
      clear hOb hVb hFs hfr m1
      obtain ⟨⟨m, rfl⟩, k, rfl, ao, cap, xs, es, rfl, hO, hV, hF, hk, hC, hFx⟩ := hrel
      have hlen := hV.1
      have h49 := hF.len g
      by_cases hlt : k < xs.length
      · have hkb : k < 50 := by omega
        obtain ⟨g0, rfl, hg00, hg0, hcx⟩ := hO.cells (by omega)
        have he : es[k]? = some es[k] := List.getElem?_eq_getElem (by omega)
        have he0 : es[0]? = some es[0] := List.getElem?_eq_getElem (by omega)
        have hp := hF.lt es[k] (List.getElem_mem _)
        have hpm : es[k] ∈ es := List.getElem_mem _
        obtain ⟨g1, h1, hg1, c0, c1⟩ := hV.at2 he
        obtain ⟨gs, hx0, hgs, -, -⟩ := hV.at2 he0
        have hck := hcx k _ h1
        generalize es[k] = p at *
        obtain ⟨x, y⟩ := p
        dsimp only at c0 c1 hp
        have hrm := hr.later m
        have hcm0 := (m.cell _ 0 hb0).trans hc0
        have hcm1 := (m.cell _ 1 hb0).trans hc1
        have hbm := Nat.lt_of_lt_of_le hb0 m.size
        have hS : ∀ w', Below m.w.heap.size m.w w' → Below m.w.heap.size m.w w' ∧ w'.cell? ⟨w.heap.size, 0, none⟩ = some (.int .i64 rs.length) ∧ w'.cell? ⟨w.heap.size, 1, none⟩ = some (.slice ro rs.length rc) ∧ w'.cell? ⟨g0, k, none⟩ = some (.slice (some ⟨g1, 0, none⟩) 2 2) ∧ w'.cell? ⟨g1, 0, none⟩ = some (.int .i64 x) ∧ w'.cell? ⟨g1, 1, none⟩ = some (.int .i64 y) := fun w' h =>
          ⟨h, (h.cell hbm).trans hcm0, (h.cell hbm).trans hcm1, (h.cell hg0).trans hck, (h.cell hg1).trans c0, (h.cell hg1).trans c1⟩
        have hN := fun (w3 : World) (h3 : Below m.w.heap.size m.w w3) => specNext_any rs x y ro rc w3 (hrm.below h3) g hp.1 hp.2
        have HEk := Lib.hid he
        clear hcm0 hcm1 h1 hcx he he0
        have HhO := Lib.hid hO
        clear hO
        have HhV := Lib.hid hV
        clear hV
        have HhF := Lib.hid hF
        clear hF
        have HhC := Lib.hid hC
        clear hC
        have HhN := Lib.hid hN
        clear hN
        have Hhlen := Lib.hid hlen
        clear hlen
        have HhFx := Lib.hid hFx
        clear hFx
        go_wp2_with fail
        go_region_held3 (fun w' => Below m.w.heap.size m.w w' ∧ w'.cell? ⟨w.heap.size, 0, none⟩ = some (.int .i64 rs.length) ∧ w'.cell? ⟨w.heap.size, 1, none⟩ = some (.slice ro rs.length rc) ∧ w'.cell? ⟨g0, k, none⟩ = some (.slice (some ⟨g1, 0, none⟩) 2 2) ∧ w'.cell? ⟨g1, 0, none⟩ = some (.int .i64 x) ∧ w'.cell? ⟨g1, 1, none⟩ = some (.int .i64 y))
          (exact hS _ (by first | exact (Below.refl _ _).drew | assumption))
          (first | (go_at_call 103; go_must (refine (HhN.out _ (And.left (by assumption : Below m.w.heap.size m.w _ ∧ _))).mono ?_); rintro e w4 ⟨aL, cL, xL, rfl, hB4, hOL, hVL, hFL⟩; have hB3 := And.left (by assumption : Below m.w.heap.size m.w _ ∧ _); have hB5 := below_more hB3 hB4))
        have hO4 := HhO.out.below hB5
        have hV4 := HhV.out.below hB5
        replace hOL : OwnV w4 m.w.heap.size (.slice aL xL.length cL) xL := hOL
        replace hFL : FreshV m.w.heap.size xL := hFL
        have hgL : ∀ gl, aL = some ⟨gl, 0, none⟩ → g0 ≠ gl := fun gl e => by
          have := hOL.own gl (by rw [e]; rfl)
          omega
        obtain ⟨m4, rfl⟩ : ∃ m4 : Later W1, m4.w = w4 := ⟨m.on hB5, rfl⟩
        have hl49 := nxV_len g x y
        have HCo := HhC
        have HLs : Hid (∀ q ds, (x, y) ∈ es ++ ds → Fs rs (a, b) (es ++ ds) → q ∈ nxV rs x y → q ∉ es ++ ds → Fs rs (a, b) ((es ++ ds) ++ [q])) := fun q ds h1 h2 h3 h4 => h2.push h1 h3 h4
        generalize hLd : nxV rs x y = L at *
        have HLn := Lib.hid hVL.1
        have HhFL := Lib.hid hFL
        clear hFL
        have HLd := Lib.hid hLd
        clear hLd hB3 hB4 hB5 hS HhN
        go_wp2_with fail
        go_loopw [7, 10] (fun o i wr => (∃ m5 : Later W1, wr = m5.w) ∧ ∃ t : Nat, i = .int .i64 t ∧ t ≤ xL.length ∧ ∃ (go cap : Nat) (xs2 : List Value) (ds : List (Nat × Nat)), o = .slice (some ⟨go, 0, none⟩) xs2.length cap ∧ OwnV wr W1.heap.size (.slice (some ⟨go, 0, none⟩) xs2.length cap) xs2 ∧ ValsOf wr xs2 (es ++ ds) ∧ Fs rs (a, b) (es ++ ds) ∧ (∀ j q, j < t → L[j]? = some q → q ∈ es ++ ds) ∧ OwnV wr m.w.heap.size (.slice aL xL.length cL) xL ∧ ValsOf wr xL L ∧ (∀ gl, aL = some ⟨gl, 0, none⟩ → go ≠ gl) ∧ xs2[0]? = some (.slice (some ⟨gs, 0, none⟩) 2 2) ∧ FreshV w.heap.size xs2) (fun _ i _ => xL.length - (intOf i).toNat)
        case atStart => exact ⟨⟨m4, rfl⟩, 0, rfl, by omega, g0, cap, xs, [], rfl, hO4, by rw [List.append_nil]; exact hV4, by rw [List.append_nil]; exact HhF.out, fun j q h => by omega, hOL, hVL, hgL, hx0, HhFx.out⟩
        case round =>
          clear hO4 hV4 hOL hVL hgL
          obtain ⟨⟨m4, rfl⟩, t, rfl, ht, go, cap, xs2, ds, rfl, hO, hV, hF, hC, hOL, hVL, hgL, hx2, hFx2⟩ := hrel
          have HhFx2 := Lib.hid hFx2
          clear hFx2
          have h49 := hF.len g
          have hn2 := hV.1
          have Hhn2 := Lib.hid hn2
          clear hn2
          by_cases hlt2 : t < xL.length
          · have htb : t < 50 := by have := HLn.out; omega
            have htL : t < L.length := by have := HLn.out; omega
            obtain ⟨gl, rfl, hgl0, hgl, hcL⟩ := hOL.cells (by omega)
            have hLt : L[t]? = some L[t] := List.getElem?_eq_getElem (by have := HLn.out; omega)
            obtain ⟨gq, hq1, hqh⟩ := hVL.2 t _ hLt
            have hgqF : w.heap.size ≤ gq := by
              obtain ⟨g9, n9, c9, h9, e9⟩ := HhFL.out _ (List.mem_of_getElem? hq1)
              simp only [Value.slice.injEq, Option.some.injEq, Addr.mk.injEq] at e9
              omega
            have hLm : L[t] ∈ L := List.getElem_mem _
            have HLt := Lib.hid hLt
            clear hLt
            generalize L[t] = q at *
            obtain ⟨u, v⟩ := q
            dsimp only at hqh
            have kq : Blk m4.w gq #[.int .i64 u, .int .i64 v] 3 := hqh
            have q0 := kq.cell 0
            have q1 := kq.cell 1
            simp at q0 q1
            have hgq := kq.lt
            have hcLt := hcL t _ hq1
            have hFd := fun nn => specFind_any (es ++ ds) u v xs2 (some ⟨go, 0, none⟩) W1.heap.size cap (m4.w.drewN nn) hO hV (by have := Hhn2.out; omega)
            have HM := Lib.hid (fdV_neg (es := es ++ ds) (p := (u, v)))
            generalize fdV (es ++ ds) (u, v) = D at *
            obtain ⟨gg, egg, -, hgo, -⟩ := hO.cells (by have := (List.getElem?_eq_some_iff.1 hx2).1; omega)
            simp only [Option.some.injEq, Addr.mk.injEq] at egg
            obtain ⟨rfl, -, -⟩ := egg
            clear hcL
            have HhO := Lib.hid hO
            clear hO
            have HhV := Lib.hid hV
            clear hV
            have HhF := Lib.hid hF
            clear hF
            have HhC := Lib.hid hC
            clear hC
            have HhOL := Lib.hid hOL
            clear hOL
            have HhVL := Lib.hid hVL
            clear hVL
            have HhgL := Lib.hid hgL
            clear hgL
            have HhFd := Lib.hid hFd
            clear hFd
            have Hkq := Lib.hid kq
            clear kq
            have Hhx2 := Lib.hid hx2
            clear hx2
            go_upto_region 11 with fail
            go_quiet ((go_at_call 82; exact Calls.quiet_of_same ((HhFd.out _).mono fun _ _ h => ⟨h.1, h.2.symm⟩)))
            have hB5 : Below m4.w.heap.size m4.w (m4.w.drewN nq) := ⟨rfl, rfl, rfl, Nat.le_refl _, fun _ _ => rfl⟩
            obtain ⟨m5, hm5⟩ : ∃ m5 : Later W1, m5.w = m4.w.drewN nq := ⟨m4.on hB5, rfl⟩
            rw [← hm5] at hB5 ⊢
            have hO := HhO.out.below hB5
            have hV := HhV.out.below hB5
            have hOL := HhOL.out.below hB5
            have hVL := HhVL.out.below hB5
            have hq5 := Hkq.out.below hB5 hgq
            replace hcLt := (hB5.cell hgl).trans hcLt
            have hgl5 := Nat.lt_of_lt_of_le hgl hB5.size
            have h5s := m5.size
            have hx49 : xs2.length ≤ 1048576 := by have := Hhn2.out; omega
            clear hm5 hB5 HhO HhV HhOL HhVL HhFd q0 q1
            by_cases hD : D < 0
            · have d1 : decide (D < 0) = true := decide_eq_true hD
              have HNm := Lib.hid (HM.out.1 hD)
              have HhV := Lib.hid hV
              clear hV
              have HhVL := Lib.hid hVL
              clear hVL
              have HhOL := Lib.hid hOL
              clear hOL
              go_wp2_with (at_builtin; go_must (refine wpList_append_row rfl _ _ rfl W1.heap.size (.slice (some ⟨go, 0, none⟩) xs2.length cap) xs2 (.slice (some ⟨gq, 0, none⟩) 2 2) rfl rfl hO (by show Value.slice _ _ _ = _; simp) h5s hx49 ?_); intro ao1 cap1 w1 hown1 hB1 hG1)
              obtain ⟨g9, rfl, -, -, -⟩ := hown1.cells (by simp)
              have hne9 : g9 ≠ gl := own_ne (HhOL.out.alloc _) HhFL.out (by omega) Hhx2.out hgs hG1 (fun e => HhgL.out gl rfl (Option.some.inj e)) hown1
              have hA : Below m5.w.heap.size m5.w (m5.w.alloc (.cells #[.slice (some ⟨gq, 0, none⟩) 2 2] 24)) := (Below.refl _ _).alloc (Nat.le_refl _) _
              have hV9 := ((HhV.out.below hA).push (hq5.below hA hq5.lt)).grown (hO.alloc _) hG1
              have hVL9 := (HhVL.out.below hA).grown (hO.alloc _) hG1
              have hOL9 := (HhOL.out.alloc _).grownNe hG1 (fun e => HhgL.out gl rfl (Option.some.inj e))
              go_roundw
              case rel =>
                refine ⟨⟨⟨w1, m5.below.trans hB1⟩, rfl⟩, t + 1, by go_num, by omega, g9, cap1, xs2 ++ [_], ds ++ [(u, v)], by rw [List.length_append]; rfl, by rw [List.length_append]; exact hown1, by rw [← List.append_assoc]; exact hV9, by rw [← List.append_assoc]; exact HLs.out _ _ (List.mem_append_left _ hpm) HhF.out hLm HNm.out, fun j q' hj hq' => ?_, hOL9, hVL9, fun gl' e => by cases e; exact hne9, by rw [List.getElem?_append_left (List.getElem?_eq_some_iff.1 Hhx2.out).1]; exact Hhx2.out, HhFx2.out.push hgqF⟩
                rw [← List.append_assoc]
                by_cases e : j = t
                · subst e
                  rw [HLt.out] at hq'
                  cases hq'
                  exact List.mem_append_right _ (List.mem_singleton.2 rfl)
                · exact List.mem_append_left _ (HhC.out j q' (by omega) hq')
              case measure => simp [intOf]; omega
            · have d1 : decide (D < 0) = false := decide_eq_false hD
              have hmem : (u, v) ∈ es ++ ds := Classical.byContradiction fun h => hD (HM.out.2 h)
              have HhO := Lib.hid hO
              clear hO
              have HhV := Lib.hid hV
              clear hV
              have HhVL := Lib.hid hVL
              clear hVL
              have HhOL := Lib.hid hOL
              clear hOL
              go_wp2_with fail
              go_roundw
              case rel =>
                refine ⟨⟨m5, rfl⟩, t + 1, by go_num, by omega, go, cap, xs2, ds, rfl, HhO.out, HhV.out, HhF.out, fun j q' hj hq' => ?_, HhOL.out, HhVL.out, fun gl' e => HhgL.out gl' e, Hhx2.out, HhFx2.out⟩
                by_cases e : j = t
                · subst e
                  rw [HLt.out] at hq'
                  cases hq'
                  exact hmem
                · exact HhC.out j q' (by omega) hq'
              case measure => simp [intOf]; omega
          · obtain rfl : t = xL.length := by omega
            have HCi := Lib.hid hC
            have HhO := Lib.hid hO
            clear hO
            have HhV := Lib.hid hV
            clear hV
            have HhF := Lib.hid hF
            clear hF
            have HhOL := Lib.hid hOL
            clear hOL
            have HhVL := Lib.hid hVL
            clear hVL
            have HhgL := Lib.hid hgL
            clear hgL
            have Hhx2 := Lib.hid hx2
            clear hx2
            clear hC
            go_wp2_with fail
            go_roundw
            case rel =>
              have hkl : k < es.length := by have := Hhlen.out; omega
              refine ⟨⟨m4, rfl⟩, k + 1, by go_num, _, cap, xs2, es ++ ds, rfl, HhO.out, HhV.out, HhF.out, by rw [List.length_append]; omega, fun j p' hj hp' q hq => ?_, HhFx2.out⟩
              rw [List.getElem?_append_left (by omega)] at hp'
              by_cases e : j = k
              · subst e
                rw [HEk.out] at hp'
                cases hp'
                dsimp only at hq
                rw [HLd.out] at hq
                obtain ⟨i, hi, e2⟩ := List.mem_iff_getElem.1 hq
                exact HCi.out i q (by have := HLn.out; omega) (by rw [List.getElem?_eq_getElem hi, e2])
              · exact List.mem_append_left _ (HCo.out j p' (by omega) hp' q hq)
            case measure => simp [intOf]; omega
      · obtain rfl : k = es.length := by omega
        have HhO := Lib.hid hO
        clear hO
        have HhV := Lib.hid hV
        clear hV
        have HhF := Lib.hid hF
        clear hF
        have HhC := Lib.hid hC
        clear hC
        have HhFx := Lib.hid hFx
        clear hFx
        go_wp2_with fail
        go_ret
        exact ⟨es, .inr ⟨HV.out, HhF.out, fun p hp q hq => by
          obtain ⟨j, hj, e⟩ := List.mem_iff_getElem.1 hp
          exact HhC.out j p hj (by rw [List.getElem?_eq_getElem hj, e]) q hq⟩, ao, cap, xs, rfl, below_later HhB.out m, HhO.out.mono (Nat.le_of_lt hb0), HhV.out, HhFx.out⟩

end Go.Proofs.YtfkehmpckhmkbaaGreat
