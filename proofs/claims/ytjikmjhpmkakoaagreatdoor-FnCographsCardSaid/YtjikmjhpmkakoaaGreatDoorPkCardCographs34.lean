/-
  l17Read of the reference: its mirror is rdS. For texts of at most 60 bytes.
-/
import Derived.Test.YtjikmjhpmkakoaaGreatDoorPkCardCographs33
namespace Go.Proofs.YtjikmjhpmkakoaaGreatDoor
open Go.RowKit

theorem row_ne {w : World} {g c b : Nat} {xs : List Int} {cs : Array Value} (h : RowAt w g c xs) (k : Blk w b cs 26) : ¬g = b := fun e => by
  subst e
  obtain ⟨cur, hb, -⟩ := h
  have h2 := Eq.symm hb |>.trans k
  simp at h2
theorem u8_beq {c : UInt8} {k : Nat} (h : c ≠ UInt8.ofNat k) (hk : k < 256) : ((c.toNat : Int) == (k : Int)) = false := by
  have := u8_bne h hk
  rw [bne_iff_ne] at this
  rwa [beq_eq_false_iff_ne]
/-- What the recursive call is known to do. -/
def ReadH (L : List UInt8) (N K : Nat) : Prop := ∀ (F p : Nat) (rs : List Int) (gb cap : Nat) (w : World), F ≤ K → VG rs → rs.length = N → p ≤ L.length → L.length - p + 1 ≤ F → RowAt w gb cap rs →
    Calls Tryz.prog 97 #[.string (bs L), .int .i64 p, .agg #[.int .i64 N, .slice (some ⟨gb, 0, none⟩) N cap]] w (RetRd (rdS L F none rs p) w)

set_option maxRecDepth 100000 in
set_option maxHeartbeats 4000000 in
theorem specRead_open (L : List UInt8) (hL : L.length ≤ 60) (N K F p : Nat) (rs : List Int) (gb cap : Nat) (w : World) (ih : ReadH L N K) (hF : F ≤ K) (g : VG rs) (hN : rs.length = N) (hfu : L.length - p ≤ F) (hR : RowAt w gb cap rs) (hp1 : p + 1 < L.length) (h40 : L.getD p 0 = 40) (hs : L.getD (p + 1) 0 = 43 ∨ L.getD (p + 1) 0 = 42) :
    Calls Tryz.prog 97 #[.string (bs L), .int .i64 p, .agg #[.int .i64 N, .slice (some ⟨gb, 0, none⟩) N cap]] w (RetRd (rdS L (F + 1) none rs p) w) := by
  have hz := bs_size L
  have hps : p < (bs L).size := by omega
  have hps2 : p + 1 < (bs L).size := by omega
  have hgp := bs_get L p hps
  have hgp2 := bs_get L (p + 1) hps2
  replace ih := Lib.hid ih
  have HOp := Lib.hid (rdS_open (L := L) (F := F) (rs := rs) (p := p) (by omega) (by rw [h40]; decide) (by rw [h40]; rintro (h | h | h); exact h rfl; omega; rcases hs with e | e; exact h.1 e; exact h.2 e))
  generalize rdS L (F + 1) none rs p = R at *
  rw [hgp] at h40
  have d3 : ((((bs L)[p]'hps).toNat : Int) != 40) = false := by rw [h40]; decide
  have d1 : decide (48 ≤ (((bs L)[p]'hps).toNat : Int)) = false := by rw [h40]; decide
  have d0 : decide ((L.length : Int) ≤ (p : Int)) = false := decide_eq_false (by omega)
  have d4 : decide ((L.length : Int) ≤ (p : Int) + 1) = false := decide_eq_false (by omega)
  have hwp : IntKind.i64.wrap ((p : Int) + 1) = (p : Int) + 1 := IntKind_i64_in _ (by omega) (by omega)
  have hwp2 : IntKind.i64.wrap ((p : Int) + 2) = (p : Int) + 2 := IntKind_i64_in _ (by omega) (by omega)
  go_enter Tryz.func97, Tryz.ntmps97
  go_upto_region 1 with fail
  generalize hW : World.alloc _ _ = W1
  obtain ⟨hB, hs1, k0, k1⟩ := alloc2 hW
  have hR1 := hR.below hB
  have hgb0 := hR.lt
  have hgb1 : ¬gb = w.heap.size + 1 := by omega
  have hgb2 : gb ≠ w.heap.size := by omega
  have xl := k0.lt
  have yl := k1.lt
  clear hW hR
  have Hk0 := Lib.hid k0
  clear k0
  have Hk1 := Lib.hid k1
  clear k1
  have HhR1 := Lib.hid hR1
  clear hR1
  have HhB := Lib.hid hB
  clear hB
  go_upto_region 5 with fail
  have e3 : ((((bs L)[p + 1]'hps2).toNat : Int) == 42) = decide (L.getD (p + 1) 0 = 42) := by
    rw [hgp2]
    rcases hs with hs | hs <;> (rw [hgp2] at hs; rw [hs]; decide)
  generalize decide (L.getD (p + 1) 0 = 42) = join at *
  go_cut [63] from 16 to 63 (fun v wx => v = .bool false ∧ wx = W1)
  case first =>
    rcases hs with hs | hs
    · rw [hgp2] at hs
      have e1 : ((((bs L)[p + 1]'hps2).toNat : Int) != 43) = false := by rw [hs]; decide
      clear e3
      go_wp2_with fail
      go_meet
      case rel => exact ⟨rfl, rfl⟩
    · rw [hgp2] at hs
      have e1 : ((((bs L)[p + 1]'hps2).toNat : Int) != 43) = true := by rw [hs]; decide
      have e2 : ((((bs L)[p + 1]'hps2).toNat : Int) != 42) = false := by rw [hs]; decide
      clear e3
      go_wp2_with fail
      go_meet
      case rel => exact ⟨rfl, rfl⟩
  case rest =>
    obtain ⟨rfl, rfl⟩ := hcut
    clear d1 d3 d4 h40 hs hgp hgp2
    have HL0 : L.length - (p + 2) + 1 ≤ F := by omega
    have hR0 := HhR1.out
    have kb0 := Hk0.out
    have hpq : p + 2 ≤ L.length := by omega
    clear d0 hwp hps xl yl hgb0 hgb1 hgb2 HhR1 Hk0
    go_upto_region 10 with fail
    clear hwp2
    go_loopw [1, 10] (fun a o wr => ∃ (q out G : Nat) (rt : List Int) (gt ct : Nat), a = .int .i64 (q : Int) ∧ o = .int .i64 (out : Int) ∧ q ≤ L.length ∧ out < 128 ∧ L.length - q + 1 ≤ G ∧ G ≤ F ∧ rdS L G (some (join, out)) rt q = R ∧ VG rt ∧ rt.length = N ∧ Only (fun b => b = w.heap.size) wc.heap.size wc wr ∧ Blk wr w.heap.size #[.int .i64 N, .slice (some ⟨gt, 0, none⟩) N ct] 26 ∧ RowAt wr gt ct rt) (fun a _ _ => L.length - (intOf a).toNat)
    case atStart => exact ⟨p + 2, 0, F, rs, gb, cap, by go_num, rfl, hpq, by omega, HL0, Nat.le_refl _, HOp.out.symm, g, hN, Only.refl _ _ _, kb0, hR0⟩
    case round =>
      clear hR0 kb0 HOp HL0 hfu hp1 hpq
      obtain ⟨q, out, G, rt, gt, ct, rfl, rfl, hq, hout, hG, hGF, hRt, gR, hNt, hO, kb, hRw⟩ := hrel
      obtain ⟨G, rfl⟩ : ∃ k, G = k + 1 := ⟨G - 1, by omega⟩
      have x0 := kb.cell 0
      have x1 := kb.cell 1
      have xl := kb.lt
      simp at x0 x1
      have kc := hO.blk Hk1.out Hk1.out.lt (fun e => by have e2 : w.heap.size + 1 = w.heap.size := e; omega)
      have y0 := kc.cell 0
      have y1 := kc.cell 1
      have y2 := kc.frozen 0
      have y3 := kc.frozen 1
      have yl := kc.lt
      simp at y0 y1
      have hst := (kc.store 0 (.int .i64 N)).store 1 (.slice (some ⟨gt, 0, none⟩) N ct)
      have z0 := hst.cell 0
      have z1 := hst.cell 1
      simp at z0 z1
      have HE := Lib.hid (HhB.out.trans (hO.below HhB.out.size fun b hb e => by have e2 : b = w.heap.size := e; omega))
      have hx41 := rdS_close (F := G) (rs := rt) (p := q) (out := out) (join := join) (L := L)
      have hxno := rdS_open_end (F := G) (rs := rt) (p := q) (out := out) (join := join) (L := L)
      rw [hRt] at hx41 hxno
      by_cases hqL : q < L.length
      · have hqs : q < (bs L).size := by omega
        have hgq := bs_get L q hqs
        have e0 : decide ((q : Int) < (L.length : Int)) = true := decide_eq_true (by omega)
        have e9 : decide ((L.length : Int) ≤ (q : Int)) = false := decide_eq_false (by omega)
        by_cases h32 : L.getD q 0 = 32
        · have e4 : ((((bs L)[q]'hqs).toNat : Int) == 32) = true := by rw [← hgq, h32]; decide
          have hwq : IntKind.i64.wrap ((q : Int) + 1) = (q : Int) + 1 := IntKind_i64_in _ (by omega) (by omega)
          have hRec : Calls Tryz.prog 97 #[.string (bs L), .int .i64 ((q : Int) + 1), .agg #[.int .i64 N, .slice (some ⟨gt, 0, none⟩) N ct]] wr (RetRd (rdS L G none rt (q + 1)) wr) := ih.out G (q + 1) rt gt ct wr (by omega) gR hNt (by omega) (by omega) hRw
          have hok := rdS_ok L G none rt (q + 1) gR (by omega) (fun x e => by cases e)
          have hsub := rdS_sub (join := join) (out := out) (F := G) (rs := rt) ⟨hqL, h32⟩
          have hcl := fun (rs2 : List Int) (part p2 : Nat) => rdS_clash (join := join) (out := out) (F := G) (rs := rt) (rs2 := rs2) (part := part) (p2 := p2) ⟨hqL, h32⟩
          have hgo := fun (rs2 : List Int) (part p2 : Nat) => rdS_go (join := join) (out := out) (F := G) (rs := rt) (rs2 := rs2) (part := part) (p2 := p2) ⟨hqL, h32⟩
          rw [hRt] at hsub
          simp only [hRt] at hcl hgo
          generalize rdS L G none rt (q + 1) = R2 at *
          clear hx41 hxno hst z0 z1 hRt h32 hgq hRw
          have Hkb := Lib.hid kb
          clear kb
          have Hkc := Lib.hid kc
          clear kc
          have HhO := Lib.hid hO
          clear hO
          cases R2 with
          | none =>
            have hR := hsub rfl
            subst hR
            clear hsub hcl hgo hok
            go_wp2_with fail
            refine hRec.mono ?_
            rintro e w5 ⟨hB5, N5, ao5, k5, c5, rfl⟩
            clear hRec x0 x1 xl y0 y1 y2 y3 yl
            go_upto_region 12 with fail
            generalize hW6 : World.alloc _ _ = W6
            obtain ⟨hB6, hs6, k6⟩ := alloc1 hW6
            have hBx := below_more hB5 hB6
            have kb6 := Hkb.out.below hBx Hkb.out.lt
            have kc6 := Hkc.out.below hBx Hkc.out.lt
            have HE6 := Lib.hid (HE.out.trans (hBx.mono HE.out.size))
            have x0 := kb6.cell 0
            have x1 := kb6.cell 1
            have xl := kb6.lt
            have y0 := kc6.cell 0
            have y1 := kc6.cell 1
            have y2 := kc6.frozen 0
            have y3 := kc6.frozen 1
            have yl := kc6.lt
            simp at x0 x1 y0 y1
            have hst := (kc6.store 0 (.int .i64 N)).store 1 (.slice (some ⟨gt, 0, none⟩) N ct)
            have z0 := hst.cell 0
            have z1 := hst.cell 1
            simp at z0 z1
            generalize w5.heap.size = hb at *
            clear hW6 hB5 hB6 hs6 k6 hBx kb6 kc6 hst Hkb Hkc HhO
            go_wp2_with fail
            refine bodyPost_ret (v := .tuple #[.agg #[.int .i64 N, .slice (some ⟨gt, 0, none⟩) N ct], .int .i64 0, .int .i64 (-1)]) (by simp [results, Tryz.results97, go_sem, z0, z1]) rfl ?_
            exact ⟨(HE6.out.setCell (by simp) _).setCell (by simp) _, _, _, _, _, rfl⟩
          | some v =>
            obtain ⟨rs2, part, p2⟩ := v
            obtain ⟨g2, hN2, hpt, hp2, hp2L⟩ := hok _ _ _ rfl
            rw [hNt] at hN2
            clear hsub hok
            replace hcl := hcl rs2 part p2 rfl
            replace hgo := hgo rs2 part p2 rfl
            have hand : bits .and .i64 (part : Int) (out : Int) = ((part &&& out : Nat) : Int) := bits_and_nat _ _ (by omega) (by omega)
            have hneg : decide ((p2 : Int) < 0) = false := decide_eq_false (by omega)
            go_wp2_with fail
            refine hRec.mono ?_
            rintro e w5 ⟨hB5, gq, cq, rfl, hR5⟩
            rw [hN2]
            clear hRec x0 x1 xl y0 y1 y2 y3 yl
            go_upto_region 12 with fail
            generalize hW6 : World.alloc _ _ = W6
            obtain ⟨hB6, hs6, k6⟩ := alloc1 hW6
            have hBx := below_more hB5 hB6
            have kb6 := Hkb.out.below hBx Hkb.out.lt
            have kc6 := Hkc.out.below hBx Hkc.out.lt
            have HE6 := Lib.hid (HE.out.trans (hBx.mono HE.out.size))
            have hO6 := HhO.out.more hBx HhO.out.size
            have hR6 := hR5.below hB6
            have x0 := kb6.cell 0
            have x1 := kb6.cell 1
            have x2 := kb6.frozen 0
            have x3 := kb6.frozen 1
            have xl := kb6.lt
            have y0 := kc6.cell 0
            have y1 := kc6.cell 1
            have y2 := kc6.frozen 0
            have y3 := kc6.frozen 1
            have yl := kc6.lt
            have v0 := k6.cell 0
            have v1 := k6.cell 1
            have vl := k6.lt
            simp at x0 x1 y0 y1 v0 v1
            generalize w5.heap.size = hb at *
            clear hW6 hB5 hB6 hs6 k6 hBx Hkb Hkc HhO hR5
            by_cases hdis : part &&& out = 0
            · have hgo := hgo hdis
              have e5 : (((part &&& out : Nat) : Int) != 0) = false := by rw [hdis]; decide
              have hor := bits_or_nat out part (by omega) (by omega)
              clear hcl
              have kb7 : Blk ((W6.setCell ⟨w.heap.size, 0, none⟩ (.int .i64 N)).setCell ⟨w.heap.size, 1, none⟩ (.slice (some ⟨gq, 0, none⟩) N cq)) w.heap.size #[.int .i64 N, .slice (some ⟨gq, 0, none⟩) N cq] 26 := by
                have := (kb6.store 0 (.int .i64 N)).store 1 (.slice (some ⟨gq, 0, none⟩) N cq)
                simpa using this
              have hO7 := (hO6.setCell (p := ⟨w.heap.size, 0, none⟩) (.inl rfl) (.int .i64 N)).setCell (p := ⟨w.heap.size, 1, none⟩) (.inl rfl) (.slice (some ⟨gq, 0, none⟩) N cq)
              have hR7 := hR6.onlyP2 (((Only.refl (fun b => b = w.heap.size) _ _).setCell (p := ⟨w.heap.size, 0, none⟩) (.inl rfl) (.int .i64 N)).setCell (p := ⟨w.heap.size, 1, none⟩) (.inl rfl) (.slice (some ⟨gq, 0, none⟩) N cq)) (row_ne hR6 kb6)
              have Hkb7 := Lib.hid kb7
              clear kb7
              have HhO7 := Lib.hid hO7
              clear hO7
              have HhR7 := Lib.hid hR7
              clear hR7
              have Hkb6 := Lib.hid kb6
              clear kb6
              have Hkc6 := Lib.hid kc6
              clear kc6
              have HhO6 := Lib.hid hO6
              clear hO6
              have HhR6 := Lib.hid hR6
              clear hR6
              go_upto_region 16 with fail
              generalize World.setCell _ _ _ = W7 at *
              clear x0 x1 x2 x3 xl y0 y1 y2 y3 yl v0 v1 vl e5 Hkb6 Hkc6 HhO6 HhR6 HE6 hand hneg e4 e0 e9 hwq
              cases join
              · have x0 := Hkb7.out.cell 0
                have xl := Hkb7.out.lt
                simp at x0
                have hN1 : decide (0 < N) = true := decide_eq_true (by have := g2.pos; omega)
                go_loopw [14] (fun v wr => v = .int .i64 0 ∧ wr = W7) (fun _ _ => 0)
                case atStart => exact ⟨rfl, rfl⟩
                case round =>
                  obtain ⟨rfl, rfl⟩ := hrel
                  go_wp2_with fail
                  go_roundw
                  case rel => exact ⟨p2, out ||| part, G, rs2, gq, cq, rfl, by first | rfl | rw [hor], hp2L, or_128 hout hpt, by omega, by omega, hgo.symm, g2, hN2, HhO7.out, Hkb7.out, HhR7.out⟩
                  case measure => simp [intOf]; omega
              · have hN7 := g2.le
                rw [hN2] at hN7
                have HJ0 : Hid (jnTo rs2 out part 0 0 = rs2) := Lib.hid (jnTo_zero g2 out part)
                go_loopw [14] (fun v wr => ∃ (k gk ck : Nat), v = .int .i64 (k : Int) ∧ k ≤ N ∧ Only (fun b => b = w.heap.size) wc.heap.size wc wr ∧ Blk wr w.heap.size #[.int .i64 N, .slice (some ⟨gk, 0, none⟩) N ck] 26 ∧ RowAt wr gk ck (jnTo rs2 out part k 0)) (fun v _ => N - (intOf v).toNat)
                case atStart => exact ⟨0, gq, cq, rfl, by omega, HhO7.out, Hkb7.out, by rw [HJ0.out]; exact HhR7.out⟩
                case round =>
                  clear HhO7 Hkb7 HhR7 HJ0
                  obtain ⟨k, gk, ck, rfl, hk, hO8, kb8, hR8⟩ := hrel
                  have x0 := kb8.cell 0
                  have x1 := kb8.cell 1
                  have xl := kb8.lt
                  simp at x0 x1
                  by_cases hkN : k < N
                  · have gk0 := jnTo_VG g2 hdis k
                    have hrow : jnTo rs2 out part k N = jnTo rs2 out part (k + 1) 0 := by rw [← hN2]; exact jnTo_row rs2 out part k
                    have Hhrow := Lib.hid hrow
                    clear hrow
                    clear x1
                    go_upto_region 19 with fail
                    go_loopw [15] (fun v wr => ∃ (j gk ck : Nat), v = .int .i64 (j : Int) ∧ j ≤ N ∧ Only (fun b => b = w.heap.size) wc.heap.size wc wr ∧ Blk wr w.heap.size #[.int .i64 N, .slice (some ⟨gk, 0, none⟩) N ck] 26 ∧ RowAt wr gk ck (jnTo rs2 out part k j)) (fun v _ => N - (intOf v).toNat)
                    case atStart => exact ⟨0, gk, ck, rfl, by omega, hO8, kb8, hR8⟩
                    case round =>
                      clear hO8 kb8 hR8 x0 xl
                      obtain ⟨j, gk, ck, rfl, hj, hO8, kb8, hR8⟩ := hrel
                      have x0 := kb8.cell 0
                      have x1 := kb8.cell 1
                      have x2 := kb8.frozen 0
                      have x3 := kb8.frozen 1
                      have xl := kb8.lt
                      simp at x0 x1
                      by_cases hjN : j < N
                      · have hA : hasN (out : Int) k = out.testBit k := hasN_nat _ _
                        have hB : hasN (part : Int) j = part.testBit j := hasN_nat _ _
                        have hadd := jnTo_add (rs := rs2) (out := out) (part := part) (k := k) (j := j)
                        have hnoj := jnTo_no (rs := rs2) (out := out) (part := part) (k := k) (j := j)
                        by_cases hAB : (out.testBit k && part.testBit j) = true
                        · have hJ := Lib.hid (hadd hAB)
                          rw [Bool.and_eq_true] at hAB
                          have hne : k ≠ j := fun e => by
                            subst e
                            have h2 : (part &&& out).testBit k = false := by rw [hdis]; simp
                            rw [Nat.testBit_and, hAB.1, hAB.2] at h2
                            cases h2
                          rw [hAB.1] at hA
                          rw [hAB.2] at hB
                          have hcall := specAddE2_any (jnTo rs2 out part k j) k j gk ck N wr ((jnTo_len _ _ _ _ _).trans hN2) hR8 (gk0 j) hkN hjN hne
                          clear hadd hnoj hAB
                          have HhO8 := Lib.hid hO8
                          clear hO8
                          have Hkb8 := Lib.hid kb8
                          clear kb8
                          have HhR8 := Lib.hid hR8
                          clear hR8
                          go_wp2_with fail
                          refine hcall.mono ?_
                          rintro e w9 ⟨g9, c9, ok9, rfl, hB9, -, hR9⟩
                          have kb9 := Hkb8.out.below hB9 Hkb8.out.lt
                          have hO9 := HhO8.out.more hB9 HhO8.out.size
                          have kbA : Blk ((w9.setCell ⟨w.heap.size, 0, none⟩ (.int .i64 N)).setCell ⟨w.heap.size, 1, none⟩ (.slice (some ⟨g9, 0, none⟩) N c9)) w.heap.size #[.int .i64 N, .slice (some ⟨g9, 0, none⟩) N c9] 26 := by
                            have := (kb9.store 0 (.int .i64 N)).store 1 (.slice (some ⟨g9, 0, none⟩) N c9)
                            simpa using this
                          have hOA := (hO9.setCell (p := ⟨w.heap.size, 0, none⟩) (.inl rfl) (.int .i64 N)).setCell (p := ⟨w.heap.size, 1, none⟩) (.inl rfl) (.slice (some ⟨g9, 0, none⟩) N c9)
                          have hRA := hR9.onlyP2 (((Only.refl (fun b => b = w.heap.size) _ _).setCell (p := ⟨w.heap.size, 0, none⟩) (.inl rfl) (.int .i64 N)).setCell (p := ⟨w.heap.size, 1, none⟩) (.inl rfl) (.slice (some ⟨g9, 0, none⟩) N c9)) (row_ne hR9 kb9)
                          have x0 := kb9.cell 0
                          have x1 := kb9.cell 1
                          have x2 := kb9.frozen 0
                          have x3 := kb9.frozen 1
                          have xl := kb9.lt
                          simp at x0 x1
                          clear hcall hB9 HhO8 Hkb8 HhR8
                          have HkbA := Lib.hid kbA
                          clear kbA
                          have HhOA := Lib.hid hOA
                          clear hOA
                          have HhRA := Lib.hid hRA
                          clear hRA
                          have Hkb9 := Lib.hid kb9
                          clear kb9
                          have HhO9 := Lib.hid hO9
                          clear hO9
                          have HhR9 := Lib.hid hR9
                          clear hR9
                          go_upto_region 20 with fail
                          generalize World.setCell _ _ _ = WA at *
                          clear x0 x1 x2 x3 xl Hkb9 HhO9 HhR9
                          go_wp2_with fail
                          go_roundw
                          case rel => exact ⟨j + 1, g9, c9, by go_num, by omega, HhOA.out, HkbA.out, by rw [← hJ.out]; exact HhRA.out⟩
                          case measure => simp [intOf]; omega
                        · have hJ := Lib.hid (hnoj (by simpa using hAB))
                          clear hadd hnoj
                          have hAB2 : out.testBit k = false ∨ part.testBit j = false := by
                            cases h1 : out.testBit k <;> cases h2 : part.testBit j <;> simp_all
                          clear hAB
                          have HhO8 := Lib.hid hO8
                          clear hO8
                          have Hkb8 := Lib.hid kb8
                          clear kb8
                          have HhR8 := Lib.hid hR8
                          clear hR8
                          generalize out.testBit k = A at *
                          generalize part.testBit j = B at *
                          cases A
                          · clear hAB2
                            go_wp2_with fail
                            go_roundw
                            case rel => exact ⟨j + 1, gk, ck, by go_num, by omega, HhO8.out, Hkb8.out, by rw [← hJ.out]; exact HhR8.out⟩
                            case measure => simp [intOf]; omega
                          · obtain rfl : B = false := by simpa using hAB2
                            go_wp2_with fail
                            go_roundw
                            case rel => exact ⟨j + 1, gk, ck, by go_num, by omega, HhO8.out, Hkb8.out, by rw [← hJ.out]; exact HhR8.out⟩
                            case measure => simp [intOf]; omega
                      · obtain rfl : j = N := by omega
                        rw [Hhrow.out] at hR8
                        clear Hhrow
                        have HhO8 := Lib.hid hO8
                        clear hO8
                        have Hkb8 := Lib.hid kb8
                        clear kb8
                        have HhR8 := Lib.hid hR8
                        clear hR8
                        go_wp2_with fail
                        go_roundw
                        case rel => exact ⟨k + 1, gk, ck, by go_num, by omega, HhO8.out, Hkb8.out, HhR8.out⟩
                        case measure => simp [intOf]; omega
                  · obtain rfl : k = N := by omega
                    have hR9 := hR8
                    rw [show jnTo rs2 out part k 0 = rdJoinS true out part rs2 by rw [← hN2]; exact jnTo_full rs2 out part] at hR9
                    have gJ := rdJoinS_VG g2 hdis true
                    have hNJ := (rdJoinS_len true out part rs2).trans hN2
                    have HhO8 := Lib.hid hO8
                    clear hO8
                    have Hkb8 := Lib.hid kb8
                    clear kb8
                    have HhR8 := Lib.hid hR8
                    clear hR8
                    have HhR9 := Lib.hid hR9
                    clear hR9
                    go_wp2_with fail
                    go_roundw
                    case rel => exact ⟨p2, out ||| part, G, rdJoinS true out part rs2, gk, ck, rfl, by first | rfl | rw [hor], hp2L, or_128 hout hpt, by omega, by omega, hgo.symm, gJ, hNJ, HhO8.out, Hkb8.out, HhR9.out⟩
                    case measure => simp [intOf]; omega
            · have hR := hcl hdis
              subst hR
              have e5 : (((part &&& out : Nat) : Int) != 0) = true := by rw [bne_iff_ne]; omega
              have hst := (kc6.store 0 (.int .i64 N)).store 1 (.slice (some ⟨gt, 0, none⟩) N ct)
              have z0 := hst.cell 0
              have z1 := hst.cell 1
              simp at z0 z1
              clear hst kb6 kc6 hO6 hR6 hcl hgo
              go_wp2_with fail
              refine bodyPost_ret (v := .tuple #[.agg #[.int .i64 N, .slice (some ⟨gt, 0, none⟩) N ct], .int .i64 0, .int .i64 (-1)]) (by simp [results, Tryz.results97, go_sem, z0, z1]) rfl ?_
              exact ⟨(HE6.out.setCell (by simp) _).setCell (by simp) _, _, _, _, _, rfl⟩
        · have e4 : ((((bs L)[q]'hqs).toNat : Int) == 32) = false := u8_beq (k := 32) (by rw [← hgq]; exact h32) (by decide)
          by_cases h41 : L.getD q 0 = 41
          · have hR := hx41 hqL h41
            subst hR
            have e5 : ((((bs L)[q]'hqs).toNat : Int) != 41) = false := by rw [← hgq, h41]; decide
            have hwq : IntKind.i64.wrap ((q : Int) + 1) = (q : Int) + 1 := IntKind_i64_in _ (by omega) (by omega)
            have hRs := hRw.onlyP2 (((Only.refl (fun b => b = w.heap.size + 1) _ _).setCell (p := ⟨w.heap.size + 1, 0, none⟩) (.inl rfl) (.int .i64 N)).setCell (p := ⟨w.heap.size + 1, 1, none⟩) (.inl rfl) (.slice (some ⟨gt, 0, none⟩) N ct)) (row_ne hRw kc)
            clear hx41 hxno hRt h32 h41 hgq
            have HhRs := Lib.hid hRs
            clear hRs
            have Hhst := Lib.hid hst
            clear hst
            have Hkb := Lib.hid kb
            clear kb
            have Hkc := Lib.hid kc
            clear kc
            have HhO := Lib.hid hO
            clear hO
            have HhRw := Lib.hid hRw
            clear hRw
            go_wp2_with fail
            refine bodyPost_ret (v := .tuple #[.agg #[.int .i64 N, .slice (some ⟨gt, 0, none⟩) N ct], .int .i64 (out : Int), .int .i64 ((q + 1 : Nat) : Int)]) (by simp [results, Tryz.results97, go_sem, z0, z1, hwq]) rfl ?_
            exact ⟨(HE.out.setCell (by simp) _).setCell (by simp) _, gt, ct, by rw [hNt], HhRs.out⟩
          · have hR := hxno (fun h => h32 h.2) (fun h => h41 h.2)
            subst hR
            have e5 : ((((bs L)[q]'hqs).toNat : Int) != 41) = true := u8_bne (k := 41) (by rw [← hgq]; exact h41) (by decide)
            clear hx41 hxno hRt h32 h41 hgq
            have Hhst := Lib.hid hst
            clear hst
            have Hkb := Lib.hid kb
            clear kb
            have Hkc := Lib.hid kc
            clear kc
            have HhO := Lib.hid hO
            clear hO
            have HhRw := Lib.hid hRw
            clear hRw
            go_wp2_with fail
            refine bodyPost_ret (v := .tuple #[.agg #[.int .i64 N, .slice (some ⟨gt, 0, none⟩) N ct], .int .i64 0, .int .i64 (-1)]) (by simp [results, Tryz.results97, go_sem, z0, z1]) rfl ?_
            exact ⟨(HE.out.setCell (by simp) _).setCell (by simp) _, _, _, _, _, rfl⟩
      · have hR := hxno (fun h => hqL h.1) (fun h => hqL h.1)
        subst hR
        have e0 : decide ((q : Int) < (L.length : Int)) = false := decide_eq_false (by omega)
        have e9 : decide ((L.length : Int) ≤ (q : Int)) = true := decide_eq_true (by omega)
        clear hx41 hxno hRt
        have Hhst := Lib.hid hst
        clear hst
        have Hkb := Lib.hid kb
        clear kb
        have Hkc := Lib.hid kc
        clear kc
        have HhO := Lib.hid hO
        clear hO
        have HhRw := Lib.hid hRw
        clear hRw
        go_wp2_with fail
        refine bodyPost_ret (v := .tuple #[.agg #[.int .i64 N, .slice (some ⟨gt, 0, none⟩) N ct], .int .i64 0, .int .i64 (-1)]) (by simp [results, Tryz.results97, go_sem, z0, z1]) rfl ?_
        exact ⟨(HE.out.setCell (by simp) _).setCell (by simp) _, _, _, _, _, rfl⟩

/-- l17Read is its mirror. -/
theorem specRead_any (L : List UInt8) (hL : L.length ≤ 60) (N : Nat) : ∀ K, ReadH L N K
  | 0 => fun F p rs gb cap w h1 _ _ _ h5 _ => by omega
  | K + 1 => fun F p rs gb cap w hF g hN hp hfu hR => by
    obtain ⟨F, rfl⟩ : ∃ k, F = k + 1 := ⟨F - 1, by omega⟩
    by_cases h : p + 1 < L.length ∧ L.getD p 0 = 40 ∧ (L.getD (p + 1) 0 = 43 ∨ L.getD (p + 1) 0 = 42)
    · exact specRead_open L hL N K F p rs gb cap w (specRead_any L hL N K) (by omega) g hN (by omega) hR h.1 h.2.1 h.2.2
    · exact specRead_leaf L hL N F p rs gb cap w g hN hp hR h

end Go.Proofs.YtjikmjhpmkakoaaGreatDoor
