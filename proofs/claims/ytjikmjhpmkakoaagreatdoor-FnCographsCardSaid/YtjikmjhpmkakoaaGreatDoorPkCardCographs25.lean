/-
  CographAnswers and LargestIndependent. For at most 2^20 rows.
-/
import Derived.Test.YtjikmjhpmkakoaaGreatDoorPkCardCographs24
import Derived.Test.YtjikmjhpmkakoaaGreatDoorPkCardCographs10
namespace Go.Proofs.YtjikmjhpmkakoaaGreatDoor
open Go.RowKit

theorem IsW.small {rs : List Int} {S k : Nat} (h : IsW rs S k) : k ≤ 7 := by
  obtain ⟨T, -, -, e⟩ := h.ex
  have := cnt_le T
  omega
/-- One part more. -/
theorem step_w {p q : List Int} (c : Co p q) {S : Nat} {ps : List Nat} (hS : S < 2 ^ p.length) (hP : Pts q S ps) {j : Nat} (hj : j < ps.length) :
    (∀ x x', IsW p (orLs (ps.take j)) x → IsW p (eln ps j) x' → IsW p (orLs (ps.take (j + 1))) (x + x')) ∧ (∀ y y', IsW q (orLs (ps.take j)) y → IsW q (eln ps j) y' → IsW q (orLs (ps.take (j + 1))) (max y y')) := by
  have h7 : S < 128 := by have := c.gf.pow.1; omega
  have hU := (hP.sub j).lt h7
  have hQ := (hP.at hj).1.lt h7
  rw [orLs_take hj]
  refine ⟨fun x x' h1 h2 => h1.sum c.gf hU hQ (fun a b ha hb => ?_) h2, fun y y' h1 h2 => h1.max hU hQ (hP.pre hj) h2⟩
  obtain ⟨hne, hn⟩ := hP.pre hj a b ha hb
  have ha2 := testBit_lt hS ((hP.sub j) a ha)
  have hb2 := testBit_lt hS ((hP.at hj).1 b hb)
  rw [c.opp a b ha2 hb2 hne] at hn
  exact ⟨hne, by simpa using hn⟩
/-- The two numbers of a set, in memory of their own. -/
def RetAw (f h : List Int) (S : Nat) (w : World) (e : Ending) (w' : World) : Prop :=
  ∃ (x y g cap : Nat), IsW f S x ∧ IsW h S y ∧ e = .returned (.slice (some ⟨g, 0, none⟩) 2 cap) ∧ Below w.heap.size w w' ∧ g < w'.heap.size ∧ w'.cell? ⟨g, 0, none⟩ = some (.int .i64 x) ∧ w'.cell? ⟨g, 1, none⟩ = some (.int .i64 y)
/-- Between two parts. -/
def RelAw (f h : List Int) (ps : List Nat) (W : World) (s i : Value) (wr : World) : Prop :=
  (∃ m : Later W, wr = m.w) ∧ ∃ (j x y g cap : Nat), j ≤ ps.length ∧ s = .slice (some ⟨g, 0, none⟩) 2 cap ∧ i = .int .i64 j ∧ g < wr.heap.size ∧ wr.cell? ⟨g, 0, none⟩ = some (.int .i64 x) ∧ wr.cell? ⟨g, 1, none⟩ = some (.int .i64 y) ∧ IsW f (orLs (ps.take j)) x ∧ IsW h (orLs (ps.take j)) y
theorem RelAw.next {f h : List Int} {ps : List Nat} {W : World} (m : Later W) {j x y : Nat} {a b : Int} {T : TypeId} (hj : j < ps.length) (ha : a = (x : Int)) (hb : b = (y : Int)) (h1 : IsW f (orLs (ps.take (j + 1))) x) (h2 : IsW h (orLs (ps.take (j + 1))) y) :
    RelAw f h ps W (.slice (some ⟨m.w.heap.size, 0, none⟩) 2 2) (.int .i64 ((j : Int) + 1)) (m.w.alloc (.cells #[.int .i64 a, .int .i64 b] T)) := by
  subst ha
  subst hb
  obtain ⟨hB3, -, k3⟩ := alloc1 (w := m.w) (c0 := #[.int .i64 (x : Int), .int .i64 (y : Int)]) (T0 := T) rfl
  have o0 := (k3.cell 0).trans (show _ = some (Value.int .i64 (x : Int)) from rfl)
  have o1 := (k3.cell 1).trans (show _ = some (Value.int .i64 (y : Int)) from rfl)
  have o4 := k3.lt
  exact ⟨⟨⟨_, m.below.alloc m.size _⟩, rfl⟩, j + 1, x, y, _, 2, hj, rfl, by congr 1, o4, o0, o1, h1, h2⟩

set_option maxRecDepth 100000 in
set_option maxHeartbeats 4000000 in
theorem specAns_any (f h : List Int) (N : Nat) (fo ho : Option Addr) (fc hc : Nat) (c : Co f h) (hp : noP4 f) (hN : f.length = N) : ∀ (k S : Nat) (w : World), cnt S ≤ k → 1 ≤ cnt S → S < 2 ^ N → IntsAt w fo f → IntsAt w ho h →
    Calls Tryz.prog 87 #[.agg #[.int .i64 N, .slice fo N fc], .agg #[.int .i64 N, .slice ho N hc], .int .i64 S] w (RetAw f h S w) := by
  have hN2 : h.length = N := by rw [← c.len]; exact hN
  have hN7 : N ≤ 7 := by rw [← hN]; exact c.gf.le
  intro k
  induction k with
  | zero => intro S w hk h1; omega
  | succ k ih =>
    intro S w hk h1 hS hfo hho
    have h7 : S < 128 := Nat.lt_of_lt_of_le hS (by have := Nat.pow_le_pow_right (n := 2) (by decide) hN7; omega)
    replace ih := Lib.hid ih
    have hPf := fun (w' : World) (h : IntsAt w' fo f) => specParts_any f S fo fc w' h c.gf.graph (by rw [hN]; exact hS)
    have hPh := fun (w' : World) (hh : IntsAt w' ho h) => specParts_any h S ho hc w' hh c.gh.graph (by rw [hN2]; exact hS)
    rw [hN] at hPf
    rw [hN2] at hPh
    have hcc := cnt_le S
    go_enter Tryz.func87, Tryz.ntmps87
    go_wp2_with fail
    generalize hW : World.alloc _ _ = W1
    obtain ⟨hB, -, k0, k1⟩ := alloc2 hW
    replace hfo := hfo.below hB
    replace hho := hho.below hB
    have hb0 := k0.lt
    have hc0 := k0.cell 0
    have hc1 := k0.cell 1
    have hd0 := k1.lt
    have he0 := k1.cell 0
    have he1 := k1.cell 1
    simp at hc0 hc1 he0 he1
    have HhB := Lib.hid hB
    clear hW hB k0 k1
    have hC := fun m : Later W1 => specCount_any S h7 m.w
    by_cases hone : cnt S = 1
    · have H1 := Lib.hid (IsW.single f h7 hone)
      have H2 := Lib.hid (IsW.single h h7 hone)
      rw [hone] at hC
      clear hPf hPh ih hk h1 hone
      obtain ⟨m, hm0⟩ : ∃ m : Later W1, m.w = W1 := ⟨Later.refl _, rfl⟩
      refine (fun h => hm0 ▸ h) ?_
      clear hm0
      go_wp2_with fail
      refine (Calls.later m (hC m)).mono ?_
      rintro e w' ⟨rfl, m, rfl⟩
      go_wp2_with fail
      generalize hW3 : World.alloc _ _ = W3
      obtain ⟨hB3, -, k3⟩ := alloc1 hW3
      have o0 := k3.cell 0
      have o1 := k3.cell 1
      have o4 := k3.lt
      simp at o0 o1
      have HE := Lib.hid (show RetAw f h S w (.returned (.slice (some ⟨m.w.heap.size, 0, none⟩) 2 2)) W3 from ⟨1, 1, _, 2, H1.out, H2.out, rfl, (below_later HhB.out m).trans (hB3.mono (below_later HhB.out m).size), o4, o0, o1⟩)
      clear o0 o1 o4 k3 hB3 hW3 H1 H2
      go_wp2_with fail
      go_ret
      exact HE.out
    · have h2 : 2 ≤ cnt S := by omega
      have hd : ((cnt S : Int) == 1) = false := by rw [beq_eq_false_iff_ne]; omega
      have hPF := parts_pts c.gf (S := S) (by rw [hN]; exact hS)
      have hPH := parts_pts c.gh (S := S) (by rw [hN2]; exact hS)
      have hor := cog_parts c hp (S := S) (by rw [hN]; exact hS) h2
      by_cases hser : (partsOf f S).length = 1
      · have hn := hor.resolve_left fun e => e hser
        have hd1 : (((ints (partsOf f S)).length : Int) == 1) = true := by rw [ints_len, beq_iff_eq]; omega
        clear hPF hor hser
        obtain ⟨m, hm0⟩ : ∃ m : Later W1, m.w = W1 := ⟨Later.refl _, rfl⟩
        refine (fun h => hm0 ▸ h) ?_
        clear hm0
        have hpf := fun m : Later W1 => hPf m.w (hfo.later m)
        generalize ints (partsOf f S) = L0 at *
        have HPh := Lib.hid hPh
        clear hPf hPh hone
        go_wp2_with fail
        refine (Calls.later m (hC m)).mono ?_
        rintro e w' ⟨rfl, m, rfl⟩
        clear hC hd
        go_wp2_with fail
        refine (hpf m).mono ?_
        rintro e w2 ⟨lo, lc, rfl, hB2, -⟩
        obtain ⟨m, rfl⟩ : ∃ m2 : Later W1, m2.w = w2 := ⟨m.on hB2, rfl⟩
        clear hB2 hpf
        have hph := HPh.out m.w (hho.later m)
        clear HPh
        go_wp2_with fail
        refine hph.mono ?_
        rintro e w2 ⟨lo2, lc2, rfl, hB2, hL⟩
        replace hL := hL.ints
        clear hph
        have hBm := below_more m.below hB2
        clear hB2
        go_wp2_with fail
        clear hd1
        generalize hW3 : World.alloc _ _ = W2
        obtain ⟨hB3, -, k3⟩ := alloc1 hW3
        have hBm3 := below_more hBm hB3
        have o0 := k3.cell 0
        have o1 := k3.cell 1
        have o4 := k3.lt
        simp at o0 o1
        replace hL := hL.below hB3
        replace hfo := hfo.below hBm3
        replace hho := hho.below hBm3
        replace hc0 : W2.cell? _ = _ := (hBm3.cell hb0).trans hc0
        replace hc1 : W2.cell? _ = _ := (hBm3.cell hb0).trans hc1
        replace he0 : W2.cell? _ = _ := (hBm3.cell hd0).trans he0
        replace he1 : W2.cell? _ = _ := (hBm3.cell hd0).trans he1
        replace hb0 := Nat.lt_of_lt_of_le hb0 hBm3.size
        replace hd0 := Nat.lt_of_lt_of_le hd0 hBm3.size
        replace HhB := Lib.hid (HhB.out.trans (hBm3.mono HhB.out.size))
        generalize w2.heap.size = g0 at *
        clear hW3 hB3 hBm hBm3 k3 m
        have hP := hPH
        clear hPH
        have hl7 := partsOf_len h S
        have HIH : Hid (∀ (i : Nat) (w' : World), Below W2.heap.size W2 w' → i < (partsOf h S).length → Calls Tryz.prog 87 #[.agg #[.int .i64 N, .slice fo N fc], .agg #[.int .i64 N, .slice ho N hc], .int .i64 (gi (ints (partsOf h S)) i)] w' (RetAw f h (eln (partsOf h S) i) w')) := Lib.hid fun i w' hB hi => by
          have e : gi (ints (partsOf h S)) i = (eln (partsOf h S) i : Int) := gi_map _ _ hi
          obtain ⟨l1, l2⟩ := hP.less h7 hn (eln_mem hi)
          rw [e]
          exact ih.out _ w' (by omega) (by omega) ((hP.at hi).1.lt hS) (hfo.below hB) (hho.below hB)
        have HST := Lib.hid (fun j (hj : j < (partsOf h S).length) => step_w c (by rw [hN]; exact hS) hP hj)
        have HWH : Hid (orLs ((partsOf h S).take (partsOf h S).length) = S) := Lib.hid (by rw [List.take_length]; exact hP.whole)
        have hll := ints_len (partsOf h S)
        clear hP hn ih
        generalize partsOf h S = ps at *
        generalize ints ps = L at *
        clear hfo hho
        have hrel0 : RelAw f h ps W2 (.slice (some ⟨g0, 0, none⟩) 2 2) (.int .i64 0) W2 := ⟨⟨Later.refl _, rfl⟩, 0, 0, 0, g0, 2, by omega, rfl, rfl, o4, o0, o1, by rw [List.take_zero]; exact IsW.zero f, by rw [List.take_zero]; exact IsW.zero h⟩
        clear o0 o1 o4
        go_loopw [9, 10] (fun s i wr => RelAw f h ps W2 s i wr) (fun _ i _ => ps.length - (intOf i).toNat)
        case atStart => exact hrel0
        case round =>
          obtain ⟨⟨m, rfl⟩, j, x, y, gb, cap, hj, rfl, rfl, z4, z0, z1, hx, hy⟩ := hrel
          have hx7 := hx.small
          have hy7 := hy.small
          clear hrel0
          by_cases hlt : j < ps.length
          · obtain ⟨b, off, rfl, hb, hcL⟩ := hL (by omega)
            have x0 := hcL j (by omega)
            have hjl : j < L.length := by omega
            have hih := fun w' h => HIH.out j w' h hlt
            obtain ⟨hst1, hst2⟩ := HST.out j hlt
            clear hcL hll HIH HST HWH
            generalize gi L j = Pj at *
            have H1 := Lib.hid (fun x' h1 => hst1 x x' hx h1)
            have H2 := Lib.hid (fun y' h1 => hst2 y y' hy h1)
            clear hx hy hst1 hst2
            go_upto_region 11 with fail
            have hA : Below W2.heap.size W2 m.w.drew := m.below.drew
            have hT0 : ∀ w', Below W2.heap.size W2 w' → Below W2.heap.size W2 w' ∧ w'.cell? ⟨w.heap.size, 0, none⟩ = some (.int .i64 N) ∧ w'.cell? ⟨w.heap.size, 1, none⟩ = some (.slice fo N fc) ∧ w'.cell? ⟨w.heap.size + 1, 0, none⟩ = some (.int .i64 N) ∧ w'.cell? ⟨w.heap.size + 1, 1, none⟩ = some (.slice ho N hc) ∧ w'.cell? ⟨b, off + j, none⟩ = some (.int .i64 Pj) := fun w' h =>
              ⟨h, (h.cell hb0).trans hc0, (h.cell hb0).trans hc1, (h.cell hd0).trans he0, (h.cell hd0).trans he1, (h.cell hb).trans x0⟩
            refine wp_region_B (fun w' => Below W2.heap.size W2 w' ∧ w'.cell? ⟨w.heap.size, 0, none⟩ = some (.int .i64 N) ∧ w'.cell? ⟨w.heap.size, 1, none⟩ = some (.slice fo N fc) ∧ w'.cell? ⟨w.heap.size + 1, 0, none⟩ = some (.int .i64 N) ∧ w'.cell? ⟨w.heap.size + 1, 1, none⟩ = some (.slice ho N hc) ∧ w'.cell? ⟨b, off + j, none⟩ = some (.int .i64 Pj)) (fun _ => True) [] (by kernel_rfl) (hT0 _ hA) (trivial) (fun hM => ?_)
            refine wpAnyB_take (i := 0) (v := ?_) false rfl (by kernel_rfl) (by kernel_rfl) (by kernel_rfl) (by kernel_rfl) (by kernel_rfl) (fun _ _ _ h => h) (Or.inl ⟨by rfl, ?_⟩) hM (fun hM2 => ?_)
            rotate_left
            · (intro w hSw; replace hSw := hSw.1; (try dsimp only at hSw); go_simp; try with_reducible rfl)
            replace hM := hM2
            clear hM2
            try simp only [List.getElem_toArray, List.getElem_cons_zero, Act.put, List.setIfInBounds_toArray, List.set_cons_zero, List.set_cons_succ]
            refine wpAnyB_take (i := 1) (v := ?_) false rfl (by kernel_rfl) (by kernel_rfl) (by kernel_rfl) (by kernel_rfl) (by kernel_rfl) (fun _ _ _ h => h) (Or.inl ⟨by rfl, ?_⟩) hM (fun hM2 => ?_)
            rotate_left
            · (intro w hSw; replace hSw := hSw.1; (try dsimp only at hSw); go_simp; try with_reducible rfl)
            replace hM := hM2
            clear hM2
            try simp only [List.getElem_toArray, List.getElem_cons_succ, List.getElem_cons_zero, Act.put, List.setIfInBounds_toArray, List.set_cons_zero, List.set_cons_succ]
            refine wpAnyB_take (i := 2) (v := ?_) false rfl (by kernel_rfl) (by kernel_rfl) (by kernel_rfl) (by kernel_rfl) (by kernel_rfl) (fun _ _ _ h => h) (Or.inl ⟨by rfl, ?_⟩) hM (fun hM2 => ?_)
            rotate_left
            · (intro w hSw; replace hSw := hSw.1; (try dsimp only at hSw); go_simp; try with_reducible rfl)
            replace hM := hM2
            clear hM2
            try simp only [List.getElem_toArray, List.getElem_cons_succ, List.getElem_cons_zero, Act.put, List.setIfInBounds_toArray, List.set_cons_zero, List.set_cons_succ]
            refine wpAnyB_take (i := 3) (v := ?_) false rfl (by kernel_rfl) (by kernel_rfl) (by kernel_rfl) (by kernel_rfl) (by kernel_rfl) (fun _ _ _ h => h) (Or.inl ⟨by rfl, ?_⟩) hM (fun hM2 => ?_)
            rotate_left
            · (intro w hSw; replace hSw := hSw.1; (try dsimp only at hSw); go_simp; try with_reducible rfl)
            replace hM := hM2
            clear hM2
            try simp only [List.getElem_toArray, List.getElem_cons_succ, List.getElem_cons_zero, Act.put, List.setIfInBounds_toArray, List.set_cons_zero, List.set_cons_succ]
            refine wpAnyB_take (i := 4) (v := ?_) false rfl (by kernel_rfl) (by kernel_rfl) (by kernel_rfl) (by kernel_rfl) (by kernel_rfl) (fun _ _ _ h => h) (Or.inl ⟨by rfl, ?_⟩) hM (fun hM2 => ?_)
            rotate_left
            · (intro w hSw; replace hSw := hSw.1; (try dsimp only at hSw); go_simp; try with_reducible rfl)
            replace hM := hM2
            clear hM2
            try simp only [List.getElem_toArray, List.getElem_cons_succ, List.getElem_cons_zero, Act.put, List.setIfInBounds_toArray, List.set_cons_zero, List.set_cons_succ]
            refine wpAnyB_take (i := 5) (v := ?_) false rfl (by kernel_rfl) (by kernel_rfl) (by kernel_rfl) (by kernel_rfl) (by kernel_rfl) (fun _ _ _ h => h) (Or.inl ⟨by rfl, ?_⟩) hM (fun hM2 => ?_)
            rotate_left
            · (intro w hSw; replace hSw := hSw.1; (try dsimp only at hSw); go_simp; try with_reducible rfl)
            replace hM := hM2
            clear hM2
            try simp only [List.getElem_toArray, List.getElem_cons_succ, List.getElem_cons_zero, Act.put, List.setIfInBounds_toArray, List.set_cons_zero, List.set_cons_succ]
            refine wpAnyB_one (i := 6) (by kernel_rfl) rfl (fun K hK => ?_)
            (go_simp; go_at_call 87; refine (hih _ hA).mono ?_; rintro e w6 ⟨x2, y2, g2, cap2, hx2, hy2, rfl, hB6, t4, t0, t1⟩; have hA6 := below_more hA hB6; dsimp only)
            refine hK.out _ _ (meetB.both (hT0 _ hA6) trivial) (fun hM2 => ?_)
            clear hK K
            replace hM := hM2
            clear hM2
            try simp only [List.getElem_toArray, List.getElem_cons_succ, List.getElem_cons_zero, Act.put, List.setIfInBounds_toArray, List.set_cons_zero, List.set_cons_succ]
            refine wpAnyB_take (i := 7) (v := ?_) false rfl (by kernel_rfl) (by kernel_rfl) (by kernel_rfl) (by kernel_rfl) (by kernel_rfl) (fun _ _ _ h => h) (Or.inl ⟨by rfl, ?_⟩) hM (fun hM2 => ?_)
            rotate_left
            · (intro w hSw; replace hSw := hSw.1; (try dsimp only at hSw); go_simp; try with_reducible rfl)
            replace hM := hM2
            clear hM2
            try simp only [List.getElem_toArray, List.getElem_cons_succ, List.getElem_cons_zero, Act.put, List.setIfInBounds_toArray, List.set_cons_zero, List.set_cons_succ]
            refine wpAnyB_done (by kernel_rfl) ?_ _
            replace z0 := (hB6.cell (p := ⟨gb, 0, none⟩) (by exact z4)).trans z0
            replace z1 := (hB6.cell (p := ⟨gb, 1, none⟩) (by exact z4)).trans z1
            replace z4 := Nat.lt_of_lt_of_le z4 hB6.size
            have hx27 := hx2.small
            have hy27 := hy2.small
            obtain ⟨m6, rfl⟩ : ∃ m6 : Later W2, m6.w = w6 := ⟨⟨w6, hA6⟩, rfl⟩
            clear hT0 hM hA hA6 hB6 hih m x0
            have HX2 := Lib.hid hx2
            have HY2 := Lib.hid hy2
            clear hx2 hy2
            go_wp2_with fail
            have q1 : IntKind.i64.wrap ((x : Int) + x2) = ((x + x2 : Nat) : Int) := by rw [IntKind_i64_in _ (by omega) (by omega)]; omega
            go_still_tail 14, (by kernel_rfl)
            refine wpList_later_drew m6 fun m6 => ?_
            go_wp2_with fail
            go_roundw
            case rel =>
              exact RelAw.next m6 hlt (by omega) (by split <;> omega) (H1.out x2 HX2.out) (H2.out y2 HY2.out)
            case measure => simp [intOf]; omega
          · obtain rfl : j = ps.length := by omega
            rw [HWH.out] at hx hy
            have HE := Lib.hid (show RetAw f h S w (.returned (.slice (some ⟨gb, 0, none⟩) 2 cap)) m.w from ⟨x, y, gb, cap, hx, hy, rfl, below_later HhB.out m, z4, z0, z1⟩)
            clear hx hy HIH HST HWH
            go_wp2_with fail
            go_ret
            exact HE.out
      · have hn := hser
        have Hhn := Lib.hid hn
        clear hn
        have hd1 : (((ints (partsOf f S)).length : Int) == 1) = false := by rw [ints_len, beq_eq_false_iff_ne]; omega
        clear hPH hor hPh
        obtain ⟨m, hm0⟩ : ∃ m : Later W1, m.w = W1 := ⟨Later.refl _, rfl⟩
        refine (fun h => hm0 ▸ h) ?_
        clear hm0
        have hpf := fun m : Later W1 => hPf m.w (hfo.later m)
        clear hPf hone
        go_wp2_with fail
        refine (Calls.later m (hC m)).mono ?_
        rintro e w' ⟨rfl, m, rfl⟩
        clear hC hd
        go_wp2_with fail
        refine (hpf m).mono ?_
        rintro e w2 ⟨lo2, lc2, rfl, hB2, hL⟩
        replace hL := hL.ints
        have hBm := below_more m.below hB2
        clear hB2 hpf
        go_wp2_with fail
        clear hd1 hser
        generalize hW3 : World.alloc _ _ = W2
        obtain ⟨hB3, -, k3⟩ := alloc1 hW3
        have hBm3 := below_more hBm hB3
        have o0 := k3.cell 0
        have o1 := k3.cell 1
        have o4 := k3.lt
        simp at o0 o1
        replace hL := hL.below hB3
        replace hfo := hfo.below hBm3
        replace hho := hho.below hBm3
        replace hc0 : W2.cell? _ = _ := (hBm3.cell hb0).trans hc0
        replace hc1 : W2.cell? _ = _ := (hBm3.cell hb0).trans hc1
        replace he0 : W2.cell? _ = _ := (hBm3.cell hd0).trans he0
        replace he1 : W2.cell? _ = _ := (hBm3.cell hd0).trans he1
        replace hb0 := Nat.lt_of_lt_of_le hb0 hBm3.size
        replace hd0 := Nat.lt_of_lt_of_le hd0 hBm3.size
        replace HhB := Lib.hid (HhB.out.trans (hBm3.mono HhB.out.size))
        generalize w2.heap.size = g0 at *
        clear hW3 hB3 hBm hBm3 k3 m
        have hP := hPF
        have hn := Hhn.out
        clear hPF Hhn
        have hl7 := partsOf_len f S
        have HIH : Hid (∀ (i : Nat) (w' : World), Below W2.heap.size W2 w' → i < (partsOf f S).length → Calls Tryz.prog 87 #[.agg #[.int .i64 N, .slice fo N fc], .agg #[.int .i64 N, .slice ho N hc], .int .i64 (gi (ints (partsOf f S)) i)] w' (RetAw f h (eln (partsOf f S) i) w')) := Lib.hid fun i w' hB hi => by
          have e : gi (ints (partsOf f S)) i = (eln (partsOf f S) i : Int) := gi_map _ _ hi
          obtain ⟨l1, l2⟩ := hP.less h7 hn (eln_mem hi)
          rw [e]
          exact ih.out _ w' (by omega) (by omega) ((hP.at hi).1.lt hS) (hfo.below hB) (hho.below hB)
        have HST := Lib.hid (fun j (hj : j < (partsOf f S).length) => step_w c.symm (by rw [hN2]; exact hS) hP hj)
        have HWH : Hid (orLs ((partsOf f S).take (partsOf f S).length) = S) := Lib.hid (by rw [List.take_length]; exact hP.whole)
        have hll := ints_len (partsOf f S)
        clear hP hn ih
        generalize partsOf f S = ps at *
        generalize ints ps = L at *
        clear hfo hho
        have hrel0 : RelAw f h ps W2 (.slice (some ⟨g0, 0, none⟩) 2 2) (.int .i64 0) W2 := ⟨⟨Later.refl _, rfl⟩, 0, 0, 0, g0, 2, by omega, rfl, rfl, o4, o0, o1, by rw [List.take_zero]; exact IsW.zero f, by rw [List.take_zero]; exact IsW.zero h⟩
        clear o0 o1 o4
        go_loopw [9, 10] (fun s i wr => RelAw f h ps W2 s i wr) (fun _ i _ => ps.length - (intOf i).toNat)
        case atStart => exact hrel0
        case round =>
          obtain ⟨⟨m, rfl⟩, j, x, y, gb, cap, hj, rfl, rfl, z4, z0, z1, hx, hy⟩ := hrel
          have hx7 := hx.small
          have hy7 := hy.small
          clear hrel0
          by_cases hlt : j < ps.length
          · obtain ⟨b, off, rfl, hb, hcL⟩ := hL (by omega)
            have x0 := hcL j (by omega)
            have hjl : j < L.length := by omega
            have hih := fun w' h => HIH.out j w' h hlt
            obtain ⟨hst1, hst2⟩ := HST.out j hlt
            clear hcL hll HIH HST HWH
            generalize gi L j = Pj at *
            have H1 := Lib.hid (fun x' h1 => hst1 y x' hy h1)
            have H2 := Lib.hid (fun y' h1 => hst2 x y' hx h1)
            clear hx hy hst1 hst2
            go_upto_region 11 with fail
            have hA : Below W2.heap.size W2 m.w.drew := m.below.drew
            have hT0 : ∀ w', Below W2.heap.size W2 w' → Below W2.heap.size W2 w' ∧ w'.cell? ⟨w.heap.size, 0, none⟩ = some (.int .i64 N) ∧ w'.cell? ⟨w.heap.size, 1, none⟩ = some (.slice fo N fc) ∧ w'.cell? ⟨w.heap.size + 1, 0, none⟩ = some (.int .i64 N) ∧ w'.cell? ⟨w.heap.size + 1, 1, none⟩ = some (.slice ho N hc) ∧ w'.cell? ⟨b, off + j, none⟩ = some (.int .i64 Pj) := fun w' h =>
              ⟨h, (h.cell hb0).trans hc0, (h.cell hb0).trans hc1, (h.cell hd0).trans he0, (h.cell hd0).trans he1, (h.cell hb).trans x0⟩
            refine wp_region_B (fun w' => Below W2.heap.size W2 w' ∧ w'.cell? ⟨w.heap.size, 0, none⟩ = some (.int .i64 N) ∧ w'.cell? ⟨w.heap.size, 1, none⟩ = some (.slice fo N fc) ∧ w'.cell? ⟨w.heap.size + 1, 0, none⟩ = some (.int .i64 N) ∧ w'.cell? ⟨w.heap.size + 1, 1, none⟩ = some (.slice ho N hc) ∧ w'.cell? ⟨b, off + j, none⟩ = some (.int .i64 Pj)) (fun _ => True) [] (by kernel_rfl) (hT0 _ hA) (trivial) (fun hM => ?_)
            refine wpAnyB_take (i := 0) (v := ?_) false rfl (by kernel_rfl) (by kernel_rfl) (by kernel_rfl) (by kernel_rfl) (by kernel_rfl) (fun _ _ _ h => h) (Or.inl ⟨by rfl, ?_⟩) hM (fun hM2 => ?_)
            rotate_left
            · (intro w hSw; replace hSw := hSw.1; (try dsimp only at hSw); go_simp; try with_reducible rfl)
            replace hM := hM2
            clear hM2
            try simp only [List.getElem_toArray, List.getElem_cons_zero, Act.put, List.setIfInBounds_toArray, List.set_cons_zero, List.set_cons_succ]
            refine wpAnyB_take (i := 1) (v := ?_) false rfl (by kernel_rfl) (by kernel_rfl) (by kernel_rfl) (by kernel_rfl) (by kernel_rfl) (fun _ _ _ h => h) (Or.inl ⟨by rfl, ?_⟩) hM (fun hM2 => ?_)
            rotate_left
            · (intro w hSw; replace hSw := hSw.1; (try dsimp only at hSw); go_simp; try with_reducible rfl)
            replace hM := hM2
            clear hM2
            try simp only [List.getElem_toArray, List.getElem_cons_succ, List.getElem_cons_zero, Act.put, List.setIfInBounds_toArray, List.set_cons_zero, List.set_cons_succ]
            refine wpAnyB_take (i := 2) (v := ?_) false rfl (by kernel_rfl) (by kernel_rfl) (by kernel_rfl) (by kernel_rfl) (by kernel_rfl) (fun _ _ _ h => h) (Or.inl ⟨by rfl, ?_⟩) hM (fun hM2 => ?_)
            rotate_left
            · (intro w hSw; replace hSw := hSw.1; (try dsimp only at hSw); go_simp; try with_reducible rfl)
            replace hM := hM2
            clear hM2
            try simp only [List.getElem_toArray, List.getElem_cons_succ, List.getElem_cons_zero, Act.put, List.setIfInBounds_toArray, List.set_cons_zero, List.set_cons_succ]
            refine wpAnyB_take (i := 3) (v := ?_) false rfl (by kernel_rfl) (by kernel_rfl) (by kernel_rfl) (by kernel_rfl) (by kernel_rfl) (fun _ _ _ h => h) (Or.inl ⟨by rfl, ?_⟩) hM (fun hM2 => ?_)
            rotate_left
            · (intro w hSw; replace hSw := hSw.1; (try dsimp only at hSw); go_simp; try with_reducible rfl)
            replace hM := hM2
            clear hM2
            try simp only [List.getElem_toArray, List.getElem_cons_succ, List.getElem_cons_zero, Act.put, List.setIfInBounds_toArray, List.set_cons_zero, List.set_cons_succ]
            refine wpAnyB_take (i := 4) (v := ?_) false rfl (by kernel_rfl) (by kernel_rfl) (by kernel_rfl) (by kernel_rfl) (by kernel_rfl) (fun _ _ _ h => h) (Or.inl ⟨by rfl, ?_⟩) hM (fun hM2 => ?_)
            rotate_left
            · (intro w hSw; replace hSw := hSw.1; (try dsimp only at hSw); go_simp; try with_reducible rfl)
            replace hM := hM2
            clear hM2
            try simp only [List.getElem_toArray, List.getElem_cons_succ, List.getElem_cons_zero, Act.put, List.setIfInBounds_toArray, List.set_cons_zero, List.set_cons_succ]
            refine wpAnyB_take (i := 5) (v := ?_) false rfl (by kernel_rfl) (by kernel_rfl) (by kernel_rfl) (by kernel_rfl) (by kernel_rfl) (fun _ _ _ h => h) (Or.inl ⟨by rfl, ?_⟩) hM (fun hM2 => ?_)
            rotate_left
            · (intro w hSw; replace hSw := hSw.1; (try dsimp only at hSw); go_simp; try with_reducible rfl)
            replace hM := hM2
            clear hM2
            try simp only [List.getElem_toArray, List.getElem_cons_succ, List.getElem_cons_zero, Act.put, List.setIfInBounds_toArray, List.set_cons_zero, List.set_cons_succ]
            refine wpAnyB_one (i := 6) (by kernel_rfl) rfl (fun K hK => ?_)
            (go_simp; go_at_call 87; refine (hih _ hA).mono ?_; rintro e w6 ⟨x2, y2, g2, cap2, hx2, hy2, rfl, hB6, t4, t0, t1⟩; have hA6 := below_more hA hB6; dsimp only)
            refine hK.out _ _ (meetB.both (hT0 _ hA6) trivial) (fun hM2 => ?_)
            clear hK K
            replace hM := hM2
            clear hM2
            try simp only [List.getElem_toArray, List.getElem_cons_succ, List.getElem_cons_zero, Act.put, List.setIfInBounds_toArray, List.set_cons_zero, List.set_cons_succ]
            refine wpAnyB_take (i := 7) (v := ?_) false rfl (by kernel_rfl) (by kernel_rfl) (by kernel_rfl) (by kernel_rfl) (by kernel_rfl) (fun _ _ _ h => h) (Or.inl ⟨by rfl, ?_⟩) hM (fun hM2 => ?_)
            rotate_left
            · (intro w hSw; replace hSw := hSw.1; (try dsimp only at hSw); go_simp; try with_reducible rfl)
            replace hM := hM2
            clear hM2
            try simp only [List.getElem_toArray, List.getElem_cons_succ, List.getElem_cons_zero, Act.put, List.setIfInBounds_toArray, List.set_cons_zero, List.set_cons_succ]
            refine wpAnyB_done (by kernel_rfl) ?_ _
            replace z0 := (hB6.cell (p := ⟨gb, 0, none⟩) (by exact z4)).trans z0
            replace z1 := (hB6.cell (p := ⟨gb, 1, none⟩) (by exact z4)).trans z1
            replace z4 := Nat.lt_of_lt_of_le z4 hB6.size
            have hx27 := hx2.small
            have hy27 := hy2.small
            obtain ⟨m6, rfl⟩ : ∃ m6 : Later W2, m6.w = w6 := ⟨⟨w6, hA6⟩, rfl⟩
            clear hT0 hM hA hA6 hB6 hih m x0
            have HX2 := Lib.hid hx2
            have HY2 := Lib.hid hy2
            clear hx2 hy2
            go_wp2_with fail
            have q1 : IntKind.i64.wrap ((y : Int) + y2) = ((y + y2 : Nat) : Int) := by rw [IntKind_i64_in _ (by omega) (by omega)]; omega
            go_still_tail 14, (by kernel_rfl)
            refine wpList_later_drew m6 fun m6 => ?_
            go_wp2_with fail
            go_roundw
            case rel =>
              exact RelAw.next m6 hlt (by split <;> omega) (by omega) (H2.out x2 HX2.out) (H1.out y2 HY2.out)
            case measure => simp [intOf]; omega
          · obtain rfl : j = ps.length := by omega
            rw [HWH.out] at hx hy
            have HE := Lib.hid (show RetAw f h S w (.returned (.slice (some ⟨gb, 0, none⟩) 2 cap)) m.w from ⟨x, y, gb, cap, hx, hy, rfl, below_later HhB.out m, z4, z0, z1⟩)
            clear hx hy HIH HST HWH
            go_wp2_with fail
            go_ret
            exact HE.out

set_option maxRecDepth 100000 in
theorem implLargestIndep_any (n : Int) (rs : List Int) (ro : Option Addr) (rc : Nat) (w : World) (hr : IntsAt w ro rs) (hrl : rs.length ≤ 1048576) :
    Calls Tryz.prog 86 #[.agg #[.int .i64 n, .slice ro rs.length rc]] w fun e w' => e = .returned (.int .i64 (largestV n rs fun S => indepB rs.length rs S)) ∧ Below w.heap.size w w' := by
  go_enter Tryz.func86, Tryz.ntmps86
  go_wp2_with fail
  generalize hW : w.alloc _ = W1
  obtain ⟨hB, -, k0⟩ := alloc1 hW
  replace hr := hr.below hB
  have hb0 := k0.lt
  have hc0 := k0.cell 0
  have hc1 := k0.cell 1
  simp at hc0 hc1
  clear hW k0
  have HhB := Lib.hid hB
  clear hB
  obtain ⟨m, hm0⟩ : ∃ m : Later W1, m.w = W1 := ⟨Later.refl _, rfl⟩
  refine (fun h => hm0 ▸ h) ?_
  clear hm0
  go_wp2_with fail
  refine (Calls.later m (implLargest_any n rs ro rc 130 (fun S => indepB rs.length rs S) _ (hr.later m) hrl (fun _ _ => rfl) (fun hv => fun S w' h1 h2 => implIndep_any rs.length rs S ro rc w' h1 hrl))).mono ?_
  rintro e w' ⟨rfl, m, rfl⟩
  go_wp2_with fail
  go_ret
  exact ⟨rfl, below_later HhB.out m⟩

/-- The two numbers of all vertices, or nothing. -/
def ansL (n : Int) (rs : List Int) : List Int := if cogB n rs = true then [clqN n rs, (cnt (largestV n rs fun S => indepB rs.length rs S).toNat : Int)] else []
theorem ansL_no {n : Int} {rs : List Int} (h : cogB n rs = false) : ansL n rs = [] := by unfold ansL; rw [if_neg (by rw [h]; decide)]
theorem ansL_of {n : Int} {rs : List Int} (h : cogB n rs = true) : ansL n rs = [clqN n rs, (cnt (largestV n rs fun S => indepB rs.length rs S).toNat : Int)] := by unfold ansL; rw [if_pos h]
def RetAn (w : World) (n : Int) (rs : List Int) (e : Ending) (w' : World) : Prop := ∃ ao cap, e = .returned (.tuple #[.slice ao (ansL n rs).length cap, .bool (cogB n rs)]) ∧ Below w.heap.size w w' ∧ IntsAt w' ao (ansL n rs)
theorem ints_two {w : World} {g : Nat} {a b : Int} (h : g < w.heap.size) (h0 : w.cell? ⟨g, 0, none⟩ = some (.int .i64 a)) (h1 : w.cell? ⟨g, 1, none⟩ = some (.int .i64 b)) : IntsAt w (some ⟨g, 0, none⟩) [a, b] := fun _ =>
  ⟨g, 0, rfl, h, fun k hk => by
    match k, hk with
    | 0, _ => exact h0
    | 1, _ => exact h1⟩

set_option maxRecDepth 100000 in
set_option maxHeartbeats 2000000 in
theorem specAnswers_any (n : Int) (rs : List Int) (ro : Option Addr) (rc : Nat) (w : World) (hr : IntsAt w ro rs) (hrl : rs.length ≤ 1048576) :
    Calls Tryz.prog 29 #[.agg #[.int .i64 n, .slice ro rs.length rc]] w (RetAn w n rs) := by
  go_enter Tryz.func29, Tryz.ntmps29
  go_wp2_with fail
  generalize hW : w.alloc _ = W1
  obtain ⟨hB, -, k0⟩ := alloc1 hW
  replace hr := hr.below hB
  have hb0 := k0.lt
  have hc0 := k0.cell 0
  have hc1 := k0.cell 1
  simp at hc0 hc1
  clear hW k0
  have HhB := Lib.hid hB
  clear hB
  obtain ⟨m, hm0⟩ : ∃ m : Later W1, m.w = W1 := ⟨Later.refl _, rfl⟩
  refine (fun h => hm0 ▸ h) ?_
  clear hm0
  have hC := fun m : Later W1 => specCog_any n rs ro rc m.w (hr.later m) hrl
  cases hv : cogB n rs
  · have HE := Lib.hid (show ∀ (wz : World) ao cap, Below w.heap.size w wz → RetAn w n rs (.returned (.tuple #[.slice ao 0 cap, .bool false])) wz from fun wz ao cap h => ⟨ao, cap, by rw [ansL_no hv, hv]; rfl, h, by rw [ansL_no hv]; exact fun h => absurd h (by simp)⟩)
    rw [hv] at hC
    go_wp2_with fail
    refine (Calls.later m (hC m)).mono ?_
    rintro e w' ⟨rfl, m, rfl⟩
    go_wp2_with fail
    go_ret2
    exact HE.out _ _ _ ((below_later HhB.out m).alloc (below_later HhB.out m).size _)
  · have hg := cogB_graph hv
    obtain ⟨rfl, g⟩ := VG.of hg
    have HE := Lib.hid (show ∀ (wz : World) (gb cap x y : Nat), IsW rs (2 ^ rs.length - 1) x → IsW (compl rs) (2 ^ rs.length - 1) y → Below w.heap.size w wz → gb < wz.heap.size → wz.cell? ⟨gb, 0, none⟩ = some (.int .i64 x) → wz.cell? ⟨gb, 1, none⟩ = some (.int .i64 y) → RetAn w rs.length rs (.returned (.tuple #[.slice (some ⟨gb, 0, none⟩) 2 cap, .bool true])) wz from fun wz gb cap x y h1 h2 h3 h4 h5 h6 => by
      obtain ⟨I, i1, i2, i3⟩ := isW_indep (Co.compl g) hg h2
      have e : ansL rs.length rs = [(x : Int), (y : Int)] := by rw [ansL_of hv, isW_clq hg h1, i2, Int.toNat_natCast, i3]
      exact ⟨_, cap, by rw [e, hv]; rfl, h3, by rw [e]; exact ints_two h4 h5 h6⟩)
    rw [hv] at hC
    have hp := (cog_iff hg).1 hv
    have hT := fun (ho : Option Addr) (hc : Nat) (w' : World) (h1 : IntsAt w' ro rs) (h2 : IntsAt w' ho (compl rs)) => specAns_any rs (compl rs) rs.length ro ho rc hc (Co.compl g) hp rfl 7 (2 ^ rs.length - 1) w' (cnt_all g).2 (cnt_all g).1 (all_lt _) h1 h2
    have hco := fun m : Later W1 => specCompl_any rs ro rc m.w (hr.later m) hg
    have hg1 := g.pos
    have hg2 := g.le
    obtain ⟨hp1, hp2⟩ := g.pow
    have hq := pwN_small rs.length (by omega)
    have q1 : IntKind.i64.wrap (((2 ^ rs.length : Nat) : Int) - 1) = ((2 ^ rs.length - 1 : Nat) : Int) := by rw [IntKind_i64_in _ (by omega) (by omega)]; omega
    generalize 2 ^ rs.length - 1 = T1 at *
    generalize 2 ^ rs.length = T0 at *
    have HT := Lib.hid hT
    clear hT hp
    go_wp2_with fail
    refine (Calls.later m (hC m)).mono ?_
    rintro e w' ⟨rfl, m, rfl⟩
    clear hC
    go_wp2_with fail
    refine (hco m).mono ?_
    rintro e w2 ⟨ho, hc, rfl, hB2, hO⟩
    have hBm := below_more m.below hB2
    clear hco
    go_upto_region 4 with fail
    generalize hW3 : World.alloc _ _ = W3
    obtain ⟨hB3, -, k3⟩ := alloc1 hW3
    have hBm3 := below_more hBm hB3
    have x0 := k3.cell 0
    have x1 := k3.cell 1
    have xl := k3.lt
    simp at x0 x1
    have y0 := (hBm3.cell (p := ⟨w.heap.size, 0, none⟩) hb0).trans hc0
    have y1 := (hBm3.cell (p := ⟨w.heap.size, 1, none⟩) hb0).trans hc1
    have yl := Nat.lt_of_lt_of_le hb0 hBm3.size
    have hT := fun (w' : World) (h : Below W3.heap.size W3 w') => HT.out ho hc w' ((hr.below hBm3).below h) ((hO.below hB3).below h)
    have HB3 := Lib.hid (HhB.out.trans (hBm3.mono HhB.out.size))
    generalize w2.heap.size = b2 at *
    clear hW3 hB3 k3 hB2 hBm hBm3 hO HT hc0 hc1 hb0 hr HhB
    have hA : Below W3.heap.size W3 W3.drew := (Below.refl _ _).drew
    have hT0 : ∀ w', Below W3.heap.size W3 w' → Below W3.heap.size W3 w' ∧ w'.cell? ⟨w.heap.size, 0, none⟩ = some (.int .i64 rs.length) ∧ w'.cell? ⟨w.heap.size, 1, none⟩ = some (.slice ro rs.length rc) ∧ w'.cell? ⟨b2, 0, none⟩ = some (.int .i64 rs.length) ∧ w'.cell? ⟨b2, 1, none⟩ = some (.slice ho rs.length hc) := fun w' h =>
      ⟨h, (h.cell yl).trans y0, (h.cell yl).trans y1, (h.cell xl).trans x0, (h.cell xl).trans x1⟩
    refine wp_region_B (fun w' => Below W3.heap.size W3 w' ∧ w'.cell? ⟨w.heap.size, 0, none⟩ = some (.int .i64 rs.length) ∧ w'.cell? ⟨w.heap.size, 1, none⟩ = some (.slice ro rs.length rc) ∧ w'.cell? ⟨b2, 0, none⟩ = some (.int .i64 rs.length) ∧ w'.cell? ⟨b2, 1, none⟩ = some (.slice ho rs.length hc)) (fun _ => True) [] (by kernel_rfl) (hT0 _ hA) (trivial) (fun hM => ?_)
    refine wpAnyB_take (i := 0) (v := ?_) false rfl (by kernel_rfl) (by kernel_rfl) (by kernel_rfl) (by kernel_rfl) (by kernel_rfl) (fun _ _ _ h => h) (Or.inl ⟨by rfl, ?_⟩) hM (fun hM2 => ?_)
    rotate_left
    · (intro w hSw; replace hSw := hSw.1; (try dsimp only at hSw); go_simp; try with_reducible rfl)
    replace hM := hM2
    clear hM2
    try simp only [List.getElem_toArray, List.getElem_cons_zero, Act.put, List.setIfInBounds_toArray, List.set_cons_zero, List.set_cons_succ]
    refine wpAnyB_take (i := 1) (v := ?_) false rfl (by kernel_rfl) (by kernel_rfl) (by kernel_rfl) (by kernel_rfl) (by kernel_rfl) (fun _ _ _ h => h) (Or.inl ⟨by rfl, ?_⟩) hM (fun hM2 => ?_)
    rotate_left
    · (intro w hSw; replace hSw := hSw.1; (try dsimp only at hSw); go_simp; try with_reducible rfl)
    replace hM := hM2
    clear hM2
    try simp only [List.getElem_toArray, List.getElem_cons_succ, List.getElem_cons_zero, Act.put, List.setIfInBounds_toArray, List.set_cons_zero, List.set_cons_succ]
    refine wpAnyB_take (i := 2) (v := ?_) false rfl (by kernel_rfl) (by kernel_rfl) (by kernel_rfl) (by kernel_rfl) (by kernel_rfl) (fun _ _ _ h => h) (Or.inl ⟨by rfl, ?_⟩) hM (fun hM2 => ?_)
    rotate_left
    · (intro w hSw; replace hSw := hSw.1; (try dsimp only at hSw); go_simp; try with_reducible rfl)
    replace hM := hM2
    clear hM2
    try simp only [List.getElem_toArray, List.getElem_cons_succ, List.getElem_cons_zero, Act.put, List.setIfInBounds_toArray, List.set_cons_zero, List.set_cons_succ]
    refine wpAnyB_take (i := 3) (v := ?_) false rfl (by kernel_rfl) (by kernel_rfl) (by kernel_rfl) (by kernel_rfl) (by kernel_rfl) (fun _ _ _ h => h) (Or.inl ⟨by rfl, ?_⟩) hM (fun hM2 => ?_)
    rotate_left
    · (intro w hSw; replace hSw := hSw.1; (try dsimp only at hSw); go_simp; try with_reducible rfl)
    replace hM := hM2
    clear hM2
    try simp only [List.getElem_toArray, List.getElem_cons_succ, List.getElem_cons_zero, Act.put, List.setIfInBounds_toArray, List.set_cons_zero, List.set_cons_succ]
    refine wpAnyB_take (i := 4) (v := ?_) false rfl (by kernel_rfl) (by kernel_rfl) (by kernel_rfl) (by kernel_rfl) (by kernel_rfl) (fun _ _ _ h => h) (Or.inl ⟨by rfl, ?_⟩) hM (fun hM2 => ?_)
    rotate_left
    · (intro w hSw; replace hSw := hSw.1; (try dsimp only at hSw); go_simp; try with_reducible rfl)
    replace hM := hM2
    clear hM2
    try simp only [List.getElem_toArray, List.getElem_cons_succ, List.getElem_cons_zero, Act.put, List.setIfInBounds_toArray, List.set_cons_zero, List.set_cons_succ]
    refine wpAnyB_take (i := 5) (v := ?_) false rfl (by kernel_rfl) (by kernel_rfl) (by kernel_rfl) (by kernel_rfl) (by kernel_rfl) (fun _ _ _ h => h) (Or.inl ⟨by rfl, ?_⟩) hM (fun hM2 => ?_)
    rotate_left
    · (intro w hSw; replace hSw := hSw.1; (try dsimp only at hSw); go_simp; try with_reducible rfl)
    replace hM := hM2
    clear hM2
    try simp only [List.getElem_toArray, List.getElem_cons_succ, List.getElem_cons_zero, Act.put, List.setIfInBounds_toArray, List.set_cons_zero, List.set_cons_succ]
    refine wpAnyB_one (i := 6) (by kernel_rfl) rfl (fun K hK => ?_)
    (go_simp; go_at_call 87; refine (hT _ hA).mono ?_; rintro e w6 ⟨x2, y2, g2, cap2, hx2, hy2, rfl, hB6, t4, t0, t1⟩; have hA6 := below_more hA hB6; dsimp only)
    refine hK.out _ _ (meetB.both (hT0 _ hA6) trivial) (fun hM2 => ?_)
    clear hK K
    replace hM := hM2
    clear hM2
    try simp only [List.getElem_toArray, List.getElem_cons_succ, List.getElem_cons_zero, Act.put, List.setIfInBounds_toArray, List.set_cons_zero, List.set_cons_succ]
    refine wpAnyB_take (i := 7) (v := ?_) false rfl (by kernel_rfl) (by kernel_rfl) (by kernel_rfl) (by kernel_rfl) (by kernel_rfl) (fun _ _ _ h => h) (Or.inl ⟨by rfl, ?_⟩) hM (fun hM2 => ?_)
    rotate_left
    · (intro w hSw; replace hSw := hSw.1; (try dsimp only at hSw); go_simp; try with_reducible rfl)
    replace hM := hM2
    clear hM2
    try simp only [List.getElem_toArray, List.getElem_cons_succ, List.getElem_cons_zero, Act.put, List.setIfInBounds_toArray, List.set_cons_zero, List.set_cons_succ]
    refine wpAnyB_take (i := 8) (v := ?_) false rfl (by kernel_rfl) (by kernel_rfl) (by kernel_rfl) (by kernel_rfl) (by kernel_rfl) (fun _ _ _ h => h) (Or.inl ⟨by rfl, ?_⟩) hM (fun hM2 => ?_)
    rotate_left
    · (intro w hSw; replace hSw := hSw.1; (try dsimp only at hSw); go_simp; try with_reducible rfl)
    replace hM := hM2
    clear hM2
    try simp only [List.getElem_toArray, List.getElem_cons_succ, List.getElem_cons_zero, Act.put, List.setIfInBounds_toArray, List.set_cons_zero, List.set_cons_succ]
    refine wpAnyB_done (by kernel_rfl) ?_ _
    have HR := Lib.hid (HE.out w6 g2 cap2 x2 y2 hx2 hy2 (HB3.out.trans (hA6.mono HB3.out.size)) t4 t0 t1)
    clear hx2 hy2 hT0 hM hA hA6 hB6 hT
    go_wp2_with fail
    go_ret2
    exact HR.out

set_option maxRecDepth 100000 in
set_option maxHeartbeats 2000000 in
theorem implAnswers_any (n : Int) (rs : List Int) (ro : Option Addr) (rc : Nat) (w : World) (hr : IntsAt w ro rs) (hrl : rs.length ≤ 1048576) :
    Calls Tryz.prog 28 #[.agg #[.int .i64 n, .slice ro rs.length rc]] w (RetAn w n rs) := by
  go_enter Tryz.func28, Tryz.ntmps28
  go_wp2_with fail
  generalize hW : w.alloc _ = W1
  obtain ⟨hB, -, k0⟩ := alloc1 hW
  replace hr := hr.below hB
  have hb0 := k0.lt
  have hc0 := k0.cell 0
  have hc1 := k0.cell 1
  simp at hc0 hc1
  clear hW k0
  have HhB := Lib.hid hB
  clear hB
  obtain ⟨m, hm0⟩ : ∃ m : Later W1, m.w = W1 := ⟨Later.refl _, rfl⟩
  refine (fun h => hm0 ▸ h) ?_
  clear hm0
  have hC := fun m : Later W1 => implCog_any n rs ro rc m.w (hr.later m) hrl
  cases hv : cogB n rs
  · have HE := Lib.hid (show ∀ (wz : World) ao cap, Below w.heap.size w wz → RetAn w n rs (.returned (.tuple #[.slice ao 0 cap, .bool false])) wz from fun wz ao cap h => ⟨ao, cap, by rw [ansL_no hv, hv]; rfl, h, by rw [ansL_no hv]; exact fun h => absurd h (by simp)⟩)
    rw [hv] at hC
    go_wp2_with fail
    refine (Calls.later m (hC m)).mono ?_
    rintro e w' ⟨rfl, m, rfl⟩
    go_wp2_with fail
    go_ret2
    exact HE.out _ _ _ (below_later HhB.out m)
  · have hg := cogB_graph hv
    obtain ⟨rfl, g⟩ := VG.of hg
    obtain ⟨I, hI, hIe⟩ : ∃ I : Nat, I < 128 ∧ largestV rs.length rs (fun S => indepB rs.length rs S) = (I : Int) := by
      have hp := g.pow
      refine ⟨largestTo (fun S : Nat => indepB rs.length rs S) (2 ^ rs.length), Nat.lt_of_lt_of_le (largestTo_lt _ _ (by omega)) hp.1, ?_⟩
      unfold largestV; rw [if_pos hg]
    have HE := Lib.hid (show ∀ (wz : World) (gb cap : Nat), Below w.heap.size w wz → gb < wz.heap.size → wz.cell? ⟨gb, 0, none⟩ = some (.int .i64 (clqN rs.length rs)) → wz.cell? ⟨gb, 1, none⟩ = some (.int .i64 (cnt I)) → RetAn w rs.length rs (.returned (.tuple #[.slice (some ⟨gb, 0, none⟩) 2 cap, .bool true])) wz from fun wz gb cap h3 h4 h5 h6 => by
      have e : ansL rs.length rs = [clqN rs.length rs, (cnt I : Int)] := by rw [ansL_of hv, hIe, Int.toNat_natCast]
      exact ⟨_, cap, by rw [e, hv]; rfl, h3, by rw [e]; exact ints_two h4 h5 h6⟩)
    rw [hv] at hC
    have u1 := fun (w' : World) (h : Below W1.heap.size W1 w') => implClqN_any rs.length rs ro rc w' (hr.below h) hrl
    have u2 := fun (w' : World) (h : Below W1.heap.size W1 w') => implLargestIndep_any rs.length rs ro rc w' (hr.below h) hrl
    rw [hIe] at u2
    have u3 := fun (w' : World) (_ : Below W1.heap.size W1 w') => implCount_any I hI w'
    generalize clqN rs.length rs = q at *
    generalize cnt I = ci at *
    clear hIe hI
    go_wp2_with fail
    refine (Calls.later m (hC m)).mono ?_
    rintro e w' ⟨rfl, m, rfl⟩
    clear hC
    go_wp2_with fail
    have hA : Below W1.heap.size W1 m.w.drew := m.below.drew
    have hT0 : ∀ w', Below W1.heap.size W1 w' → Below W1.heap.size W1 w' ∧ w'.cell? ⟨w.heap.size, 0, none⟩ = some (.int .i64 rs.length) ∧ w'.cell? ⟨w.heap.size, 1, none⟩ = some (.slice ro rs.length rc) := fun w' h =>
      ⟨h, (h.cell hb0).trans hc0, (h.cell hb0).trans hc1⟩
    refine wp_region_B (fun w' => Below W1.heap.size W1 w' ∧ w'.cell? ⟨w.heap.size, 0, none⟩ = some (.int .i64 rs.length) ∧ w'.cell? ⟨w.heap.size, 1, none⟩ = some (.slice ro rs.length rc)) (fun _ => True) [] (by kernel_rfl) (hT0 _ hA) (trivial) (fun hM => ?_)
    refine wpAnyB_take (i := 0) (v := ?_) false rfl (by kernel_rfl) (by kernel_rfl) (by kernel_rfl) (by kernel_rfl) (by kernel_rfl) (fun _ _ _ h => h) (Or.inl ⟨by rfl, ?_⟩) hM (fun hM2 => ?_)
    rotate_left
    · (intro w hSw; replace hSw := hSw.1; (try dsimp only at hSw); go_simp; try with_reducible rfl)
    replace hM := hM2
    clear hM2
    try simp only [List.getElem_toArray, List.getElem_cons_zero, Act.put, List.setIfInBounds_toArray, List.set_cons_zero, List.set_cons_succ]
    refine wpAnyB_take (i := 2) (v := ?_) false rfl (by kernel_rfl) (by kernel_rfl) (by kernel_rfl) (by kernel_rfl) (by kernel_rfl) (fun _ _ _ h => h) (Or.inl ⟨by rfl, ?_⟩) hM (fun hM2 => ?_)
    rotate_left
    · (intro w hSw; replace hSw := hSw.1; (try dsimp only at hSw); go_simp; try with_reducible rfl)
    replace hM := hM2
    clear hM2
    try simp only [List.getElem_toArray, List.getElem_cons_succ, List.getElem_cons_zero, Act.put, List.setIfInBounds_toArray, List.set_cons_zero, List.set_cons_succ]
    refine wpAnyB_one (i := 1) (by kernel_rfl) rfl (fun K hK => ?_)
    (go_simp; go_at_call 85; refine (u1 _ hA).mono ?_; rintro e w6 ⟨rfl, hB6⟩; replace hA := below_more hA hB6; dsimp only)
    refine hK.out _ _ (meetB.both (hT0 _ hA) trivial) (fun hM2 => ?_)
    clear hK K
    replace hM := hM2
    clear hM2
    try simp only [List.getElem_toArray, List.getElem_cons_succ, List.getElem_cons_zero, Act.put, List.setIfInBounds_toArray, List.set_cons_zero, List.set_cons_succ]
    refine wpAnyB_one (i := 3) (by kernel_rfl) rfl (fun K hK => ?_)
    (go_simp; go_at_call 86; refine (u2 _ hA).mono ?_; rintro e w6 ⟨rfl, hB6⟩; replace hA := below_more hA hB6; dsimp only)
    refine hK.out _ _ (meetB.both (hT0 _ hA) trivial) (fun hM2 => ?_)
    clear hK K
    replace hM := hM2
    clear hM2
    try simp only [List.getElem_toArray, List.getElem_cons_succ, List.getElem_cons_zero, Act.put, List.setIfInBounds_toArray, List.set_cons_zero, List.set_cons_succ]
    refine wpAnyB_one (i := 4) (by kernel_rfl) rfl (fun K hK => ?_)
    (go_simp; go_at_call 81; refine (u3 _ hA).mono ?_; rintro e w6 ⟨rfl, hB6⟩; replace hA := below_more hA hB6; dsimp only)
    refine hK.out _ _ (meetB.both (hT0 _ hA) trivial) (fun hM2 => ?_)
    clear hK K
    replace hM := hM2
    clear hM2
    try simp only [List.getElem_toArray, List.getElem_cons_succ, List.getElem_cons_zero, Act.put, List.setIfInBounds_toArray, List.set_cons_zero, List.set_cons_succ]
    refine wpAnyB_one (i := 5) (by kernel_rfl) rfl (fun K hK => ?_)
    go_simp
    refine hK.out _ _ (meetB.both (hT0 _ (hA.alloc hA.size _)) trivial) (fun hM2 => ?_)
    clear hK K
    replace hM := hM2
    clear hM2
    try simp only [List.getElem_toArray, List.getElem_cons_succ, List.getElem_cons_zero, Act.put, List.setIfInBounds_toArray, List.set_cons_zero, List.set_cons_succ]
    refine wpAnyB_take (i := 6) (v := ?_) false rfl (by kernel_rfl) (by kernel_rfl) (by kernel_rfl) (by kernel_rfl) (by kernel_rfl) (fun _ _ _ h => h) (Or.inl ⟨by rfl, ?_⟩) hM (fun hM2 => ?_)
    rotate_left
    · (intro w hSw; replace hSw := hSw.1; (try dsimp only at hSw); go_simp; try with_reducible rfl)
    replace hM := hM2
    clear hM2
    try simp only [List.getElem_toArray, List.getElem_cons_succ, List.getElem_cons_zero, Act.put, List.setIfInBounds_toArray, List.set_cons_zero, List.set_cons_succ]
    refine wpAnyB_take (i := 7) (v := ?_) false rfl (by kernel_rfl) (by kernel_rfl) (by kernel_rfl) (by kernel_rfl) (by kernel_rfl) (fun _ _ _ h => h) (Or.inl ⟨by rfl, ?_⟩) hM (fun hM2 => ?_)
    rotate_left
    · (intro w hSw; replace hSw := hSw.1; (try dsimp only at hSw); go_simp; try with_reducible rfl)
    replace hM := hM2
    clear hM2
    try simp only [List.getElem_toArray, List.getElem_cons_succ, List.getElem_cons_zero, Act.put, List.setIfInBounds_toArray, List.set_cons_zero, List.set_cons_succ]
    refine wpAnyB_done (by kernel_rfl) ?_ _
    generalize hW9 : World.alloc _ _ = W9
    obtain ⟨hB9, -, k9⟩ := alloc1 hW9
    have o0 := k9.cell 0
    have o1 := k9.cell 1
    have o4 := k9.lt
    simp at o0 o1
    have HR := Lib.hid (HE.out W9 _ 2 (HhB.out.trans ((below_more hA hB9).mono HhB.out.size)) o4 o0 o1)
    clear hT0 hM hA hB6 u1 u2 u3 hB9 k9 hW9
    go_wp2_with fail
    go_ret2
    exact HR.out

end Go.Proofs.YtjikmjhpmkakoaaGreatDoor
