/-
  What FnArcs draws: arcs on a circle. For texts of at most 2^20 bytes.
-/
import Derived.Test.YtfkehmpckhmkbaaDoorPkCardArcs14
import Derived.Test.YtfkehmpckhmkbaaDoorPkCardArcs11
import Derived.Test.YtfkehmpckhmkbaaDoorPkCardArcs22
import Derived.Test.YtfkehmpckhmkbaaDoorPkCardArcs23
import Derived.Deep.CutRange
namespace Go.Proofs.YtfkehmpckhmkbaaDoor
open Go.RowKit

theorem TwoL.only {w w' : World} {base cb : Nat} {v1 v2 : Value} {L R : List Int} (h : TwoL w base v1 v2 L R) (hO : Only (fun b => b = cb) w.heap.size w w') (hc : cb < base) : TwoL w' base v1 v2 L R := by
  have hg : w.grownBy w' (some cb) := ⟨hO.os, hO.tape, hO.output, hO.size, fun k hk hne => hO.block k hk fun e => hne (by rw [show k = cb from e])⟩
  have key : ∀ v xs, OwnL w base v xs → OwnL w' base v xs := fun v xs ho => by
    refine ho.kept hg ?_
    cases hv : v.ownBlock with
    | none => exact .inl rfl
    | some k => exact .inr fun e => by have := (ho.lt hv).1; simp only [Option.some.injEq] at e; omega
  exact ⟨key _ _ h.o1, key _ _ h.o2, h.ne⟩
/-- A list in fresh memory. -/
def FrI (w : World) (base : Nat) (ao : Option Addr) (xs : List Int) : Prop := IntsAt w ao xs ∧ ∀ a, ao = some a → base ≤ a.block
theorem FrI.only {X : Nat → Prop} {w w' : World} {base : Nat} {ao : Option Addr} {xs : List Int} (h : FrI w base ao xs) (hO : Only X w.heap.size w w') (hX : ∀ b, base ≤ b → ¬X b) : FrI w' base ao xs :=
  ⟨h.1.only hO fun b off e => hX b (h.2 _ e), h.2⟩
theorem FrI.below {w w' : World} {base : Nat} {ao : Option Addr} {xs : List Int} (h : FrI w base ao xs) (hb : Below w.heap.size w w') : FrI w' base ao xs := ⟨h.1.below hb, h.2⟩
theorem FrI.mono {w : World} {base base' : Nat} {ao : Option Addr} {xs : List Int} (h : FrI w base ao xs) (hb : base' ≤ base) : FrI w base' ao xs := ⟨h.1, fun a e => Nat.le_trans hb (h.2 a e)⟩
theorem FrI.store {w : World} {base : Nat} {ao : Option Addr} {xs : List Int} (h : FrI w base ao xs) {a : Addr} (ha : a.block < base) (u : Value) : FrI (w.setCell a u) base ao xs :=
  h.only (X := fun b => b = a.block) (Only.setCell (X := fun b => b = a.block) (Only.refl _ _ _) (p := a) (.inl rfl) u) fun b hb e => by have e2 : b = a.block := e; omega
theorem OwnE.fr {w : World} {base cap : Nat} {ao : Option Addr} {xs : List Int} (h : OwnE w base ao cap xs) (h0 : 0 < xs.length) : FrI w base ao xs := by
  obtain ⟨g, rfl, hg, hR⟩ := h.row h0
  exact ⟨hR.ints, fun a e => by cases e; exact hg⟩

/-- Arcs have been drawn. -/
def RetAr (cb : Nat) (bo : Option Addr) (n c : Nat) (w : World) (e : Ending) (w' : World) : Prop :=
  ∃ (C : Int) (f l : List Int) (fo lo : Option Addr) (fc lc : Nat), f.length ≤ 6 ∧ l.length ≤ 6 ∧ e = .returned (.agg #[.int .i64 C, .slice fo f.length fc, .slice lo l.length lc]) ∧ FrI w' w.heap.size fo f ∧ FrI w' w.heap.size lo l ∧ DrewC cb bo n c w w'

set_option maxRecDepth 100000 in
set_option maxHeartbeats 8000000 in
theorem l23Arcs_any (cb n c : Nat) (bo : Option Addr) (w : World) (h : CurAt w cb bo n c) :
    Calls Tryd.prog 26 #[.pointer (some ⟨cb, 0, none⟩)] w (RetAr cb bo n c w) := by
  have hcw := h.lt
  go_enter Tryd.func26, Tryd.ntmps26
  go_wp2_with fail
  generalize hW : World.alloc _ _ = W1
  obtain ⟨hB, hs, k0⟩ := alloc1 hW
  have hD := DrewC.refl (h.below hB)
  have hs1 : w.heap.size < W1.heap.size := by omega
  clear hW hs
  have HhB := Lib.hid hB
  clear hB
  have Hk0 := Lib.hid k0
  clear k0
  have Hend := Lib.hid (fun (wz : World) (C : Int) (f l : List Int) (fo lo : Option Addr) (fc lc : Nat) (hf : f.length ≤ 6) (hl : l.length ≤ 6) (hD : DrewC cb bo n c W1 wz) (h1 : FrI wz W1.heap.size fo f) (h2 : FrI wz W1.heap.size lo l) => (
    ⟨C, f, l, fo, lo, fc, lc, hf, hl, rfl, (((h1.store (a := ⟨w.heap.size, 0, none⟩) hs1 _).store (a := ⟨w.heap.size, 1, none⟩) hs1 _).store (a := ⟨w.heap.size, 2, none⟩) hs1 _).mono (by omega), (((h2.store (a := ⟨w.heap.size, 0, none⟩) hs1 _).store (a := ⟨w.heap.size, 1, none⟩) hs1 _).store (a := ⟨w.heap.size, 2, none⟩) hs1 _).mono (by omega),
      (((hD.front HhB.out).store (a := ⟨w.heap.size, 0, none⟩) (Nat.le_refl _) hcw _).store (a := ⟨w.heap.size, 1, none⟩) (Nat.le_refl _) hcw _).store (a := ⟨w.heap.size, 2, none⟩) (Nat.le_refl _) hcw _⟩ :
    RetAr cb bo n c w (.returned (.agg #[.int .i64 C, .slice fo f.length fc, .slice lo l.length lc])) (((wz.setCell ⟨w.heap.size, 0, none⟩ (.int .i64 C)).setCell ⟨w.heap.size, 1, none⟩ (.slice fo f.length fc)).setCell ⟨w.heap.size, 2, none⟩ (.slice lo l.length lc))))
  have Hblk := Lib.hid (fun (wz : World) (hD : DrewC cb bo n c W1 wz) => (hD.blk Hk0.out (by omega) : Blk wz w.heap.size #[.int .i64 0, .slice none 0 0, .slice none 0 0] 26))
  refine (l1Below_any 10 cb n c bo W1 hD.cur (by omega) (by omega)).mono ?_
  rintro e w1 ⟨u, hu, rfl, hD1⟩
  replace hD := hD.trans hD1
  have hW1s := hD.only.size
  clear hD1
  go_wp2_with fail
  generalize hWb : World.alloc _ _ = W2
  obtain ⟨hBb, hzb, kb⟩ := alloc1 hWb
  have hcb1 := hD.cur.lt
  replace hD := hD.below hBb
  have hyW : w1.heap.size < W2.heap.size := by omega
  clear hWb hBb hzb
  generalize w1.heap.size = yb at *
  refine (l1Below_any 6 cb n c bo W2 hD.cur (by omega) (by omega)).mono ?_
  rintro e w3 ⟨u2, hu2, rfl, hD1⟩
  replace kb := hD1.blk kb (by omega)
  replace hD := hD.trans hD1
  have hs3 := hD1.only.size
  clear hD1
  generalize hC : (3 : Int) + (u : Int) = C at *
  have hC1 : 3 ≤ C := by omega
  have hC2 : C ≤ 12 := by omega
  clear hC
  have hTn : TwoL w3 W2.heap.size (.slice none 0 0) (.slice none 0 0) [] [] := TwoL.nil _ _
  have HhD := Lib.hid hD
  clear hD
  have Hkb := Lib.hid kb
  clear kb
  have HhTn := Lib.hid hTn
  clear hTn
  go_upto_region 3 with fail
  go_loopw [4] (fun i wr => ∃ (k : Nat) (f l : List Int) (v1 v2 : Value), i = .int .i64 k ∧ k + f.length = u2 + 1 ∧ l.length = f.length ∧ DrewC cb bo n c W1 wr ∧ W2.heap.size ≤ wr.heap.size ∧ Blk wr yb #[.int .i64 C, v1, v2] 26 ∧ TwoL wr W2.heap.size v1 v2 f l) (fun i _ => (intOf i).toNat)
  case atStart => exact ⟨u2 + 1, [], [], _, _, by go_num, by simp, rfl, HhD.out, hs3, Hkb.out, HhTn.out⟩
  case round =>
    clear HhD Hkb HhTn
    obtain ⟨k, f, l, v1, v2, rfl, hkf, hll, hD, hsz, kb, hT⟩ := hrel
    obtain ⟨ao, c1, rfl⟩ := hT.o1.form
    obtain ⟨bo2, c2, rfl⟩ := hT.o2.form
    by_cases hk0 : 0 < k
    · have d0 : decide (0 < (k : Int)) = true := decide_eq_true (by omega)
      have Hkp := Lib.hid hk0
      have hk6 : k ≤ 6 := by omega
      have hq : (k : Int) - 1 = ((k - 1 : Nat) : Int) := by omega
      have hfl : f.length ≤ 1048576 := by omega
      have x0 := kb.cell 0
      have x1 := kb.cell 1
      have x2 := kb.cell 2
      have x4 := kb.lt
      simp at x0 x1 x2
      have hcw2 := hD.cur.lt
      have hCur : CurAt wr.drew cb bo n c := hD.cur.below (Below.refl _ _).drew
      have HhD := Lib.hid hD
      clear hD
      have Hkb := Lib.hid kb
      clear kb
      have HhT := Lib.hid hT
      clear hT
      have Hhkf := Lib.hid hkf
      clear hkf
      have Hhll := Lib.hid hll
      clear hll
      go_upto_region 5 with fail
      refine wp_region_B (fun w' => w'.cell? ⟨yb, 0, none⟩ = some (.int .i64 C)) (fun w' => w'.cell? ⟨yb, 1, none⟩ = some (.slice ao f.length c1)) [9] (by kernel_rfl) (x0) (x1) (fun hM => ?_)
      refine wpAnyB_take (i := 0) (v := ?_) false rfl (by kernel_rfl) (by kernel_rfl) (by kernel_rfl) (by kernel_rfl) (by kernel_rfl) (fun _ _ _ h => h) (Or.inl ⟨by rfl, ?_⟩) hM (fun hM2 => ?_)
      rotate_left
      · (intro w hSw; replace hSw := hSw.1; (try dsimp only at hSw); go_simp; try with_reducible rfl)
      replace hM := hM2
      clear hM2
      try simp only [List.getElem_toArray, List.getElem_cons_zero, Act.put, List.setIfInBounds_toArray, List.set_cons_zero, List.set_cons_succ]
      refine wpAnyB_take (i := 1) (v := ?_) true rfl (by kernel_rfl) (by kernel_rfl) (by kernel_rfl) (by kernel_rfl) (by kernel_rfl) (fun _ _ _ h => h) (Or.inl ⟨by rfl, ?_⟩) hM (fun hM2 => ?_)
      rotate_left
      · (intro w hSw; have hSl := hSw.2 rfl; replace hSw := hSw.1; (try dsimp only at hSl); (try dsimp only at hSw); go_simp; try with_reducible rfl)
      replace hM := hM2
      clear hM2
      try simp only [List.getElem_toArray, List.getElem_cons_succ, List.getElem_cons_zero, Act.put, List.setIfInBounds_toArray, List.set_cons_zero, List.set_cons_succ]
      refine wpAnyB_take (i := 2) (v := ?_) false rfl (by kernel_rfl) (by kernel_rfl) (by kernel_rfl) (by kernel_rfl) (by kernel_rfl) (fun _ _ _ h => h) (Or.inl ⟨by rfl, ?_⟩) hM (fun hM2 => ?_)
      rotate_left
      · (intro w hSw; replace hSw := hSw.1; (try dsimp only at hSw); go_simp; try with_reducible rfl)
      replace hM := hM2
      clear hM2
      try simp only [List.getElem_toArray, List.getElem_cons_succ, List.getElem_cons_zero, Act.put, List.setIfInBounds_toArray, List.set_cons_zero, List.set_cons_succ]
      refine wpAnyB_take (i := 3) (v := ?_) false rfl (by kernel_rfl) (by kernel_rfl) (by kernel_rfl) (by kernel_rfl) (by kernel_rfl) (fun _ _ _ h => h) (Or.inl ⟨by rfl, ?_⟩) hM (fun hM2 => ?_)
      rotate_left
      · (intro w hSw; replace hSw := hSw.1; (try dsimp only at hSw); go_simp; try with_reducible rfl)
      replace hM := hM2
      clear hM2
      try simp only [List.getElem_toArray, List.getElem_cons_succ, List.getElem_cons_zero, Act.put, List.setIfInBounds_toArray, List.set_cons_zero, List.set_cons_succ]
      refine wpAnyB_take (i := 4) (v := ?_) false rfl (by kernel_rfl) (by kernel_rfl) (by kernel_rfl) (by kernel_rfl) (by kernel_rfl) (fun _ _ _ h => h) (Or.inl ⟨by rfl, ?_⟩) hM (fun hM2 => ?_)
      rotate_left
      · (intro w hSw; replace hSw := hSw.1; (try dsimp only at hSw); go_simp; try with_reducible rfl)
      replace hM := hM2
      clear hM2
      try simp only [List.getElem_toArray, List.getElem_cons_succ, List.getElem_cons_zero, Act.put, List.setIfInBounds_toArray, List.set_cons_zero, List.set_cons_succ]
      refine wpAnyB_one (i := 5) (by kernel_rfl) rfl (fun K hK => ?_)
      (go_simp; go_at_call 44; refine (l1BelowI_any C cb n c bo _ hCur (by omega) (by omega)).mono ?_; rintro e w4 ⟨z, hz, rfl, hD3⟩; have kb3 := hD3.blk Hkb.out.drew (by omega); dsimp only)
      refine hK.out _ _ (meetB.both (by simpa using kb3.cell 0) (by simpa using kb3.cell 1)) (fun hM2 => ?_)
      clear hK K
      replace hM := hM2
      clear hM2
      try simp only [List.getElem_toArray, List.getElem_cons_succ, List.getElem_cons_zero, Act.put, List.setIfInBounds_toArray, List.set_cons_zero, List.set_cons_succ]
      have hT3 := (HhT.out.drew).only hD3.only (by omega)
      have hs4 : W2.heap.size ≤ w4.heap.size := Nat.le_trans hsz hD3.only.size
      have hD4 := (HhD.out.below (Below.refl _ _).drew).trans hD3
      have hA0 : ∀ cs : Array Value, Below W2.heap.size w4 (w4.alloc (.cells cs 3)) := fun cs => (Below.refl _ _).alloc hs4 _
      have y0 := kb3.cell 0
      have y1 := kb3.cell 1
      simp at y0 y1
      refine wpAnyB_one (i := 6) (by kernel_rfl) rfl (fun K hK => ?_)
      go_simp
      refine hK.out _ _ (meetB.both (((hA0 _).cell (p := ⟨yb, 0, none⟩) hyW).trans y0) (((hA0 _).cell (p := ⟨yb, 1, none⟩) hyW).trans y1)) (fun hM2 => ?_)
      clear hK K
      replace hM := hM2
      clear hM2
      try simp only [List.getElem_toArray, List.getElem_cons_succ, List.getElem_cons_zero, Act.put, List.setIfInBounds_toArray, List.set_cons_zero, List.set_cons_succ]
      have hT7 : TwoL (w4.alloc (.cells #[.int .i64 (z : Int)] 3)) W2.heap.size (.slice ao f.length c1) (.slice bo2 l.length c2) f l := hT3.alloc _
      refine wpAnyB_one (i := 7) (by kernel_rfl) rfl (fun K hK => ?_)
      (refine step_append_1 (by rfl) _ _ (by rfl) W2.heap.size (.slice ao f.length c1) (.slice bo2 l.length c2) f l (z : Int) _ (by rfl) hT7 (by rfl) (cell_new rfl) (by simp; omega) hfl f.length rfl ?_; intro g4 c4 w6 hT6 hB6 _; have hB7 := (hA0 #[.int .i64 (z : Int)]).trans hB6)
      refine hK.out _ _ (meetB.both ((hB7.cell (p := ⟨yb, 0, none⟩) hyW).trans y0) ((hB7.cell (p := ⟨yb, 1, none⟩) hyW).trans y1)) (fun hM2 => ?_)
      clear hK K
      replace hM := hM2
      clear hM2
      try simp only [List.getElem_toArray, List.getElem_cons_succ, List.getElem_cons_zero, Act.put, List.setIfInBounds_toArray, List.set_cons_zero, List.set_cons_succ]
      refine wpAnyB_take (i := 8) (v := ?_) false rfl (by kernel_rfl) (by kernel_rfl) (by kernel_rfl) (by kernel_rfl) (by kernel_rfl) (fun _ _ _ h => h) (Or.inl ⟨by rfl, ?_⟩) hM (fun hM2 => ?_)
      rotate_left
      · (intro w hSw; replace hSw := hSw.1; (try dsimp only at hSw); go_simp; try with_reducible rfl)
      replace hM := hM2
      clear hM2
      try simp only [List.getElem_toArray, List.getElem_cons_succ, List.getElem_cons_zero, Act.put, List.setIfInBounds_toArray, List.set_cons_zero, List.set_cons_succ]
      have kb6 := kb3.below hB7 hyW
      have q0 := kb6.cell 0
      have q1 := kb6.cell 1
      have q2 := kb6.frozen 1
      have q4 := kb6.lt
      simp at q0 q1
      have kb9 : Blk (w6.setCell ⟨yb, 1, none⟩ (.slice (some ⟨g4, 0, none⟩) (f.length + 1) c4)) yb #[.int .i64 C, .slice (some ⟨g4, 0, none⟩) (f.length + 1) c4, .slice bo2 l.length c2] 26 := by simpa using kb6.store 1 (.slice (some ⟨g4, 0, none⟩) (f.length + 1) c4)
      have y9 := kb9.cell 0
      simp only [List.getElem?_toArray, List.getElem?_cons_zero] at y9
      refine wpAnyB_one (i := 9) (by kernel_rfl) rfl (fun K hK => ?_)
      go_simp
      refine hK.out _ _ (meetB.late (by simpa using y9) (by kernel_rfl)) (fun hM2 => ?_)
      clear hK K
      replace hM := hM2
      clear hM2
      try simp only [List.getElem_toArray, List.getElem_cons_succ, List.getElem_cons_zero, Act.put, List.setIfInBounds_toArray, List.set_cons_zero, List.set_cons_succ]
      refine wpAnyB_done (by kernel_rfl) ?_ _
      have hT9 := hT6.store (a := ⟨yb, 1, none⟩) hyW (.slice (some ⟨g4, 0, none⟩) (f.length + 1) c4)
      have hD9 := (hD4.grow hB7 (by omega) (by omega)).store (a := ⟨yb, 1, none⟩) hW1s hcb1 (.slice (some ⟨g4, 0, none⟩) (f.length + 1) c4)
      have hs9 : W2.heap.size ≤ (w6.setCell ⟨yb, 1, none⟩ (.slice (some ⟨g4, 0, none⟩) (f.length + 1) c4)).heap.size := by have := hB7.size; simp; omega
      clear y9 q0 q1 q2 q4 kb6 hT6 hB6 hB7 hT7 y0 y1 hA0 hT3 hD4 hs4 kb3 hM x0 x1 x2 x4 hcw2 hCur HhD Hkb HhT hD3 hz hsz
      generalize World.setCell _ _ _ = wr at *
      have x0 := kb9.cell 0
      have x1 := kb9.cell 1
      have x2 := kb9.cell 2
      have x4 := kb9.lt
      simp at x0 x1 x2
      have hcw2 := hD9.cur.lt
      have hCur : CurAt wr.drew cb bo n c := hD9.cur.below (Below.refl _ _).drew
      have hgl : l.length ≤ 1048576 := by have := Hhll.out; omega
      have hdv : 0 ≤ C.tdiv 3 ∧ C.tdiv 3 ≤ 4 := by rw [Int.tdiv_eq_ediv_of_nonneg (by omega)]; omega
      have hw1 : IntKind.i64.wrap (C.tdiv 3) = C.tdiv 3 := IntKind_i64_in _ (by omega) (by omega)
      have hw2 : IntKind.i64.wrap (1 + C.tdiv 3) = 1 + C.tdiv 3 := IntKind_i64_in _ (by omega) (by omega)
      have HhD9 := Lib.hid hD9
      clear hD9
      have Hkb9 := Lib.hid kb9
      clear kb9
      have HhT9 := Lib.hid hT9
      clear hT9
      go_upto_region 6 with fail
      refine wp_region_B (fun w' => w'.cell? ⟨yb, 0, none⟩ = some (.int .i64 C)) (fun w' => w'.cell? ⟨yb, 2, none⟩ = some (.slice bo2 l.length c2)) [12] (by kernel_rfl) (x0) (x2) (fun hM => ?_)
      refine wpAnyB_take (i := 0) (v := ?_) false rfl (by kernel_rfl) (by kernel_rfl) (by kernel_rfl) (by kernel_rfl) (by kernel_rfl) (fun _ _ _ h => h) (Or.inl ⟨by rfl, ?_⟩) hM (fun hM2 => ?_)
      rotate_left
      · (intro w hSw; replace hSw := hSw.1; (try dsimp only at hSw); go_simp; try with_reducible rfl)
      replace hM := hM2
      clear hM2
      try simp only [List.getElem_toArray, List.getElem_cons_zero, Act.put, List.setIfInBounds_toArray, List.set_cons_zero, List.set_cons_succ]
      refine wpAnyB_take (i := 1) (v := ?_) true rfl (by kernel_rfl) (by kernel_rfl) (by kernel_rfl) (by kernel_rfl) (by kernel_rfl) (fun _ _ _ h => h) (Or.inl ⟨by rfl, ?_⟩) hM (fun hM2 => ?_)
      rotate_left
      · (intro w hSw; have hSl := hSw.2 rfl; replace hSw := hSw.1; (try dsimp only at hSl); (try dsimp only at hSw); go_simp; try with_reducible rfl)
      replace hM := hM2
      clear hM2
      try simp only [List.getElem_toArray, List.getElem_cons_succ, List.getElem_cons_zero, Act.put, List.setIfInBounds_toArray, List.set_cons_zero, List.set_cons_succ]
      refine wpAnyB_take (i := 2) (v := ?_) false rfl (by kernel_rfl) (by kernel_rfl) (by kernel_rfl) (by kernel_rfl) (by kernel_rfl) (fun _ _ _ h => h) (Or.inl ⟨by rfl, ?_⟩) hM (fun hM2 => ?_)
      rotate_left
      · (intro w hSw; replace hSw := hSw.1; (try dsimp only at hSw); go_simp; try with_reducible rfl)
      replace hM := hM2
      clear hM2
      try simp only [List.getElem_toArray, List.getElem_cons_succ, List.getElem_cons_zero, Act.put, List.setIfInBounds_toArray, List.set_cons_zero, List.set_cons_succ]
      refine wpAnyB_take (i := 3) (v := ?_) false rfl (by kernel_rfl) (by kernel_rfl) (by kernel_rfl) (by kernel_rfl) (by kernel_rfl) (fun _ _ _ h => h) (Or.inl ⟨by rfl, ?_⟩) hM (fun hM2 => ?_)
      rotate_left
      · (intro w hSw; replace hSw := hSw.1; (try dsimp only at hSw); go_simp; try with_reducible rfl)
      replace hM := hM2
      clear hM2
      try simp only [List.getElem_toArray, List.getElem_cons_succ, List.getElem_cons_zero, Act.put, List.setIfInBounds_toArray, List.set_cons_zero, List.set_cons_succ]
      refine wpAnyB_take (i := 4) (v := ?_) false rfl (by kernel_rfl) (by kernel_rfl) (by kernel_rfl) (by kernel_rfl) (by kernel_rfl) (fun _ _ _ h => h) (Or.inl ⟨by rfl, ?_⟩) hM (fun hM2 => ?_)
      rotate_left
      · (intro w hSw; replace hSw := hSw.1; (try dsimp only at hSw); go_simp; try with_reducible rfl)
      replace hM := hM2
      clear hM2
      try simp only [List.getElem_toArray, List.getElem_cons_succ, List.getElem_cons_zero, Act.put, List.setIfInBounds_toArray, List.set_cons_zero, List.set_cons_succ]
      refine wpAnyB_take (i := 5) (v := ?_) false rfl (by kernel_rfl) (by kernel_rfl) (by kernel_rfl) (by kernel_rfl) (by kernel_rfl) (fun _ _ _ h => h) (Or.inl ⟨by rfl, ?_⟩) hM (fun hM2 => ?_)
      rotate_left
      · (intro w hSw; replace hSw := hSw.1; (try dsimp only at hSw); go_simp; try with_reducible rfl)
      replace hM := hM2
      clear hM2
      try simp only [List.getElem_toArray, List.getElem_cons_succ, List.getElem_cons_zero, Act.put, List.setIfInBounds_toArray, List.set_cons_zero, List.set_cons_succ]
      refine wpAnyB_take (i := 6) (v := ?_) false rfl (by kernel_rfl) (by kernel_rfl) (by kernel_rfl) (by kernel_rfl) (by kernel_rfl) (fun _ _ _ h => h) (Or.inl ⟨by rfl, ?_⟩) hM (fun hM2 => ?_)
      rotate_left
      · (intro w hSw; replace hSw := hSw.1; (try dsimp only at hSw); go_simp; try with_reducible rfl)
      replace hM := hM2
      clear hM2
      try simp only [List.getElem_toArray, List.getElem_cons_succ, List.getElem_cons_zero, Act.put, List.setIfInBounds_toArray, List.set_cons_zero, List.set_cons_succ]
      refine wpAnyB_one (i := 7) (by kernel_rfl) rfl (fun K hK => ?_)
      (go_simp; go_at_call 44; refine (l1BelowI_any (1 + C.tdiv 3) cb n c bo _ hCur (by omega) (by omega)).mono ?_; rintro e w4 ⟨z2, hz2, rfl, hD3⟩; have kb3 := hD3.blk Hkb9.out.drew (by omega); dsimp only)
      refine hK.out _ _ (meetB.both (by simpa using kb3.cell 0) (by simpa using kb3.cell 2)) (fun hM2 => ?_)
      clear hK K
      replace hM := hM2
      clear hM2
      try simp only [List.getElem_toArray, List.getElem_cons_succ, List.getElem_cons_zero, Act.put, List.setIfInBounds_toArray, List.set_cons_zero, List.set_cons_succ]
      have hw3 : IntKind.i64.wrap (1 + (z2 : Int)) = 1 + (z2 : Int) := IntKind_i64_in _ (by omega) (by omega)
      have hT3 := (HhT9.out.drew).only hD3.only (by omega)
      have hs4 : W2.heap.size ≤ w4.heap.size := Nat.le_trans hs9 hD3.only.size
      have hD4 := (HhD9.out.below (Below.refl _ _).drew).trans hD3
      have hA0 : ∀ cs : Array Value, Below W2.heap.size w4 (w4.alloc (.cells cs 3)) := fun cs => (Below.refl _ _).alloc hs4 _
      have y0 := kb3.cell 0
      have y1 := kb3.cell 2
      simp at y0 y1
      refine wpAnyB_take (i := 8) (v := ?_) false rfl (by kernel_rfl) (by kernel_rfl) (by kernel_rfl) (by kernel_rfl) (by kernel_rfl) (fun _ _ _ h => h) (Or.inl ⟨by rfl, ?_⟩) hM (fun hM2 => ?_)
      rotate_left
      · (intro w hSw; replace hSw := hSw.1; (try dsimp only at hSw); go_simp; try with_reducible rfl)
      replace hM := hM2
      clear hM2
      try simp only [List.getElem_toArray, List.getElem_cons_succ, List.getElem_cons_zero, Act.put, List.setIfInBounds_toArray, List.set_cons_zero, List.set_cons_succ]
      refine wpAnyB_one (i := 9) (by kernel_rfl) rfl (fun K hK => ?_)
      go_simp
      refine hK.out _ _ (meetB.both (((hA0 _).cell (p := ⟨yb, 0, none⟩) hyW).trans y0) (((hA0 _).cell (p := ⟨yb, 2, none⟩) hyW).trans y1)) (fun hM2 => ?_)
      clear hK K
      replace hM := hM2
      clear hM2
      try simp only [List.getElem_toArray, List.getElem_cons_succ, List.getElem_cons_zero, Act.put, List.setIfInBounds_toArray, List.set_cons_zero, List.set_cons_succ]
      have hT7 : TwoL (w4.alloc (.cells #[.int .i64 (1 + (z2 : Int))] 3)) W2.heap.size (.slice (some ⟨g4, 0, none⟩) (f.length + 1) c4) (.slice bo2 l.length c2) (f ++ [(z : Int)]) l := hT3.alloc _
      refine wpAnyB_one (i := 10) (by kernel_rfl) rfl (fun K hK => ?_)
      (refine step_append_2 (by rfl) _ _ (by rfl) W2.heap.size (.slice (some ⟨g4, 0, none⟩) (f.length + 1) c4) (.slice bo2 l.length c2) (f ++ [(z : Int)]) l (1 + (z2 : Int)) _ (by rfl) hT7 (by rfl) (cell_new rfl) (by simp; omega) hgl l.length rfl ?_; intro g5 c5 w6 hT6 hB6; have hB7 := (hA0 #[.int .i64 (1 + (z2 : Int))]).trans hB6)
      refine hK.out _ _ (meetB.both ((hB7.cell (p := ⟨yb, 0, none⟩) hyW).trans y0) ((hB7.cell (p := ⟨yb, 2, none⟩) hyW).trans y1)) (fun hM2 => ?_)
      clear hK K
      replace hM := hM2
      clear hM2
      try simp only [List.getElem_toArray, List.getElem_cons_succ, List.getElem_cons_zero, Act.put, List.setIfInBounds_toArray, List.set_cons_zero, List.set_cons_succ]
      refine wpAnyB_take (i := 11) (v := ?_) false rfl (by kernel_rfl) (by kernel_rfl) (by kernel_rfl) (by kernel_rfl) (by kernel_rfl) (fun _ _ _ h => h) (Or.inl ⟨by rfl, ?_⟩) hM (fun hM2 => ?_)
      rotate_left
      · (intro w hSw; replace hSw := hSw.1; (try dsimp only at hSw); go_simp; try with_reducible rfl)
      replace hM := hM2
      clear hM2
      try simp only [List.getElem_toArray, List.getElem_cons_succ, List.getElem_cons_zero, Act.put, List.setIfInBounds_toArray, List.set_cons_zero, List.set_cons_succ]
      have kb6 := kb3.below hB7 hyW
      have q0 := kb6.cell 0
      have q1 := kb6.cell 2
      have q2 := kb6.frozen 2
      have q4 := kb6.lt
      simp at q0 q1
      have kb10 : Blk (w6.setCell ⟨yb, 2, none⟩ (.slice (some ⟨g5, 0, none⟩) (l.length + 1) c5)) yb #[.int .i64 C, .slice (some ⟨g4, 0, none⟩) (f.length + 1) c4, .slice (some ⟨g5, 0, none⟩) (l.length + 1) c5] 26 := by simpa using kb6.store 2 (.slice (some ⟨g5, 0, none⟩) (l.length + 1) c5)
      have y9 := kb10.cell 0
      simp only [List.getElem?_toArray, List.getElem?_cons_zero] at y9
      refine wpAnyB_one (i := 12) (by kernel_rfl) rfl (fun K hK => ?_)
      go_simp
      refine hK.out _ _ (meetB.late (by simpa using y9) (by kernel_rfl)) (fun hM2 => ?_)
      clear hK K
      replace hM := hM2
      clear hM2
      try simp only [List.getElem_toArray, List.getElem_cons_succ, List.getElem_cons_zero, Act.put, List.setIfInBounds_toArray, List.set_cons_zero, List.set_cons_succ]
      refine wpAnyB_done (by kernel_rfl) ?_ _
      have hT10 := hT6.store (a := ⟨yb, 2, none⟩) hyW (.slice (some ⟨g5, 0, none⟩) (l.length + 1) c5)
      have hD10 := (hD4.grow hB7 (by omega) (by omega)).store (a := ⟨yb, 2, none⟩) hW1s hcb1 (.slice (some ⟨g5, 0, none⟩) (l.length + 1) c5)
      have hs10 : W2.heap.size ≤ (w6.setCell ⟨yb, 2, none⟩ (.slice (some ⟨g5, 0, none⟩) (l.length + 1) c5)).heap.size := by have := hB7.size; simp; omega
      clear y9 q0 q1 q2 q4 kb6 hT6 hB6 hB7 hT7 y0 y1 hA0 hT3 hD4 hs4 kb3 hM x0 x1 x2 x4 hcw2 hCur HhD9 Hkb9 HhT9 hD3 hz2 hs9 hw1 hw2 hw3 hdv
      generalize World.setCell _ _ _ = wr at *
      have HhD10 := Lib.hid hD10
      clear hD10
      have Hkb10 := Lib.hid kb10
      clear kb10
      have HhT10 := Lib.hid hT10
      clear hT10
      go_wp2_with fail
      go_roundw
      case rel => exact ⟨k - 1, f ++ [(z : Int)], l ++ [1 + (z2 : Int)], _, _, by go_num, by have := Hhkf.out; have := Hkp.out; simp; omega, by have := Hhll.out; simp; omega, HhD10.out, hs10, Hkb10.out, HhT10.out⟩
      case measure => have := Hkp.out; simp [intOf]; omega
    · obtain rfl : k = 0 := by omega
      have d0 : decide (0 < ((0 : Nat) : Int)) = false := rfl
      obtain ⟨ga, rfl, hga, hRa⟩ := (OwnE.own hT.o1).row (by omega)
      obtain ⟨gb, rfl, hgb, hRb⟩ := (OwnE.own hT.o2).row (by omega)
      have hne : ga ≠ gb := by
        rcases hT.ne with e | e
        · simp [Value.ownBlock] at e
        · intro e2; subst e2; exact e (by simp [Value.ownBlock])
      have hf6 : f.length ≤ 6 := by omega
      have hl6 : l.length ≤ 6 := by omega
      have hf1 : 1 ≤ f.length := by omega
      have hl1 : 1 ≤ l.length := by omega
      have hRa2 := hRa
      obtain ⟨-, -, hc1, -⟩ := hRa2
      clear hT hkf hll
      have hcw3 := hD.cur.lt
      have Hkb := Lib.hid kb
      clear kb
      have HhRa := Lib.hid hRa
      clear hRa
      have HhRb := Lib.hid hRb
      clear hRb
      go_wp2_with fail
      refine (l1Below_any 14 cb n c bo wr hD.cur (by omega) (by omega)).mono ?_
      rintro e w4 ⟨q, hq, rfl, hD3⟩
      have hRa := hD3.row HhRa.out (by omega)
      have hRb := hD3.row HhRb.out (by omega)
      have kb := hD3.blk Hkb.out (by omega)
      have hs4 := Nat.le_trans hsz hD3.only.size
      replace hD := hD.trans hD3
      have hcw4 := hD.cur.lt
      clear hD3 Hkb HhRa HhRb
      rcases (show q = 0 ∨ q = 1 ∨ q = 2 ∨ 3 ≤ q by omega) with rfl | rfl | rfl | h3
      · have HhD := Lib.hid hD
        clear hD
        have Hkb := Lib.hid kb
        clear kb
        have HhRa := Lib.hid hRa
        clear hRa
        have HhRb := Lib.hid hRb
        clear hRb
        go_wp2_with fail
        generalize hW5 : World.alloc _ _ = W5
        obtain ⟨hB5, hz5, k5⟩ := alloc1 hW5
        have hcell : ∀ j, j < [(2 : Int), 31, 0].length → W5.cell? ⟨w4.heap.size, j, none⟩ = some (.int .i64 (gi [(2 : Int), 31, 0] j)) := fun j hj => by
          rw [k5.cell]
          match j, hj with
          | 0, _ => rfl
          | 1, _ => rfl
          | 2, _ => rfl
        have hP := l1PickInt_any [(2 : Int), 31, 0] w4.heap.size 3 cb n c bo W5 (HhD.out.cur.below hB5) (by decide) (by decide) (by omega) k5.lt hcell
        have hB6 := hB5
        clear hW5 hcell k5
        refine hP.mono ?_
        rintro e w6 ⟨j, hj, rfl, hD5⟩
        have kb6 := hD5.blk (Hkb.out.below hB6 Hkb.out.lt) (by omega)
        have hRa6 := hD5.row (HhRa.out.below hB6) (by omega)
        have hRb6 := hD5.row (HhRb.out.below hB6) (by omega)
        have hD6 := (HhD.out.below hB6).trans hD5
        generalize gi [(2 : Int), 31, 0] j = Z at *
        clear hP hj hD5 hB5 hB6 HhD Hkb HhRa HhRb hz5
        have q0 := kb6.cell 0
        have q2 := kb6.frozen 0
        have q4 := kb6.lt
        simp at q0
        have kb7 : Blk (w6.setCell ⟨yb, 0, none⟩ (.int .i64 Z)) yb #[.int .i64 Z, .slice (some ⟨ga, 0, none⟩) f.length c1, .slice (some ⟨gb, 0, none⟩) l.length c2] 26 := by simpa using kb6.store 0 (.int .i64 Z)
        have hRa7 := hRa6.otherCell (a := ⟨yb, 0, none⟩) (v := .int .i64 Z) (by simp; omega)
        have hRb7 := hRb6.otherCell (a := ⟨yb, 0, none⟩) (v := .int .i64 Z) (by simp; omega)
        have hD7 := hD6.store (a := ⟨yb, 0, none⟩) hW1s hcb1 (.int .i64 Z)
        have Hkb7 := Lib.hid kb7
        clear kb7
        have HhRa7 := Lib.hid hRa7
        clear hRa7
        have HhRb7 := Lib.hid hRb7
        clear hRb7
        have HhD7 := Lib.hid hD7
        clear hD7
        clear kb6 hRa6 hRb6 hD6
        go_upto_region 14 with fail
        have kb7 := Hkb7.out
        have hD7 := HhD7.out
        generalize World.setCell _ _ _ = w7 at *
        clear q0 q2 q4
        have k9 := Hblk.out _ hD7
        have y0 := k9.cell 0
        have y1 := k9.cell 1
        have y2 := k9.cell 2
        have y3 := k9.frozen 0
        have y4 := k9.frozen 1
        have y5 := k9.frozen 2
        have y6 := k9.lt
        have z0 := kb7.cell 0
        have z1 := kb7.cell 1
        have z2 := kb7.cell 2
        have z4 := kb7.lt
        simp at y0 y1 y2 z0 z1 z2
        have HE := Lib.hid (Hend.out w7 Z f l (some ⟨ga, 0, none⟩) (some ⟨gb, 0, none⟩) c1 c2 hf6 hl6 hD7 ⟨HhRa7.out.ints, fun a e => by cases e; show _ ≤ ga; omega⟩ ⟨HhRb7.out.ints, fun a e => by cases e; show _ ≤ gb; omega⟩)
        clear k9 hD7 kb7 Hblk Hend
        go_wp2_with fail
        refine bodyPost_ret (v := .agg #[.int .i64 Z, .slice (some ⟨ga, 0, none⟩) f.length c1, .slice (some ⟨gb, 0, none⟩) l.length c2]) (by simp [results, Tryd.results26, go_sem, y0, y1, y2]) rfl ?_
        exact HE.out
      · -- the length of the first arc
        have x2 := kb.cell 2
        have x4 := kb.lt
        simp at x2
        have hT0 : ∀ w', Only (fun b => b = cb ∨ b = gb) w4.heap.size w4 w' → Only (fun b => b = cb ∨ b = gb) w4.heap.size w4 w' ∧ w'.cell? ⟨yb, 2, none⟩ = some (.slice (some ⟨gb, 0, none⟩) l.length c2) := fun w' h =>
          ⟨h, (h.cell (p := ⟨yb, 2, none⟩) x4 (fun e => by have e2 : yb = cb ∨ yb = gb := e; omega)).trans x2⟩
        have hO0 : Only (fun b => b = cb ∨ b = gb) w4.heap.size w4 w4.drew := Only.of (Below.refl _ _).drew
        have hl0 : 0 < l.length := hl1
        have HhD := Lib.hid hD
        clear hD
        have Hkb := Lib.hid kb
        clear kb
        have HhRb := Lib.hid hRb
        clear hRb
        have HhRa := Lib.hid hRa
        clear hRa
        go_upto_region 11 with fail
        refine wp_region_B (fun w' => Only (fun b => b = cb ∨ b = gb) w4.heap.size w4 w' ∧ w'.cell? ⟨yb, 2, none⟩ = some (.slice (some ⟨gb, 0, none⟩) l.length c2)) (fun _ => True) [] (by kernel_rfl) (hT0 _ hO0) (trivial) (fun hM => ?_)
        refine wpAnyB_take (i := 0) (v := ?_) false rfl (by kernel_rfl) (by kernel_rfl) (by kernel_rfl) (by kernel_rfl) (by kernel_rfl) (fun _ _ _ h => h) (Or.inl ⟨by rfl, ?_⟩) hM (fun hM2 => ?_)
        rotate_left
        · (intro w hSw; replace hSw := hSw.1; (try dsimp only at hSw); go_simp; try with_reducible rfl)
        replace hM := hM2
        clear hM2
        try simp only [List.getElem_toArray, List.getElem_cons_zero, Act.put, List.setIfInBounds_toArray, List.set_cons_zero, List.set_cons_succ]
        refine wpAnyB_take (i := 1) (v := ?_) false rfl (by kernel_rfl) (by kernel_rfl) (by kernel_rfl) (by kernel_rfl) (by kernel_rfl) (fun _ _ _ h => h) (Or.inl ⟨by rfl, ?_⟩) hM (fun hM2 => ?_)
        rotate_left
        · (intro w hSw; replace hSw := hSw.1; (try dsimp only at hSw); go_simp; try with_reducible rfl)
        replace hM := hM2
        clear hM2
        try simp only [List.getElem_toArray, List.getElem_cons_succ, List.getElem_cons_zero, Act.put, List.setIfInBounds_toArray, List.set_cons_zero, List.set_cons_succ]
        refine wpAnyB_take (i := 2) (v := ?_) false rfl (by kernel_rfl) (by kernel_rfl) (by kernel_rfl) (by kernel_rfl) (by kernel_rfl) (fun _ _ _ h => h) (Or.inl ⟨by rfl, ?_⟩) hM (fun hM2 => ?_)
        rotate_left
        · (intro w hSw; replace hSw := hSw.1; (try dsimp only at hSw); go_simp; try with_reducible rfl)
        replace hM := hM2
        clear hM2
        try simp only [List.getElem_toArray, List.getElem_cons_succ, List.getElem_cons_zero, Act.put, List.setIfInBounds_toArray, List.set_cons_zero, List.set_cons_succ]
        have hB5 : Below w4.heap.size w4 (w4.alloc (.cells #[.int .i64 0, .int .i64 30, .int .i64 (-1)] 3)).drew := ((Below.refl _ _).alloc (Nat.le_refl _) _).drew
        have k5 : Blk (w4.alloc (.cells #[.int .i64 0, .int .i64 30, .int .i64 (-1)] 3)).drew w4.heap.size #[.int .i64 0, .int .i64 30, .int .i64 (-1)] 3 := (Blk.made w4 _ _ rfl).drew
        refine wpAnyB_one (i := 3) (by kernel_rfl) rfl (fun K hK => ?_)
        go_simp
        refine hK.out _ _ (meetB.both (hT0 _ (Only.of hB5)) trivial) (fun hM2 => ?_)
        clear hK K
        replace hM := hM2
        clear hM2
        try simp only [List.getElem_toArray, List.getElem_cons_succ, List.getElem_cons_zero, Act.put, List.setIfInBounds_toArray, List.set_cons_zero, List.set_cons_succ]
        have hcell : ∀ j, j < [(0 : Int), 30, -1].length → (w4.alloc (.cells #[.int .i64 0, .int .i64 30, .int .i64 (-1)] 3)).drew.cell? ⟨w4.heap.size, j, none⟩ = some (.int .i64 (gi [(0 : Int), 30, -1] j)) := fun j hj => by
          rw [k5.cell]
          match j, hj with
          | 0, _ => rfl
          | 1, _ => rfl
          | 2, _ => rfl
        have hP := l1PickInt_any [(0 : Int), 30, -1] w4.heap.size 3 cb n c bo _ (HhD.out.cur.below hB5) (by decide) (by decide) (by omega) k5.lt hcell
        refine wpAnyB_one (i := 4) (by kernel_rfl) rfl (fun K hK => ?_)
        (go_simp; go_at_call 42; refine hP.mono ?_; rintro e w6 ⟨j, hj, rfl, hD5⟩; have hO6 := (Only.of (X := fun b => b = cb ∨ b = gb) hB5).trans (hD5.only.mono (Nat.le_of_lt k5.lt) (fun _ _ e => .inl e)); dsimp only)
        refine hK.out _ _ (meetB.both (hT0 _ hO6) trivial) (fun hM2 => ?_)
        clear hK K
        replace hM := hM2
        clear hM2
        try simp only [List.getElem_toArray, List.getElem_cons_succ, List.getElem_cons_zero, Act.put, List.setIfInBounds_toArray, List.set_cons_zero, List.set_cons_succ]
        have hD6 := (HhD.out.below hB5).trans hD5
        have hRb6 := hD5.row (HhRb.out.below hB5) (by omega)
        have kb6 := hD5.blk (Hkb.out.below hB5 Hkb.out.lt) (by omega)
        have hRa6 := hD5.row (HhRa.out.below hB5) (by omega)
        have q0 := hRb6.cell 0 (by omega)
        have q2 := hRb6.frozen 0
        have q4 := hRb6.lt
        refine wpAnyB_take (i := 5) (v := ?_) false rfl (by kernel_rfl) (by kernel_rfl) (by kernel_rfl) (by kernel_rfl) (by kernel_rfl) (fun _ _ _ h => h) (Or.inl ⟨by rfl, ?_⟩) hM (fun hM2 => ?_)
        rotate_left
        · (intro w hSw; replace hSw := hSw.1; (try dsimp only at hSw); go_simp; try with_reducible rfl)
        replace hM := hM2
        clear hM2
        try simp only [List.getElem_toArray, List.getElem_cons_succ, List.getElem_cons_zero, Act.put, List.setIfInBounds_toArray, List.set_cons_zero, List.set_cons_succ]
        generalize gi [(0 : Int), 30, -1] j = Z at *
        have hO7 : Only (fun b => b = cb ∨ b = gb) w4.heap.size w4 (w6.setCell ⟨gb, 0, none⟩ (.int .i64 Z)) := Only.setCell (X := fun b => b = cb ∨ b = gb) hO6 (p := ⟨gb, 0, none⟩) (.inl (.inr rfl)) _
        refine wpAnyB_one (i := 6) (by kernel_rfl) rfl (fun K hK => ?_)
        go_simp
        refine hK.out _ _ (meetB.both (hT0 _ hO7) trivial) (fun hM2 => ?_)
        clear hK K
        replace hM := hM2
        clear hM2
        try simp only [List.getElem_toArray, List.getElem_cons_succ, List.getElem_cons_zero, Act.put, List.setIfInBounds_toArray, List.set_cons_zero, List.set_cons_succ]
        refine wpAnyB_done (by kernel_rfl) ?_ _
        have hRb7 := hRb6.store 0 Z
        have kb7 := kb6.other (a := ⟨gb, 0, none⟩) (.int .i64 Z) (by simp; omega)
        have hRa7 := hRa6.otherCell (a := ⟨gb, 0, none⟩) (v := .int .i64 Z) (by simp; omega)
        have hfa7 : FrI (w6.setCell ⟨gb, 0, none⟩ (.int .i64 Z)) W1.heap.size (some ⟨ga, 0, none⟩) f := ⟨hRa7.ints, fun a e => by cases e; show _ ≤ ga; omega⟩
        have hD7 := hD6.store (a := ⟨gb, 0, none⟩) (by show _ ≤ gb; omega) (by show _ < gb; omega) (.int .i64 Z)
        have hfb7 : FrI (w6.setCell ⟨gb, 0, none⟩ (.int .i64 Z)) W1.heap.size (some ⟨gb, 0, none⟩) (l.set 0 Z) := ⟨hRb7.ints, fun a e => by cases e; show _ ≤ gb; omega⟩
        have hl7 : (l.set 0 Z).length = l.length := List.length_set
        have hl8 : (l.set 0 Z).length ≤ 6 := by rw [hl7]; exact hl6
        rw [← hl7] at kb7
        generalize hls : l.set 0 Z = l9 at *
        have Hl9 := Lib.hid hl7
        clear hls hl7 q0 q2 q4 hT0 hO7 hO6 hM x2 x4 hRb7 hRb6 kb6 hRa6 hRa7 hD6 hcell hP hB5 k5 hO0 hD5 hj HhD Hkb HhRb HhRa
        have Hhfa7 := Lib.hid hfa7
        clear hfa7
        have Hhfb7 := Lib.hid hfb7
        clear hfb7
        generalize World.setCell _ _ _ = w7 at *
        have k9 := Hblk.out _ hD7
        have y0 := k9.cell 0
        have y1 := k9.cell 1
        have y2 := k9.cell 2
        have y3 := k9.frozen 0
        have y4 := k9.frozen 1
        have y5 := k9.frozen 2
        have y6 := k9.lt
        have z0 := kb7.cell 0
        have z1 := kb7.cell 1
        have z2 := kb7.cell 2
        have z4 := kb7.lt
        simp at y0 y1 y2 z0 z1 z2
        have HE := Lib.hid (Hend.out w7 C f l9 (some ⟨ga, 0, none⟩) (some ⟨gb, 0, none⟩) c1 c2 hf6 hl8 hD7 Hhfa7.out Hhfb7.out)
        clear k9 hD7 kb7 Hblk Hend
        go_wp2_with fail
        refine bodyPost_ret (v := .agg #[.int .i64 C, .slice (some ⟨ga, 0, none⟩) f.length c1, .slice (some ⟨gb, 0, none⟩) l9.length c2]) (by simp [results, Tryd.results26, go_sem, y0, y1, y2]) rfl ?_
        exact HE.out
      · have hfb : FrI w4 W2.heap.size (some ⟨gb, 0, none⟩) l := ⟨hRb.ints, fun a e => by cases e; show _ ≤ gb; omega⟩
        have hfa : FrI w4 W2.heap.size (if c1 = 1 then some ⟨ga, 0, none⟩ else some ⟨ga, 1, none⟩) (f.drop 1) := by
          split
          · exact ⟨fun h => by rw [List.length_drop] at h; omega, fun a e => by cases e; show _ ≤ ga; omega⟩
          · have h1 := IntsAt.drop hRa.ints 1
            rw [Nat.zero_add] at h1
            exact ⟨h1, fun a e => by cases e; show _ ≤ ga; omega⟩
        have hdl : f.length - 1 = (f.drop 1).length := List.length_drop.symm
        have hd6 : (f.drop 1).length ≤ 6 := by rw [← hdl]; omega
        have z1 := kb.cell 1
        have z4 := kb.lt
        have z5 := kb.frozen 1
        simp at z1
        have HhD := Lib.hid hD
        clear hD
        have Hkb := Lib.hid kb
        clear kb
        have Hhfa := Lib.hid hfa
        clear hfa
        have Hhfb := Lib.hid hfb
        clear hfb
        have Hhdl := Lib.hid hdl
        clear hdl
        clear hRa hRb
        go_upto_region 14 with fail
        rw [Hhdl.out]
        have hfa := Hhfa.out
        clear Hhfa Hhdl
        generalize f.drop 1 = f9 at *
        generalize (if c1 = 1 then some (⟨ga, 0, none⟩ : Addr) else some ⟨ga, 1, none⟩) = fo9 at *
        have kb7 : Blk (w4.setCell ⟨yb, 1, none⟩ (.slice fo9 f9.length (c1 - 1))) yb #[.int .i64 C, .slice fo9 f9.length (c1 - 1), .slice (some ⟨gb, 0, none⟩) l.length c2] 26 := by simpa using Hkb.out.store 1 (.slice fo9 f9.length (c1 - 1))
        have hD7 := HhD.out.store (a := ⟨yb, 1, none⟩) hW1s hcb1 (.slice fo9 f9.length (c1 - 1))
        have hfa7 := (hfa.store (a := ⟨yb, 1, none⟩) hyW (.slice fo9 f9.length (c1 - 1))).mono (base' := W1.heap.size) (by omega)
        have hfb7 := (Hhfb.out.store (a := ⟨yb, 1, none⟩) hyW (.slice fo9 f9.length (c1 - 1))).mono (base' := W1.heap.size) (by omega)
        clear z1 z4 z5 hfa HhD Hkb Hhfb
        have Hhfa7 := Lib.hid hfa7
        clear hfa7
        have Hhfb7 := Lib.hid hfb7
        clear hfb7
        generalize hq1 : c1 - 1 = c9 at *
        clear hq1
        generalize World.setCell _ _ _ = w7 at *
        have k9 := Hblk.out _ hD7
        have y0 := k9.cell 0
        have y1 := k9.cell 1
        have y2 := k9.cell 2
        have y3 := k9.frozen 0
        have y4 := k9.frozen 1
        have y5 := k9.frozen 2
        have y6 := k9.lt
        have z0 := kb7.cell 0
        have z1 := kb7.cell 1
        have z2 := kb7.cell 2
        have z4 := kb7.lt
        simp at y0 y1 y2 z0 z1 z2
        have HE := Lib.hid (Hend.out w7 C f9 l fo9 (some ⟨gb, 0, none⟩) c9 c2 hd6 hl6 hD7 Hhfa7.out Hhfb7.out)
        clear k9 hD7 kb7 Hblk Hend
        go_wp2_with fail
        refine bodyPost_ret (v := .agg #[.int .i64 C, .slice fo9 f9.length c9, .slice (some ⟨gb, 0, none⟩) l.length c2]) (by simp [results, Tryd.results26, go_sem, y0, y1, y2]) rfl ?_
        exact HE.out
      · have d1 : ((q : Int) == 0) = false := by rw [beq_eq_false_iff_ne]; omega
        have d2 : ((q : Int) == 1) = false := by rw [beq_eq_false_iff_ne]; omega
        have d3 : ((q : Int) == 2) = false := by rw [beq_eq_false_iff_ne]; omega
        have hFa : FrI w4 W1.heap.size (some ⟨ga, 0, none⟩) f := ⟨hRa.ints, fun a e => by cases e; show _ ≤ ga; omega⟩
        have hFb : FrI w4 W1.heap.size (some ⟨gb, 0, none⟩) l := ⟨hRb.ints, fun a e => by cases e; show _ ≤ gb; omega⟩
        have HhFa := Lib.hid hFa
        clear hFa
        have HhFb := Lib.hid hFb
        clear hFb
        clear hRa hRb
        have k9 := Hblk.out _ hD
        have y0 := k9.cell 0
        have y1 := k9.cell 1
        have y2 := k9.cell 2
        have y3 := k9.frozen 0
        have y4 := k9.frozen 1
        have y5 := k9.frozen 2
        have y6 := k9.lt
        have z0 := kb.cell 0
        have z1 := kb.cell 1
        have z2 := kb.cell 2
        have z4 := kb.lt
        simp at y0 y1 y2 z0 z1 z2
        have HE := Lib.hid (Hend.out w4 C f l (some ⟨ga, 0, none⟩) (some ⟨gb, 0, none⟩) c1 c2 hf6 hl6 hD HhFa.out HhFb.out)
        clear k9 hD kb Hblk Hend
        go_wp2_with fail
        refine bodyPost_ret (v := .agg #[.int .i64 C, .slice (some ⟨ga, 0, none⟩) f.length c1, .slice (some ⟨gb, 0, none⟩) l.length c2]) (by simp [results, Tryd.results26, go_sem, y0, y1, y2]) rfl ?_
        exact HE.out

end Go.Proofs.YtfkehmpckhmkbaaDoor
