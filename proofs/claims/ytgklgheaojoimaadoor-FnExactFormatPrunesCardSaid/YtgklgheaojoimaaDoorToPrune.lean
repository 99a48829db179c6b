/-
  The walks of the laws' helpers that copy lists of prunes: szPruneS, toPrune, toPruneS; an argument that is a list of prunes. For lists of at most 2^20 prunes.
-/
import Derived.Test.YtgklgheaojoimaaDoorConvPrune
import Derived.Test.YtgklgheaojoimaaDoorOpen
import Derived.Deep.Slices
namespace Go.Proofs.YtgklgheaojoimaaDoor
open Go.RowKit

theorem szPruneS_any (ao : Option Addr) (n c : Nat) (hn : n ≤ 9223372036854775807) (w : World) :
    Calls Tryd.prog 27 #[.slice ao n c, .int .i64 1048576] w fun e w' => e = .returned (.int .i64 (szOne n)) ∧ w = w' := by
  by_cases h1 : (1048576 : Int) < n
  · have hs : -1 = szOne n := by unfold szOne; rw [if_pos (by omega)]
    have Hhs := Lib.hid hs
    clear hs
    go_enter Tryd.func27, Tryd.ntmps27
    go_wp2
    go_ret
    exact ⟨retI Hhs.out, rfl⟩
  · have hs : (1048576 : Int) - n = szOne n := by unfold szOne; rw [if_neg (by omega)]
    have Hhs := Lib.hid hs
    clear hs
    go_enter Tryd.func27, Tryd.ntmps27
    go_wp2
    go_ret
    exact ⟨retI Hhs.out, rfl⟩

theorem run_make_prunes (n : Nat) (hn : n ≤ 1048576) (w : World) : (Instr.makeSlice 51 (.int .i64 n) (.int .i64 n)).run Tryd.prog w = .ok (.slice (some ⟨w.heap.size, 0, none⟩) n n) (w.alloc (.cells (intRow (List.replicate (n * 3) 0)) 68)) := by
  obtain ⟨i0, hi, hz0, hz1, hz2⟩ := info_parts info_prune
  rw [run_make (P := Tryd.prog) w 51 68 i0 (.agg #[.int .i64 0, .int .i64 0, .int .i64 0]) Tryd.underlying51 hi hz0 .i64 .i64 n n (by omega) (by omega) (by rw [hz2]; omega) (by omega), hz1]
  have e : madeCells (Value.cells (.agg #[.int .i64 0, .int .i64 0, .int .i64 0])) ((n : Int).toNat * 3) = intRow (List.replicate (n * 3) 0) := by
    apply Array.ext
    · simp [madeCells, intRow]
    · intro i h1 h2
      simp only [madeCells, intRow, Value.cells] at h1 h2 ⊢
      simp
      have h3 : i % 3 < 3 := Nat.mod_lt _ (by omega)
      generalize i % 3 = j at *
      match j, h3 with
      | 0, _ => rfl
      | 1, _ => rfl
      | 2, _ => rfl
  rw [e]
  simp

theorem toPrune_any (x y z : Int) (w : World) :
    Calls Tryd.prog 50 #[.agg #[.int .i64 x, .int .i64 y, .int .i64 z]] w fun e w' => e = .returned (.agg #[.int .i64 x, .int .i64 y, .int .i64 z]) ∧ Below w.heap.size w w' := by
  go_enter Tryd.func50, Tryd.ntmps50
  go_wp2_with fail
  refine bodyPost_ret (v := .agg #[.int .i64 x, .int .i64 y, .int .i64 z]) (by simp [results, Tryd.results50, go_sem]) rfl ?_
  refine ⟨rfl, ?_⟩
  repeat (first | exact Below.refl _ _ | refine Below.setCell ?_ (by simp; try omega) _ | refine Below.alloc ?_ (by simp; try omega) _)

/-- Block b of the world is a row of prunes, all of it, nothing frozen. -/
def OwnPr (w : World) (b : Nat) (xs : List Int) : Prop := Blk w b (intRow xs) 68
theorem OwnPr.cell {w : World} {b : Nat} {xs : List Int} (h : OwnPr w b xs) (k : Nat) (hk : k < xs.length) : w.cell? ⟨b, k, none⟩ = some (.int .i64 (gi xs k)) := by
  rw [Blk.cell h, intRow_get _ _ hk]
theorem OwnPr.frozen {w : World} {b : Nat} {xs : List Int} (h : OwnPr w b xs) (k : Nat) : w.frozen? ⟨b, k, none⟩ = false := Blk.frozen h k
theorem OwnPr.lt {w : World} {b : Nat} {xs : List Int} (h : OwnPr w b xs) : b < w.heap.size := Blk.lt h
theorem OwnPr.ints {w : World} {b : Nat} {xs : List Int} (h : OwnPr w b xs) : IntsAt w (some ⟨b, 0, none⟩) xs := fun _ =>
  ⟨b, 0, rfl, h.lt, fun k hk => by rw [Nat.zero_add]; exact h.cell k hk⟩
theorem OwnPr.below {w w' : World} {b B : Nat} {xs : List Int} (h : OwnPr w b xs) (hb : Below B w w') (hB : b < B) : OwnPr w' b xs := Blk.below h hb hB
theorem OwnPr.later {W : World} {b : Nat} {xs : List Int} (h : OwnPr W b xs) (m : Later W) : OwnPr m.w b xs := Blk.later h m
theorem OwnPr.made (w : World) (xs : List Int) : OwnPr (w.alloc (.cells (intRow xs) 68)) w.heap.size xs := Blk.made _ _ _ rfl
theorem OwnPr.store {w : World} {b : Nat} {xs : List Int} (h : OwnPr w b xs) (k : Nat) (x : Int) : OwnPr (w.setCell ⟨b, k, none⟩ (.int .i64 x)) b (xs.set k x) := by
  have := Blk.store h k (.int .i64 x)
  rw [intRow_set] at this; exact this
theorem OwnPr.rowW {w : World} {b : Nat} {xs : List Int} (h : OwnPr w b xs) : RowW 68 w b xs := ⟨_, h, by rw [intRow]; exact List.take_of_length_le (by simp)⟩


set_option maxHeartbeats 1000000 in
theorem toPruneS_any (ao : Option Addr) (xs : List Int) (K c : Nat) (w : World) (hx : IntsAt w ao xs) (hk : xs.length = K * 3) (hn : K ≤ 1048576) :
    Calls Tryd.prog 29 #[.slice ao K c] w fun e w' => ∃ b1, e = .returned (.slice (some ⟨b1, 0, none⟩) K K) ∧ Below w.heap.size w w' ∧ w.heap.size ≤ b1 ∧ OwnPr w' b1 xs := by
  have hmk := run_make_prunes K hn
  have Hhk := Lib.hid hk
  clear hk
  go_enter Tryd.func29, Tryd.ntmps29
  go_wp2_with fail
  clear hmk
  go_loopw [4] (fun i wr => ∃ k : Nat, k ≤ K ∧ i = .int .i64 k ∧ Below w.heap.size w wr ∧ ∃ ys, OwnPr wr w.heap.size ys ∧ ys.length = K * 3 ∧ ∀ j, j < k * 3 → gi ys j = gi xs j) (fun i _ => K - (intOf i).toNat)
  case atStart => exact ⟨0, by omega, rfl, (Below.refl _ _).alloc (Nat.le_refl _) _, _, OwnPr.made _ _, by simp, fun j h => by omega⟩
  case round =>
    obtain ⟨k, hkk, rfl, hB, ys, hO, hl, hP⟩ := hrel
    have HhB := Lib.hid hB
    clear hB
    have Hhl := Lib.hid hl
    clear hl
    have HhO := Lib.hid hO
    clear hO
    have HhP := Lib.hid hP
    clear hP
    by_cases hlt : k < K
    · obtain ⟨b, off, rfl, hbl, hc⟩ := hx (by have := Hhk.out; omega)
      have hbw := Nat.lt_of_lt_of_le hbl HhB.out.size
      have x0 := (HhB.out.cell (p := ⟨b, off + k * 3, none⟩) hbl).trans (hc (k * 3) (by have := Hhk.out; omega))
      have x1 := (HhB.out.cell (p := ⟨b, off + (k * 3 + 1), none⟩) hbl).trans (hc (k * 3 + 1) (by have := Hhk.out; omega))
      have x2 := (HhB.out.cell (p := ⟨b, off + (k * 3 + 2), none⟩) hbl).trans (hc (k * 3 + 2) (by have := Hhk.out; omega))
      have z0 := HhO.out.cell (k * 3) (by have := Hhl.out; omega)
      have z1 := HhO.out.cell (k * 3 + 1) (by have := Hhl.out; omega)
      have z2 := HhO.out.cell (k * 3 + 2) (by have := Hhl.out; omega)
      have z3 := HhO.out.frozen (k * 3)
      have z4 := HhO.out.frozen (k * 3 + 1)
      have z5 := HhO.out.frozen (k * 3 + 2)
      have z6 := HhO.out.lt
      rw [← Nat.add_assoc] at x1 x2
      clear hc
      generalize hX0 : gi xs (k * 3) = X0 at *
      generalize hX1 : gi xs (k * 3 + 1) = X1 at *
      generalize hX2 : gi xs (k * 3 + 2) = X2 at *
      have HhX0 := Lib.hid hX0
      clear hX0
      have HhX1 := Lib.hid hX1
      clear hX1
      have HhX2 := Lib.hid hX2
      clear hX2
      obtain ⟨m, hm0⟩ : ∃ m : Later wr, m.w = wr := ⟨Later.refl _, rfl⟩
      refine (fun h => hm0 ▸ h) ?_
      clear hm0
      go_wp2_with (first | (go_at_call 50; refine (Calls.later m (toPrune_any _ _ _ _)).mono ?_; rintro e w' ⟨rfl, m, rfl⟩))
      go_roundw
      case rel =>
        have hyl := Hhl.out
        refine ⟨k + 1, by omega, by go_num, (((below_later HhB.out m).setCell (Nat.le_refl _) _).setCell (Nat.le_refl _) _).setCell (Nat.le_refl _) _, ((ys.set (k * 3) X0).set (k * 3 + 1) X1).set (k * 3 + 2) X2, (((HhO.out.later m).store (k * 3) X0).store (k * 3 + 1) X1).store (k * 3 + 2) X2, by simp [hyl], fun j hj => ?_⟩
        by_cases e0 : j = k * 3 + 2
        · subst e0
          have : k * 3 + 2 < ys.length := by omega
          rw [HhX2.out]; simp [gi, this]
        · by_cases e1 : j = k * 3 + 1
          · subst e1
            have : k * 3 + 1 < ys.length := by omega
            rw [HhX1.out]; simp [gi, this]
          · by_cases e2 : j = k * 3
            · subst e2
              have : k * 3 < ys.length := by omega
              rw [HhX0.out]; simp [gi, this]
            · have f0 : k * 3 + 2 ≠ j := fun h => e0 h.symm
              have f1 : k * 3 + 1 ≠ j := fun h => e1 h.symm
              have f2 : k * 3 ≠ j := fun h => e2 h.symm
              rw [← HhP.out j (by omega)]; simp [gi, f0, f1, f2]
      case measure => simp [intOf]; omega
    · obtain rfl : k = K := by omega
      go_wp2_with fail
      go_ret
      have e : ys = xs := gi_ext (by rw [Hhl.out, Hhk.out]) fun j hj => HhP.out j (by have := Hhl.out; omega)
      exact ⟨_, rfl, HhB.out, Nat.le_refl _, e ▸ HhO.out⟩

open Go.ChangeShapes Go.WideShapes Go.ChangeAt in
theorem cells_prune : Tryd.prog.cellsOf 71 = 3 := by kernel_rfl
set_option maxRecDepth 100000 in
open Go.ChangeShapes Go.WideShapes Go.ChangeAt in
theorem prunes_of_trod {H : Type} {enc : TypeId × Value → H} {w : World} {base : Nat} {spare : Nat → Bool} {held : Bool} {fuel : Nat} {v : Value} {y : DataW H × List MemPlace}
    (h : DataW.trod enc Tryd.prog w base spare held fuel 48 [v] = some y) : ∃ (ao : Option Addr) (l : List Int) (K c : Nat), v = .slice ao K c ∧ IntsAt w ao l ∧ l.length = K * 3 ∧ K ≤ 9223372036854775807 := by
  rcases Go.Deep.open_slice Tryd.underlying48 h with ⟨hcs, _⟩ | ⟨a, len, cap, m, n, D, Pl, hcs, _, hl, hm, hmm, _, hi⟩
  · obtain rfl : v = _ := by simpa using hcs
    exact ⟨none, [], 0, 0, rfl, fun h => by simp at h, rfl, by omega⟩
  · obtain rfl : v = _ := by simpa using hcs
    have hlm : len ≤ m := by rw [hmm]; split <;> omega
    rw [cells_prune] at hi
    have hcell : ∀ k, k < len * 3 → ∃ x : Int, w.cell? (a.add k) = some (.int .i64 x) := by
      intro k hk
      obtain ⟨cs, hc, ht⟩ := hi (k / 3) (by omega)
      obtain ⟨_, hcl, hat⟩ := World.cells?_some hc
      obtain ⟨ys, n', -, -, -, hyl, hf⟩ := DataW.trod_struct Tryd.underlying71 ht
      match cs, hcl with
      | [c0, c1, c2], _ =>
        have h0 : DataW.trod enc Tryd.prog w base spare held n' 3 (([c0, c1, c2].drop 0).take (Tryd.prog.cellsOf 3)) = ys[0]? := hf 0 _ rfl
        have h1 : DataW.trod enc Tryd.prog w base spare held n' 3 (([c0, c1, c2].drop 1).take (Tryd.prog.cellsOf 3)) = ys[1]? := hf 1 _ rfl
        have h2 : DataW.trod enc Tryd.prog w base spare held n' 3 (([c0, c1, c2].drop 2).take (Tryd.prog.cellsOf 3)) = ys[2]? := hf 2 _ rfl
        rw [List.getElem?_eq_getElem (by rw [hyl]; decide)] at h0 h1 h2
        rw [cells_int] at h0 h1 h2
        obtain ⟨x0, e0, -, -⟩ := DataW.trod_int Tryd.underlying3 h0
        obtain ⟨x1, e1, -, -⟩ := DataW.trod_int Tryd.underlying3 h1
        obtain ⟨x2, e2, -, -⟩ := DataW.trod_int Tryd.underlying3 h2
        simp at e0 e1 e2
        subst e0 e1 e2
        have hq := hat (k % 3) (Nat.mod_lt _ (by omega))
        rw [Go.Deep.add_add] at hq
        have ek : k / 3 * 3 + k % 3 = k := by omega
        rw [ek] at hq
        have hj : k % 3 < 3 := Nat.mod_lt _ (by omega)
        rw [hq]
        generalize k % 3 = j at *
        match j, hj with
        | 0, _ => exact ⟨x0, rfl⟩
        | 1, _ => exact ⟨x1, rfl⟩
        | 2, _ => exact ⟨x2, rfl⟩
    obtain ⟨V, hV⟩ := Go.Deep.choose_lt hcell
    refine ⟨some a, (List.range (len * 3)).map V, len, cap, rfl, fun h0 => ?_, by simp, by unfold maxLen at hm; omega⟩
    simp at h0
    obtain ⟨b, off, spot⟩ := a
    have hc := hV 0 (by omega)
    have hspot : spot = none := by simpa [Addr.add] using World.cell?_spot hc
    subst hspot
    refine ⟨b, off, rfl, World.block_lt_of_cell? w _ (hV 0 (by omega)), fun k hk => ?_⟩
    simp at hk
    have := hV k hk
    have e : gi ((List.range (len * 3)).map V) k = V k := by simp [gi, hk]
    rw [e, ← this]
    congr 1
    simp only [Addr.add]
    split <;> simp_all

end Go.Proofs.YtgklgheaojoimaaDoor
