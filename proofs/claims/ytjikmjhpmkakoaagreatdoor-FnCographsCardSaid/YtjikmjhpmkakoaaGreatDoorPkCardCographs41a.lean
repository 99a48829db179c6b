/-
  orderOf of the program: it returns a list. For one to seven numbers.
-/
import Derived.Test.YtjikmjhpmkakoaaGreatDoorPkCardCographs01
import Derived.Test.YtjikmjhpmkakoaaGreatDoorPkCardCographs03
import Derived.Test.YtjikmjhpmkakoaaGreatDoorPkCardCographs12
import Derived.Deep.CutRange
namespace Go.Proofs.YtjikmjhpmkakoaaGreatDoor
open Go.RowKit

/-- Some list has been returned. -/
def RetOo (n : Nat) (w : World) (e : Ending) (w' : World) : Prop := ∃ ob : Nat, e = .returned (.slice (some ⟨ob, 0, none⟩) n n) ∧ Below w.heap.size w w'

set_option maxRecDepth 100000 in
set_option maxHeartbeats 4000000 in
theorem implOrderOf_any (ys : List Int) (yb yc n : Nat) (w : World) (hn : ys.length = n) (hn1 : 1 ≤ n) (hn7 : n ≤ 7) (hl : yb < w.heap.size) (hy : ∀ k, k < n → w.cell? ⟨yb, k, none⟩ = some (.int .i64 (gi ys k))) :
    Calls Tryz.prog 136 #[.slice (some ⟨yb, 0, none⟩) n yc] w (RetOo n w) := by
  have hmk := run_make_ints n (by omega)
  go_enter Tryz.func136, Tryz.ntmps136
  go_upto_region 2 with fail
  clear hmk
  generalize hW : World.alloc _ _ = W1
  obtain ⟨hB, -, k0⟩ := alloc1 hW
  have hy1 : ∀ k, k < n → W1.cell? ⟨yb, k, none⟩ = some (.int .i64 (gi ys k)) := fun k hk => (hB.cell (p := ⟨yb, k, none⟩) hl).trans (hy k hk)
  have hl1 := Nat.lt_of_lt_of_le hl hB.size
  have hne : ¬yb = w.heap.size := by omega
  clear hW hy
  have HhB := Lib.hid hB
  clear hB
  have Hhy1 := Lib.hid hy1
  clear hy1
  have Hk0 := Lib.hid k0
  clear k0
  generalize hob : w.heap.size = ob at *
  have Hob := Lib.hid hob
  clear hob
  go_upto_region 3 with fail
  go_loopw [13] (fun i wr => ∃ m : LateX (fun b => b = ob) W1, wr = m.w ∧ ∃ k : Nat, k ≤ n ∧ i = .int .i64 k ∧ ∃ zs : List Int, zs.length = n ∧ Blk m.w ob (intRow zs) 3) (fun i _ => n - (intOf i).toNat)
  case atStart => exact ⟨LateX.refl _ _, rfl, 0, by omega, rfl, _, by simp, Hk0.out⟩
  case round =>
    obtain ⟨m, rfl, k, hk, rfl, zs, hz, hkz⟩ := hrel
    by_cases hlt : k < n
    · have d0 : decide ((k : Int) < (n : Int)) = true := decide_eq_true (by omega)
      have Hhkz := Lib.hid hkz
      clear hkz
      have Hhz := Lib.hid hz
      clear hz
      go_upto_region 7 with fail
      go_loopw [5, 18] (fun s i wr => wr = m.w ∧ ∃ (t q : Nat), t ≤ n ∧ q ≤ t ∧ i = .int .i64 t ∧ s = .int .i64 q) (fun _ i _ => n - (intOf i).toNat)
      case atStart => exact ⟨rfl, 0, 0, by omega, by omega, rfl, rfl⟩
      case round =>
        obtain ⟨rfl, t, q, ht, hq, rfl, rfl⟩ := hrel
        by_cases hlt2 : t < n
        · have d1 : decide ((t : Int) < (n : Int)) = true := decide_eq_true (by omega)
          have hyt := Hhy1.out t hlt2
          have hHas := fun w' : World => has_any (gi ys t) (k : Int) (by omega) (by omega) w'
          generalize hasN (gi ys t) (k : Int).toNat = hb at *
          generalize gi ys t = y at *
          go_wp2_with fail
          refine (hHas _).mono ?_
          rintro e w' ⟨rfl, rfl⟩
          cases hb
          · go_wp2_with fail
            go_roundw
            case rel => exact ⟨by trivial, t + 1, q, by omega, by omega, by go_num, rfl⟩
            case measure => simp [intOf]; omega
          · go_wp2_with fail
            go_roundw
            case rel => exact ⟨by trivial, t + 1, q + 1, by omega, by omega, by go_num, by go_num⟩
            case measure => simp [intOf]; omega
        · have d1 : decide ((t : Int) < (n : Int)) = false := decide_eq_false (by omega)
          have xl := Hhkz.out.lt
          have hq1 : (n : Int) - 1 = ((n - 1 : Nat) : Int) := by omega
          have hfr := fun i => Hhkz.out.frozen i
          have hce := fun (i : Nat) (hi : i < n) => (Hhkz.out.cell i).trans (intRow_get zs i (by rw [Hhz.out]; exact hi))
          have f1 := hfr (n - 1)
          have c1 := hce (n - 1) (by omega)
          have hst : ∀ p : Nat, ∃ zs2 : List Int, zs2.length = n ∧ Blk (m.w.setCell ⟨ob, p, none⟩ (.int .i64 (k : Int))) ob (intRow zs2) 3 := fun p => by
            have h := Hhkz.out.store p (.int .i64 (k : Int))
            rw [intRow_set] at h
            exact ⟨_, by simp [Hhz.out], h⟩
          have hON : ∀ p : Nat, ∃ m2 : LateX (fun b => b = ob) W1, m2.w = m.w.setCell ⟨ob, p, none⟩ (.int .i64 (k : Int)) := fun p => ⟨⟨_, m.only.setCell (p := ⟨ob, p, none⟩) (.inl rfl) _⟩, rfl⟩
          by_cases hqn : q < n
          · have f2 := hfr q
            have c2 := hce q hqn
            have Hhfr := Lib.hid hfr
            clear hfr
            have Hhce := Lib.hid hce
            clear hce
            have Hhst := Lib.hid hst
            clear hst
            have HhON := Lib.hid hON
            clear hON
            go_wp2_with fail
            all_goals
              go_roundw
              case rel =>
                refine Exists.elim (HhON.out _) fun m2 e2 => ⟨m2, e2.symm, k + 1, by omega, by go_num, ?_⟩
                rw [e2]
                exact Hhst.out _
              case measure => simp [intOf]; omega
          · have Hhfr := Lib.hid hfr
            clear hfr
            have Hhce := Lib.hid hce
            clear hce
            have Hhst := Lib.hid hst
            clear hst
            have HhON := Lib.hid hON
            clear hON
            go_wp2_with fail
            all_goals
              go_roundw
              case rel =>
                refine Exists.elim (HhON.out _) fun m2 e2 => ⟨m2, e2.symm, k + 1, by omega, by go_num, ?_⟩
                rw [e2]
                exact Hhst.out _
              case measure => simp [intOf]; omega
    · have d0 : decide ((k : Int) < (n : Int)) = false := decide_eq_false (by omega)
      go_wp2_with fail
      go_ret
      exact ⟨ob, rfl, by rw [Hob.out]; exact HhB.out.trans (m.only.below (by have := Hk0.out.lt; omega) fun b hb e => by have e2 : b = ob := e; omega)⟩

end Go.Proofs.YtjikmjhpmkakoaaGreatDoor
