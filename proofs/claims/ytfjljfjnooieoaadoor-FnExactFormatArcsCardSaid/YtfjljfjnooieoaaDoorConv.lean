/-
  The walks of the laws' own helpers on lists of integers: szIntS, toIntS, eqIntS. The lists have at most 2^20 elements where a copy is made.
-/
import Derived.Test.YtfjljfjnooieoaaDoorNum
namespace Go.Proofs.YtfjljfjnooieoaaDoor
open Go.RowKit

theorem info_int : (Tryd.prog.info? 3).map (fun i => (i.zero, i.size, i.bytes)) = some (some (.int .i64 0), 1, 8) := by kernel_rfl

/-- A row of integers as a block's cells. -/
def intRow (xs : List Int) : Array Value := (xs.map (Value.int .i64)).toArray
theorem intRow_size (xs : List Int) : (intRow xs).size = xs.length := by simp [intRow]
theorem intRow_get (xs : List Int) (k : Nat) (hk : k < xs.length) : (intRow xs)[k]? = some (.int .i64 (gi xs k)) := by simp [intRow, gi, hk]
theorem intRow_set (xs : List Int) (k : Nat) (x : Int) : (intRow xs).setIfInBounds k (.int .i64 x) = intRow (xs.set k x) := by simp [intRow]

/-- Block b of the world is a row of integers, all of it, nothing frozen. -/
def OwnInts (w : World) (b : Nat) (xs : List Int) : Prop := Blk w b (intRow xs) 3
theorem OwnInts.cell {w : World} {b : Nat} {xs : List Int} (h : OwnInts w b xs) (k : Nat) (hk : k < xs.length) : w.cell? ⟨b, k, none⟩ = some (.int .i64 (gi xs k)) := by
  rw [Blk.cell h, intRow_get _ _ hk]
theorem OwnInts.frozen {w : World} {b : Nat} {xs : List Int} (h : OwnInts w b xs) (k : Nat) : w.frozen? ⟨b, k, none⟩ = false := Blk.frozen h k
theorem OwnInts.lt {w : World} {b : Nat} {xs : List Int} (h : OwnInts w b xs) : b < w.heap.size := Blk.lt h
theorem OwnInts.ints {w : World} {b : Nat} {xs : List Int} (h : OwnInts w b xs) : IntsAt w (some ⟨b, 0, none⟩) xs := fun _ =>
  ⟨b, 0, rfl, h.lt, fun k hk => by rw [Nat.zero_add]; exact h.cell k hk⟩
theorem OwnInts.below {w w' : World} {b B : Nat} {xs : List Int} (h : OwnInts w b xs) (hb : Below B w w') (hB : b < B) : OwnInts w' b xs := Blk.below h hb hB
theorem OwnInts.later {W : World} {b : Nat} {xs : List Int} (h : OwnInts W b xs) (m : Later W) : OwnInts m.w b xs := Blk.later h m
theorem OwnInts.made (w : World) (xs : List Int) : OwnInts (w.alloc (.cells (intRow xs) 3)) w.heap.size xs := Blk.made _ _ _ rfl
theorem OwnInts.store {w : World} {b : Nat} {xs : List Int} (h : OwnInts w b xs) (k : Nat) (x : Int) : OwnInts (w.setCell ⟨b, k, none⟩ (.int .i64 x)) b (xs.set k x) := by
  have := Blk.store h k (.int .i64 x)
  rw [intRow_set] at this; exact this
/-- A store into another block. -/
theorem OwnInts.other {w : World} {b : Nat} {xs : List Int} (h : OwnInts w b xs) {a : Addr} (v : Value) (hne : b ≠ a.block) : OwnInts (w.setCell a v) b xs := Blk.other h v hne

theorem OwnInts.otherW {w W : World} {b : Nat} {xs : List Int} (h : OwnInts w b xs) {a : Addr} {v : Value} (hW : w.setCell a v = W) (hne : b ≠ a.block) : OwnInts W b xs := hW ▸ h.other v hne
theorem run_make_ints (n : Nat) (hn : n ≤ 35184372088832) (w : World) : (Instr.makeSlice 22 (.int .i64 n) (.int .i64 n)).run Tryd.prog w = .ok (.slice (some ⟨w.heap.size, 0, none⟩) n n) (w.alloc (.cells (intRow (List.replicate n 0)) 3)) := by
  obtain ⟨i0, hi, hz0, hz1, hz2⟩ := info_parts info_int
  rw [run_make (P := Tryd.prog) w 22 3 i0 (.int .i64 0) Tryd.underlying22 hi hz0 .i64 .i64 n n (by omega) (by omega) (by rw [hz2]; omega) (by omega), hz1]
  have e : madeCells (Value.cells (.int .i64 0)) ((n : Int).toNat * 1) = intRow (List.replicate n 0) := by
    apply Array.ext
    · simp [madeCells, intRow]
    · intro i h1 h2
      simp only [madeCells, intRow, Value.cells] at h1 h2 ⊢
      simp [Nat.mod_one]
  rw [e]
  simp

theorem szIntS_any (ao : Option Addr) (n c : Nat) (left : Int) (hn : n ≤ 9223372036854775807) (h0 : 0 ≤ left) (h1 : left ≤ 1048576) (w : World) :
    Calls Tryd.prog 15 #[.slice ao n c, .int .i64 left] w fun e w' => e = .returned (.int .i64 (if left < n then -1 else left - n)) ∧ w = w' := by
  by_cases h : left < n
  all_goals
    go_enter Tryd.func15, Tryd.ntmps15
    go_wp2
    go_ret
    exact ⟨rfl, rfl⟩

set_option maxHeartbeats 400000 in
theorem toIntS_any (ao : Option Addr) (xs : List Int) (c : Nat) (w : World) (hx : IntsAt w ao xs) (hn : xs.length ≤ 1048576) :
    Calls Tryd.prog 18 #[.slice ao xs.length c] w fun e w' => e = .returned (.slice (some ⟨w.heap.size, 0, none⟩) xs.length xs.length) ∧ OwnInts w' w.heap.size xs ∧ Below w.heap.size w w' := by
  have hmk := run_make_ints xs.length (by omega)
  go_enter Tryd.func18, Tryd.ntmps18
  go_wp2_with fail
  clear hmk
  go_loopw [4] (fun i wr => ∃ k : Nat, k ≤ xs.length ∧ i = .int .i64 k ∧ Below w.heap.size w wr ∧ ∃ ys, OwnInts wr w.heap.size ys ∧ ys.length = xs.length ∧ ∀ j, j < k → gi ys j = gi xs j) (fun i _ => xs.length - (intOf i).toNat)
  case atStart => exact ⟨0, by omega, rfl, (Below.refl _ _).alloc (Nat.le_refl _) _, _, OwnInts.made _ _, by simp, fun j h => by omega⟩
  case round =>
    obtain ⟨k, hk, rfl, hB, ys, hO, hl, hP⟩ := hrel
    have HB := Lib.hid hB
    have HL := Lib.hid hl
    have HO := Lib.hid hO
    have HP := Lib.hid hP
    by_cases hlt : k < xs.length
    · obtain ⟨b, off, rfl, hbl, hc⟩ := hx (by omega)
      have h1 : wr.cell? ⟨b, off + k, none⟩ = some (.int .i64 (gi xs k)) := by rw [hB.cell (p := ⟨b, off + k, none⟩) hbl]; exact hc k hlt
      have h2 : wr.cell? ⟨w.heap.size, k, none⟩ = some (.int .i64 (gi ys k)) := hO.cell k (by omega)
      have h3 : wr.frozen? ⟨w.heap.size, k, none⟩ = false := hO.frozen k
      clear hB hO hl hP hc hx
      go_wp2_with fail
      go_roundw
      case rel =>
        refine ⟨k + 1, by omega, by go_num, HB.out.setCell (Nat.le_refl _) _, ys.set k (gi xs k), HO.out.store k _, by rw [List.length_set]; exact HL.out, fun j hj => ?_⟩
        by_cases e : j = k
        · subst e; simp [gi, HL.out, hlt]
        · have e' : k ≠ j := fun h => e h.symm
          rw [← HP.out j (by omega)]; simp [gi, e']
      case measure => simp [intOf]; omega
    · go_wp2_with fail
      go_ret
      have e : ys = xs := by
        apply List.ext_getElem HL.out
        intro j h1 h2
        have := HP.out j (by omega)
        simpa [gi, h1, h2] using this
      exact ⟨rfl, e ▸ HO.out, HB.out⟩

def sameInts (xs ys : List Int) : Bool := decide (xs = ys)
theorem sameInts_len {xs ys : List Int} (h : ¬ xs.length = ys.length) : sameInts xs ys = false := by
  simp only [sameInts, decide_eq_false_iff_not]; intro e; exact h (by rw [e])
theorem sameInts_at {xs ys : List Int} {k : Nat} (h : ¬ gi xs k = gi ys k) : sameInts xs ys = false := by
  simp only [sameInts, decide_eq_false_iff_not]; intro e; exact h (by rw [e])
theorem gi_ext {xs ys : List Int} (hl : xs.length = ys.length) (h : ∀ j, j < xs.length → gi xs j = gi ys j) : xs = ys := by
  apply List.ext_getElem hl
  intro j h1 h2
  have := h j h1
  simpa [gi, h1, h2] using this
theorem sameInts_all {xs ys : List Int} (hl : xs.length = ys.length) (h : ∀ j, j < xs.length → gi xs j = gi ys j) : sameInts xs ys = true := by
  simp only [sameInts, decide_eq_true_eq]; exact gi_ext hl h
theorem sameInts_refl (xs : List Int) : sameInts xs xs = true := by simp [sameInts]

set_option maxHeartbeats 400000 in
theorem eqIntS_any (ao bo : Option Addr) (xs ys : List Int) (c d : Nat) (w : World) (hx : IntsAt w ao xs) (hy : IntsAt w bo ys) (hn : xs.length ≤ 140737488351232) (hm : ys.length ≤ 140737488351232) :
    Calls Tryd.prog 21 #[.slice ao xs.length c, .slice bo ys.length d] w fun e w' => e = .returned (.bool (sameInts xs ys)) ∧ Below w.heap.size w w' := by
  by_cases hl : xs.length = ys.length
  · have hb : ((xs.length : Int) != ys.length) = false := by rw [hl]; simp
    have HL := Lib.hid hl
    clear hl
    go_enter Tryd.func21, Tryd.ntmps21
    go_wp2_with fail
    go_loopw [5] (fun i wr => (∃ m : Later w, wr = m.w) ∧ ∃ k : Nat, k ≤ xs.length ∧ i = .int .i64 k ∧ ∀ j, j < k → gi xs j = gi ys j) (fun i _ => xs.length - (intOf i).toNat)
    case atStart => exact ⟨⟨Later.refl _, rfl⟩, 0, by omega, rfl, fun j h => by omega⟩
    case round =>
      obtain ⟨⟨m, rfl⟩, k, hk, rfl, hP⟩ := hrel
      have HP := Lib.hid hP
      clear hP
      by_cases hlt : k < xs.length
      · have hlt' : k < ys.length := by rw [← HL.out]; exact hlt
        obtain ⟨b, off, rfl, hbl, hc⟩ := hx (by omega)
        obtain ⟨b2, off2, rfl, hbl2, hc2⟩ := hy (by omega)
        go_wp2_with fail
        cases he : (gi xs k != gi ys k)
        all_goals
          refine wp_region_later m rfl (by kernel_rfl) (by kernel_rfl) ?_
          repeat (go_big_quiet_step (fail))
          refine wpQuiet_nil ?_
          rintro _ ⟨m, rfl⟩
          go_wp2_with fail
        · go_roundw
          case rel =>
            refine ⟨⟨m, rfl⟩, k + 1, by omega, by go_num, fun j hj => ?_⟩
            rcases Nat.lt_succ_iff_lt_or_eq.1 hj with hj | rfl
            · exact HP.out j hj
            · simpa using he
          case measure => simp [intOf]; omega
        · go_ret
          exact ⟨retB (by rw [sameInts_at (by simpa using he)]), m.below⟩
      · go_wp2_with fail
        go_ret
        exact ⟨retB (by rw [sameInts_all HL.out (fun j hj => HP.out j (by omega))]), m.below⟩
  · have hb : ((xs.length : Int) != ys.length) = true := by simp; omega
    have HL := Lib.hid hl
    clear hl
    go_enter Tryd.func21, Tryd.ntmps21
    go_wp2_with fail
    go_ret
    exact ⟨retB (by rw [sameInts_len HL.out]), Below.refl _ _⟩

end Go.Proofs.YtfjljfjnooieoaaDoor
