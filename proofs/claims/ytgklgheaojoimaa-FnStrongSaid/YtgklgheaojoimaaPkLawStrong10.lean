/-
  copyGraph and ComplementOf of the program. For at most 2^20 rows.
  The walks of slices.Index and slices.Contains at []int. For at most 2^20 elements.
-/
import Derived.Test.YtgklgheaojoimaaPkLawStrong08
import Derived.Test.YtgklgheaojoimaaPkLawStrong05
import Derived.Deep.RegionHeld3
import Derived.Test.YtgklgheaojoimaaPkLawStrong02
namespace Go.Proofs.Ytgklgheaojoimaa
open Go.RowKit

theorem RowAt.otherCell {w : World} {g cap : Nat} {xs : List Int} (h : RowAt w g cap xs) {a : Addr} {v : Value} (hne : g ≠ a.block) : RowAt (w.setCell a v) g cap xs := by
  obtain ⟨cur, hb, hr⟩ := h
  exact ⟨cur, hb.other v hne, hr⟩

/-- The row of v in the complement. -/
def complRow (rs : List Int) (v : Nat) : Nat := nDiff (nDiff (2 ^ rs.length - 1) (gn rs v)) (2 ^ v)
def compl (rs : List Int) : List Int := (List.range rs.length).map fun v : Nat => (complRow rs v : Int)
theorem compl_len (rs : List Int) : (compl rs).length = rs.length := by simp [compl]
theorem compl_at {rs : List Int} {v : Nat} (h : v < rs.length) : gi (compl rs) v = (complRow rs v : Int) := by simp [compl, gi, h]

set_option maxRecDepth 100000 in
set_option maxHeartbeats 1000000 in
theorem copyGraph_any (n : Int) (rs : List Int) (ro : Option Addr) (rc : Nat) (w : World) (hr : IntsAt w ro rs) (hrl : rs.length ≤ 1048576) (h0 : 0 < rs.length) :
    Calls Try.prog 131 #[.agg #[.int .i64 n, .slice ro rs.length rc]] w fun e w' => ∃ g1 cap, e = .returned (.agg #[.int .i64 n, .slice (some ⟨g1, 0, none⟩) rs.length cap]) ∧ Below w.heap.size w w' ∧ w.heap.size ≤ g1 ∧ RowAt w' g1 cap rs := by
  obtain ⟨rb, rofs, rfl, hrb, -⟩ := hr h0
  go_enter Try.func131, Try.ntmps131
  go_wp2_with fail
  generalize hW : World.alloc _ _ = W1
  obtain ⟨hB, hs, k0, k1⟩ := alloc2 hW
  replace hr := hr.upto.below hB (Nat.le_refl _)
  have hS' : ∀ w', Below (w.heap.size + 1) W1 w' → Below (w.heap.size + 1) W1 w' ∧ w'.cell? ⟨w.heap.size, 0, none⟩ = some (.int .i64 n) ∧ w'.cell? ⟨w.heap.size, 1, none⟩ = some (.slice (some ⟨rb, rofs, none⟩) rs.length rc) := fun w' h => by
    have c0 := k0.cell 0
    have c1 := k0.cell 1
    simp at c0 c1
    exact ⟨h, (h.cell (by simp)).trans c0, (h.cell (by simp)).trans c1⟩
  clear hW
  have HhB := Lib.hid hB
  clear hB
  obtain ⟨m, hm0⟩ : ∃ m : Later W1, m.w = W1 := ⟨Later.refl _, rfl⟩
  refine (fun h => hm0 ▸ h) ?_
  clear hm0
  have hB0 : Below (w.heap.size + 1) W1 m.w := m.below.mono (by omega)
  go_region_held3 (fun w' => Below (w.heap.size + 1) W1 w' ∧ w'.cell? ⟨w.heap.size, 0, none⟩ = some (.int .i64 n) ∧ w'.cell? ⟨w.heap.size, 1, none⟩ = some (.slice (some ⟨rb, rofs, none⟩) rs.length rc))
    (exact hS' _ (by first | exact hB0.drew | assumption | exact Below.alloc (And.left (by assumption : Below (w.heap.size + 1) W1 _ ∧ _)) (Nat.le_trans (by omega) (And.left (by assumption : Below (w.heap.size + 1) W1 _ ∧ _)).size) _ | exact ((And.left (by assumption : Below (w.heap.size + 1) W1 _ ∧ _)).setCell (by simp) _).setCell (by simp) _))
    (first
      | ((refine step_append_copy (by rfl) _ _ (by rfl) W1.heap.size _ ⟨rb, rofs, none⟩ rs rc (by rfl) (by rfl) (hr.below (B' := w.heap.size + 1) (And.left (by assumption : Below (w.heap.size + 1) W1 _ ∧ _)) (Nat.le_succ _)).ints (And.left (by assumption : Below (w.heap.size + 1) W1 _ ∧ _)).size (by omega) ?_); intro ao1 cap1 w1 hne1 hown1 hBw1; have hB2 : Below W1.heap.size W1 w1 := ((m.below.drew).alloc m.size _).trans (hBw1.mono (Nat.le_trans m.size (Nat.le_of_lt (by simp)))); have hB3 : Below (w.heap.size + 1) W1 w1 := hB2.mono (by omega); have y1 := k1.below hB2 k1.lt; have y2 := y1.cell 0; have y3 := y1.cell 1; have y4 := y1.frozen 0; have y5 := y1.frozen 1))
  simp at y2 y3
  obtain ⟨g1, rfl, hg1, hR⟩ := hown1.row h0
  have hF : Below w.heap.size w ((w1.setCell ⟨w.heap.size + 1, 0, none⟩ (.int .i64 n)).setCell ⟨w.heap.size + 1, 1, none⟩ (.slice (some ⟨g1, 0, none⟩) rs.length cap1)) :=
    ((HhB.out.trans (hB2.mono HhB.out.size)).setCell (by simp) _).setCell (by simp) _
  have hRF : RowAt ((w1.setCell ⟨w.heap.size + 1, 0, none⟩ (.int .i64 n)).setCell ⟨w.heap.size + 1, 1, none⟩ (.slice (some ⟨g1, 0, none⟩) rs.length cap1)) g1 cap1 rs :=
    (hR.otherCell (by simp; omega)).otherCell (by simp; omega)
  have hgw : w.heap.size ≤ g1 := by omega
  have HhF := Lib.hid hF
  clear hF
  have HhRF := Lib.hid hRF
  clear hRF
  have HhR := Lib.hid hR
  clear hR
  have Hhown1 := Lib.hid hown1
  clear hown1
  have Hhgw := Lib.hid hgw
  clear hgw
  go_wp2_with fail
  refine bodyPost_ret (v := .agg #[.int .i64 n, .slice (some ⟨g1, 0, none⟩) rs.length cap1]) (by simp [results, Try.results131, go_sem, y2, y3]) rfl ?_
  exact ⟨g1, cap1, rfl, HhF.out, Hhgw.out, HhRF.out⟩

theorem RowAt.below {w w' : World} {g cap : Nat} {xs : List Int} (h : RowAt w g cap xs) (hb : Below w.heap.size w w') : RowAt w' g cap xs := by
  obtain ⟨cur, h1, h2⟩ := h
  exact ⟨cur, h1.below hb h1.lt, h2⟩
theorem LateX.setOn {X : Nat → Prop} {W : World} (m : LateX X W) {a : Addr} (hx : X a.block) (v : Value) : ∃ m' : LateX X W, m'.w = m.w.setCell a v := ⟨⟨_, m.only.setCell (.inl hx) v⟩, rfl⟩



end Go.Proofs.Ytgklgheaojoimaa

namespace Go.Proofs.Ytgklgheaojoimaa
open Go.RowKit

theorem retIB {a a' : Int} {b b' : Bool} (h1 : a = a') (h2 : b = b') : Ending.returned (.tuple #[.int .i64 a, .bool b]) = .returned (.tuple #[.int .i64 a', .bool b']) := by rw [h1, h2]

/-- The place of v in xs. -/
def idxN (xs : List Int) (v : Int) : Option Nat := firstB (fun j => v == gi xs j) xs.length
def idxV (o : Option Nat) : Int := match o with | none => -1 | some k => k
def inB (xs : List Int) (v : Int) : Bool := (idxN xs v).isSome
theorem idxV_hit {xs : List Int} {v : Int} {k : Nat} (hk : k < xs.length) (h : ∀ j, j < k → (v == gi xs j) = false) (hv : (v == gi xs k) = true) : (k : Int) = idxV (idxN xs v) := by
  unfold idxN; rw [firstB_hit hk h hv]; rfl
theorem idxV_none {xs : List Int} {v : Int} (h : ∀ j, j < xs.length → (v == gi xs j) = false) : -1 = idxV (idxN xs v) := by
  unfold idxN; rw [firstB_none h]; rfl
theorem idxV_nonneg (o : Option Nat) : decide (0 ≤ idxV o) = o.isSome := by cases o <;> simp [idxV]
theorem idxV_bound (xs : List Int) (v : Int) : -1 ≤ idxV (idxN xs v) := by cases idxN xs v <;> simp [idxV] <;> omega
theorem inB_true {xs : List Int} {v : Int} : inB xs v = true ↔ ∃ j, j < xs.length ∧ gi xs j = v := by
  unfold inB idxN firstB
  rw [List.find?_isSome]
  simp only [List.mem_range, beq_iff_eq]
  exact ⟨fun ⟨j, h1, h2⟩ => ⟨j, h1, h2.symm⟩, fun ⟨j, h1, h2⟩ => ⟨j, h1, h2.symm⟩⟩

set_option maxHeartbeats 400000 in
theorem index_any (xs : List Int) (v : Int) (ao : Option Addr) (n c : Nat) (w : World) (hx : IntsAt w ao xs) (hn : xs.length = n) (hl : n ≤ 1048576) :
    Calls Try.prog 126 #[.slice ao n c, .int .i64 v] w fun e w' => e = .returned (.int .i64 (idxV (idxN xs v))) ∧ Below w.heap.size w w' := by
  subst hn
  go_enter Try.func126, Try.ntmps126
  go_wp2_with fail
  go_loopw [8] (fun i wr => (∃ m : Later w, wr = m.w) ∧ ∃ k : Nat, k ≤ xs.length ∧ i = .int .i64 k ∧ ∀ j, j < k → (v == gi xs j) = false) (fun i _ => xs.length - (intOf i).toNat)
  case atStart => exact ⟨⟨Later.refl _, rfl⟩, 0, by omega, rfl, fun j h => by omega⟩
  case round =>
    obtain ⟨⟨m, rfl⟩, k, hk, rfl, hP⟩ := hrel
    have HhP := Lib.hid hP
    clear hP
    by_cases hlt : k < xs.length
    · obtain ⟨b, off, rfl, hbl, hc⟩ := hx (by omega)
      cases he : (v == gi xs k)
      all_goals
        go_wp2_with fail
      · go_roundw
        case rel => exact ⟨⟨m, rfl⟩, k + 1, by omega, by go_num, all_succ HhP.out he⟩
        case measure => simp [intOf]; omega
      · go_ret
        exact ⟨retI (idxV_hit hlt HhP.out he), m.below⟩
    · go_wp2_with fail
      go_ret
      exact ⟨retI (idxV_none (fun j h => HhP.out j (by omega))), m.below⟩

set_option maxHeartbeats 400000 in
theorem contains_list (xs : List Int) (v : Int) (ao : Option Addr) (n c : Nat) (w : World) (hx : IntsAt w ao xs) (hn : xs.length = n) (hl : n ≤ 1048576) :
    Calls Try.prog 148 #[.slice ao n c, .int .i64 v] w fun e w' => e = .returned (.bool (inB xs v)) ∧ Below w.heap.size w w' := by
  go_enter Try.func148, Try.ntmps148
  go_wp2_with fail
  refine (index_any _ _ _ _ _ _ hx hn hl).mono ?_
  rintro e w' ⟨rfl, hB⟩
  go_wp2_with fail
  go_ret
  exact ⟨retB (idxV_nonneg _), hB⟩

/-- The first i elements lie where the list lies. -/
theorem IntsAt.take {w : World} {ao : Option Addr} {xs : List Int} (h : IntsAt w ao xs) (i : Nat) : IntsAt w ao (xs.take i) := fun h0 => by
  have hl : (xs.take i).length = min i xs.length := List.length_take
  obtain ⟨b, off, h1, h2, h3⟩ := h (by omega)
  refine ⟨b, off, h1, h2, fun k hk => ?_⟩
  have hk1 : k < i := by omega
  have e : gi (xs.take i) k = gi xs k := by simp [gi, hk1]
  rw [e]; exact h3 k (by omega)
theorem gi_take {xs : List Int} {i k : Nat} (hk : k < i) : gi (xs.take i) k = gi xs k := by simp [gi, hk]

end Go.Proofs.Ytgklgheaojoimaa
